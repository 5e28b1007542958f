/- Texts of the walks, put together: Ys Yt Yu Xa Wa Wb Wc Xb Xd Xe Wd We La Lc Le Wf Lb Wg. No condition. -/
import Derived.Test.YtlnoehpjchglnaaMjc
import Derived.KernelRfl
section
namespace Go.V
open Go
attribute [simp] stCopy step1 evS est St.ev St.put St.add St.upd look_hit look_miss okd stBin bin binS binB binI shS shB S.num constS one inI stUn stNil stLoad stAt stField stIndexAddr stStore wrAt stAlloc stBox stIndex stPart stPartRow stFieldV stConv cvS cvB cvI stSlice optN SV.num noMax stArrPtr stExtract stLen stBuild A.isRow A.isAgg A.noRec A.len A.get A.sub A.set A.over Ent.bound Kind.isStruct Kind.isAgg S.known A.solid segAt segPut segLen R.a R.len A.r stMake stBuildSlice litA repA rep1 fillA putP sing stMin stEqA rowEq Kind.isScal Ent2 entSl entM belSl belV belA belS belR belM finOf resP resV extraOwn stAppend srcRow SrcTy A.cat killSl killV killA killS killE killSeg killR viewM visOf memL stoP newOf fillS putS R.solid noCap
end Go.V
end
section
namespace Go.V
open Go Go.Proofs.Try
attribute [simp] ty1 ty2 ty3 ty4 ty5 ty6 ty7 ty8 ty9 ty10 ty11 ty12 ty13 ty14 ty15 ty16 ty17 ty18 ty19 ty20 ty22 ty23 ty24 ty25 ty26 ty28 ty29 ty30 ty31 ty32 ty33 ty34 ty35 ty36 ty37 ty38 ty40 ty41 ty42 ty43 ty44 ty45 ty46 ty47 ty48 ty50 ty51 ty52 ty53 ty54 ty55 ty56 ty57 ty58 ty59 ty60 ty61 ty63 ty64 ty65 ty66 ty77 ty78 ty79 ty80 ty81 ty82 ty83 ty85 ty86 ty87 ty88 ty89 ty90 ty91 ty94 ty96 ty97 ty98 ty99 ty100 ty101 ty102 ty103 ty104 ty105 ty106 ty107 ty108 ty109 ty110 ty111 ty112 ty113 ty114 ty115 ty116 ty117 ty118 ty119 ty120 ty121 ty122 ty123 ty124 ty125 ty126 ty127 ty128 ty129 ty130 ty131 ty132 ty133 ty134 ty135 ty136 ty137 ty138 ty139 ty140 ty141 ty142 ty143 ty144 ty146 ty147 ty148 ty149 ty150 ty151 ty152 ty153 ty154 ty155 ty156 ty157 ty158 ty159 ty160 ty161 ty162 ty163 ty164 ty166 ty167 ty168 ty169 ty170
attribute [simp] ntmps3 ntmps4 ntmps5 ntmps6 ntmps7 ntmps8 ntmps9 ntmps10 ntmps11 ntmps12 ntmps13 ntmps14 ntmps15 ntmps16 ntmps17 ntmps18 ntmps19 ntmps20 ntmps21 ntmps22 ntmps23 ntmps24 ntmps25 ntmps26 ntmps27 ntmps28 ntmps29 ntmps30 ntmps31 ntmps32 ntmps33 ntmps34 ntmps35 ntmps36 ntmps37 ntmps38 ntmps39 ntmps40 ntmps41 ntmps42 ntmps43 ntmps44 ntmps45 ntmps46 ntmps47 ntmps48 ntmps49 ntmps50 ntmps51 ntmps52 ntmps53 ntmps54 ntmps55 ntmps56 ntmps57 ntmps58 ntmps59 ntmps60 ntmps61 ntmps62 ntmps63 ntmps64 ntmps65 ntmps66 ntmps67 ntmps68 ntmps69 ntmps70 ntmps71 ntmps72 ntmps73 ntmps74 ntmps75 ntmps76 ntmps77 ntmps78 ntmps79 ntmps80 ntmps81 ntmps82 ntmps83 ntmps84 ntmps85 ntmps86 ntmps87 ntmps88 ntmps89 ntmps90 ntmps91 ntmps92 ntmps93 ntmps94 ntmps95 ntmps96 ntmps97 ntmps98 ntmps99 ntmps100 ntmps117 ntmps118 ntmps119 ntmps120 ntmps121 ntmps122 ntmps123 ntmps124 ntmps125 ntmps126 ntmps127 ntmps128 ntmps129 ntmps130 ntmps131 ntmps132
end Go.V
end
section
set_option linter.unusedSimpArgs false
set_option linter.unusedVariables false
namespace Go.V
open Go
section
variable {T : Tab} {pu : Pure} {fr : Nat → Bool} {N : Nat} {fin : St → Prop} {leaf : List Item → St → Prop} {n : Nat} {k : List Item} {st st' : St} {all r : List Oper} {o : Oper}
theorem run_gyes {g : Nat} {b : Bool} {og : Oper} {d : Nat} (hg : o.guard = some (g, b)) (h1 : all[g]? = some og) (h2 : og.dst = some d) (h3 : look st.sl d = one (.b b))
    (h4 : ∀ (L K : St → Prop), K st' → step1 T pu fr N o (st.put (some d) (one (.b b))) L K) (h5 : run T pu fr N fin leaf n (.ops all r :: k) st') : run T pu fr N fin leaf (n + 1) (.ops all (o :: r) :: k) st :=
  run_guard hg h1 h2 h3 (fun _ => ⟨st', h4, h5⟩) (fun h => by cases b <;> cases h)
theorem run_gno {g : Nat} {b c : Bool} {og : Oper} {d : Nat} (hg : o.guard = some (g, b)) (h1 : all[g]? = some og) (h2 : og.dst = some d) (h3 : look st.sl d = one (.b c)) (hc : c = !b) (hN : okd N o.dst)
    (h5 : run T pu fr N fin leaf n (.ops all r :: k) ((st.put (some d) (one (.b (!b)))).put o.dst (.tup []))) : run T pu fr N fin leaf (n + 1) (.ops all (o :: r) :: k) st :=
  run_guard hg h1 h2 h3 (fun h => by subst hc; cases b <;> cases h) (fun _ => ⟨hN, h5⟩)
theorem run_gtup {g : Nat} {b : Bool} {og : Oper} {d : Nat} (hg : o.guard = some (g, b)) (h1 : all[g]? = some og) (h2 : og.dst = some d) (h3 : look st.sl d = .tup []) (hN : okd N o.dst)
    (h5 : run T pu fr N fin leaf n (.ops all r :: k) (st.put o.dst (.tup []))) : run T pu fr N fin leaf (n + 1) (.ops all (o :: r) :: k) st := by
  rw [run_ops]
  unfold guardOf
  simp only [hg, h1, h2, h3]
  exact ⟨hN, h5⟩
theorem run_cyes {c : Operand} {a b : Code} (h : st.ev c = one (.b true)) (h1 : run T pu fr N fin leaf n (.code a :: k) st) : run T pu fr N fin leaf (n + 1) (.code (.cond c a b) :: k) st :=
  run_cond2 h (fun _ => h1) (fun h => by cases h)
theorem run_cno {c : Operand} {a b : Code} (h : st.ev c = one (.b false)) (h1 : run T pu fr N fin leaf n (.code b :: k) st) : run T pu fr N fin leaf (n + 1) (.code (.cond c a b) :: k) st :=
  run_cond2 h (fun h => by cases h) (fun _ => h1)
end
section
variable {T : Tab} {pu : Pure} {m0 : Mem} {l r : List Oper} {N : Nat} {sl : Slots} {al : List Ent} {K : Slots → List Ent → Prop} {o : Oper} {d : Nat} {v : SV}
theorem hd_gyes {g : Nat} {b : Bool} {t : Nat} (hg : o.guard = some (g, b)) (hgt : guardTmp l o = some t) (hd : o.dst = some d) (ha : allocs o = false) (hc : noCap T o = true) (hN : d < N) (hl : look sl t = one (.b b))
    (h1 : ∀ K' : SV → Option Ent → Prop, K' v none → est T pu m0 (m0.length + al.length) (evS sl) o K') (h2 : hdRun T pu m0 l N r ((d, v) :: sl) al K) : hdRun T pu m0 l N (o :: r) sl al K :=
  hd_guard hg hgt hd ha hc hN hl (fun _ => ⟨v, h1, h2⟩) (fun h => by cases b <;> cases h)
theorem hd_gno {g : Nat} {b c : Bool} {t : Nat} (hg : o.guard = some (g, b)) (hgt : guardTmp l o = some t) (hd : o.dst = some d) (ha : allocs o = false) (hc : noCap T o = true) (hN : d < N) (hl : look sl t = one (.b c)) (hcb : c = !b)
    (h2 : hdRun T pu m0 l N r ((d, .tup []) :: sl) al K) : hdRun T pu m0 l N (o :: r) sl al K :=
  hd_guard hg hgt hd ha hc hN hl (fun h => by subst hcb; cases b <;> cases h) (fun _ => h2)
end
section
variable {T : Tab} {pu : Pure} {nu : New} {m0 : Mem} {l r : List Oper} {vis : List (Nat × List Nat)} {ss : List (Nat × Nat)} {N i : Nat} {o : Oper} {sl : Slots} {al : List (List Ent × Option Ent)} {K : Slots → List (List Ent × Option Ent) → Prop} {d : Nat} {v : SV} {e : Ent} {es : List Ent}
theorem h3_gyes {g : Nat} {b : Bool} {t : Nat} (hs : stOf ss i = none) (hg : o.guard = some (g, b)) (hgt : guardTmp l o = some t) (hd : o.dst = some d) (hc : noCap T o = true) (hN : d < N) (hl : look sl t = one (.b b))
    (h1 : ∀ K' : SV → List Ent → Prop, K' v es → hop T pu nu (viewM m0 vis i (al.map (·.1))) (m0.length + (al.map (·.1)).flatten.length) (evS sl) o K') (h2 : hd3 T pu nu m0 l vis ss N (i + 1) r ((d, v) :: sl) (al ++ [(es, none)]) K) : hd3 T pu nu m0 l vis ss N i (o :: r) sl al K :=
  h3_guard hs hg hgt hd hc hN hl (fun _ => ⟨v, es, h1, h2⟩) (fun h => by cases b <;> cases h)
theorem h3_gno {g : Nat} {b c : Bool} {t : Nat} (hs : stOf ss i = none) (hg : o.guard = some (g, b)) (hgt : guardTmp l o = some t) (hd : o.dst = some d) (hc : noCap T o = true) (hN : d < N) (hl : look sl t = one (.b c)) (hcb : c = !b)
    (h2 : hd3 T pu nu m0 l vis ss N (i + 1) r ((d, .tup []) :: sl) (al ++ [([], none)]) K) : hd3 T pu nu m0 l vis ss N i (o :: r) sl al K :=
  h3_guard hs hg hgt hd hc hN hl (fun h => by subst hcb; cases b <;> cases h) (fun _ => h2)
end
/-- Calls that hand back memory, put together. -/
@[simp] def NAt (f0 : FuncId) (p q : New) : New := fun m f l nid => if f = f0 then p m f l nid else q m f l nid
theorem NAt_sub {f0 : FuncId} {p q : New} (hp : NewSub p) (hq : NewSub q) : NewSub (NAt f0 p q) := by
  intro m m' f l nid v hs h
  unfold NAt at h ⊢
  split at h
  · rename_i hf; rw [if_pos hf]; exact hp m m' f l nid v hs h
  · rename_i hf; rw [if_neg hf]; exact hq m m' f l nid v hs h
theorem NAt_ok {P : Program} {f0 : FuncId} {p q : New} (hp : NewOK P p) (hq : NewOK P q) : NewOK P (NAt f0 p q) := by
  intro m f svs nid sv es h
  unfold NAt at h
  split at h
  · exact hp m f svs nid sv es h
  · exact hq m f svs nid sv es h
/-- Plain calls put together: those of one function, and the others. -/
@[simp] def PAt (f0 : FuncId) (p q : Pure) : Pure := fun m f l => if f = f0 then p m f l else q m f l
theorem PAt_sub {f0 : FuncId} {p q : Pure} (hp : PureSub p) (hq : PureSub q) : PureSub (PAt f0 p q) := by
  intro m m' f l v hs h
  unfold PAt at h ⊢
  split at h
  · rename_i hf; rw [if_pos hf]; exact hp m m' f l v hs h
  · rename_i hf; rw [if_neg hf]; exact hq m m' f l v hs h
theorem PAt_ok {P : Program} {f0 : FuncId} {p q : Pure} (hp : PureOK P p) (hq : PureOK P q) : PureOK P (PAt f0 p q) := by
  intro m f svs sv h
  unfold PAt at h
  split at h
  · exact hp m f svs sv h
  · exact hq m f svs sv h
theorem mono_of_sub {p : Pure} (h : PureSub p) : PureMono p := fun m x f l v hh => h m (m ++ x) f l v (fun id e he => get_app he) hh
/-- A test of the law that holds. -/
@[simp] def pYes (f0 : FuncId) : Pure := fun _ f l => if f = f0 then (match l with | [] => some (one (.b true)) | _ => none) else none
theorem pYes_sub (f0 : FuncId) : PureSub (pYes f0) := fun _ _ _ _ _ _ h => h
end Go.V
end
section
set_option linter.unusedSimpArgs false
set_option linter.unusedVariables false
set_option maxRecDepth 10000
namespace Go.V
open Go Go.Proofs.Try
abbrev G := BitVec 64 × BitVec 64
def gfA (p : G) : A := .st [⟨1, .s (.u64 p.1)⟩, ⟨1, .s (.u64 p.2)⟩]
def gB (b : G) : Nat → G
  | 0 => b
  | j + 1 => (((gB b j).1 >>> 1) ^^^ (((-((gB b j).2 &&& 1#64)) &&& 225#64) <<< 56), ((gB b j).2 >>> 1) ||| ((gB b j).1 <<< 63))
def gBit (a : G) (j : Nat) : BitVec 64 := if 63 < j then a.2 >>> (63 - (j &&& 63)) else a.1 >>> (63 - (j &&& 63))
def gR (a b : G) : Nat → G
  | 0 => (0#64, 0#64)
  | j + 1 => ((gR a b j).1 ^^^ ((gB b j).1 &&& -(gBit a j &&& 1#64)), (gR a b j).2 ^^^ ((gB b j).2 &&& -(gBit a j &&& 1#64)))
theorem spec65 (a b : G) : Spec prog 65 [.one (gfA a), .one (gfA b)] [] [] (fun r _ => r = .one (gfA (gR a b 128))) := by
  refine spec_of_body tabOK func65 rfl (Nat.le_of_ble_eq_true rfl) ?_
  intro E Q0 hB
  refine ok_run hB tabOK pureNone_ok 100 ?_
  simp only [argSl]
  obtain ⟨aH, aL⟩ := a
  repeat (first
    | rw [run_ops0]
    | rw [run_seq]
    | rw [run_region]
    | rw [run_block]
    | rw [run_blk]
    | rw [run_skip]
    | (apply run_go rfl; focus (intro L K hK; simp [-List.reduceReplicate, -List.getD_eq_getElem?_getD, gfA]; (repeat' apply And.intro); all_goals first | exact hK | omega)))
  rw [run_loop]
  refine ok_loop (X := Nat) (fun j => ⟨[(10, one (.i j)), (5, one (.ptr 3 0 0)), (4, one (.ptr 2 0 0)), (3, one (.ptr 1 0 0)), (2, one (.ptr 0 0 0))], [.ent ⟨true, 115, some 2, gfA (aH, aL)⟩, .ent ⟨true, 115, some 2, gfA (gB b j)⟩, .ent ⟨true, 115, some 2, gfA (0#64, 0#64)⟩, .ent ⟨true, 115, some 2, gfA (gR (aH, aL) b j)⟩]⟩) (fun j => j ≤ 128) (fun j => 128 - j) (fun j i L h => absurd (hB.anc i L h) (by simp)) ⟨0, by omega, by simp [-List.reduceReplicate, -List.getD_eq_getElem?_getD, gB, gR, gfA]⟩ ?_
  intro j hj
  refine ok_run hB tabOK pureNone_ok 100 ?_
  have hB1 : gB b (j + 1) = (((gB b j).1 >>> 1) ^^^ (((-((gB b j).2 &&& 1#64)) &&& 225#64) <<< 56), ((gB b j).2 >>> 1) ||| ((gB b j).1 <<< 63)) := rfl
  have hR1 : gR (aH, aL) b (j + 1) = ((gR (aH, aL) b j).1 ^^^ ((gB b j).1 &&& -(gBit (aH, aL) j &&& 1#64)), (gR (aH, aL) b j).2 ^^^ ((gB b j).2 &&& -(gBit (aH, aL) j &&& 1#64))) := rfl
  have hand : j &&& 63 ≤ 63 := Nat.and_le_right
  have q1 : (63 - ((j &&& 63 : Nat) : Int)).toNat = 63 - (j &&& 63) := by omega
  generalize gB b j = bj at hB1 hR1 ⊢
  generalize hrj : gR (aH, aL) b j = rj at hR1 ⊢
  obtain ⟨bH, bL⟩ := bj
  obtain ⟨rH, rL⟩ := rj
  simp only [gfA]
  repeat (first
    | rw [run_ops0]
    | rw [run_seq]
    | rw [run_region]
    | rw [run_block]
    | rw [run_blk]
    | rw [run_skip]
    | (apply run_go rfl; focus (intro L K hK; simp [-List.reduceReplicate, -List.getD_eq_getElem?_getD]; (repeat' apply And.intro); all_goals first | exact hK | omega)))
  apply run_cond2 rfl
  · intro h
    simp at h
    repeat (first
    | rw [run_ops0]
    | rw [run_seq]
    | rw [run_region]
    | rw [run_block]
    | rw [run_blk]
    | rw [run_skip]
    | (apply run_go rfl; focus (intro L K hK; simp [-List.reduceReplicate, -List.getD_eq_getElem?_getD, q1]; (repeat' apply And.intro); all_goals first | exact hK | omega)))
    apply run_cond2 rfl
    · intro h2
      simp at h2
      have hbit : gBit (aH, aL) j = aL >>> (63 - (j &&& 63)) := by unfold gBit; rw [if_pos (by omega)]
      repeat (first
    | rw [run_ops0]
    | rw [run_seq]
    | rw [run_region]
    | rw [run_block]
    | rw [run_blk]
    | rw [run_skip]
    | (apply run_go rfl; focus (intro L K hK; simp [-List.reduceReplicate, -List.getD_eq_getElem?_getD, q1]; (repeat' apply And.intro); all_goals first | exact hK | omega)))
      try (rw [run_zero]; refine ok_run hB tabOK pureNone_ok 100 ?_)
      repeat (first
    | rw [run_ops0]
    | rw [run_seq]
    | rw [run_region]
    | rw [run_block]
    | rw [run_blk]
    | rw [run_skip]
    | (apply run_go rfl; focus (intro L K hK; simp [-List.reduceReplicate, -List.getD_eq_getElem?_getD, q1]; (repeat' apply And.intro); all_goals first | exact hK | omega)))
      rw [run_back]
      refine ⟨j + 1, by omega, by omega, ?_⟩
      rw [hB1, hR1, hbit]
      simp [-List.reduceReplicate, -List.getD_eq_getElem?_getD]
    · intro h2
      simp at h2
      have hbit : gBit (aH, aL) j = aH >>> (63 - (j &&& 63)) := by unfold gBit; rw [if_neg (by omega)]
      repeat (first
    | rw [run_ops0]
    | rw [run_seq]
    | rw [run_region]
    | rw [run_block]
    | rw [run_blk]
    | rw [run_skip]
    | (apply run_go rfl; focus (intro L K hK; simp [-List.reduceReplicate, -List.getD_eq_getElem?_getD, q1]; (repeat' apply And.intro); all_goals first | exact hK | omega)))
      try (rw [run_zero]; refine ok_run hB tabOK pureNone_ok 100 ?_)
      repeat (first
    | rw [run_ops0]
    | rw [run_seq]
    | rw [run_region]
    | rw [run_block]
    | rw [run_blk]
    | rw [run_skip]
    | (apply run_go rfl; focus (intro L K hK; simp [-List.reduceReplicate, -List.getD_eq_getElem?_getD, q1]; (repeat' apply And.intro); all_goals first | exact hK | omega)))
      rw [run_back]
      refine ⟨j + 1, by omega, by omega, ?_⟩
      rw [hB1, hR1, hbit]
      simp [-List.reduceReplicate, -List.getD_eq_getElem?_getD]
  · intro h
    simp at h
    obtain rfl : j = 128 := by omega
    apply run_exit2 rfl
    repeat (first
    | rw [run_ops0]
    | rw [run_seq]
    | rw [run_region]
    | rw [run_block]
    | rw [run_blk]
    | rw [run_skip]
    | (apply run_go rfl; focus (intro L K hK; simp [-List.reduceReplicate, -List.getD_eq_getElem?_getD]; (repeat' apply And.intro); all_goals first | exact hK | omega)))
    rw [run_ret]
    simp [-List.reduceReplicate, -List.getD_eq_getElem?_getD, results65, f65, hrj]
end Go.V
end
section
set_option linter.unusedSimpArgs false
set_option linter.unusedVariables false
set_option maxRecDepth 10000
namespace Go.V
open Go Go.Proofs.Try
theorem spec59 (a : BitVec 8) : Spec prog 59 [one (.u8 a)] [] [] (fun r _ => r = one (.u8 ((a <<< 1) ^^^ ((a >>> 7) * 27#8)))) := by
  refine spec_of_body tabOK func59 rfl (Nat.le_of_ble_eq_true rfl) ?_
  intro E Q0 hb
  refine ok_run hb tabOK pureNone_ok 100 ?_
  simp only [argSl]
  repeat (first
    | rw [run_ops0]
    | rw [run_seq]
    | rw [run_region]
    | rw [run_block]
    | rw [run_blk]
    | rw [run_skip]
    | (apply run_go rfl; focus (intro L K hK; simp [-List.reduceReplicate, -List.getD_eq_getElem?_getD]; (repeat' apply And.intro); all_goals first | exact hK | omega)))
  rw [run_ret]
  simp [-List.reduceReplicate, -List.getD_eq_getElem?_getD, results59, f59]

def xorI (a b : Int) : Int := ((a.toNat ^^^ b.toNat : Nat) : Int)
def timesStep (a b r : Int) (i : Nat) : Int :=
  let r2 := r * 2
  let r3 := if 255 < r2 then xorI r2 283 else r2
  if (b / 2 ^ i).tmod 2 = 1 then xorI r3 a else r3
def timesR (a b : Int) : Nat → Int
  | 0 => 0
  | j + 1 => timesStep a b (timesR a b j) (7 - j)
theorem xorI_lt {a b : Int} (ha : 0 ≤ a ∧ a < 256) (hb : 0 ≤ b ∧ b < 256) : 0 ≤ xorI a b ∧ xorI a b < 256 := by
  unfold xorI
  have := Nat.xor_lt_two_pow (x := a.toNat) (y := b.toNat) (n := 8) (by omega) (by omega)
  omega
theorem xor283 {r : Int} (hr : 0 ≤ r ∧ r < 256) (h : 255 < r * 2) : (r * 2).toNat ^^^ 283 < 256 := by
  obtain ⟨n, rfl⟩ := Int.eq_ofNat_of_zero_le hr.1
  have key : ∀ m : Fin 256, 255 < m.1 * 2 → (m.1 * 2) ^^^ 283 < 256 := by decide
  have := key ⟨n, by omega⟩ (by simp; omega)
  have e : ((n : Int) * 2).toNat = n * 2 := by omega
  rw [e]
  simpa using this
theorem timesStep_lt {a b r : Int} {i : Nat} (ha : 0 ≤ a ∧ a < 256) (hr : 0 ≤ r ∧ r < 256) : 0 ≤ timesStep a b r i ∧ timesStep a b r i < 256 := by
  have h3 : 0 ≤ (if 255 < r * 2 then xorI (r * 2) 283 else r * 2) ∧ (if 255 < r * 2 then xorI (r * 2) 283 else r * 2) < 256 := by
    split
    · rename_i h
      have := xor283 hr h
      unfold xorI
      have e : (283 : Int).toNat = 283 := rfl
      rw [e]
      omega
    · omega
  unfold timesStep
  simp only
  split
  · exact xorI_lt h3 ha
  · exact h3
theorem timesR_lt {a b : Int} (ha : 0 ≤ a ∧ a < 256) : ∀ j, 0 ≤ timesR a b j ∧ timesR a b j < 256
  | 0 => by simp [timesR]
  | j + 1 => timesStep_lt ha (timesR_lt ha j)
theorem spec62 (a b : Int) (ha : 0 ≤ a ∧ a < 256) (hb : 0 ≤ b ∧ b < 256) : Spec prog 62 [one (.i a), one (.i b)] [] [] (fun r _ => r = one (.i (timesR a b 8))) := by
  refine spec_of_body tabOK func62 rfl (Nat.le_of_ble_eq_true rfl) ?_
  intro E Q0 hB
  refine ok_run hB tabOK pureNone_ok 100 ?_
  simp only [argSl]
  repeat (first
    | rw [run_ops0]
    | rw [run_seq]
    | rw [run_region]
    | rw [run_block]
    | rw [run_blk]
    | rw [run_skip]
    | (apply run_go rfl; focus (intro L K hK; simp [-List.reduceReplicate, -List.getD_eq_getElem?_getD]; (repeat' apply And.intro); all_goals first | exact hK | omega)))
  rw [run_loop]
  refine ok_loop (X := Nat) (fun j => ⟨[(6, one (.i (7 - j))), (5, one (.i (timesR a b j))), (1, one (.i b)), (0, one (.i a))], []⟩) (fun j => j ≤ 8) (fun j => 8 - j) (fun j i L h => hB.anc i L h) ⟨0, by simp, by simp [-List.reduceReplicate, -List.getD_eq_getElem?_getD, timesR]⟩ ?_
  intro j hj
  refine ok_run hB tabOK pureNone_ok 100 ?_
  have hr := timesR_lt (a := a) (b := b) ha j
  repeat (first
    | rw [run_ops0]
    | rw [run_seq]
    | rw [run_region]
    | rw [run_block]
    | rw [run_blk]
    | rw [run_skip]
    | (apply run_go rfl; focus (intro L K hK; simp [-List.reduceReplicate, -List.getD_eq_getElem?_getD]; (repeat' apply And.intro); all_goals first | exact hK | omega)))
  apply run_cond2 rfl
  · intro h
    simp at h
    repeat (first
    | rw [run_ops0]
    | rw [run_seq]
    | rw [run_region]
    | rw [run_block]
    | rw [run_blk]
    | rw [run_skip]
    | (apply run_go rfl; focus (intro L K hK; simp [-List.reduceReplicate, -List.getD_eq_getElem?_getD]; (repeat' apply And.intro); all_goals first | exact hK | omega)))
    have h7 : (7 - (j : Int)).toNat = 7 - j := by omega
    have back : ∀ st : St, look st.sl 6 = one (.i (7 - j - 1)) → look st.sl 5 = one (.i (timesR a b (j + 1))) → look st.sl 1 = one (.i b) → look st.sl 0 = one (.i a) → st.m = [] →
        ∃ x', x' ≤ 8 ∧ 8 - x' < 8 - j ∧ Ent2 st ⟨[(6, one (.i (7 - (x' : Nat)))), (5, one (.i (timesR a b x'))), (1, one (.i b)), (0, one (.i a))], []⟩ := by
      intro st e1 e2 e3 e4 e5
      refine ⟨j + 1, by omega, by omega, ?_⟩
      refine ⟨⟨?_, e2, e3, e4, trivial⟩, trivial, rfl, rfl⟩
      rw [e1]; simp [one]; omega
    apply run_cond2 rfl
    · intro h2
      simp at h2
      have hx := xor283 hr h2
      repeat (first
    | rw [run_ops0]
    | rw [run_seq]
    | rw [run_region]
    | rw [run_block]
    | rw [run_blk]
    | rw [run_skip]
    | (apply run_go rfl; focus (intro L K hK; simp [-List.reduceReplicate, -List.getD_eq_getElem?_getD]; (repeat' apply And.intro); all_goals first | exact hK | omega)))
      apply run_cond2 rfl
      · intro h3
        simp at h3
        repeat (first
    | rw [run_ops0]
    | rw [run_seq]
    | rw [run_region]
    | rw [run_block]
    | rw [run_blk]
    | rw [run_skip]
    | (apply run_go rfl; focus (intro L K hK; simp [-List.reduceReplicate, -List.getD_eq_getElem?_getD]; (repeat' apply And.intro); all_goals first | exact hK | omega)))
        rw [run_back]
        apply back <;> simp [look_hit, look_miss, one, timesR, timesStep, xorI, h2, h3]
      · intro h3
        simp at h3
        repeat (first
    | rw [run_ops0]
    | rw [run_seq]
    | rw [run_region]
    | rw [run_block]
    | rw [run_blk]
    | rw [run_skip]
    | (apply run_go rfl; focus (intro L K hK; simp [-List.reduceReplicate, -List.getD_eq_getElem?_getD]; (repeat' apply And.intro); all_goals first | exact hK | omega)))
        rw [run_back]
        apply back <;> simp [look_hit, look_miss, one, timesR, timesStep, xorI, h2, h3]
    · intro h2
      simp at h2
      have h2' : ¬ 255 < timesR a b j * 2 := by omega
      repeat (first
    | rw [run_ops0]
    | rw [run_seq]
    | rw [run_region]
    | rw [run_block]
    | rw [run_blk]
    | rw [run_skip]
    | (apply run_go rfl; focus (intro L K hK; simp [-List.reduceReplicate, -List.getD_eq_getElem?_getD]; (repeat' apply And.intro); all_goals first | exact hK | omega)))
      apply run_cond2 rfl
      · intro h3
        simp at h3
        repeat (first
    | rw [run_ops0]
    | rw [run_seq]
    | rw [run_region]
    | rw [run_block]
    | rw [run_blk]
    | rw [run_skip]
    | (apply run_go rfl; focus (intro L K hK; simp [-List.reduceReplicate, -List.getD_eq_getElem?_getD]; (repeat' apply And.intro); all_goals first | exact hK | omega)))
        rw [run_back]
        apply back <;> simp [look_hit, look_miss, one, timesR, timesStep, xorI, h2', h3]
      · intro h3
        simp at h3
        repeat (first
    | rw [run_ops0]
    | rw [run_seq]
    | rw [run_region]
    | rw [run_block]
    | rw [run_blk]
    | rw [run_skip]
    | (apply run_go rfl; focus (intro L K hK; simp [-List.reduceReplicate, -List.getD_eq_getElem?_getD]; (repeat' apply And.intro); all_goals first | exact hK | omega)))
        rw [run_back]
        apply back <;> simp [look_hit, look_miss, one, timesR, timesStep, xorI, h2', h3]
  · intro h
    simp at h
    obtain rfl : j = 8 := by omega
    apply run_exit2 rfl
    repeat (first
    | rw [run_ops0]
    | rw [run_seq]
    | rw [run_region]
    | rw [run_block]
    | rw [run_blk]
    | rw [run_skip]
    | (apply run_go rfl; focus (intro L K hK; simp [-List.reduceReplicate, -List.getD_eq_getElem?_getD]; (repeat' apply And.intro); all_goals first | exact hK | omega)))
    rw [run_ret]
    simp [-List.reduceReplicate, -List.getD_eq_getElem?_getD, results62, f62]

/-! plain calls: Times, twice -/
def pureB (f : FuncId) (l : List SV) : Option SV :=
  match f, l with
  | 62, [.one (.s (.i a)), .one (.s (.i b))] => if (0 ≤ a ∧ a < 256) ∧ (0 ≤ b ∧ b < 256) then some (one (.i (timesR a b 8))) else none
  | 59, [.one (.s (.u8 a))] => some (one (.u8 ((a <<< 1) ^^^ ((a >>> 7) * 27#8))))
  | _, _ => none
theorem pureB_ok : PureOK prog (pureOf pureB) := by
  refine pureOf_ok ?_
  intro f svs sv h
  unfold pureB at h
  split at h
  · split at h
    · rename_i hc
      cases h
      exact ⟨⟨f62, func62, nofun, by decide⟩, spec62 _ _ hc.1 hc.2, rfl, rfl⟩
    · cases h
  · cases h
    exact ⟨⟨f59, func59, nofun, by decide⟩, spec59 _, rfl, rfl⟩
  · cases h

/-! power, at 254 -/
def nAt (j : Nat) : Int := ((254 / 2 ^ j : Nat) : Int)
def sqR (b : Int) : Nat → Int
  | 0 => b
  | j + 1 => timesR (sqR b j) (sqR b j) 8
def powR (b : Int) : Nat → Int
  | 0 => 1
  | j + 1 => if (nAt j).tmod 2 = 1 then timesR (powR b j) (sqR b j) 8 else powR b j
theorem sqR_lt {b : Int} (hb : 0 ≤ b ∧ b < 256) : ∀ j, 0 ≤ sqR b j ∧ sqR b j < 256
  | 0 => hb
  | j + 1 => timesR_lt (sqR_lt hb j) 8
theorem powR_lt {b : Int} (hb : 0 ≤ b ∧ b < 256) : ∀ j, 0 ≤ powR b j ∧ powR b j < 256
  | 0 => by simp [powR]
  | j + 1 => by
    unfold powR
    split
    · exact timesR_lt (powR_lt hb j) 8
    · exact powR_lt hb j
theorem nAt_pos {j : Nat} (h : j < 8) : 0 < nAt j ∧ nAt j ≤ 254 ∧ (nAt j).tdiv 2 = nAt (j + 1) ∧ 0 ≤ (nAt j).tdiv 2 ∧ (nAt j).tdiv 2 ≤ 127 := by
  have : ∀ j : Fin 8, 0 < nAt j.1 ∧ nAt j.1 ≤ 254 ∧ (nAt j.1).tdiv 2 = nAt (j.1 + 1) ∧ 0 ≤ (nAt j.1).tdiv 2 ∧ (nAt j.1).tdiv 2 ≤ 127 := by decide
  exact this ⟨j, h⟩
theorem spec61 (b : Int) (hb : 0 ≤ b ∧ b < 256) : Spec prog 61 [one (.i b), one (.i 254)] [] [] (fun r _ => r = one (.i (powR b 8))) := by
  refine spec_of_body tabOK func61 rfl (Nat.le_of_ble_eq_true rfl) ?_
  intro E Q0 hB
  refine ok_run hB tabOK pureB_ok 100 ?_
  simp only [argSl]
  repeat (first
    | rw [run_ops0]
    | rw [run_seq]
    | rw [run_region]
    | rw [run_block]
    | rw [run_blk]
    | rw [run_skip]
    | (apply run_go rfl; focus (intro L K hK; simp [-List.reduceReplicate, -List.getD_eq_getElem?_getD]; (repeat' apply And.intro); all_goals first | exact hK | omega)))
  rw [run_loop]
  refine ok_loop (X := Nat) (fun j => ⟨[(5, one (.i (powR b j))), (1, one (.i (nAt j))), (0, one (.i (sqR b j)))], []⟩) (fun j => j ≤ 8) (fun j => 8 - j) (fun j i L h => hB.anc i L h) ⟨0, by simp, by simp [-List.reduceReplicate, -List.getD_eq_getElem?_getD, powR, sqR, nAt]⟩ ?_
  intro j hj
  refine ok_run hB tabOK pureB_ok 100 ?_
  have hp := powR_lt hb j
  have hs := sqR_lt hb j
  repeat (first
    | rw [run_ops0]
    | rw [run_seq]
    | rw [run_region]
    | rw [run_block]
    | rw [run_blk]
    | rw [run_skip]
    | (apply run_go rfl; focus (intro L K hK; simp [-List.reduceReplicate, -List.getD_eq_getElem?_getD]; (repeat' apply And.intro); all_goals first | exact hK | omega)))
  apply run_cond2 rfl
  · intro h
    simp at h
    have hj8 : j < 8 := by
      rcases Nat.lt_or_ge j 8 with h8 | h8
      · exact h8
      · obtain rfl : j = 8 := by omega
        exact absurd h (by decide)
    obtain ⟨n1, n2, n3, n4⟩ := nAt_pos hj8
    repeat (first
    | rw [run_ops0]
    | rw [run_seq]
    | rw [run_region]
    | rw [run_block]
    | rw [run_blk]
    | rw [run_skip]
    | (apply run_go rfl; focus (intro L K hK; simp [-List.reduceReplicate, -List.getD_eq_getElem?_getD]; (repeat' apply And.intro); all_goals first | exact hK | omega)))
    apply run_cond2 rfl
    · intro h2
      simp at h2
      repeat (first
    | rw [run_ops0]
    | rw [run_seq]
    | rw [run_region]
    | rw [run_block]
    | rw [run_blk]
    | rw [run_skip]
    | (apply run_go rfl; focus (intro L K hK; simp [-List.reduceReplicate, -List.getD_eq_getElem?_getD, pureOf, pureB, hp, hs]; (repeat' apply And.intro); all_goals first | exact hK | omega)))
      rw [run_back]
      refine ⟨j + 1, by omega, by omega, ?_⟩
      simp [-List.reduceReplicate, -List.getD_eq_getElem?_getD, powR, sqR, h2, n3]
    · intro h2
      simp at h2
      repeat (first
    | rw [run_ops0]
    | rw [run_seq]
    | rw [run_region]
    | rw [run_block]
    | rw [run_blk]
    | rw [run_skip]
    | (apply run_go rfl; focus (intro L K hK; simp [-List.reduceReplicate, -List.getD_eq_getElem?_getD, pureOf, pureB, hp, hs]; (repeat' apply And.intro); all_goals first | exact hK | omega)))
      rw [run_back]
      refine ⟨j + 1, by omega, by omega, ?_⟩
      simp [-List.reduceReplicate, -List.getD_eq_getElem?_getD, powR, sqR, h2, n3]
  · intro h
    simp at h
    obtain rfl : j = 8 := by
      rcases Nat.lt_or_ge j 8 with h8 | h8
      · have := (nAt_pos h8).1; omega
      · omega
    apply run_exit2 rfl
    repeat (first
    | rw [run_ops0]
    | rw [run_seq]
    | rw [run_region]
    | rw [run_block]
    | rw [run_blk]
    | rw [run_skip]
    | (apply run_go rfl; focus (intro L K hK; simp [-List.reduceReplicate, -List.getD_eq_getElem?_getD]; (repeat' apply And.intro); all_goals first | exact hK | omega)))
    rw [run_ret]
    simp [-List.reduceReplicate, -List.getD_eq_getElem?_getD, results61, f61]

/-! sub -/
def pureC (f : FuncId) (l : List SV) : Option SV :=
  match f, l with
  | 61, [.one (.s (.i b)), .one (.s (.i 254))] => if 0 ≤ b ∧ b < 256 then some (one (.i (powR b 8))) else none
  | f, l => pureB f l
theorem pureC_ok : PureOK prog (pureOf pureC) := by
  refine pureOf_ok ?_
  intro f svs sv h
  unfold pureC at h
  split at h
  · split at h
    · rename_i hc
      cases h
      exact ⟨⟨f61, func61, nofun, by decide⟩, spec61 _ hc, rfl, rfl⟩
    · cases h
  · unfold pureB at h
    split at h
    · split at h
      · rename_i hc
        cases h
        exact ⟨⟨f62, func62, nofun, by decide⟩, spec62 _ _ hc.1 hc.2, rfl, rfl⟩
      · cases h
    · cases h
      exact ⟨⟨f59, func59, nofun, by decide⟩, spec59 _, rfl, rfl⟩
    · cases h
def rotR (y : Int) : Nat → Int
  | 0 => y
  | j + 1 => xorI (rotR y j) ((y * 2 ^ (j + 1)).tmod 256 + y / 2 ^ (7 - j))
theorem rot_part {y : Int} (hy : 0 ≤ y ∧ y < 256) {j : Nat} (hj : j < 4) : 0 ≤ y * 2 ^ (j + 1) ∧ y * 2 ^ (j + 1) < 4096 ∧ 0 ≤ (y * 2 ^ (j + 1)).tmod 256 + y / 2 ^ (7 - j) ∧ (y * 2 ^ (j + 1)).tmod 256 + y / 2 ^ (7 - j) < 256 ∧ 0 ≤ y / 2 ^ (7 - j) ∧ y / 2 ^ (7 - j) < 256 ∧ 0 ≤ (y * 2 ^ (j + 1)).tmod 256 ∧ (y * 2 ^ (j + 1)).tmod 256 < 256 := by
  obtain ⟨n, rfl⟩ := Int.eq_ofNat_of_zero_le hy.1
  have key : ∀ (j : Fin 4) (n : Fin 256), 0 ≤ (n.1 : Int) * 2 ^ (j.1 + 1) ∧ (n.1 : Int) * 2 ^ (j.1 + 1) < 4096 ∧ 0 ≤ ((n.1 : Int) * 2 ^ (j.1 + 1)).tmod 256 + (n.1 : Int) / 2 ^ (7 - j.1) ∧ ((n.1 : Int) * 2 ^ (j.1 + 1)).tmod 256 + (n.1 : Int) / 2 ^ (7 - j.1) < 256 ∧ 0 ≤ (n.1 : Int) / 2 ^ (7 - j.1) ∧ (n.1 : Int) / 2 ^ (7 - j.1) < 256 ∧ 0 ≤ ((n.1 : Int) * 2 ^ (j.1 + 1)).tmod 256 ∧ ((n.1 : Int) * 2 ^ (j.1 + 1)).tmod 256 < 256 := by decide +kernel
  exact key ⟨j, hj⟩ ⟨n, by omega⟩
theorem rotR_lt {y : Int} (hy : 0 ≤ y ∧ y < 256) : ∀ j, j ≤ 4 → 0 ≤ rotR y j ∧ rotR y j < 256
  | 0, _ => hy
  | j + 1, h => by
    obtain ⟨_, _, h3, h4, _⟩ := rot_part hy (j := j) (by omega)
    exact xorI_lt (rotR_lt hy j (by omega)) ⟨h3, h4⟩
def subR (x : Int) : Int := xorI (rotR (powR x 8) 4) 99
theorem subR_lt {x : Int} (hx : 0 ≤ x ∧ x < 256) : 0 ≤ subR x ∧ subR x < 256 := xorI_lt (rotR_lt (powR_lt hx 8) 4 (by omega)) ⟨by decide, by decide⟩
set_option maxHeartbeats 1000000 in
theorem spec81 (x : Int) (hx : 0 ≤ x ∧ x < 256) : Spec prog 81 [one (.i x)] [] [] (fun r _ => r = one (.i (subR x))) := by
  refine spec_of_body tabOK func81 rfl (Nat.le_of_ble_eq_true rfl) ?_
  intro E Q0 hB
  refine ok_run hB tabOK pureC_ok 100 ?_
  simp only [argSl]
  have hy := powR_lt hx 8
  repeat (first
    | rw [run_ops0]
    | rw [run_seq]
    | rw [run_region]
    | rw [run_block]
    | rw [run_blk]
    | rw [run_skip]
    | (apply run_go rfl; focus (intro L K hK; simp [-List.reduceReplicate, -List.getD_eq_getElem?_getD, pureOf, pureC, hx]; (repeat' apply And.intro); all_goals first | exact hK | omega)))
  rw [run_loop]
  refine ok_loop (X := Nat) (fun j => ⟨[(5, one (.i (j + 1))), (4, one (.i (rotR (powR x 8) j))), (3, one (.i (powR x 8)))], []⟩) (fun j => j ≤ 4) (fun j => 4 - j) (fun j i L h => hB.anc i L h) ⟨0, by simp, by simp [-List.reduceReplicate, -List.getD_eq_getElem?_getD, rotR]⟩ ?_
  intro j hj
  refine ok_run hB tabOK pureC_ok 100 ?_
  have hr := rotR_lt hy j hj
  repeat (first
    | rw [run_ops0]
    | rw [run_seq]
    | rw [run_region]
    | rw [run_block]
    | rw [run_blk]
    | rw [run_skip]
    | (apply run_go rfl; focus (intro L K hK; simp [-List.reduceReplicate, -List.getD_eq_getElem?_getD]; (repeat' apply And.intro); all_goals first | exact hK | omega)))
  apply run_cond2 rfl
  · intro h
    simp at h
    obtain ⟨p1, p2, p3, p4, p5, p6, p7, p8⟩ := rot_part hy (j := j) (by omega)
    repeat (first
    | rw [run_ops0]
    | rw [run_seq]
    | rw [run_region]
    | rw [run_block]
    | rw [run_blk]
    | rw [run_skip]
    | (apply run_go rfl; focus (intro L K hK; simp [-List.reduceReplicate, -List.getD_eq_getElem?_getD]; (repeat' apply And.intro); all_goals first | exact hK | omega)))
    rw [run_draw]
    refine ok_draw2 11 tabOK pureC_ok (pureOf_mono _) mixed (by decide +kernel) rfl rfl ?_
    have e7 : (8 - ((j : Int) + 1)).toNat = 7 - j := by omega
    repeat (first
    | (apply hd_go rfl rfl rfl rfl (Nat.le_of_ble_eq_true rfl); focus (intro K' hK; simp [-List.reduceReplicate, -List.getD_eq_getElem?_getD, e7]; (repeat' apply And.intro); all_goals first | exact hK | omega))
    | (apply hd_new rfl rfl rfl rfl (Nat.le_of_ble_eq_true rfl); focus (intro K' hK; simp [-List.reduceReplicate, -List.getD_eq_getElem?_getD, e7]; (repeat' apply And.intro); all_goals first | exact hK | omega)))
    refine hd_nil ?_
    simp only [List.map_nil, List.append_nil]
    refine ok_run hB tabOK pureC_ok 100 ?_
    repeat (first
    | rw [run_ops0]
    | rw [run_seq]
    | rw [run_region]
    | rw [run_block]
    | rw [run_blk]
    | rw [run_skip]
    | (apply run_go rfl; focus (intro L K hK; simp [-List.reduceReplicate, -List.getD_eq_getElem?_getD]; (repeat' apply And.intro); all_goals first | exact hK | omega)))
    rw [run_back]
    refine ⟨j + 1, by omega, by omega, ?_⟩
    simp [-List.reduceReplicate, -List.getD_eq_getElem?_getD, rotR, xorI]
    trace_state
  · intro h
    simp at h
    obtain rfl : j = 4 := by omega
    apply run_exit2 rfl
    repeat (first
    | rw [run_ops0]
    | rw [run_seq]
    | rw [run_region]
    | rw [run_block]
    | rw [run_blk]
    | rw [run_skip]
    | (apply run_go rfl; focus (intro L K hK; simp [-List.reduceReplicate, -List.getD_eq_getElem?_getD]; (repeat' apply And.intro); all_goals first | exact hK | omega)))
    rw [run_ret]
    simp [-List.reduceReplicate, -List.getD_eq_getElem?_getD, results81, f81, subR, xorI]
end Go.V
end
section
set_option linter.unusedSimpArgs false
set_option linter.unusedVariables false
set_option maxRecDepth 10000
namespace Go.V
open Go Go.Proofs.Try
def tabR : Nat → List Int
  | 0 => List.replicate 256 0
  | j + 1 => (tabR j).set j (subR j)
theorem tabR_len : ∀ j, (tabR j).length = 256
  | 0 => List.length_replicate
  | j + 1 => by simp [tabR, tabR_len j]
def pureD (f : FuncId) (l : List SV) : Option SV :=
  match f, l with
  | 81, [.one (.s (.i b))] => if 0 ≤ b ∧ b < 256 then some (one (.i (subR b))) else none
  | _, _ => none
theorem pureD_ok : PureOK prog (pureOf pureD) := by
  refine pureOf_ok ?_
  intro f svs sv h
  unfold pureD at h
  split at h
  · split at h
    · rename_i hc
      cases h
      exact ⟨⟨f81, func81, nofun, by decide⟩, spec81 _ hc, rfl, rfl⟩
    · cases h
  · cases h
theorem spec60 : Spec prog 60 [] [] [] (fun r _ => r = .one (.ai (tabR 256))) := by
  refine spec_of_body tabOK func60 rfl (Nat.le_of_ble_eq_true rfl) ?_
  intro E Q0 hB
  refine ok_run hB tabOK pureD_ok 100 ?_
  simp only [argSl]
  repeat (first
    | rw [run_ops0]
    | rw [run_seq]
    | rw [run_region]
    | rw [run_block]
    | rw [run_blk]
    | rw [run_skip]
    | (apply run_go rfl; focus (intro L K hK; simp [-List.reduceReplicate, -List.getD_eq_getElem?_getD]; (repeat' apply And.intro); all_goals first | exact hK | omega)))
  rw [run_loop]
  refine ok_loop (X := Nat) (fun j => ⟨[(2, one (.i j)), (1, one (.ptr 1 0 0)), (0, one (.ptr 0 0 0))], [.ent ⟨true, 106, some 256, .ai (List.replicate 256 0)⟩, .ent ⟨true, 106, some 256, .ai (tabR j)⟩]⟩) (fun j => j ≤ 256) (fun j => 256 - j) (fun j i L h => absurd (hB.anc i L h) (by simp)) ⟨0, by simp, by simp [-List.reduceReplicate, -List.getD_eq_getElem?_getD, tabR, -List.reduceReplicate]⟩ ?_
  intro j hj
  refine ok_run hB tabOK pureD_ok 100 ?_
  have hlen := tabR_len j
  repeat (first
    | rw [run_ops0]
    | rw [run_seq]
    | rw [run_region]
    | rw [run_block]
    | rw [run_blk]
    | rw [run_skip]
    | (apply run_go rfl; focus (intro L K hK; simp [-List.reduceReplicate, -List.getD_eq_getElem?_getD]; (repeat' apply And.intro); all_goals first | exact hK | omega)))
  apply run_cond2 rfl
  · intro h
    simp at h
    have hj' : (j : Int) < 256 := by omega
    repeat (first
    | rw [run_ops0]
    | rw [run_seq]
    | rw [run_region]
    | rw [run_block]
    | rw [run_blk]
    | rw [run_skip]
    | (apply run_go rfl; focus (intro L K hK; simp [-List.reduceReplicate, -List.getD_eq_getElem?_getD, pureOf, pureD, hj', hlen]; (repeat' apply And.intro); all_goals first | exact hK | omega)))
    rw [run_back]
    refine ⟨j + 1, by omega, by omega, ?_⟩
    simp [-List.reduceReplicate, -List.getD_eq_getElem?_getD, tabR, -List.reduceReplicate]
  · intro h
    simp at h
    obtain rfl : j = 256 := by omega
    apply run_exit2 rfl
    repeat (first
    | rw [run_ops0]
    | rw [run_seq]
    | rw [run_region]
    | rw [run_block]
    | rw [run_blk]
    | rw [run_skip]
    | (apply run_go rfl; focus (intro L K hK; simp [-List.reduceReplicate, -List.getD_eq_getElem?_getD, hlen]; (repeat' apply And.intro); all_goals first | exact hK | omega)))
    rw [run_ret]
    simp [-List.reduceReplicate, -List.getD_eq_getElem?_getD, results60, f60]

/-! the box -/
def boxL : List (BitVec 8) := [99, 124, 119, 123, 242, 107, 111, 197, 48, 1, 103, 43, 254, 215, 171, 118, 202, 130, 201, 125, 250, 89, 71, 240, 173, 212, 162, 175, 156, 164, 114, 192, 183, 253, 147, 38, 54, 63, 247, 204, 52, 165, 229, 241, 113, 216, 49, 21, 4, 199, 35, 195, 24, 150, 5, 154, 7, 18, 128, 226, 235, 39, 178, 117, 9, 131, 44, 26, 27, 110, 90, 160, 82, 59, 214, 179, 41, 227, 47, 132, 83, 209, 0, 237, 32, 252, 177, 91, 106, 203, 190, 57, 74, 76, 88, 207, 208, 239, 170, 251, 67, 77, 51, 133, 69, 249, 2, 127, 80, 60, 159, 168, 81, 163, 64, 143, 146, 157, 56, 245, 188, 182, 218, 33, 16, 255, 243, 210, 205, 12, 19, 236, 95, 151, 68, 23, 196, 167, 126, 61, 100, 93, 25, 115, 96, 129, 79, 220, 34, 42, 144, 136, 70, 238, 184, 20, 222, 94, 11, 219, 224, 50, 58, 10, 73, 6, 36, 92, 194, 211, 172, 98, 145, 149, 228, 121, 231, 200, 55, 109, 141, 213, 78, 169, 108, 86, 244, 234, 101, 122, 174, 8, 186, 120, 37, 46, 28, 166, 180, 198, 232, 221, 116, 31, 75, 189, 139, 138, 112, 62, 181, 102, 72, 3, 246, 14, 97, 53, 87, 185, 134, 193, 29, 158, 225, 248, 152, 17, 105, 217, 142, 148, 155, 30, 135, 233, 206, 85, 40, 223, 140, 161, 137, 13, 191, 230, 66, 104, 65, 153, 45, 15, 176, 84, 187, 22]
def boxPs : List (Nat × SV) := boxL.zipIdx.map (fun p => (p.2, one (.u8 p.1)))
theorem fill_bytes : ∀ (xs pre post : List (BitVec 8)) (K : A → Prop), post.length = xs.length → K (.a8 (pre ++ xs)) → fillA (.a8 (pre ++ post)) 1 ((xs.zipIdx pre.length).map (fun p => (p.2, one (.u8 p.1)))) K
  | [], pre, [], K, _, h => h
  | x :: xs, pre, y :: post, K, hl, h => by
    have h2 := fill_bytes xs (pre ++ [x]) post K (by simpa using hl) (by simpa using h)
    simp only [List.length_append, List.length_cons, List.length_nil, Nat.zero_add, List.append_assoc, List.cons_append, List.nil_append] at h2
    simp only [List.zipIdx_cons, List.map_cons, fillA, putP, one]
    refine ⟨⟨trivial, by simp [A.len], rfl⟩, ?_⟩
    simp only [A.set]
    rw [List.set_append_right _ _ (Nat.le_refl _), Nat.sub_self]
    exact h2
  | [], pre, y :: post, K, hl, h => by simp at hl
  | x :: xs, pre, [], K, hl, h => by simp at hl
theorem box_build {K : SV → Prop} (h : K (.one (.a8 boxL))) : stBuild tab 100 boxPs K := by
  unfold stBuild
  simp only [tab100, ty100, tab5, ty5]
  refine ⟨rfl, ?_⟩
  have := fill_bytes boxL [] (List.replicate 256 0) (fun a => K (.one a)) (by rw [List.length_replicate]; rfl) h
  simpa [boxPs, -List.reduceReplicate] using this
theorem box_build2 {ps : List (Nat × SV)} (hp : ps = boxPs) {K : SV → Prop} (h : K (.one (.a8 boxL))) : stBuild tab 100 ps K := by
  subst hp; exact box_build h
theorem boxL_len : boxL.length = 256 := rfl
theorem spec58 : Spec prog 58 [] [] [] (fun r _ => r = .one (.a8 boxL)) := by
  refine spec_of_body tabOK func58 rfl (Nat.le_of_ble_eq_true rfl) ?_
  intro E Q0 hB
  refine ok_run hB tabOK pureNone_ok 100 ?_
  simp only [argSl]
  rw [run_seq, run_region]
  apply run_go rfl
  · intro L K hK
    simp [step1, est, stAlloc, A.solid, okd, St.add, St.put, one, -List.reduceReplicate]
    exact hK
  rw [run_ops0, run_seq, run_region]
  apply run_go rfl
  · intro L K hK
    simp only [step1, est]
    refine box_build2 (by kernel_rfl) ?_
    simp only [St.add, St.put, okd, ntmps58]
    exact ⟨by decide, hK⟩
  have hl := boxL_len
  generalize boxL = bl at hl ⊢
  repeat (first
    | rw [run_ops0]
    | rw [run_seq]
    | rw [run_region]
    | rw [run_block]
    | rw [run_blk]
    | rw [run_skip]
    | (apply run_go rfl; focus (intro L K hK; simp [-List.reduceReplicate, -List.getD_eq_getElem?_getD, hl]; (repeat' apply And.intro); all_goals first | exact hK | omega)))
  rw [run_ret]
  simp [-List.reduceReplicate, -List.getD_eq_getElem?_getD, results58, f58, hl]
end Go.V
end
section
set_option linter.unusedSimpArgs false
set_option linter.unusedVariables false
set_option maxRecDepth 10000
namespace Go.V
open Go Go.Proofs.Try
def pureE (f : FuncId) (l : List SV) : Option SV :=
  match f, l with
  | 58, [] => some (.one (.a8 boxL))
  | 59, [.one (.s (.u8 a))] => some (one (.u8 ((a <<< 1) ^^^ ((a >>> 7) * 27#8))))
  | _, _ => none
theorem pureE_ok : PureOK prog (pureOf pureE) := by
  refine pureOf_ok ?_
  intro f svs sv h
  unfold pureE at h
  split at h
  · cases h
    exact ⟨⟨f58, func58, nofun, by decide⟩, spec58, rfl, rfl⟩
  · cases h
    exact ⟨⟨f59, func59, nofun, by decide⟩, spec59 _, rfl, rfl⟩
  · cases h
abbrev B8 := List (BitVec 8)
def xorAt (b s W : B8) (o : Nat) : Nat → B8
  | 0 => b
  | j + 1 => (xorAt b s W o j).set j (s.getD j 0 ^^^ W.getD (o + j) 0)
def xorIn (b W : B8) : Nat → B8
  | 0 => b
  | j + 1 => (xorIn b W j).set j ((xorIn b W j).getD j 0 ^^^ W.getD j 0)
theorem xorIn_len (b W : B8) : ∀ j, (xorIn b W j).length = b.length
  | 0 => rfl
  | j + 1 => by simp [xorIn, xorIn_len b W j]
theorem xorAt_len (b s W : B8) (o : Nat) : ∀ j, (xorAt b s W o j).length = b.length
  | 0 => rfl
  | j + 1 => by simp [xorAt, xorAt_len b s W o j]
def twice8 (a : BitVec 8) : BitVec 8 := (a <<< 1) ^^^ ((a >>> 7) * 27#8)
def zero16 : B8 := [0, 0, 0, 0, 0, 0, 0, 0, 0, 0, 0, 0, 0, 0, 0, 0]
def subS (b : B8) : Nat → B8
  | 0 => zero16
  | j + 1 => (subS b j).set j (boxL.getD (b.getD (((j : Int) + 4 * ((j : Int) % 4)) % 16).toNat 0).toNat 0)
theorem subS_len (b : B8) : ∀ j, (subS b j).length = 16
  | 0 => rfl
  | j + 1 => by simp [subS, subS_len b j]
def mixIn (x : B8) (all : BitVec 8) (s : B8) (c : Nat) : Nat → B8
  | 0 => s
  | i + 1 => (mixIn x all s c i).set (c + i) (x.getD i 0 ^^^ all ^^^ twice8 (x.getD i 0 ^^^ x.getD ((i + 1) % 4) 0))
theorem mixIn_len (x : B8) (all : BitVec 8) (s : B8) (c : Nat) : ∀ j, (mixIn x all s c j).length = s.length
  | 0 => rfl
  | j + 1 => by simp [mixIn, mixIn_len x all s c j]
def allOf (x : B8) : BitVec 8 := x.getD 0 0 ^^^ x.getD 1 0 ^^^ x.getD 2 0 ^^^ x.getD 3 0
def mixS (s : B8) : Nat → B8
  | 0 => s
  | k + 1 => mixIn (((mixS s k).drop (4 * k)).take 4) (allOf (((mixS s k).drop (4 * k)).take 4)) (mixS s k) (4 * k) 4
theorem mixS_len (s : B8) : ∀ k, (mixS s k).length = s.length
  | 0 => rfl
  | k + 1 => by simp [mixS, mixIn_len, mixS_len s k]
def oneRound (b W : B8) (nr r : Nat) : B8 := xorAt b (if r + 1 < nr then mixS (subS b 16) 4 else subS b 16) W (16 * r) 16
def rounds (b W : B8) (nr : Nat) : Nat → B8
  | 0 => xorIn b W 16
  | q + 1 => oneRound (rounds b W nr q) W nr (q + 1)
theorem xorAt_len2 (b s W : B8) (o : Nat) : ∀ j, (xorAt b s W o j).length = b.length := xorAt_len b s W o
theorem rounds_len (b W : B8) (nr : Nat) : ∀ q, (rounds b W nr q).length = b.length
  | 0 => xorIn_len b W 16
  | q + 1 => by simp [rounds, oneRound, xorAt_len, rounds_len b W nr q]
def kmem (nr cap : Nat) (W : B8) : Mem := [.ent ⟨false, 105, some 1, .st [⟨1, .s (.sl 1 0 nr cap 16)⟩]⟩, .ent ⟨false, 23, none, .a8 W⟩]
theorem spec23 (b W : B8) (nr cap : Nat) (hb : b.length = 16) (hW : 16 * nr ≤ W.length) (hR : 0 < nr) (hR2 : nr < 1000) : Spec prog 23 [one (.ptr 0 0 0), .one (.a8 b)] (kmem nr cap W) [] (fun r _ => r = .one (.a8 (rounds b W nr (nr - 1)))) := by
  refine spec_of_body tabOK func23 rfl (Nat.le_of_ble_eq_true rfl) ?_
  intro E Q0 hB
  refine ok_run hB tabOK pureE_ok 100 ?_
  simp only [argSl, kmem]
  have hlt : ∀ x : BitVec 8, x.toNat < 256 := fun x => x.isLt
  repeat (first
    | rw [run_ops0]
    | rw [run_seq]
    | rw [run_region]
    | rw [run_block]
    | rw [run_blk]
    | rw [run_skip]
    | (apply run_go rfl; focus (intro L K hK; simp [-List.reduceReplicate, -List.getD_eq_getElem?_getD, hb]; (repeat' apply And.intro); all_goals first | exact hK | omega)))
  apply run_cond2 rfl
  · intro h; cases h
  intro _
  repeat (first
    | rw [run_ops0]
    | rw [run_seq]
    | rw [run_region]
    | rw [run_block]
    | rw [run_blk]
    | rw [run_skip]
    | (apply run_go rfl; focus (intro L K hK; simp [-List.reduceReplicate, -List.getD_eq_getElem?_getD, hb]; (repeat' apply And.intro); all_goals first | exact hK | omega)))
  rw [run_loop]
  refine ok_loop (X := Nat) (fun j => ⟨[(17, one (.i j)), (0, one (.ptr 0 0 0)), (3, one (.ptr 2 0 0)), (4, one (.ptr 3 0 0))], kmem nr cap W ++ [.ent ⟨true, 23, some 16, .a8 (xorIn b W j)⟩, .ent ⟨true, 23, some 16, .a8 [0, 0, 0, 0, 0, 0, 0, 0, 0, 0, 0, 0, 0, 0, 0, 0]⟩]⟩) (fun j => j ≤ 16) (fun j => 16 - j) (fun j i L h => by have := hB.anc i L h; simp [kmem] at this ⊢; omega) ⟨0, by simp, by simp [-List.reduceReplicate, -List.getD_eq_getElem?_getD, xorIn, kmem]⟩ ?_
  · intro j hj
    refine ok_run hB tabOK pureE_ok 100 ?_
    have hxl := xorIn_len b W j
    simp only [kmem, List.cons_append, List.nil_append]
    repeat (first
    | rw [run_ops0]
    | rw [run_seq]
    | rw [run_region]
    | rw [run_block]
    | rw [run_blk]
    | rw [run_skip]
    | (apply run_go rfl; focus (intro L K hK; simp [-List.reduceReplicate, -List.getD_eq_getElem?_getD]; (repeat' apply And.intro); all_goals first | exact hK | omega)))
    apply run_cond2 rfl
    · intro h
      simp at h
      have hj' : (j : Int) < 16 := by omega
      repeat (first
    | rw [run_ops0]
    | rw [run_seq]
    | rw [run_region]
    | rw [run_block]
    | rw [run_blk]
    | rw [run_skip]
    | (apply run_go rfl; focus (intro L K hK; simp [-List.reduceReplicate, -List.getD_eq_getElem?_getD]; (repeat' apply And.intro); all_goals first | exact hK | omega)))
      rw [run_draw]
      refine ok_draw2 12 tabOK pureE_ok (pureOf_mono _) mixed (by decide +kernel) rfl rfl ?_
      repeat (first
    | (apply hd_go rfl rfl rfl rfl (Nat.le_of_ble_eq_true rfl); focus (intro K' hK; simp [-List.reduceReplicate, -List.getD_eq_getElem?_getD, hxl, hb, hj', h, pureOf, pureE]; (repeat' apply And.intro); all_goals first | exact hK | omega))
    | (apply hd_new rfl rfl rfl rfl (Nat.le_of_ble_eq_true rfl); focus (intro K' hK; simp [-List.reduceReplicate, -List.getD_eq_getElem?_getD, hxl, hb, hj', h, pureOf, pureE]; (repeat' apply And.intro); all_goals first | exact hK | omega)))
      refine hd_nil ?_
      simp only [List.map_nil, List.append_nil]
      refine ok_run hB tabOK pureE_ok 100 ?_
      repeat (first
    | rw [run_ops0]
    | rw [run_seq]
    | rw [run_region]
    | rw [run_block]
    | rw [run_blk]
    | rw [run_skip]
    | (apply run_go rfl; focus (intro L K hK; simp [-List.reduceReplicate, -List.getD_eq_getElem?_getD, hxl, hb, hj', h]; (repeat' apply And.intro); all_goals first | exact hK | omega)))
      rw [run_back]
      refine ⟨j + 1, by omega, by omega, ?_⟩
      simp [-List.reduceReplicate, -List.getD_eq_getElem?_getD, xorIn, kmem]
    · intro h
      simp at h
      obtain rfl : j = 16 := by omega
      apply run_exit2 rfl
      repeat (first
    | rw [run_ops0]
    | rw [run_seq]
    | rw [run_region]
    | rw [run_block]
    | rw [run_blk]
    | rw [run_skip]
    | (apply run_go rfl; focus (intro L K hK; simp [-List.reduceReplicate, -List.getD_eq_getElem?_getD]; (repeat' apply And.intro); all_goals first | exact hK | omega)))
      rw [run_loop]
      refine ok_loop (X := Nat) (fun q => ⟨[(6, one (.i (q + 1))), (0, one (.ptr 0 0 0)), (3, one (.ptr 2 0 0)), (4, one (.ptr 3 0 0))], kmem nr cap W ++ [.ent ⟨true, 23, some 16, .a8 (rounds b W nr q)⟩, .ent ⟨true, 23, some 16, .a8 zero16⟩]⟩) (fun q => q + 1 ≤ nr) (fun q => nr - q) (fun j i L h => by have := hB.anc i L h; simp [kmem] at this ⊢; omega) ⟨0, by omega, by simp [-List.reduceReplicate, -List.getD_eq_getElem?_getD, rounds, kmem, zero16]⟩ ?_
      intro q hq
      refine ok_run hB tabOK pureE_ok 100 ?_
      have hbl := rounds_len b W nr q
      have hz : zero16.length = 16 := rfl
      simp only [kmem, List.cons_append, List.nil_append]
      generalize hbq : rounds b W nr q = bq at hbl ⊢
      repeat (first
    | rw [run_ops0]
    | rw [run_seq]
    | rw [run_region]
    | rw [run_block]
    | rw [run_blk]
    | rw [run_skip]
    | (apply run_go rfl; focus (intro L K hK; simp [-List.reduceReplicate, -List.getD_eq_getElem?_getD]; (repeat' apply And.intro); all_goals first | exact hK | omega)))
      apply run_cond2 rfl
      · intro h
        simp at h
        have hq2 : q + 1 < nr := by omega
        repeat (first
    | rw [run_ops0]
    | rw [run_seq]
    | rw [run_region]
    | rw [run_block]
    | rw [run_blk]
    | rw [run_skip]
    | (apply run_go rfl; focus (intro L K hK; simp [-List.reduceReplicate, -List.getD_eq_getElem?_getD]; (repeat' apply And.intro); all_goals first | exact hK | omega)))
        rw [run_loop]
        refine ok_loop (X := Nat) (fun j => ⟨[(43, one (.i j)), (7, one (.ptr 4 0 0)), (6, one (.i (q + 1))), (0, one (.ptr 0 0 0)), (3, one (.ptr 2 0 0)), (4, one (.ptr 3 0 0))], kmem nr cap W ++ [.ent ⟨true, 23, some 16, .a8 bq⟩, .ent ⟨true, 23, some 16, .a8 zero16⟩, .ent ⟨true, 23, some 16, .a8 (subS bq j)⟩]⟩) (fun j => j ≤ 16) (fun j => 16 - j) (fun j i L h => by have := hB.anc i L h; simp [kmem] at this ⊢; omega) ⟨0, by omega, by simp [-List.reduceReplicate, -List.getD_eq_getElem?_getD, subS, kmem, zero16]⟩ ?_
        intro j hj
        refine ok_run hB tabOK pureE_ok 19 ?_
        simp only [kmem, List.cons_append, List.nil_append]
        have hsl := subS_len bq j
        repeat (first
    | rw [run_ops0]
    | rw [run_seq]
    | rw [run_region]
    | rw [run_block]
    | rw [run_blk]
    | rw [run_skip]
    | (apply run_go rfl; focus (intro L K hK; simp [-List.reduceReplicate, -List.getD_eq_getElem?_getD]; (repeat' apply And.intro); all_goals first | exact hK | omega)))
        apply run_cond2 rfl
        · intro h
          simp at h
          repeat (first
    | rw [run_ops0]
    | rw [run_seq]
    | rw [run_region]
    | rw [run_block]
    | rw [run_blk]
    | rw [run_skip]
    | (apply run_go rfl; focus (intro L K hK; simp [-List.reduceReplicate, -List.getD_eq_getElem?_getD]; (repeat' apply And.intro); all_goals first | exact hK | omega)))
          rw [run_draw]
          refine ok_draw2 11 tabOK pureE_ok (pureOf_mono _) mixed (by decide +kernel) rfl rfl ?_
          have t4 : (j : Int).tmod 4 = (j : Int) % 4 := Int.tmod_eq_emod_of_nonneg (by omega)
          have t16 : ((j : Int) + 4 * ((j : Int) % 4)).tmod 16 = ((j : Int) + 4 * ((j : Int) % 4)) % 16 := Int.tmod_eq_emod_of_nonneg (by omega)
          have hbx := boxL_len
          repeat (first
    | (apply hd_go rfl rfl rfl rfl (Nat.le_of_ble_eq_true rfl); focus (intro K' hK; simp [-List.reduceReplicate, -List.getD_eq_getElem?_getD, hbl, hb, hsl, t4, t16, hbx, hlt, pureOf, pureE]; (repeat' apply And.intro); all_goals first | exact hK | omega))
    | (apply hd_new rfl rfl rfl rfl (Nat.le_of_ble_eq_true rfl); focus (intro K' hK; simp [-List.reduceReplicate, -List.getD_eq_getElem?_getD, hbl, hb, hsl, t4, t16, hbx, hlt, pureOf, pureE]; (repeat' apply And.intro); all_goals first | exact hK | omega)))
          refine hd_nil ?_
          simp only [List.map_nil, List.append_nil]
          refine ok_run hB tabOK pureE_ok 100 ?_
          repeat (first
    | rw [run_ops0]
    | rw [run_seq]
    | rw [run_region]
    | rw [run_block]
    | rw [run_blk]
    | rw [run_skip]
    | (apply run_go rfl; focus (intro L K hK; simp [-List.reduceReplicate, -List.getD_eq_getElem?_getD, hsl]; (repeat' apply And.intro); all_goals first | exact hK | omega)))
          rw [run_back]
          refine ⟨j + 1, by omega, by omega, ?_⟩
          simp [-List.reduceReplicate, -List.getD_eq_getElem?_getD, subS, kmem]
        · intro h
          simp at h
          obtain rfl : j = 16 := by omega
          apply run_exit2 rfl
          repeat (first
    | rw [run_ops0]
    | rw [run_seq]
    | rw [run_region]
    | rw [run_block]
    | rw [run_blk]
    | rw [run_skip]
    | (apply run_go rfl; focus (intro L K hK; simp [-List.reduceReplicate, -List.getD_eq_getElem?_getD]; (repeat' apply And.intro); all_goals first | exact hK | omega)))
          rw [run_zero]
          have hsl16 := subS_len bq 16
          generalize hsq : subS bq 16 = sq at hsl16 ⊢
          refine ok_join (X := B8) (fun s => ⟨[(7, one (.ptr 4 0 0)), (6, one (.i (q + 1))), (0, one (.ptr 0 0 0)), (3, one (.ptr 2 0 0)), (4, one (.ptr 3 0 0))], kmem nr cap W ++ [.ent ⟨true, 23, some 16, .a8 bq⟩, .ent ⟨true, 23, some 16, .a8 zero16⟩, .ent ⟨true, 23, some 16, .a8 s⟩]⟩) (fun s => s = if q + 1 + 1 < nr then mixS sq 4 else sq) (fun s i L h => by have := hB.anc i L h; simp [kmem] at this ⊢; omega) ?_ ?_
          · refine ok_run hB tabOK pureE_ok 100 ?_
            apply run_cond2 rfl
            · intro h
              simp at h
              have hq3 : q + 1 + 1 < nr := by omega
              repeat (first
    | rw [run_ops0]
    | rw [run_seq]
    | rw [run_region]
    | rw [run_block]
    | rw [run_blk]
    | rw [run_skip]
    | (apply run_go rfl; focus (intro L K hK; simp [-List.reduceReplicate, -List.getD_eq_getElem?_getD]; (repeat' apply And.intro); all_goals first | exact hK | omega)))
              rw [run_loop]
              refine ok_loop (X := Nat) (fun k => ⟨[(9, one (.i (4 * k : Nat))), (7, one (.ptr 4 0 0)), (6, one (.i (q + 1))), (0, one (.ptr 0 0 0)), (3, one (.ptr 2 0 0)), (4, one (.ptr 3 0 0))], kmem nr cap W ++ [.ent ⟨true, 23, some 16, .a8 bq⟩, .ent ⟨true, 23, some 16, .a8 zero16⟩, .ent ⟨true, 23, some 16, .a8 (mixS sq k)⟩]⟩) (fun k => k ≤ 4) (fun k => 4 - k) (fun j i L h => by have := hB.anc i L h; simp [kmem] at this ⊢; omega) ⟨0, by omega, by simp [-List.reduceReplicate, -List.getD_eq_getElem?_getD, mixS, kmem]⟩ ?_
              intro c hc
              refine ok_run hB tabOK pureE_ok 100 ?_
              simp only [kmem, List.cons_append, List.nil_append]
              have hml := mixS_len sq c
              repeat (first
    | rw [run_ops0]
    | rw [run_seq]
    | rw [run_region]
    | rw [run_block]
    | rw [run_blk]
    | rw [run_skip]
    | (apply run_go rfl; focus (intro L K hK; simp [-List.reduceReplicate, -List.getD_eq_getElem?_getD]; (repeat' apply And.intro); all_goals first | exact hK | omega)))
              apply run_cond2 rfl
              · intro h
                simp at h
                have hc4 : c < 4 := by omega
                have e4 : (4 * (c : Int)).toNat = 4 * c := by omega
                repeat (first
    | rw [run_ops0]
    | rw [run_seq]
    | rw [run_region]
    | rw [run_block]
    | rw [run_blk]
    | rw [run_skip]
    | (apply run_go rfl; focus (intro L K hK; simp [-List.reduceReplicate, -List.getD_eq_getElem?_getD, hml, hsl16, e4]; (repeat' apply And.intro); all_goals first | exact hK | omega)))
                rw [run_loop]
                have hxx : (((mixS sq c).drop (4 * c)).take 4).length = 4 := by simp [hml, hsl16]; omega
                have hmix : mixS sq (c + 1) = mixIn (((mixS sq c).drop (4 * c)).take 4) (allOf (((mixS sq c).drop (4 * c)).take 4)) (mixS sq c) (4 * c) 4 := rfl
                generalize ((mixS sq c).drop (4 * c)).take 4 = x at hxx hmix ⊢
                generalize mixS sq c = sc at hml hmix ⊢
                refine ok_loop (X := Nat) (fun i => ⟨[(86, one (.i i)), (10, one (.ptr 5 0 0)), (11, one (.u8 (allOf x))), (9, one (.i (4 * c : Nat))), (7, one (.ptr 4 0 0)), (6, one (.i (q + 1))), (0, one (.ptr 0 0 0)), (3, one (.ptr 2 0 0)), (4, one (.ptr 3 0 0))], kmem nr cap W ++ [.ent ⟨true, 23, some 16, .a8 bq⟩, .ent ⟨true, 23, some 16, .a8 zero16⟩, .ent ⟨true, 23, some 16, .a8 (mixIn x (allOf x) sc (4 * c) i)⟩, .ent ⟨true, 99, some 4, .a8 x⟩]⟩) (fun i => i ≤ 4) (fun i => 4 - i) (fun j i L h => by have := hB.anc i L h; simp [kmem] at this ⊢; omega) ⟨0, by omega, by simp [-List.reduceReplicate, -List.getD_eq_getElem?_getD, mixIn, kmem, allOf]⟩ ?_
                intro i hi
                refine ok_run hB tabOK pureE_ok 100 ?_
                simp only [kmem, List.cons_append, List.nil_append]
                have hil := mixIn_len x (allOf x) sc (4 * c) i
                repeat (first
    | rw [run_ops0]
    | rw [run_seq]
    | rw [run_region]
    | rw [run_block]
    | rw [run_blk]
    | rw [run_skip]
    | (apply run_go rfl; focus (intro L K hK; simp [-List.reduceReplicate, -List.getD_eq_getElem?_getD]; (repeat' apply And.intro); all_goals first | exact hK | omega)))
                apply run_cond2 rfl
                · intro h
                  simp at h
                  repeat (first
    | rw [run_ops0]
    | rw [run_seq]
    | rw [run_region]
    | rw [run_block]
    | rw [run_blk]
    | rw [run_skip]
    | (apply run_go rfl; focus (intro L K hK; simp [-List.reduceReplicate, -List.getD_eq_getElem?_getD]; (repeat' apply And.intro); all_goals first | exact hK | omega)))
                  rw [run_draw]
                  refine ok_draw2 19 tabOK pureE_ok (pureOf_mono _) mixed (by decide +kernel) rfl rfl ?_
                  have t4 : ((i : Int) + 1).tmod 4 = ((i : Int) + 1) % 4 := Int.tmod_eq_emod_of_nonneg (by omega)
                  have e5 : (((i : Int) + 1) % 4).toNat = (i + 1) % 4 := by omega
                  have e6 : (4 * (c : Int) + i).toNat = 4 * c + i := by omega
                  repeat (first
    | (apply hd_go rfl rfl rfl rfl (Nat.le_of_ble_eq_true rfl); focus (intro K' hK; simp [-List.reduceReplicate, -List.getD_eq_getElem?_getD, hxx, t4, e5, h, pureOf, pureE]; (repeat' apply And.intro); all_goals first | exact hK | omega))
    | (apply hd_new rfl rfl rfl rfl (Nat.le_of_ble_eq_true rfl); focus (intro K' hK; simp [-List.reduceReplicate, -List.getD_eq_getElem?_getD, hxx, t4, e5, h, pureOf, pureE]; (repeat' apply And.intro); all_goals first | exact hK | omega)))
                  refine hd_nil ?_
                  simp only [List.map_nil, List.append_nil]
                  refine ok_run hB tabOK pureE_ok 100 ?_
                  repeat (first
    | rw [run_ops0]
    | rw [run_seq]
    | rw [run_region]
    | rw [run_block]
    | rw [run_blk]
    | rw [run_skip]
    | (apply run_go rfl; focus (intro L K hK; simp [-List.reduceReplicate, -List.getD_eq_getElem?_getD, hil, hml, hsl16, e6]; (repeat' apply And.intro); all_goals first | exact hK | omega)))
                  rw [run_back]
                  refine ⟨i + 1, by omega, by omega, ?_⟩
                  simp [-List.reduceReplicate, -List.getD_eq_getElem?_getD, mixIn, kmem, twice8]
                · intro h
                  simp at h
                  obtain rfl : i = 4 := by omega
                  apply run_exit2 rfl
                  repeat (first
    | rw [run_ops0]
    | rw [run_seq]
    | rw [run_region]
    | rw [run_block]
    | rw [run_blk]
    | rw [run_skip]
    | (apply run_go rfl; focus (intro L K hK; simp [-List.reduceReplicate, -List.getD_eq_getElem?_getD]; (repeat' apply And.intro); all_goals first | exact hK | omega)))
                  rw [run_back]
                  refine ⟨c + 1, by omega, by omega, ?_⟩
                  rw [hmix]
                  simp [-List.reduceReplicate, -List.getD_eq_getElem?_getD, kmem]
                  omega
              · intro h
                simp at h
                obtain rfl : c = 4 := by omega
                apply run_exit2 rfl
                repeat (first
    | rw [run_ops0]
    | rw [run_seq]
    | rw [run_region]
    | rw [run_block]
    | rw [run_blk]
    | rw [run_skip]
    | (apply run_go rfl; focus (intro L K hK; simp [-List.reduceReplicate, -List.getD_eq_getElem?_getD]; (repeat' apply And.intro); all_goals first | exact hK | omega)))
                rw [run_back]
                refine ⟨mixS sq 4, by rw [if_pos hq3], ?_⟩
                simp [-List.reduceReplicate, -List.getD_eq_getElem?_getD, kmem]
            · intro h
              simp at h
              have hq3 : ¬ q + 1 + 1 < nr := by omega
              repeat (first
    | rw [run_ops0]
    | rw [run_seq]
    | rw [run_region]
    | rw [run_block]
    | rw [run_blk]
    | rw [run_skip]
    | (apply run_go rfl; focus (intro L K hK; simp [-List.reduceReplicate, -List.getD_eq_getElem?_getD]; (repeat' apply And.intro); all_goals first | exact hK | omega)))
              rw [run_back]
              refine ⟨sq, by rw [if_neg hq3], ?_⟩
              simp [-List.reduceReplicate, -List.getD_eq_getElem?_getD, kmem]
          · intro s hs
            have hsl3 : s.length = 16 := by
              subst hs
              split
              · rw [mixS_len, hsl16]
              · exact hsl16
            refine ok_run hB tabOK pureE_ok 100 ?_
            simp only [kmem, List.cons_append, List.nil_append]
            repeat (first
    | rw [run_ops0]
    | rw [run_seq]
    | rw [run_region]
    | rw [run_block]
    | rw [run_blk]
    | rw [run_skip]
    | (apply run_go rfl; focus (intro L K hK; simp [-List.reduceReplicate, -List.getD_eq_getElem?_getD]; (repeat' apply And.intro); all_goals first | exact hK | omega)))
            rw [run_loop]
            refine ok_loop (X := Nat) (fun j => ⟨[(110, one (.i j)), (7, one (.ptr 4 0 0)), (6, one (.i (q + 1))), (0, one (.ptr 0 0 0)), (3, one (.ptr 2 0 0)), (4, one (.ptr 3 0 0))], kmem nr cap W ++ [.ent ⟨true, 23, some 16, .a8 (xorAt bq s W (16 * (q + 1)) j)⟩, .ent ⟨true, 23, some 16, .a8 zero16⟩, .ent ⟨true, 23, some 16, .a8 s⟩]⟩) (fun j => j ≤ 16) (fun j => 16 - j) (fun j i L h => by have := hB.anc i L h; simp [kmem] at this ⊢; omega) ⟨0, by omega, by simp [-List.reduceReplicate, -List.getD_eq_getElem?_getD, xorAt, kmem]⟩ ?_
            intro j hj
            refine ok_run hB tabOK pureE_ok 100 ?_
            simp only [kmem, List.cons_append, List.nil_append]
            have hxl := xorAt_len bq s W (16 * (q + 1)) j
            repeat (first
    | rw [run_ops0]
    | rw [run_seq]
    | rw [run_region]
    | rw [run_block]
    | rw [run_blk]
    | rw [run_skip]
    | (apply run_go rfl; focus (intro L K hK; simp [-List.reduceReplicate, -List.getD_eq_getElem?_getD]; (repeat' apply And.intro); all_goals first | exact hK | omega)))
            apply run_cond2 rfl
            · intro h
              simp at h
              repeat (first
    | rw [run_ops0]
    | rw [run_seq]
    | rw [run_region]
    | rw [run_block]
    | rw [run_blk]
    | rw [run_skip]
    | (apply run_go rfl; focus (intro L K hK; simp [-List.reduceReplicate, -List.getD_eq_getElem?_getD]; (repeat' apply And.intro); all_goals first | exact hK | omega)))
              rw [run_draw]
              refine ok_draw2 14 tabOK pureE_ok (pureOf_mono _) mixed (by decide +kernel) rfl rfl ?_
              repeat (first
    | (apply hd_go rfl rfl rfl rfl (Nat.le_of_ble_eq_true rfl); focus (intro K' hK; simp [-List.reduceReplicate, -List.getD_eq_getElem?_getD, hxl, hbl, hb, hsl3, h]; (repeat' apply And.intro); all_goals first | exact hK | omega))
    | (apply hd_new rfl rfl rfl rfl (Nat.le_of_ble_eq_true rfl); focus (intro K' hK; simp [-List.reduceReplicate, -List.getD_eq_getElem?_getD, hxl, hbl, hb, hsl3, h]; (repeat' apply And.intro); all_goals first | exact hK | omega)))
              refine hd_nil ?_
              simp only [List.map_nil, List.append_nil]
              refine ok_run hB tabOK pureE_ok 100 ?_
              repeat (first
    | rw [run_ops0]
    | rw [run_seq]
    | rw [run_region]
    | rw [run_block]
    | rw [run_blk]
    | rw [run_skip]
    | (apply run_go rfl; focus (intro L K hK; simp [-List.reduceReplicate, -List.getD_eq_getElem?_getD, hxl, hbl, hb]; (repeat' apply And.intro); all_goals first | exact hK | omega)))
              rw [run_back]
              refine ⟨j + 1, by omega, by omega, ?_⟩
              simp [-List.reduceReplicate, -List.getD_eq_getElem?_getD, xorAt, kmem]
              rw [Nat.mul_comm 16 (q + 1)]
            · intro h
              simp at h
              obtain rfl : j = 16 := by omega
              apply run_exit2 rfl
              repeat (first
    | rw [run_ops0]
    | rw [run_seq]
    | rw [run_region]
    | rw [run_block]
    | rw [run_blk]
    | rw [run_skip]
    | (apply run_go rfl; focus (intro L K hK; simp [-List.reduceReplicate, -List.getD_eq_getElem?_getD]; (repeat' apply And.intro); all_goals first | exact hK | omega)))
              rw [run_back]
              refine ⟨q + 1, by omega, by omega, ?_⟩
              simp [-List.reduceReplicate, -List.getD_eq_getElem?_getD, kmem, rounds, oneRound, hbq, hsq, hs]
      · intro h
        simp at h
        obtain rfl : nr = q + 1 := by omega
        apply run_exit2 rfl
        subst hbq
        repeat (first
    | rw [run_ops0]
    | rw [run_seq]
    | rw [run_region]
    | rw [run_block]
    | rw [run_blk]
    | rw [run_skip]
    | (apply run_go rfl; focus (intro L K hK; simp [-List.reduceReplicate, -List.getD_eq_getElem?_getD, hbl, hz, hb]; (repeat' apply And.intro); all_goals first | exact hK | omega)))
        rw [run_ret]
        simp [-List.reduceReplicate, -List.getD_eq_getElem?_getD, results23, f23, hbl, hb]
end Go.V
end
section
set_option linter.unusedSimpArgs false
set_option linter.unusedVariables false
set_option maxRecDepth 10000
namespace Go.V
open Go Go.Proofs.Try
/-- Bytes, filled up with zeros. -/
def pad16 (l : B8) : B8 := l ++ zero16.drop l.length
def ofH (x : B8) : Nat → BitVec 64
  | 0 => 0#64
  | j + 1 => ((ofH x j) <<< 8) ||| (x.getD j 0).setWidth 64
def ofL (x : B8) : Nat → BitVec 64
  | 0 => 0#64
  | j + 1 => ((ofL x j) <<< 8) ||| (x.getD (8 + j) 0).setWidth 64
def ofG (x : B8) : G := (ofH x 8, ofL x 8)
theorem spec63 (B : B8) (off n cap : Nat) (hn : n ≤ 16) (hB' : off + n ≤ B.length) (hcap : n ≤ cap) : Spec prog 63 [one (.sl 0 off n cap 1)] [.ent ⟨false, 5, none, .a8 B⟩] [] (fun r _ => r = .one (gfA (ofG (pad16 ((B.drop off).take n))))) := by
  refine spec_of_body tabOK func63 rfl (Nat.le_of_ble_eq_true rfl) ?_
  intro E Q0 hB
  refine ok_run hB tabOK pureNone_ok 100 ?_
  simp only [argSl]
  have hxl : ((B.drop off).take n).length = n := by simp; omega
  have hmin : min n 16 = n := by omega
  repeat (first
    | rw [run_ops0]
    | rw [run_seq]
    | rw [run_region]
    | rw [run_block]
    | rw [run_blk]
    | rw [run_skip]
    | (apply run_go rfl; focus (intro L K hK; simp [-List.reduceReplicate, -List.getD_eq_getElem?_getD, hmin, hxl]; (repeat' apply And.intro); all_goals first | exact hK | omega)))
  have hpad : pad16 ((B.drop off).take n) = (B.drop off).take n ++ List.drop n [0#8, 0#8, 0#8, 0#8, 0#8, 0#8, 0#8, 0#8, 0#8, 0#8, 0#8, 0#8, 0#8, 0#8, 0#8, 0#8] := by
    unfold pad16
    rw [hxl]
    rfl
  have hpl : (pad16 ((B.drop off).take n)).length = 16 := by rw [hpad]; simp; omega
  rw [← hpad]
  generalize hX : pad16 ((B.drop off).take n) = X at hpl ⊢
  rw [run_loop]
  refine ok_loop (X := Nat) (fun j => ⟨[(9, one (.i j)), (4, one (.ptr 3 0 0)), (3, one (.ptr 2 0 0)), (2, one (.ptr 1 0 0))], [.ent ⟨false, 5, none, .a8 B⟩, .ent ⟨true, 115, some 2, gfA (0#64, 0#64)⟩, .ent ⟨true, 23, some 16, .a8 X⟩, .ent ⟨true, 115, some 2, gfA (ofH X j, ofL X j)⟩]⟩) (fun j => j ≤ 8) (fun j => 8 - j) (fun j i L h => by have := hB.anc i L h; simp at this ⊢; omega) ⟨0, by omega, by simp [-List.reduceReplicate, -List.getD_eq_getElem?_getD, ofH, ofL, gfA]⟩ ?_
  intro j hj
  refine ok_run hB tabOK pureNone_ok 100 ?_
  simp only [gfA]
  repeat (first
    | rw [run_ops0]
    | rw [run_seq]
    | rw [run_region]
    | rw [run_block]
    | rw [run_blk]
    | rw [run_skip]
    | (apply run_go rfl; focus (intro L K hK; simp [-List.reduceReplicate, -List.getD_eq_getElem?_getD]; (repeat' apply And.intro); all_goals first | exact hK | omega)))
  apply run_cond2 rfl
  · intro h
    simp at h
    have e1 : (8 + (j : Int)).toNat = 8 + j := by omega
    repeat (first
    | rw [run_ops0]
    | rw [run_seq]
    | rw [run_region]
    | rw [run_block]
    | rw [run_blk]
    | rw [run_skip]
    | (apply run_go rfl; focus (intro L K hK; simp [-List.reduceReplicate, -List.getD_eq_getElem?_getD]; (repeat' apply And.intro); all_goals first | exact hK | omega)))
    rw [run_draw]
    refine ok_draw2 8 tabOK pureNone_ok pureNone_mono mixed (by decide +kernel) rfl rfl ?_
    repeat (first
    | (apply hd_go rfl rfl rfl rfl (Nat.le_of_ble_eq_true rfl); focus (intro K' hK; simp [-List.reduceReplicate, -List.getD_eq_getElem?_getD, hpl, e1]; (repeat' apply And.intro); all_goals first | exact hK | omega))
    | (apply hd_new rfl rfl rfl rfl (Nat.le_of_ble_eq_true rfl); focus (intro K' hK; simp [-List.reduceReplicate, -List.getD_eq_getElem?_getD, hpl, e1]; (repeat' apply And.intro); all_goals first | exact hK | omega)))
    refine hd_nil ?_
    simp only [List.map_nil, List.append_nil]
    refine ok_run hB tabOK pureNone_ok 100 ?_
    repeat (first
    | rw [run_ops0]
    | rw [run_seq]
    | rw [run_region]
    | rw [run_block]
    | rw [run_blk]
    | rw [run_skip]
    | (apply run_go rfl; focus (intro L K hK; simp [-List.reduceReplicate, -List.getD_eq_getElem?_getD]; (repeat' apply And.intro); all_goals first | exact hK | omega)))
    rw [run_draw]
    refine ok_draw2 9 tabOK pureNone_ok pureNone_mono mixed (by decide +kernel) rfl rfl ?_
    repeat (first
    | (apply hd_go rfl rfl rfl rfl (Nat.le_of_ble_eq_true rfl); focus (intro K' hK; simp [-List.reduceReplicate, -List.getD_eq_getElem?_getD, hpl, e1]; (repeat' apply And.intro); all_goals first | exact hK | omega))
    | (apply hd_new rfl rfl rfl rfl (Nat.le_of_ble_eq_true rfl); focus (intro K' hK; simp [-List.reduceReplicate, -List.getD_eq_getElem?_getD, hpl, e1]; (repeat' apply And.intro); all_goals first | exact hK | omega)))
    refine hd_nil ?_
    simp only [List.map_nil, List.append_nil]
    refine ok_run hB tabOK pureNone_ok 100 ?_
    repeat (first
    | rw [run_ops0]
    | rw [run_seq]
    | rw [run_region]
    | rw [run_block]
    | rw [run_blk]
    | rw [run_skip]
    | (apply run_go rfl; focus (intro L K hK; simp [-List.reduceReplicate, -List.getD_eq_getElem?_getD]; (repeat' apply And.intro); all_goals first | exact hK | omega)))
    rw [run_back]
    refine ⟨j + 1, by omega, by omega, ?_⟩
    simp [-List.reduceReplicate, -List.getD_eq_getElem?_getD, ofH, ofL, gfA]
  · intro h
    simp at h
    obtain rfl : j = 8 := by omega
    apply run_exit2 rfl
    repeat (first
    | rw [run_ops0]
    | rw [run_seq]
    | rw [run_region]
    | rw [run_block]
    | rw [run_blk]
    | rw [run_skip]
    | (apply run_go rfl; focus (intro L K hK; simp [-List.reduceReplicate, -List.getD_eq_getElem?_getD]; (repeat' apply And.intro); all_goals first | exact hK | omega)))
    rw [run_ret]
    simp [-List.reduceReplicate, -List.getD_eq_getElem?_getD, results63, f63, gfA, ofG, hX]
end Go.V
end
section
set_option linter.unusedSimpArgs false
set_option linter.unusedVariables false
set_option maxRecDepth 10000
namespace Go.V
open Go Go.Proofs.Try
section
variable {P : Program} {E : Env} {N : Nat} {w : World}
theorem enter_run_fn {f : FuncId} (hc : Callable P f) {a : Act} {x : Operand} {caps : Array Value} (hx : a.eval x = .func (.func f) #[] caps) {args : Array Operand} {ts : Array TypeId} {dst : Option Tmp} {type : TypeId} {pos : String} {after : Array Edge} {guard : Option (Nat × Bool)} :
    (execOp a.eval ⟨dst, .call ⟨.value x, args, ts⟩, type, pos, after, guard⟩).run P w = .ok (.enter f ((args.toList.map a.eval) ++ caps.toList).toArray) w := by
  obtain ⟨fn, hfn, hbody, hname⟩ := hc
  have hargs : args.map a.eval ++ caps = ((args.toList.map a.eval) ++ caps.toList).toArray := by apply Array.ext'; simp
  simp only [execOp, resolve, hx, Deferred.ofValue]
  simp [invoke, callFunc, hfn, hname, hbody, ← hargs]
/-- A call of a closure. -/
theorem ok_callc {all r : List Oper} {o : Oper} {k : List Item} {st : St} {Q0 : Exit → Act → World → Prop} {c : Call} {f : FuncId} {caps : List Nat} {x : Operand} {args : List SV} {pre : Mem} {post : SV → Mem → Prop} (σ : List Nat)
    (hop : o.op = .call c) (hcal : c.callee = .value x) (hx : st.ev x = one (.fn f caps)) (hc : Callable P f) (hS : Spec P f args pre [] post)
    (hg : guardOf st all o (fun _ => True) (fun _ => False))
    (hσ : σ.Nodup) (hpre : matchM (ix σ st.m.length) pre.length st.m pre σ) (hbel : args.all (belV pre.length) = true) (hargs : c.args.toList.map st.ev ++ caps.map (fun i => one (.ptr i 0 0)) = args.map (renV (ix σ st.m.length)))
    (hod : okd N o.dst)
    (hpost : ∀ sv m', post sv m' → pre.length ≤ m'.length → Ok P E N Q0 (.ops all r :: k) ((St.mk st.sl (afterM (ix σ st.m.length) st.m pre σ m')).put o.dst (renV (ix σ st.m.length) sv))) :
    Ok P E N Q0 (.ops all (o :: r) :: k) st := by
  intro a w hh
  rcases guard_ok hg hh with ⟨hw, _⟩ | ⟨_, st', hf, _⟩
  · show wpList P all.toArray (semK P E N Q0 k) (o :: r) a w
    refine wpList_do hw ?_
    obtain ⟨ℓ, h1, h2, h3, h4⟩ := hh
    have hev := fun x => ev_den (ℓ := ℓ) (st := st) (a := a) h1 x
    have hdx := hev x
    rw [hx] at hdx
    obtain ⟨Ls, hL, hxv⟩ := hdx
    have hcaps : DenVs ℓ (caps.map (fun i => one (.ptr i 0 0))) (Ls.map (fun L => Value.pointer (some ⟨L.blk, L.base, none⟩))) := by
      clear hargs hx hxv
      induction caps generalizing Ls with
      | nil => cases Ls with
        | nil => trivial
        | cons L Ls => simp at hL
      | cons i caps ih => cases Ls with
        | nil => simp at hL
        | cons L Ls =>
          simp only [List.map_cons, List.cons.injEq] at hL
          exact ⟨⟨L, hL.1.symm, by simp⟩, ih Ls hL.2⟩
    have hvs : DenVs ℓ (args.map (renV (ix σ st.m.length))) (c.args.toList.map a.eval ++ Ls.map (fun L => Value.pointer (some ⟨L.blk, L.base, none⟩))) := by
      rw [← hargs]
      have h0 := denVs_map hev c.args.toList
      revert h0
      generalize c.args.toList.map st.ev = xs
      generalize c.args.toList.map a.eval = vs
      intro h0
      clear hargs
      induction xs generalizing vs with
      | nil => cases vs with
        | nil => exact hcaps
        | cons => exact h0.elim
      | cons y ys ih => cases vs with
        | nil => exact h0.elim
        | cons v vs => exact ⟨h0.1, ih vs h0.2⟩
    have hcall := hS.use h2 σ hσ hpre hbel hvs
    obtain ⟨dst, op, type, pos, after, guard⟩ := o
    simp only at hop; subst hop
    obtain ⟨callee, cargs, cts⟩ := c
    simp only at hcal; subst hcal
    unfold Oper.wp
    rw [enter_run_fn hc hxv]
    simp only [Oper.upon]
    refine hcall.mono ?_
    rintro e w' ⟨sv, m', ℓ', v, rfl, g1, g2, g3, g4, g5⟩
    obtain ⟨p1, p2, p3⟩ := put_den (st := ⟨st.sl, afterM (ix σ st.m.length) st.m pre σ m'⟩) (d := dst) (fun t => (h1 t).mono g3) (by rw [h4]; exact hod) g4
    exact hpost sv m' g1 g2 _ w' ⟨ℓ', p1, by cases dst <;> exact g5, p2.trans h3, p3.trans h4⟩
  · exact hf.elim
end
theorem run_callc {T : Tab} {pu : Pure} {fr : Nat → Bool} {N : Nat} {fin : St → Prop} {leaf : List Item → St → Prop} {n : Nat} {k : List Item} {st : St} {all r : List Oper} {o : Oper} {c : Call} {t : Nat} (hg : o.guard = none) (ho : o.op = .call c) (hc : c.callee = .value (.tmp t))
    (h : leaf (.ops all (o :: r) :: k) st) : run T pu fr N fin leaf (n + 1) (.ops all (o :: r) :: k) st := by
  rw [run_ops]
  unfold guardOf
  rw [hg]
  obtain ⟨callee, args, ats⟩ := c
  simp only at hc
  subst hc
  simp only [step1, ho]
  exact h
def pureX (f : FuncId) (l : List SV) : Option SV :=
  match f, l with
  | 65, [.one (.st [⟨1, .s (.u64 a)⟩, ⟨1, .s (.u64 b)⟩]), .one (.st [⟨1, .s (.u64 c)⟩, ⟨1, .s (.u64 d)⟩])] => some (.one (gfA (gR (a, b) (c, d) 128)))
  | _, _ => none
theorem pureX_ok : PureOK prog (pureOf pureX) := by
  refine pureOf_ok ?_
  intro f svs sv h
  unfold pureX at h
  split at h
  · cases h
    exact ⟨⟨f65, func65, nofun, by decide⟩, spec65 (_, _) (_, _), rfl, rfl⟩
  · cases h
/-- The closure of Hash: y is multiplied on. -/
theorem spec64 (x y k : G) : Spec prog 64 [.one (gfA x), one (.ptr 0 0 0), one (.ptr 1 0 0)] [.ent ⟨true, 115, some 2, gfA y⟩, .ent ⟨false, 115, none, gfA k⟩] [] (fun r m => r = .tup [] ∧ m = [.ent ⟨true, 115, some 2, gfA (gR (y.1 ^^^ x.1, y.2 ^^^ x.2) k 128)⟩, .ent ⟨false, 115, none, gfA k⟩, .ent ⟨true, 115, some 2, gfA x⟩]) := by
  refine spec_of_body tabOK func64 rfl (Nat.le_of_ble_eq_true rfl) ?_
  intro E Q0 hB
  refine ok_run hB tabOK pureX_ok 100 ?_
  simp only [argSl, gfA]
  repeat (first
    | rw [run_ops0]
    | rw [run_seq]
    | rw [run_region]
    | rw [run_block]
    | rw [run_blk]
    | rw [run_skip]
    | (apply run_go rfl; focus (intro L K hK; simp [-List.reduceReplicate, -List.getD_eq_getElem?_getD, pureX, pureOf, gfA]; (repeat' apply And.intro); all_goals first | exact hK | omega)))
  rw [run_nil]
  simp [-List.reduceReplicate, -List.getD_eq_getElem?_getD, results64, f64, gfA]
end Go.V
end
section
set_option linter.unusedSimpArgs false
set_option linter.unusedVariables false
set_option maxRecDepth 10000
namespace Go.V
open Go Go.Proofs.Try
/-- of, over bytes in memory. -/
def pureO : Pure := fun m f l => match f, l with
  | 63, [.one (.s (.sl id off n cap 1))] => match m[id]? with
    | some (.ent e) => match e.c with
      | .a8 B => if n ≤ 16 ∧ off + n ≤ B.length ∧ n ≤ cap then some (.one (gfA (ofG (pad16 ((B.drop off).take n))))) else none
      | _ => none
    | _ => none
  | _, _ => none
theorem pureO_sub : PureSub pureO := by
  intro m m' f l v hs h
  unfold pureO at h ⊢
  split at h
  · split at h
    · rename_i hm
      simp only [hs _ _ hm]
      exact h
    · cases h
  · cases h
theorem pureO_ok : PureOK prog pureO := by
  intro m f svs sv h E w ℓ vs hm hd
  unfold pureO at h
  split at h
  · split at h
    · rename_i id off n cap _ e he
      split at h
      · rename_i B hc
        split at h
        · rename_i hcond
          obtain ⟨h1, h2, h3⟩ := hcond
          cases h
          refine ⟨⟨f63, func63, nofun, by decide⟩, pure_use (spec63 B off n cap h1 h2 h3) (by simp) (by simp [belV, belA, gfA, belR, belS]) hm [id] (by simp) (by simp [matchM, ix, renA, belA, he, hc]) rfl ?_⟩
          simpa [renV, renA, renS, ix, one] using hd
        · cases h
      · cases h
    · cases h
  · cases h
def xorG (a b : G) : G := (a.1 ^^^ b.1, a.2 ^^^ b.2)
/-- Blocks of data, taken up one by one. -/
def absG (k y : G) (D : B8) : Nat → G
  | 0 => y
  | j + 1 => gR (xorG (absG k y D j) (ofG (pad16 ((D.drop (16 * j)).take 16)))) k 128
def absAll (k y : G) (D : B8) : G := absG k y D ((D.length + 15) / 16)
def lenG (a c : Nat) : G := (BitVec.ofInt 64 a <<< 3, BitVec.ofInt 64 c <<< 3)
def outG (y : G) : Nat → B8
  | 0 => zero16
  | j + 1 => ((outG y j).set (7 - j) ((y.1 >>> (8 * j)).setWidth 8)).set (15 - j) ((y.2 >>> (8 * j)).setWidth 8)
theorem outG_len (y : G) : ∀ j, (outG y j).length = 16
  | 0 => rfl
  | j + 1 => by simp [outG, outG_len y j]
/-- The hash of data that goes along and of what is sealed. -/
def hashG (h A C : B8) : B8 := outG (gR (xorG (absAll (ofG (pad16 h)) (absAll (ofG (pad16 h)) (0#64, 0#64) A) C) (lenG A.length C.length)) (ofG (pad16 h)) 128) 8
theorem blk_eq (B : B8) (o n j : Nat) (h : o + n ≤ B.length) (hj : 16 * j < n) : (B.drop (o + 16 * j)).take (min (16 * j + 16) n - 16 * j) = (((B.drop o).take n).drop (16 * j)).take 16 := by
  rw [List.drop_take, List.take_take, List.drop_drop]
  congr 1
  omega
def hyG (k : G) (DA DC : B8) : Nat → G
  | 0 => (0#64, 0#64)
  | 1 => absAll k (0#64, 0#64) DA
  | _ => absAll k (absAll k (0#64, 0#64) DA) DC
theorem spec26 (h D C : B8) (oa na ca oc nc cc : Nat) (hh : h.length = 16) (hA : oa + na ≤ D.length) (hC : oc + nc ≤ C.length) (hca : na ≤ ca) (hcc : nc ≤ cc) (hmA : na ≤ 4611686018427387904) (hmC : nc ≤ 4611686018427387904) :
    Spec prog 26 [.one (.a8 h), one (.sl 1 oa na ca 1), one (.sl 0 oc nc cc 1)] [.ent ⟨false, 5, none, .a8 C⟩, .ent ⟨false, 5, none, .a8 D⟩] [] (fun r _ => r = .one (.a8 (hashG h ((D.drop oa).take na) ((C.drop oc).take nc)))) := by
  refine spec_of_body tabOK func26 rfl (Nat.le_of_ble_eq_true rfl) ?_
  intro E Q0 hB
  refine ok_run hB tabOK pureO_ok 100 ?_
  simp only [argSl]
  have hpd : h.take 16 = h := List.take_of_length_le (by omega)
  repeat (first
    | rw [run_ops0]
    | rw [run_seq]
    | rw [run_region]
    | rw [run_block]
    | rw [run_blk]
    | rw [run_skip]
    | (apply run_go rfl; focus (intro L K hK; simp [-List.reduceReplicate, -List.getD_eq_getElem?_getD, hh, hpd, pureO, gfA]; (repeat' apply And.intro); all_goals first | exact hK | omega)))
  -- the two texts
  simp only [List.replicate_succ, List.replicate_zero, List.set_cons_zero, List.set_cons_succ]
  generalize hK : ofG (pad16 h) = K
  rw [run_loop]
  refine ok_loop (X := Nat) (fun i => ⟨[(22, one (.i i)), (21, one (.i 2)), (20, one (.sl 6 0 2 2 1)), (9, one (.fn 64 [5, 4])), (8, one (.ptr 5 0 0)), (6, one (.ptr 3 0 0)), (1, one (.sl 1 oa na ca 1)), (2, one (.sl 0 oc nc cc 1))], [.ent ⟨false, 5, none, .a8 C⟩, .ent ⟨false, 5, none, .a8 D⟩, .ent ⟨true, 23, some 16, .a8 h⟩, .ent ⟨true, 23, some 16, .a8 zero16⟩, .ent ⟨true, 115, some 2, gfA K⟩, .ent ⟨true, 115, some 2, gfA (hyG K ((D.drop oa).take na) ((C.drop oc).take nc) i)⟩, .ent ⟨true, 22, none, .agg [.sl 1 oa na ca 1, .sl 0 oc nc cc 1]⟩]⟩) (fun i => i ≤ 2) (fun i => 2 - i) (fun j i L h => by have := hB.anc i L h; simp at this ⊢; omega) ⟨0, by omega, by simp [-List.reduceReplicate, -List.getD_eq_getElem?_getD, gfA, hyG, zero16]⟩ ?_
  intro i hi
  refine ok_run hB tabOK pureO_ok 100 ?_
  simp only [gfA]
  repeat (first
    | rw [run_ops0]
    | rw [run_seq]
    | rw [run_region]
    | rw [run_block]
    | rw [run_blk]
    | rw [run_skip]
    | (apply run_go rfl; focus (intro L K hK; simp [-List.reduceReplicate, -List.getD_eq_getElem?_getD, List.getD_cons_zero, List.getD_cons_succ]; (repeat' apply And.intro); all_goals first | exact hK | omega)))
  apply run_cond2 rfl
  · intro h1
    simp at h1
    have hi2 : i = 0 ∨ i = 1 := by omega
    rcases hi2 with rfl | rfl
    · -- the first
      repeat (first
    | rw [run_ops0]
    | rw [run_seq]
    | rw [run_region]
    | rw [run_block]
    | rw [run_blk]
    | rw [run_skip]
    | (apply run_go rfl; focus (intro L K hK; simp [-List.reduceReplicate, -List.getD_eq_getElem?_getD, List.getD_cons_zero, List.getD_cons_succ]; (repeat' apply And.intro); all_goals first | exact hK | omega)))
      rw [run_loop]
      refine ok_loop (X := Nat) (fun j => ⟨[(12, one (.i (16 * j : Nat))), (11, one (.sl 1 oa na ca 1)), (22, one (.i 0)), (21, one (.i 2)), (20, one (.sl 6 0 2 2 1)), (9, one (.fn 64 [5, 4])), (8, one (.ptr 5 0 0)), (6, one (.ptr 3 0 0)), (1, one (.sl 1 oa na ca 1)), (2, one (.sl 0 oc nc cc 1))], [.ent ⟨false, 5, none, .a8 C⟩, .ent ⟨false, 5, none, .a8 D⟩, .ent ⟨true, 23, some 16, .a8 h⟩, .ent ⟨true, 23, some 16, .a8 zero16⟩, .ent ⟨true, 115, some 2, gfA K⟩, .ent ⟨true, 115, some 2, gfA (absG K (hyG K ((D.drop oa).take na) ((C.drop oc).take nc) 0) (((D.drop oa).take na)) j)⟩, .ent ⟨true, 22, none, .agg [.sl 1 oa na ca 1, .sl 0 oc nc cc 1]⟩]⟩) (fun j => j ≤ (na + 15) / 16) (fun j => (na + 15) / 16 - j) (fun j i L h => by have := hB.anc i L h; simp at this ⊢; omega) ⟨0, by omega, by simp [-List.reduceReplicate, -List.getD_eq_getElem?_getD, absG, gfA, zero16, hyG, List.getD_cons_zero, List.getD_cons_succ]⟩ ?_
      intro j hj
      refine ok_run hB tabOK pureO_ok 100 ?_
      simp only [gfA]
      repeat (first
    | rw [run_ops0]
    | rw [run_seq]
    | rw [run_region]
    | rw [run_block]
    | rw [run_blk]
    | rw [run_skip]
    | (apply run_go rfl; focus (intro L K hK; simp [-List.reduceReplicate, -List.getD_eq_getElem?_getD, List.getD_cons_zero, List.getD_cons_succ]; (repeat' apply And.intro); all_goals first | exact hK | omega)))
      apply run_cond2 rfl
      · intro h2
        simp at h2
        have h2' : 16 * j < na := by omega
        have e0 : (16 * (j : Int)).toNat = 16 * j := by omega
        obtain ⟨L, hL⟩ : ∃ L, L = min (16 * j + 16) na - 16 * j := ⟨_, rfl⟩
        have e1 : (if (na : Int) < 16 * (j : Int) + 16 then (na : Int) else 16 * (j : Int) + 16) = 16 * (j : Int) + (L : Int) := by split <;> omega
        have e2 : 16 * (j : Int) + (L : Int) - 16 * (j : Int) = (L : Int) := by omega
        have e3 : ((ca : Int) - 16 * (j : Int)).toNat = ca - 16 * j := by omega
        have c1 : L ≤ 16 := by omega
        have c2 : oa + 16 * j + L ≤ D.length := by omega
        have c3 : L ≤ ca - 16 * j := by omega
        have hbq := blk_eq D oa na j hA h2'
        rw [← hL] at hbq
        repeat (first
    | rw [run_ops0]
    | rw [run_seq]
    | rw [run_region]
    | rw [run_block]
    | rw [run_blk]
    | rw [run_skip]
    | (apply run_go rfl; focus (intro L K hK; simp [-List.reduceReplicate, -List.getD_eq_getElem?_getD, List.getD_cons_zero, List.getD_cons_succ, e0, e1, e2, e3, c1, c2, c3, hbq, pureO, gfA]; (repeat' apply And.intro); all_goals first | exact hK | omega)))
        refine run_callc rfl rfl rfl ?_
        refine ok_callc [5, 4] rfl rfl rfl ⟨f64, func64, nofun, by decide⟩ (spec64 (ofG (pad16 ((((D.drop oa).take na).drop (16 * j)).take 16))) (absG K (hyG K ((D.drop oa).take na) ((C.drop oc).take nc) 0) ((D.drop oa).take na) j) K) trivial (by simp) (by simp [matchM, ix, renA, renSeg, renR, renS, belA, belR, belS, gfA, A.len, segLen]) rfl rfl (Nat.le_of_ble_eq_true rfl) ?_
        rintro sv m' ⟨rfl, rfl⟩ _
        simp only [gfA, afterM, putM, renMk, renA, renSeg, renR, renS, renV, ix, St.put, List.map_cons, List.map_nil, List.drop, List.length_cons, List.length_nil, List.cons_append, List.nil_append]
        simp
        refine ok_run hB tabOK pureO_ok 100 ?_
        repeat (first
    | rw [run_ops0]
    | rw [run_seq]
    | rw [run_region]
    | rw [run_block]
    | rw [run_blk]
    | rw [run_skip]
    | (apply run_go rfl; focus (intro L K hK; simp [-List.reduceReplicate, -List.getD_eq_getElem?_getD, List.getD_cons_zero, List.getD_cons_succ]; (repeat' apply And.intro); all_goals first | exact hK | omega)))
        rw [run_back]
        refine ⟨j + 1, by omega, by omega, ?_⟩
        simp [-List.reduceReplicate, -List.getD_eq_getElem?_getD, gfA, absG, xorG, zero16, List.getD_cons_zero, List.getD_cons_succ]
        omega
      · intro h2
        simp at h2
        obtain rfl : j = (na + 15) / 16 := by omega
        apply run_exit2 rfl
        repeat (first
    | rw [run_ops0]
    | rw [run_seq]
    | rw [run_region]
    | rw [run_block]
    | rw [run_blk]
    | rw [run_skip]
    | (apply run_go rfl; focus (intro L K hK; simp [-List.reduceReplicate, -List.getD_eq_getElem?_getD, List.getD_cons_zero, List.getD_cons_succ]; (repeat' apply And.intro); all_goals first | exact hK | omega)))
        rw [run_back]
        refine ⟨1, by omega, by omega, ?_⟩
        have hab : absG K (hyG K ((D.drop oa).take na) ((C.drop oc).take nc) 0) ((D.drop oa).take na) ((na + 15) / 16) = hyG K ((D.drop oa).take na) ((C.drop oc).take nc) 1 := by
          show _ = absAll _ _ _
          unfold absAll
          rw [show (((D.drop oa).take na)).length = na by simp; omega]
          rfl
        rw [hab]
        simp [-List.reduceReplicate, -List.getD_eq_getElem?_getD, gfA]
    · -- the second
      repeat (first
    | rw [run_ops0]
    | rw [run_seq]
    | rw [run_region]
    | rw [run_block]
    | rw [run_blk]
    | rw [run_skip]
    | (apply run_go rfl; focus (intro L K hK; simp [-List.reduceReplicate, -List.getD_eq_getElem?_getD, List.getD_cons_zero, List.getD_cons_succ]; (repeat' apply And.intro); all_goals first | exact hK | omega)))
      rw [run_loop]
      refine ok_loop (X := Nat) (fun j => ⟨[(12, one (.i (16 * j : Nat))), (11, one (.sl 0 oc nc cc 1)), (22, one (.i 1)), (21, one (.i 2)), (20, one (.sl 6 0 2 2 1)), (9, one (.fn 64 [5, 4])), (8, one (.ptr 5 0 0)), (6, one (.ptr 3 0 0)), (1, one (.sl 1 oa na ca 1)), (2, one (.sl 0 oc nc cc 1))], [.ent ⟨false, 5, none, .a8 C⟩, .ent ⟨false, 5, none, .a8 D⟩, .ent ⟨true, 23, some 16, .a8 h⟩, .ent ⟨true, 23, some 16, .a8 zero16⟩, .ent ⟨true, 115, some 2, gfA K⟩, .ent ⟨true, 115, some 2, gfA (absG K (hyG K ((D.drop oa).take na) ((C.drop oc).take nc) 1) (((C.drop oc).take nc)) j)⟩, .ent ⟨true, 22, none, .agg [.sl 1 oa na ca 1, .sl 0 oc nc cc 1]⟩]⟩) (fun j => j ≤ (nc + 15) / 16) (fun j => (nc + 15) / 16 - j) (fun j i L h => by have := hB.anc i L h; simp at this ⊢; omega) ⟨0, by omega, by simp [-List.reduceReplicate, -List.getD_eq_getElem?_getD, absG, gfA, zero16, hyG, List.getD_cons_zero, List.getD_cons_succ]⟩ ?_
      intro j hj
      refine ok_run hB tabOK pureO_ok 100 ?_
      simp only [gfA]
      repeat (first
    | rw [run_ops0]
    | rw [run_seq]
    | rw [run_region]
    | rw [run_block]
    | rw [run_blk]
    | rw [run_skip]
    | (apply run_go rfl; focus (intro L K hK; simp [-List.reduceReplicate, -List.getD_eq_getElem?_getD, List.getD_cons_zero, List.getD_cons_succ]; (repeat' apply And.intro); all_goals first | exact hK | omega)))
      apply run_cond2 rfl
      · intro h2
        simp at h2
        have h2' : 16 * j < nc := by omega
        have e0 : (16 * (j : Int)).toNat = 16 * j := by omega
        obtain ⟨L, hL⟩ : ∃ L, L = min (16 * j + 16) nc - 16 * j := ⟨_, rfl⟩
        have e1 : (if (nc : Int) < 16 * (j : Int) + 16 then (nc : Int) else 16 * (j : Int) + 16) = 16 * (j : Int) + (L : Int) := by split <;> omega
        have e2 : 16 * (j : Int) + (L : Int) - 16 * (j : Int) = (L : Int) := by omega
        have e3 : ((cc : Int) - 16 * (j : Int)).toNat = cc - 16 * j := by omega
        have c1 : L ≤ 16 := by omega
        have c2 : oc + 16 * j + L ≤ C.length := by omega
        have c3 : L ≤ cc - 16 * j := by omega
        have hbq := blk_eq C oc nc j hC h2'
        rw [← hL] at hbq
        repeat (first
    | rw [run_ops0]
    | rw [run_seq]
    | rw [run_region]
    | rw [run_block]
    | rw [run_blk]
    | rw [run_skip]
    | (apply run_go rfl; focus (intro L K hK; simp [-List.reduceReplicate, -List.getD_eq_getElem?_getD, List.getD_cons_zero, List.getD_cons_succ, e0, e1, e2, e3, c1, c2, c3, hbq, pureO, gfA]; (repeat' apply And.intro); all_goals first | exact hK | omega)))
        refine run_callc rfl rfl rfl ?_
        refine ok_callc [5, 4] rfl rfl rfl ⟨f64, func64, nofun, by decide⟩ (spec64 (ofG (pad16 ((((C.drop oc).take nc).drop (16 * j)).take 16))) (absG K (hyG K ((D.drop oa).take na) ((C.drop oc).take nc) 1) ((C.drop oc).take nc) j) K) trivial (by simp) (by simp [matchM, ix, renA, renSeg, renR, renS, belA, belR, belS, gfA, A.len, segLen]) rfl rfl (Nat.le_of_ble_eq_true rfl) ?_
        rintro sv m' ⟨rfl, rfl⟩ _
        simp only [gfA, afterM, putM, renMk, renA, renSeg, renR, renS, renV, ix, St.put, List.map_cons, List.map_nil, List.drop, List.length_cons, List.length_nil, List.cons_append, List.nil_append]
        simp
        refine ok_run hB tabOK pureO_ok 100 ?_
        repeat (first
    | rw [run_ops0]
    | rw [run_seq]
    | rw [run_region]
    | rw [run_block]
    | rw [run_blk]
    | rw [run_skip]
    | (apply run_go rfl; focus (intro L K hK; simp [-List.reduceReplicate, -List.getD_eq_getElem?_getD, List.getD_cons_zero, List.getD_cons_succ]; (repeat' apply And.intro); all_goals first | exact hK | omega)))
        rw [run_back]
        refine ⟨j + 1, by omega, by omega, ?_⟩
        simp [-List.reduceReplicate, -List.getD_eq_getElem?_getD, gfA, absG, xorG, zero16, List.getD_cons_zero, List.getD_cons_succ]
        omega
      · intro h2
        simp at h2
        obtain rfl : j = (nc + 15) / 16 := by omega
        apply run_exit2 rfl
        repeat (first
    | rw [run_ops0]
    | rw [run_seq]
    | rw [run_region]
    | rw [run_block]
    | rw [run_blk]
    | rw [run_skip]
    | (apply run_go rfl; focus (intro L K hK; simp [-List.reduceReplicate, -List.getD_eq_getElem?_getD, List.getD_cons_zero, List.getD_cons_succ]; (repeat' apply And.intro); all_goals first | exact hK | omega)))
        rw [run_back]
        refine ⟨2, by omega, by omega, ?_⟩
        have hab : absG K (hyG K ((D.drop oa).take na) ((C.drop oc).take nc) 1) ((C.drop oc).take nc) ((nc + 15) / 16) = hyG K ((D.drop oa).take na) ((C.drop oc).take nc) 2 := by
          show _ = absAll _ _ _
          unfold absAll
          rw [show (((C.drop oc).take nc)).length = nc by simp; omega]
          rfl
        rw [hab]
        simp [-List.reduceReplicate, -List.getD_eq_getElem?_getD, gfA]
  · intro h1
    simp at h1
    obtain rfl : i = 2 := by omega
    apply run_exit2 rfl
    repeat (first
    | rw [run_ops0]
    | rw [run_seq]
    | rw [run_region]
    | rw [run_block]
    | rw [run_blk]
    | rw [run_skip]
    | (apply run_go rfl; focus (intro L K hK; simp [-List.reduceReplicate, -List.getD_eq_getElem?_getD, List.getD_cons_zero, List.getD_cons_succ]; (repeat' apply And.intro); all_goals first | exact hK | omega)))
    refine run_callc rfl rfl rfl ?_
    refine ok_callc [5, 4] rfl rfl rfl ⟨f64, func64, nofun, by decide⟩ (spec64 (lenG na nc) (hyG K ((D.drop oa).take na) ((C.drop oc).take nc) 2) K) trivial (by simp) (by simp [matchM, ix, renA, renSeg, renR, renS, belA, belR, belS, gfA, A.len, segLen]) rfl rfl (Nat.le_of_ble_eq_true rfl) ?_
    rintro sv m' ⟨rfl, rfl⟩ _
    simp only [gfA, afterM, putM, renMk, renA, renSeg, renR, renS, renV, ix, St.put, List.map_cons, List.map_nil, List.drop, List.length_cons, List.length_nil, List.cons_append, List.nil_append]
    simp
    refine ok_run hB tabOK pureO_ok 100 ?_
    repeat (first
    | rw [run_ops0]
    | rw [run_seq]
    | rw [run_region]
    | rw [run_block]
    | rw [run_blk]
    | rw [run_skip]
    | (apply run_go rfl; focus (intro L K hK; simp [-List.reduceReplicate, -List.getD_eq_getElem?_getD, List.getD_cons_zero, List.getD_cons_succ]; (repeat' apply And.intro); all_goals first | exact hK | omega)))
    have hY : gR (xorG (hyG K ((D.drop oa).take na) ((C.drop oc).take nc) 2) (lenG na nc)) K 128 = gR ((hyG K ((D.drop oa).take na) ((C.drop oc).take nc) 2).1 ^^^ (lenG na nc).1, (hyG K ((D.drop oa).take na) ((C.drop oc).take nc) 2).2 ^^^ (lenG na nc).2) K 128 := rfl
    have hfin : hashG h ((D.drop oa).take na) ((C.drop oc).take nc) = outG (gR ((hyG K ((D.drop oa).take na) ((C.drop oc).take nc) 2).1 ^^^ (lenG na nc).1, (hyG K ((D.drop oa).take na) ((C.drop oc).take nc) 2).2 ^^^ (lenG na nc).2) K 128) 8 := by
      unfold hashG
      rw [hK, show ((D.drop oa).take na).length = na by simp; omega, show ((C.drop oc).take nc).length = nc by simp; omega]
      rfl
    generalize hYe : gR ((hyG K ((D.drop oa).take na) ((C.drop oc).take nc) 2).1 ^^^ (lenG na nc).1, (hyG K ((D.drop oa).take na) ((C.drop oc).take nc) 2).2 ^^^ (lenG na nc).2) K 128 = Y at hfin ⊢
    rw [run_loop]
    refine ok_loop (X := Nat) (fun j => ⟨[(55, one (.i j)), (13, one (.ptr 8 0 0)), (8, one (.ptr 5 0 0)), (6, one (.ptr 3 0 0))], [.ent ⟨false, 5, none, .a8 C⟩, .ent ⟨false, 5, none, .a8 D⟩, .ent ⟨true, 23, some 16, .a8 h⟩, .ent ⟨true, 23, some 16, .a8 zero16⟩, .ent ⟨true, 115, some 2, gfA K⟩, .ent ⟨true, 115, some 2, gfA Y⟩, .ent ⟨true, 22, none, .agg [.sl 1 oa na ca 1, .sl 0 oc nc cc 1]⟩, .ent ⟨true, 115, some 2, gfA (lenG na nc)⟩, .ent ⟨true, 23, some 16, .a8 (outG Y j)⟩]⟩) (fun j => j ≤ 8) (fun j => 8 - j) (fun j i L h => by have := hB.anc i L h; simp at this ⊢; omega) ⟨0, by omega, by simp [-List.reduceReplicate, -List.getD_eq_getElem?_getD, gfA, outG, zero16, hYe]⟩ ?_
    intro j hj
    refine ok_run hB tabOK pureO_ok 100 ?_
    simp only [gfA]
    have hol := outG_len Y j
    repeat (first
    | rw [run_ops0]
    | rw [run_seq]
    | rw [run_region]
    | rw [run_block]
    | rw [run_blk]
    | rw [run_skip]
    | (apply run_go rfl; focus (intro L K hK; simp [-List.reduceReplicate, -List.getD_eq_getElem?_getD, List.getD_cons_zero, List.getD_cons_succ]; (repeat' apply And.intro); all_goals first | exact hK | omega)))
    apply run_cond2 rfl
    · intro h2
      simp at h2
      have e1 : (7 - (j : Int)).toNat = 7 - j := by omega
      have e2 : (15 - (j : Int)).toNat = 15 - j := by omega
      have e3 : (8 * (j : Int)).toNat = 8 * j := by omega
      repeat (first
    | rw [run_ops0]
    | rw [run_seq]
    | rw [run_region]
    | rw [run_block]
    | rw [run_blk]
    | rw [run_skip]
    | (apply run_go rfl; focus (intro L K hK; simp [-List.reduceReplicate, -List.getD_eq_getElem?_getD, List.getD_cons_zero, List.getD_cons_succ, e1, e2, e3, hol]; (repeat' apply And.intro); all_goals first | exact hK | omega)))
      rw [run_back]
      refine ⟨j + 1, by omega, by omega, ?_⟩
      simp [-List.reduceReplicate, -List.getD_eq_getElem?_getD, gfA, outG]
    · intro h2
      simp at h2
      obtain rfl : j = 8 := by omega
      apply run_exit2 rfl
      repeat (first
    | rw [run_ops0]
    | rw [run_seq]
    | rw [run_region]
    | rw [run_block]
    | rw [run_blk]
    | rw [run_skip]
    | (apply run_go rfl; focus (intro L K hK; simp [-List.reduceReplicate, -List.getD_eq_getElem?_getD, List.getD_cons_zero, List.getD_cons_succ, hol]; (repeat' apply And.intro); all_goals first | exact hK | omega)))
      rw [run_ret]
      simp [-List.reduceReplicate, -List.getD_eq_getElem?_getD, results26, f26, hfin, hol]
end Go.V
end
section
set_option linter.unusedSimpArgs false
set_option linter.unusedVariables false
set_option maxRecDepth 10000
namespace Go.V
open Go Go.Proofs.Try
abbrev LI := List Int
def Byt (l : LI) : Prop := ∀ i, 0 ≤ l.getD i 0 ∧ l.getD i 0 < 256
theorem Byt.set {l : LI} (h : Byt l) {j : Nat} {x : Int} (hx : 0 ≤ x ∧ x < 256) : Byt (l.set j x) := by
  intro i
  have h2 := h i
  simp only [List.getD_eq_getElem?_getD] at h2 ⊢
  rw [List.getElem?_set]
  split
  · split
    · simpa using hx
    · simp
  · exact h2
theorem nat_xor_lt {a b : Nat} (ha : a < 256) (hb : b < 256) : a ^^^ b < 256 := Nat.xor_lt_two_pow (n := 8) ha hb
def zero16I : LI := [0, 0, 0, 0, 0, 0, 0, 0, 0, 0, 0, 0, 0, 0, 0, 0]
theorem zero16I_byt : Byt zero16I := by
  intro i
  by_cases h : i < 16
  · have : ∀ i : Fin 16, 0 ≤ zero16I.getD i.1 0 ∧ zero16I.getD i.1 0 < 256 := by decide
    exact this ⟨i, h⟩
  · rw [List.getD_eq_getElem?_getD, List.getElem?_eq_none (by simp [zero16I]; omega)]; simp
def iniS (b : B8) (W : LI) : Nat → LI
  | 0 => zero16I
  | j + 1 => (iniS b W j).set (j / 4 * 4 + j % 4) (((b.getD j 0).toNat ^^^ (W.getD (j / 4 * 4 + j % 4) 0).toNat : Nat) : Int)
theorem iniS_len (b : B8) (W : LI) : ∀ j, (iniS b W j).length = 16
  | 0 => rfl
  | j + 1 => by simp [iniS, iniS_len b W j]
theorem iniS_byt (b : B8) {W : LI} (hW : Byt W) : ∀ j, Byt (iniS b W j)
  | 0 => zero16I_byt
  | j + 1 => (iniS_byt b hW j).set (by
      have := nat_xor_lt (a := (b.getD j 0).toNat) (b := (W.getD (j / 4 * 4 + j % 4) 0).toNat) (b.getD j 0).isLt (by have := hW (j / 4 * 4 + j % 4); omega)
      omega)
def innT (sb s : LI) (c : Nat) (t : LI) : Nat → LI
  | 0 => t
  | i + 1 => (innT sb s c t i).set (c * 4 + i) (sb.getD (s.getD ((c + i) % 4 * 4 + i) 0).toNat 0)
def outT (sb s : LI) : Nat → LI
  | 0 => zero16I
  | c + 1 => innT sb s c (outT sb s c) 4
theorem innT_len (sb s : LI) (c : Nat) (t : LI) : ∀ i, (innT sb s c t i).length = t.length
  | 0 => rfl
  | i + 1 => by simp [innT, innT_len sb s c t i]
theorem outT_len (sb s : LI) : ∀ c, (outT sb s c).length = 16
  | 0 => rfl
  | c + 1 => by simp [outT, innT_len, outT_len sb s c]
theorem innT_byt {sb : LI} (hs : Byt sb) (s : LI) (c : Nat) {t : LI} (ht : Byt t) : ∀ i, Byt (innT sb s c t i)
  | 0 => ht
  | i + 1 => (innT_byt hs s c ht i).set (hs _)
theorem outT_byt {sb : LI} (hs : Byt sb) (s : LI) : ∀ c, Byt (outT sb s c)
  | 0 => zero16I_byt
  | c + 1 => innT_byt hs s c (outT_byt hs s c) 4
def matL : LI := [2, 3, 1, 1, 1, 2, 3, 1, 1, 1, 2, 3, 3, 1, 1, 2]
theorem matL_byt : Byt matL := by
  intro i
  by_cases h : i < 16
  · have : ∀ i : Fin 16, 0 ≤ matL.getD i.1 0 ∧ matL.getD i.1 0 < 256 := by decide
    exact this ⟨i, h⟩
  · rw [List.getD_eq_getElem?_getD, List.getElem?_eq_none (by simp [matL]; omega)]; simp
def cellX (mx : Bool) (t : LI) (c i : Nat) : Int :=
  if mx = true then xorI (xorI (xorI (timesR (matL.getD (i * 4) 0) (t.getD (c * 4) 0) 8) (timesR (matL.getD (i * 4 + 1) 0) (t.getD (c * 4 + 1) 0) 8)) (timesR (matL.getD (i * 4 + 2) 0) (t.getD (c * 4 + 2) 0) 8)) (timesR (matL.getD (i * 4 + 3) 0) (t.getD (c * 4 + 3) 0) 8)
  else t.getD (c * 4 + i) 0
theorem cellX_lt {t : LI} (ht : Byt t) (mx : Bool) (c i : Nat) : 0 ≤ cellX mx t c i ∧ cellX mx t c i < 256 := by
  unfold cellX
  split
  · exact xorI_lt (xorI_lt (xorI_lt (timesR_lt (matL_byt _) 8) (timesR_lt (matL_byt _) 8)) (timesR_lt (matL_byt _) 8)) (timesR_lt (matL_byt _) 8)
  · exact ht _
def innM (mx : Bool) (t W : LI) (r c : Nat) (s : LI) : Nat → LI
  | 0 => s
  | i + 1 => (innM mx t W r c s i).set (c * 4 + i) (xorI (cellX mx t c i) (W.getD ((4 * r + c) * 4 + i) 0))
def outM (mx : Bool) (t W : LI) (r : Nat) (s : LI) : Nat → LI
  | 0 => s
  | c + 1 => innM mx t W r c (outM mx t W r s c) 4
theorem innM_len (mx : Bool) (t W : LI) (r c : Nat) (s : LI) : ∀ i, (innM mx t W r c s i).length = s.length
  | 0 => rfl
  | i + 1 => by simp [innM, innM_len mx t W r c s i]
theorem outM_len (mx : Bool) (t W : LI) (r : Nat) (s : LI) : ∀ c, (outM mx t W r s c).length = s.length
  | 0 => rfl
  | c + 1 => by simp [outM, innM_len, outM_len mx t W r s c]
theorem innM_byt (mx : Bool) {t W : LI} (ht : Byt t) (hW : Byt W) (r c : Nat) {s : LI} (hs : Byt s) : ∀ i, Byt (innM mx t W r c s i)
  | 0 => hs
  | i + 1 => (innM_byt mx ht hW r c hs i).set (xorI_lt (cellX_lt ht mx c i) (hW _))
theorem outM_byt (mx : Bool) {t W : LI} (ht : Byt t) (hW : Byt W) (r : Nat) {s : LI} (hs : Byt s) : ∀ c, Byt (outM mx t W r s c)
  | 0 => hs
  | c + 1 => innM_byt mx ht hW r c (outM_byt mx ht hW r hs c) 4
def rRounds (sb W : LI) (n : Nat) (s0 : LI) : Nat → LI
  | 0 => s0
  | q + 1 => outM (decide (q + 1 < n + 6)) (outT sb (rRounds sb W n s0 q) 4) W (q + 1) (rRounds sb W n s0 q) 4
theorem rRounds_len (sb W : LI) (n : Nat) (s0 : LI) : ∀ q, (rRounds sb W n s0 q).length = s0.length
  | 0 => rfl
  | q + 1 => by simp [rRounds, outM_len, rRounds_len sb W n s0 q]
theorem rRounds_byt {sb W : LI} (hs : Byt sb) (hW : Byt W) (n : Nat) {s0 : LI} (h0 : Byt s0) : ∀ q, Byt (rRounds sb W n s0 q)
  | 0 => h0
  | q + 1 => outM_byt _ (outT_byt hs _ 4) hW _ (rRounds_byt hs hW n h0 q) 4
def outB (s : LI) : Nat → B8
  | 0 => zero16
  | j + 1 => (outB s j).set j (BitVec.ofInt 8 (s.getD (j / 4 * 4 + j % 4) 0))
theorem outB_len (s : LI) : ∀ j, (outB s j).length = 16
  | 0 => rfl
  | j + 1 => by simp [outB, outB_len s j]
def rkmem (nw cap : Nat) (N : Int) (sb W : LI) : Mem := [.ent ⟨false, 110, some 258, .st [⟨1, .s (.sl 1 0 nw cap 4)⟩, ⟨256, .ai sb⟩, ⟨1, .s (.i N)⟩]⟩, .ent ⟨false, 111, none, .ai W⟩]
set_option maxHeartbeats 1000000 in
theorem spec24 (b : B8) (sb W : LI) (nw cap n : Nat) (hb : b.length = 16) (hW : 4 * nw ≤ W.length) (hN : nw = 4 * (n + 7)) (hn : n < 100) (hsb : sb.length = 256) (hWb : Byt W) (hsbb : Byt sb) : Spec prog 24 [one (.ptr 0 0 0), .one (.a8 b)] (rkmem nw cap n sb W) [] (fun r _ => r = .one (.a8 (outB (rRounds sb W n (iniS b W 16) (n + 6)) 16))) := by
  refine spec_of_body tabOK func24 rfl (Nat.le_of_ble_eq_true rfl) ?_
  intro E Q0 hB
  refine ok_run hB tabOK pureB_ok 100 ?_
  simp only [argSl, rkmem]
  have hlt : ∀ x : BitVec 8, x.toNat < 256 := fun x => x.isLt
  repeat (first
    | rw [run_ops0]
    | rw [run_seq]
    | rw [run_region]
    | rw [run_block]
    | rw [run_blk]
    | rw [run_skip]
    | (apply run_go rfl; focus (intro L K hK; simp [-List.reduceReplicate, -List.getD_eq_getElem?_getD, hb]; (repeat' apply And.intro); all_goals first | exact hK | omega)))
  rw [run_loop]
  refine ok_loop (X := Nat) (fun j => ⟨[(6, one (.i j)), (5, one (.ptr 4 0 0)), (0, one (.ptr 0 0 0)), (3, one (.ptr 2 0 0)), (4, one (.ptr 3 0 0))], rkmem nw cap n sb W ++ [.ent ⟨true, 23, some 16, .a8 b⟩, .ent ⟨true, 23, some 16, .a8 zero16⟩, .ent ⟨true, 113, some 16, .ai (iniS b W j)⟩]⟩) (fun j => j ≤ 16) (fun j => 16 - j) (fun j i L h => by have := hB.anc i L h; simp [rkmem] at this ⊢; omega) ⟨0, by simp, by simp [-List.reduceReplicate, -List.getD_eq_getElem?_getD, iniS, rkmem, zero16, zero16I]⟩ ?_
  intro j hj
  refine ok_run hB tabOK pureB_ok 100 ?_
  have hxl := iniS_len b W j
  simp only [rkmem, List.cons_append, List.nil_append]
  repeat (first
    | rw [run_ops0]
    | rw [run_seq]
    | rw [run_region]
    | rw [run_block]
    | rw [run_blk]
    | rw [run_skip]
    | (apply run_go rfl; focus (intro L K hK; simp [-List.reduceReplicate, -List.getD_eq_getElem?_getD]; (repeat' apply And.intro); all_goals first | exact hK | omega)))
  apply run_cond2 rfl
  · intro h
    simp at h
    have q1 : (j : Int).tdiv 4 = (j : Int) / 4 := Int.tdiv_eq_ediv_of_nonneg (by omega)
    have q2 : (j : Int).tmod 4 = (j : Int) % 4 := Int.tmod_eq_emod_of_nonneg (by omega)
    have q3 : ((j : Int) / 4).toNat = j / 4 := by omega
    have q4 : ((j : Int) % 4).toNat = j % 4 := by omega
    repeat (first
    | rw [run_ops0]
    | rw [run_seq]
    | rw [run_region]
    | rw [run_block]
    | rw [run_blk]
    | rw [run_skip]
    | (apply run_go rfl; focus (intro L K hK; simp [-List.reduceReplicate, -List.getD_eq_getElem?_getD]; (repeat' apply And.intro); all_goals first | exact hK | omega)))
    rw [run_draw]
    refine ok_draw2 21 tabOK pureB_ok (pureOf_mono _) mixed (by decide +kernel) rfl rfl ?_
    have hw := hWb (j / 4 * 4 + j % 4)
    have hx := nat_xor_lt (a := (b.getD j 0).toNat) (b := (W.getD (j / 4 * 4 + j % 4) 0).toNat) (b.getD j 0).isLt (by omega)
    have hbt := hlt (b.getD j 0)
    repeat (first
    | (apply hd_go rfl rfl rfl rfl (Nat.le_of_ble_eq_true rfl); focus (intro K' hK; simp [-List.reduceReplicate, -List.getD_eq_getElem?_getD, q1, q2, q3, q4, hb, hw, noCap]; (repeat' apply And.intro); all_goals first | exact hK | omega))
    | (apply hd_new rfl rfl rfl rfl (Nat.le_of_ble_eq_true rfl); focus (intro K' hK; simp [-List.reduceReplicate, -List.getD_eq_getElem?_getD, q1, q2, q3, q4, hb, hw, noCap]; (repeat' apply And.intro); all_goals first | exact hK | omega)))
    refine hd_nil ?_
    simp only [List.map_nil, List.append_nil]
    refine ok_run hB tabOK pureB_ok 100 ?_
    repeat (first
    | rw [run_ops0]
    | rw [run_seq]
    | rw [run_region]
    | rw [run_block]
    | rw [run_blk]
    | rw [run_skip]
    | (apply run_go rfl; focus (intro L K hK; simp [-List.reduceReplicate, -List.getD_eq_getElem?_getD, q3, q4, hxl]; (repeat' apply And.intro); all_goals first | exact hK | omega)))
    rw [run_back]
    refine ⟨j + 1, by omega, by omega, ?_⟩
    simp [-List.reduceReplicate, -List.getD_eq_getElem?_getD, iniS, rkmem]
  · intro h
    simp at h
    obtain rfl : j = 16 := by omega
    apply run_exit2 rfl
    repeat (first
    | rw [run_ops0]
    | rw [run_seq]
    | rw [run_region]
    | rw [run_block]
    | rw [run_blk]
    | rw [run_skip]
    | (apply run_go rfl; focus (intro L K hK; simp [-List.reduceReplicate, -List.getD_eq_getElem?_getD]; (repeat' apply And.intro); all_goals first | exact hK | omega)))
    rw [run_loop]
    refine ok_loop (X := Nat) (fun q => ⟨[(8, one (.i (q + 1))), (0, one (.ptr 0 0 0)), (3, one (.ptr 2 0 0)), (4, one (.ptr 3 0 0)), (5, one (.ptr 4 0 0)), (7, one (.ptr 5 0 0))], rkmem nw cap n sb W ++ [.ent ⟨true, 23, some 16, .a8 b⟩, .ent ⟨true, 23, some 16, .a8 zero16⟩, .ent ⟨true, 113, some 16, .ai (rRounds sb W n (iniS b W 16) q)⟩, .ent ⟨true, 113, some 16, .ai matL⟩]⟩) (fun q => q ≤ n + 6) (fun q => n + 6 - q) (fun j i L h => by have := hB.anc i L h; simp [rkmem] at this ⊢; omega) ⟨0, by omega, by simp [-List.reduceReplicate, -List.getD_eq_getElem?_getD, rRounds, rkmem, zero16, matL]⟩ ?_
    have hib := iniS_byt b hWb 16
    have hil0 := iniS_len b W 16
    intro q hq
    refine ok_run hB tabOK pureB_ok 100 ?_
    have hsl : (rRounds sb W n (iniS b W 16) q).length = 16 := by rw [rRounds_len, hil0]
    have hsb2 := rRounds_byt hsbb hWb n hib q
    have hml : matL.length = 16 := rfl
    have hrr : rRounds sb W n (iniS b W 16) (q + 1) = outM (decide (q + 1 < n + 6)) (outT sb (rRounds sb W n (iniS b W 16) q) 4) W (q + 1) (rRounds sb W n (iniS b W 16) q) 4 := rfl
    simp only [rkmem, List.cons_append, List.nil_append]
    generalize hs0 : rRounds sb W n (iniS b W 16) q = s at hsl hsb2 hrr ⊢
    obtain ⟨mx, hmx⟩ : ∃ mx, mx = decide (q + 1 < n + 6) := ⟨_, rfl⟩
    rw [← hmx] at hrr
    repeat (first
    | rw [run_ops0]
    | rw [run_seq]
    | rw [run_region]
    | rw [run_block]
    | rw [run_blk]
    | rw [run_skip]
    | (apply run_go rfl; focus (intro L K hK; simp [-List.reduceReplicate, -List.getD_eq_getElem?_getD]; (repeat' apply And.intro); all_goals first | exact hK | omega)))
    apply run_cond2 rfl
    · intro h
      simp at h
      have hq6 : q < n + 6 := by omega
      repeat (first
    | rw [run_ops0]
    | rw [run_seq]
    | rw [run_region]
    | rw [run_block]
    | rw [run_blk]
    | rw [run_skip]
    | (apply run_go rfl; focus (intro L K hK; simp [-List.reduceReplicate, -List.getD_eq_getElem?_getD]; (repeat' apply And.intro); all_goals first | exact hK | omega)))
      rw [run_loop]
      refine ok_loop (X := Nat) (fun c => ⟨[(10, one (.i c)), (9, one (.ptr 6 0 0)), (8, one (.i (q + 1))), (0, one (.ptr 0 0 0)), (3, one (.ptr 2 0 0)), (4, one (.ptr 3 0 0)), (5, one (.ptr 4 0 0)), (7, one (.ptr 5 0 0))], rkmem nw cap n sb W ++ [.ent ⟨true, 23, some 16, .a8 b⟩, .ent ⟨true, 23, some 16, .a8 zero16⟩, .ent ⟨true, 113, some 16, .ai (s)⟩, .ent ⟨true, 113, some 16, .ai matL⟩, .ent ⟨true, 113, some 16, .ai (outT sb s c)⟩]⟩) (fun c => c ≤ 4) (fun c => 4 - c) (fun j i L h => by have := hB.anc i L h; simp [rkmem] at this ⊢; omega) ⟨0, by omega, by simp [-List.reduceReplicate, -List.getD_eq_getElem?_getD, outT, rkmem, zero16I]⟩ ?_
      intro c hc
      refine ok_run hB tabOK pureB_ok 100 ?_
      simp only [rkmem, List.cons_append, List.nil_append]
      repeat (first
    | rw [run_ops0]
    | rw [run_seq]
    | rw [run_region]
    | rw [run_block]
    | rw [run_blk]
    | rw [run_skip]
    | (apply run_go rfl; focus (intro L K hK; simp [-List.reduceReplicate, -List.getD_eq_getElem?_getD]; (repeat' apply And.intro); all_goals first | exact hK | omega)))
      apply run_cond2 rfl
      · intro h
        simp at h
        repeat (first
    | rw [run_ops0]
    | rw [run_seq]
    | rw [run_region]
    | rw [run_block]
    | rw [run_blk]
    | rw [run_skip]
    | (apply run_go rfl; focus (intro L K hK; simp [-List.reduceReplicate, -List.getD_eq_getElem?_getD]; (repeat' apply And.intro); all_goals first | exact hK | omega)))
        rw [run_loop]
        refine ok_loop (X := Nat) (fun i => ⟨[(11, one (.i i)), (10, one (.i c)), (9, one (.ptr 6 0 0)), (8, one (.i (q + 1))), (0, one (.ptr 0 0 0)), (3, one (.ptr 2 0 0)), (4, one (.ptr 3 0 0)), (5, one (.ptr 4 0 0)), (7, one (.ptr 5 0 0))], rkmem nw cap n sb W ++ [.ent ⟨true, 23, some 16, .a8 b⟩, .ent ⟨true, 23, some 16, .a8 zero16⟩, .ent ⟨true, 113, some 16, .ai (s)⟩, .ent ⟨true, 113, some 16, .ai matL⟩, .ent ⟨true, 113, some 16, .ai (innT sb s c (outT sb s c) i)⟩]⟩) (fun i => i ≤ 4) (fun i => 4 - i) (fun j i L h => by have := hB.anc i L h; simp [rkmem] at this ⊢; omega) ⟨0, by omega, by simp [-List.reduceReplicate, -List.getD_eq_getElem?_getD, innT, rkmem]⟩ ?_
        intro i hi
        refine ok_run hB tabOK pureB_ok 100 ?_
        simp only [rkmem, List.cons_append, List.nil_append]
        have htl : (innT sb s c (outT sb s c) i).length = 16 := by rw [innT_len, outT_len]
        repeat (first
    | rw [run_ops0]
    | rw [run_seq]
    | rw [run_region]
    | rw [run_block]
    | rw [run_blk]
    | rw [run_skip]
    | (apply run_go rfl; focus (intro L K hK; simp [-List.reduceReplicate, -List.getD_eq_getElem?_getD]; (repeat' apply And.intro); all_goals first | exact hK | omega)))
        apply run_cond2 rfl
        · intro h
          simp at h
          repeat (first
    | rw [run_ops0]
    | rw [run_seq]
    | rw [run_region]
    | rw [run_block]
    | rw [run_blk]
    | rw [run_skip]
    | (apply run_go rfl; focus (intro L K hK; simp [-List.reduceReplicate, -List.getD_eq_getElem?_getD]; (repeat' apply And.intro); all_goals first | exact hK | omega)))
          rw [run_draw]
          refine ok_draw2 16 tabOK pureB_ok (pureOf_mono _) mixed (by decide +kernel) rfl rfl ?_
          have q2 : ((c : Int) + i).tmod 4 = ((c : Int) + i) % 4 := Int.tmod_eq_emod_of_nonneg (by omega)
          have q4 : (((c : Int) + i) % 4).toNat = (c + i) % 4 := by omega
          have hv := hsb2 ((c + i) % 4 * 4 + i)
          repeat (first
    | (apply hd_go rfl rfl rfl rfl (Nat.le_of_ble_eq_true rfl); focus (intro K' hK; simp [-List.reduceReplicate, -List.getD_eq_getElem?_getD, q2, q4, hsl, hv, hsb]; (repeat' apply And.intro); all_goals first | exact hK | omega))
    | (apply hd_new rfl rfl rfl rfl (Nat.le_of_ble_eq_true rfl); focus (intro K' hK; simp [-List.reduceReplicate, -List.getD_eq_getElem?_getD, q2, q4, hsl, hv, hsb]; (repeat' apply And.intro); all_goals first | exact hK | omega)))
          refine hd_nil ?_
          simp only [List.map_nil, List.append_nil]
          refine ok_run hB tabOK pureB_ok 100 ?_
          repeat (first
    | rw [run_ops0]
    | rw [run_seq]
    | rw [run_region]
    | rw [run_block]
    | rw [run_blk]
    | rw [run_skip]
    | (apply run_go rfl; focus (intro L K hK; simp [-List.reduceReplicate, -List.getD_eq_getElem?_getD, htl]; (repeat' apply And.intro); all_goals first | exact hK | omega)))
          rw [run_back]
          refine ⟨i + 1, by omega, by omega, ?_⟩
          simp [-List.reduceReplicate, -List.getD_eq_getElem?_getD, innT, rkmem]
        · intro h
          simp at h
          obtain rfl : i = 4 := by omega
          apply run_exit2 rfl
          repeat (first
    | rw [run_ops0]
    | rw [run_seq]
    | rw [run_region]
    | rw [run_block]
    | rw [run_blk]
    | rw [run_skip]
    | (apply run_go rfl; focus (intro L K hK; simp [-List.reduceReplicate, -List.getD_eq_getElem?_getD]; (repeat' apply And.intro); all_goals first | exact hK | omega)))
          rw [run_back]
          refine ⟨c + 1, by omega, by omega, ?_⟩
          simp [-List.reduceReplicate, -List.getD_eq_getElem?_getD, outT, rkmem]
      · intro h
        simp at h
        obtain rfl : c = 4 := by omega
        apply run_exit2 rfl
        have htl := outT_len sb s 4
        have htb := outT_byt hsbb s 4
        generalize outT sb s 4 = t at htl htb hrr ⊢
        repeat (first
    | rw [run_ops0]
    | rw [run_seq]
    | rw [run_region]
    | rw [run_block]
    | rw [run_blk]
    | rw [run_skip]
    | (apply run_go rfl; focus (intro L K hK; simp [-List.reduceReplicate, -List.getD_eq_getElem?_getD]; (repeat' apply And.intro); all_goals first | exact hK | omega)))
        rw [run_loop]
        refine ok_loop (X := Nat) (fun c => ⟨[(12, one (.i c)), (9, one (.ptr 6 0 0)), (8, one (.i (q + 1))), (0, one (.ptr 0 0 0)), (3, one (.ptr 2 0 0)), (4, one (.ptr 3 0 0)), (5, one (.ptr 4 0 0)), (7, one (.ptr 5 0 0))], rkmem nw cap n sb W ++ [.ent ⟨true, 23, some 16, .a8 b⟩, .ent ⟨true, 23, some 16, .a8 zero16⟩, .ent ⟨true, 113, some 16, .ai (outM mx t W (q + 1) s c)⟩, .ent ⟨true, 113, some 16, .ai matL⟩, .ent ⟨true, 113, some 16, .ai t⟩]⟩) (fun c => c ≤ 4) (fun c => 4 - c) (fun j i L h => by have := hB.anc i L h; simp [rkmem] at this ⊢; omega) ⟨0, by omega, by simp [-List.reduceReplicate, -List.getD_eq_getElem?_getD, outM, rkmem]⟩ ?_
        intro c hc
        refine ok_run hB tabOK pureB_ok 100 ?_
        simp only [rkmem, List.cons_append, List.nil_append]
        repeat (first
    | rw [run_ops0]
    | rw [run_seq]
    | rw [run_region]
    | rw [run_block]
    | rw [run_blk]
    | rw [run_skip]
    | (apply run_go rfl; focus (intro L K hK; simp [-List.reduceReplicate, -List.getD_eq_getElem?_getD]; (repeat' apply And.intro); all_goals first | exact hK | omega)))
        apply run_cond2 rfl
        · intro h
          simp at h
          repeat (first
    | rw [run_ops0]
    | rw [run_seq]
    | rw [run_region]
    | rw [run_block]
    | rw [run_blk]
    | rw [run_skip]
    | (apply run_go rfl; focus (intro L K hK; simp [-List.reduceReplicate, -List.getD_eq_getElem?_getD]; (repeat' apply And.intro); all_goals first | exact hK | omega)))
          rw [run_loop]
          refine ok_loop (X := Nat) (fun i => ⟨[(13, one (.i i)), (12, one (.i c)), (9, one (.ptr 6 0 0)), (8, one (.i (q + 1))), (0, one (.ptr 0 0 0)), (3, one (.ptr 2 0 0)), (4, one (.ptr 3 0 0)), (5, one (.ptr 4 0 0)), (7, one (.ptr 5 0 0))], rkmem nw cap n sb W ++ [.ent ⟨true, 23, some 16, .a8 b⟩, .ent ⟨true, 23, some 16, .a8 zero16⟩, .ent ⟨true, 113, some 16, .ai (innM mx t W (q + 1) c (outM mx t W (q + 1) s c) i)⟩, .ent ⟨true, 113, some 16, .ai matL⟩, .ent ⟨true, 113, some 16, .ai t⟩]⟩) (fun i => i ≤ 4) (fun i => 4 - i) (fun j i L h => by have := hB.anc i L h; simp [rkmem] at this ⊢; omega) ⟨0, by omega, by simp [-List.reduceReplicate, -List.getD_eq_getElem?_getD, innM, rkmem]⟩ ?_
          intro i hi
          refine ok_run hB tabOK pureB_ok 30 ?_
          simp only [rkmem, List.cons_append, List.nil_append]
          repeat (first
    | rw [run_ops0]
    | rw [run_seq]
    | rw [run_region]
    | rw [run_block]
    | rw [run_blk]
    | rw [run_skip]
    | (apply run_go rfl; focus (intro L K hK; simp [-List.reduceReplicate, -List.getD_eq_getElem?_getD]; (repeat' apply And.intro); all_goals first | exact hK | omega)))
          apply run_cond2 rfl
          · intro h
            simp at h
            repeat (first
    | rw [run_ops0]
    | rw [run_seq]
    | rw [run_region]
    | rw [run_block]
    | rw [run_blk]
    | rw [run_skip]
    | (apply run_go rfl; focus (intro L K hK; simp [-List.reduceReplicate, -List.getD_eq_getElem?_getD, htl]; (repeat' apply And.intro); all_goals first | exact hK | omega)))
            rw [run_zero]
            have hnl : (innM mx t W (q + 1) c (outM mx t W (q + 1) s c) i).length = 16 := by rw [innM_len, outM_len, hsl]
            refine ok_join (X := Int) (fun x => ⟨[(14, one (.i x)), (13, one (.i i)), (12, one (.i c)), (9, one (.ptr 6 0 0)), (8, one (.i (q + 1))), (0, one (.ptr 0 0 0)), (3, one (.ptr 2 0 0)), (4, one (.ptr 3 0 0)), (5, one (.ptr 4 0 0)), (7, one (.ptr 5 0 0))], rkmem nw cap n sb W ++ [.ent ⟨true, 23, some 16, .a8 b⟩, .ent ⟨true, 23, some 16, .a8 zero16⟩, .ent ⟨true, 113, some 16, .ai (innM mx t W (q + 1) c (outM mx t W (q + 1) s c) i)⟩, .ent ⟨true, 113, some 16, .ai matL⟩, .ent ⟨true, 113, some 16, .ai t⟩]⟩) (fun x => x = cellX mx t c i) (fun j i L h => by have := hB.anc i L h; simp [rkmem] at this ⊢; omega) ?_ ?_
            · refine ok_run hB tabOK pureB_ok 100 ?_
              apply run_cond2 rfl
              · intro h2
                have hmt : mx = true := by rw [hmx]; simp at h2 ⊢; omega
                rw [run_draw]
                refine ok_draw2 39 tabOK pureB_ok (pureOf_mono _) mixed (by decide +kernel) rfl rfl ?_
                have a0 := matL_byt (i * 4)
                have a1 := matL_byt (i * 4 + 1)
                have a2 := matL_byt (i * 4 + 2)
                have a3 := matL_byt (i * 4 + 3)
                have b0 := htb (c * 4)
                have b1 := htb (c * 4 + 1)
                have b2 := htb (c * 4 + 2)
                have b3 := htb (c * 4 + 3)
                have T0 := timesR_lt a0 (b := t.getD (c * 4) 0) 8
                have T1 := timesR_lt a1 (b := t.getD (c * 4 + 1) 0) 8
                have T2 := timesR_lt a2 (b := t.getD (c * 4 + 2) 0) 8
                have T3 := timesR_lt a3 (b := t.getD (c * 4 + 3) 0) 8
                have x1 := nat_xor_lt (a := (timesR (matL.getD (i * 4) 0) (t.getD (c * 4) 0) 8).toNat) (b := (timesR (matL.getD (i * 4 + 1) 0) (t.getD (c * 4 + 1) 0) 8).toNat) (by omega) (by omega)
                have x2 := nat_xor_lt (b := (timesR (matL.getD (i * 4 + 2) 0) (t.getD (c * 4 + 2) 0) 8).toNat) x1 (by omega)
                have x3 := nat_xor_lt (b := (timesR (matL.getD (i * 4 + 3) 0) (t.getD (c * 4 + 3) 0) 8).toNat) x2 (by omega)
                repeat (first
    | (apply hd_go rfl rfl rfl rfl (Nat.le_of_ble_eq_true rfl); focus (intro K' hK; simp [-List.reduceReplicate, -List.getD_eq_getElem?_getD, hml, htl, pureOf, pureB, a0, a1, a2, a3, b0, b1, b2, b3]; (repeat' apply And.intro); all_goals first | exact hK | omega))
    | (apply hd_new rfl rfl rfl rfl (Nat.le_of_ble_eq_true rfl); focus (intro K' hK; simp [-List.reduceReplicate, -List.getD_eq_getElem?_getD, hml, htl, pureOf, pureB, a0, a1, a2, a3, b0, b1, b2, b3]; (repeat' apply And.intro); all_goals first | exact hK | omega)))
                refine hd_nil ?_
                simp only [List.map_nil, List.append_nil]
                refine ok_run hB tabOK pureB_ok 100 ?_
                repeat (first
    | rw [run_ops0]
    | rw [run_seq]
    | rw [run_region]
    | rw [run_block]
    | rw [run_blk]
    | rw [run_skip]
    | (apply run_go rfl; focus (intro L K hK; simp [-List.reduceReplicate, -List.getD_eq_getElem?_getD]; (repeat' apply And.intro); all_goals first | exact hK | omega)))
                rw [run_back]
                refine ⟨_, rfl, ?_⟩
                simp [-List.reduceReplicate, -List.getD_eq_getElem?_getD, rkmem, cellX, hmt, xorI]
              · intro h2
                have hmt : mx = false := by rw [hmx]; simp at h2 ⊢; omega
                repeat (first
    | rw [run_ops0]
    | rw [run_seq]
    | rw [run_region]
    | rw [run_block]
    | rw [run_blk]
    | rw [run_skip]
    | (apply run_go rfl; focus (intro L K hK; simp [-List.reduceReplicate, -List.getD_eq_getElem?_getD]; (repeat' apply And.intro); all_goals first | exact hK | omega)))
                rw [run_back]
                refine ⟨_, rfl, ?_⟩
                simp [-List.reduceReplicate, -List.getD_eq_getElem?_getD, rkmem, cellX, hmt]
            · intro x hx
              have hxl := cellX_lt htb mx c i
              rw [← hx] at hxl
              refine ok_run hB tabOK pureB_ok 100 ?_
              simp only [rkmem, List.cons_append, List.nil_append]
              repeat (first
    | rw [run_ops0]
    | rw [run_seq]
    | rw [run_region]
    | rw [run_block]
    | rw [run_blk]
    | rw [run_skip]
    | (apply run_go rfl; focus (intro L K hK; simp [-List.reduceReplicate, -List.getD_eq_getElem?_getD]; (repeat' apply And.intro); all_goals first | exact hK | omega)))
              rw [run_draw]
              refine ok_draw2 17 tabOK pureB_ok (pureOf_mono _) mixed (by decide +kernel) rfl rfl ?_
              have q5 : (4 * ((q : Int) + 1) + c).toNat = 4 * (q + 1) + c := by omega
              have hw := hWb ((4 * (q + 1) + c) * 4 + i)
              have hxx := nat_xor_lt (a := x.toNat) (b := (W.getD ((4 * (q + 1) + c) * 4 + i) 0).toNat) (by omega) (by omega)
              repeat (first
    | (apply hd_go rfl rfl rfl rfl (Nat.le_of_ble_eq_true rfl); focus (intro K' hK; simp [-List.reduceReplicate, -List.getD_eq_getElem?_getD, q5, hsl, hw]; (repeat' apply And.intro); all_goals first | exact hK | omega))
    | (apply hd_new rfl rfl rfl rfl (Nat.le_of_ble_eq_true rfl); focus (intro K' hK; simp [-List.reduceReplicate, -List.getD_eq_getElem?_getD, q5, hsl, hw]; (repeat' apply And.intro); all_goals first | exact hK | omega)))
              refine hd_nil ?_
              simp only [List.map_nil, List.append_nil]
              refine ok_run hB tabOK pureB_ok 100 ?_
              repeat (first
    | rw [run_ops0]
    | rw [run_seq]
    | rw [run_region]
    | rw [run_block]
    | rw [run_blk]
    | rw [run_skip]
    | (apply run_go rfl; focus (intro L K hK; simp [-List.reduceReplicate, -List.getD_eq_getElem?_getD, hnl]; (repeat' apply And.intro); all_goals first | exact hK | omega)))
              rw [run_back]
              refine ⟨i + 1, by omega, by omega, ?_⟩
              simp [-List.reduceReplicate, -List.getD_eq_getElem?_getD, innM, rkmem, xorI, hx]
          · intro h
            simp at h
            obtain rfl : i = 4 := by omega
            apply run_exit2 rfl
            repeat (first
    | rw [run_ops0]
    | rw [run_seq]
    | rw [run_region]
    | rw [run_block]
    | rw [run_blk]
    | rw [run_skip]
    | (apply run_go rfl; focus (intro L K hK; simp [-List.reduceReplicate, -List.getD_eq_getElem?_getD]; (repeat' apply And.intro); all_goals first | exact hK | omega)))
            rw [run_back]
            refine ⟨c + 1, by omega, by omega, ?_⟩
            simp [-List.reduceReplicate, -List.getD_eq_getElem?_getD, outM, rkmem]
        · intro h
          simp at h
          obtain rfl : c = 4 := by omega
          apply run_exit2 rfl
          repeat (first
    | rw [run_ops0]
    | rw [run_seq]
    | rw [run_region]
    | rw [run_block]
    | rw [run_blk]
    | rw [run_skip]
    | (apply run_go rfl; focus (intro L K hK; simp [-List.reduceReplicate, -List.getD_eq_getElem?_getD]; (repeat' apply And.intro); all_goals first | exact hK | omega)))
          rw [run_back]
          refine ⟨q + 1, by omega, by omega, ?_⟩
          rw [hrr]
          simp [-List.reduceReplicate, -List.getD_eq_getElem?_getD, rkmem]
    · intro h
      simp at h
      obtain rfl : q = n + 6 := by omega
      apply run_exit2 rfl
      repeat (first
    | rw [run_ops0]
    | rw [run_seq]
    | rw [run_region]
    | rw [run_block]
    | rw [run_blk]
    | rw [run_skip]
    | (apply run_go rfl; focus (intro L K hK; simp [-List.reduceReplicate, -List.getD_eq_getElem?_getD]; (repeat' apply And.intro); all_goals first | exact hK | omega)))
      rw [run_loop]
      refine ok_loop (X := Nat) (fun j => ⟨[(16, one (.i j)), (15, one (.ptr 6 0 0)), (5, one (.ptr 4 0 0)), (4, one (.ptr 3 0 0))], rkmem nw cap n sb W ++ [.ent ⟨true, 23, some 16, .a8 b⟩, .ent ⟨true, 23, some 16, .a8 zero16⟩, .ent ⟨true, 113, some 16, .ai (s)⟩, .ent ⟨true, 113, some 16, .ai matL⟩, .ent ⟨true, 23, some 16, .a8 (outB s j)⟩]⟩) (fun j => j ≤ 16) (fun j => 16 - j) (fun j i L h => by have := hB.anc i L h; simp [rkmem] at this ⊢; omega) ⟨0, by omega, by simp [-List.reduceReplicate, -List.getD_eq_getElem?_getD, outB, rkmem, zero16]⟩ ?_
      intro j hj
      refine ok_run hB tabOK pureB_ok 100 ?_
      simp only [rkmem, List.cons_append, List.nil_append]
      have hol := outB_len s j
      repeat (first
    | rw [run_ops0]
    | rw [run_seq]
    | rw [run_region]
    | rw [run_block]
    | rw [run_blk]
    | rw [run_skip]
    | (apply run_go rfl; focus (intro L K hK; simp [-List.reduceReplicate, -List.getD_eq_getElem?_getD]; (repeat' apply And.intro); all_goals first | exact hK | omega)))
      apply run_cond2 rfl
      · intro h
        simp at h
        have q1 : (j : Int).tdiv 4 = (j : Int) / 4 := Int.tdiv_eq_ediv_of_nonneg (by omega)
        have q2 : (j : Int).tmod 4 = (j : Int) % 4 := Int.tmod_eq_emod_of_nonneg (by omega)
        have q3 : ((j : Int) / 4).toNat = j / 4 := by omega
        have q4 : ((j : Int) % 4).toNat = j % 4 := by omega
        repeat (first
    | rw [run_ops0]
    | rw [run_seq]
    | rw [run_region]
    | rw [run_block]
    | rw [run_blk]
    | rw [run_skip]
    | (apply run_go rfl; focus (intro L K hK; simp [-List.reduceReplicate, -List.getD_eq_getElem?_getD, q1, q2, q3, q4, hol, hsl]; (repeat' apply And.intro); all_goals first | exact hK | omega)))
        rw [run_back]
        refine ⟨j + 1, by omega, by omega, ?_⟩
        simp [-List.reduceReplicate, -List.getD_eq_getElem?_getD, outB, rkmem]
      · intro h
        simp at h
        obtain rfl : j = 16 := by omega
        apply run_exit2 rfl
        have hz : zero16.length = 16 := rfl
        repeat (first
    | rw [run_ops0]
    | rw [run_seq]
    | rw [run_region]
    | rw [run_block]
    | rw [run_blk]
    | rw [run_skip]
    | (apply run_go rfl; focus (intro L K hK; simp [-List.reduceReplicate, -List.getD_eq_getElem?_getD, hol, hz]; (repeat' apply And.intro); all_goals first | exact hK | omega)))
        rw [run_ret]
        subst hs0
        simp [-List.reduceReplicate, -List.getD_eq_getElem?_getD, results24, f24]
end Go.V
end
section
set_option linter.unusedSimpArgs false
set_option linter.unusedVariables false
set_option maxRecDepth 10000
namespace Go.V
open Go Go.Proofs.Try
def boxOf (x : BitVec 8) : BitVec 8 := boxL.getD x.toNat 0
def rotS (c : BitVec 8) (t : B8) : B8 := [boxOf (t.getD 1 0) ^^^ c, boxOf (t.getD 2 0), boxOf (t.getD 3 0), boxOf (t.getD 0 0)]
def subW (t : B8) : B8 := [boxOf (t.getD 0 0), boxOf (t.getD 1 0), boxOf (t.getD 2 0), boxOf (t.getD 3 0)]
def xorO (t W : B8) (o : Nat) : Nat → B8
  | 0 => t
  | j + 1 => (xorO t W o j).set j ((xorO t W o j).getD j 0 ^^^ W.getD (o + j) 0)
theorem xorO_len (t W : B8) (o : Nat) : ∀ j, (xorO t W o j).length = t.length
  | 0 => rfl
  | j + 1 => by simp [xorO, xorO_len t W o j]
def schT (nk i : Nat) (c : BitVec 8) (t : B8) : B8 := if i % nk = 0 then rotS c t else if 6 < nk ∧ i % nk = 4 then subW t else t
def sch (key : B8) (nk : Nat) : Nat → B8 × BitVec 8
  | 0 => ([], 1)
  | i + 1 => if i < nk then ((sch key nk i).1 ++ (key.drop (4 * i)).take 4, (sch key nk i).2)
    else ((sch key nk i).1 ++ xorO (schT nk i (sch key nk i).2 (((sch key nk i).1.drop ((i - 1) * 4)).take 4)) (sch key nk i).1 ((i - nk) * 4) 4,
      if i % nk = 0 then twice8 (sch key nk i).2 else (sch key nk i).2)
theorem schT_len (nk i : Nat) (c : BitVec 8) {t : B8} (h : t.length = 4) : (schT nk i c t).length = 4 := by
  unfold schT
  split
  · rfl
  · split
    · rfl
    · exact h
theorem sch_lenL {key : B8} {nk : Nat} (hk : 4 * nk ≤ key.length) (hn : 0 < nk) : ∀ i, (sch key nk i).1.length = 4 * i
  | 0 => rfl
  | i + 1 => by
    have ih := sch_lenL hk hn i
    unfold sch
    split
    · simp [ih]; omega
    · simp only [List.length_append, xorO_len, ih]
      rw [schT_len]
      · omega
      · simp [ih]; omega
theorem sch_len {key : B8} {nk : Nat} (hk : key.length = 4 * nk) (hn : 0 < nk) (i : Nat) : (sch key nk i).1.length = 4 * i := sch_lenL (Nat.le_of_eq hk.symm) hn i
def rowR (W : B8) (o : Nat) : Nat → B8
  | 0 => zero16
  | j + 1 => (rowR W o j).set j (W.getD ((o + j / 4) * 4 + j % 4) 0)
theorem rowR_len (W : B8) (o : Nat) : ∀ j, (rowR W o j).length = 16
  | 0 => rfl
  | j + 1 => by simp [rowR, rowR_len W o j]
theorem rowR_get (W : B8) (o : Nat) : ∀ j, j ≤ 16 → ∀ i, i < 16 → (rowR W o j)[i]? = some (if i < j then W.getD (o * 4 + i) 0 else 0)
  | 0, _, i, hi => by
    have : ∀ i : Fin 16, zero16[i.1]? = some 0 := by decide
    simpa [rowR] using this ⟨i, hi⟩
  | j + 1, hj, i, hi => by
    have ih := rowR_get W o j (by omega) i hi
    simp only [rowR]
    rw [List.getElem?_set]
    by_cases h : j = i
    · subst h
      rw [if_pos rfl, rowR_len, if_pos hi, if_pos (by omega), show (o + j / 4) * 4 + j % 4 = o * 4 + j by omega]
    · rw [if_neg h, ih]
      by_cases h2 : i < j
      · rw [if_pos h2, if_pos (by omega)]
      · rw [if_neg h2, if_neg (by omega)]
theorem rowR_eq (W : B8) (r : Nat) (h : 16 * r + 16 ≤ W.length) : rowR W (4 * r) 16 = (W.drop (16 * r)).take 16 := by
  apply List.ext_getElem?
  intro i
  by_cases hi : i < 16
  · rw [rowR_get W (4 * r) 16 (Nat.le_refl _) i hi, if_pos hi, List.getElem?_take_of_lt hi, List.getElem?_drop, List.getD_eq_getElem?_getD, show 4 * r * 4 + i = 16 * r + i by omega, List.getElem?_eq_getElem (by omega)]
    rfl
  · rw [List.getElem?_eq_none (by rw [rowR_len]; omega), List.getElem?_eq_none (by simp; omega)]
/-- The memory after aes.New: the key's bytes, the words, the key's block, the rows. -/
def newMem (key : B8) (nk cap : Nat) : Mem := [.ent ⟨false, 5, none, .a8 key⟩, .ent ⟨true, 99, none, .a8 (sch key nk (4 * (nk + 7))).1⟩, .ent ⟨true, 105, some 1, .st [⟨1, .s (.sl 3 0 (nk + 7) cap 16)⟩]⟩, .ent ⟨true, 23, none, .a8 (sch key nk (4 * (nk + 7))).1⟩]
theorem spec21L (key : B8) (nk cap0 : Nat) (hk : 4 * nk ≤ key.length) (hnk : nk = 4 ∨ nk = 8) (hcap0 : 4 * nk ≤ cap0) : Spec prog 21 [one (.sl 0 0 (4 * nk) cap0 1)] [.ent ⟨false, 5, none, .a8 key⟩] [] (fun r m => r = .tup [.s (.ptr 2 0 0), .s (.i 0)] ∧ ∃ cap, m = newMem key nk cap) := by
  refine spec_of_body tabOK func21 rfl (Nat.le_of_ble_eq_true rfl) ?_
  intro E Q0 hB
  refine ok_run hB tabOK pureE_ok 14 ?_
  simp only [argSl]
  have hlt : ∀ x : BitVec 8, x.toNat < 256 := fun x => x.isLt
  have d4 : (4 * (nk : Int)).tdiv 4 = nk := by rw [Int.tdiv_eq_ediv_of_nonneg (by omega)]; omega
  repeat (first
    | rw [run_ops0]
    | rw [run_seq]
    | rw [run_region]
    | rw [run_block]
    | rw [run_blk]
    | rw [run_skip]
    | (apply run_go rfl; focus (intro L K hK; simp [-List.reduceReplicate, -List.getD_eq_getElem?_getD, d4]; (repeat' apply And.intro); all_goals first | exact hK | omega)))
  rw [run_zero]
  refine ok_join (X := Unit) (fun _ => ⟨[(24, one (.b false)), (4, one (.i nk)), (0, one (.sl 0 0 (4 * nk) cap0 1))], [.ent ⟨false, 5, none, .a8 key⟩]⟩) (fun _ => True) (fun j i L h => by have := hB.anc i L h; simp at this ⊢; omega) ?_ ?_
  · refine ok_run hB tabOK pureE_ok 100 ?_
    repeat (first
    | rw [run_ops0]
    | rw [run_seq]
    | rw [run_region]
    | rw [run_block]
    | rw [run_blk]
    | rw [run_skip]
    | (apply run_go rfl; focus (intro L K hK; simp [-List.reduceReplicate, -List.getD_eq_getElem?_getD, d4]; (repeat' apply And.intro); all_goals first | exact hK | omega)))
    apply run_guard rfl rfl rfl rfl
    · intro h
      simp at h
      obtain rfl : nk = 8 := by omega
      (apply Exists.intro; apply And.intro; focus (intro L K hK; simp [-List.reduceReplicate, -List.getD_eq_getElem?_getD]; (repeat' apply And.intro); all_goals first | exact hK | omega))
      apply run_guard rfl rfl rfl rfl
      · intro _
        (apply Exists.intro; apply And.intro; focus (intro L K hK; simp [-List.reduceReplicate, -List.getD_eq_getElem?_getD]; (repeat' apply And.intro); all_goals first | exact hK | omega))
        apply run_guard rfl rfl rfl rfl
        · intro _
          (apply Exists.intro; apply And.intro; focus (intro L K hK; simp [-List.reduceReplicate, -List.getD_eq_getElem?_getD]; (repeat' apply And.intro); all_goals first | exact hK | omega))
          repeat (first
    | rw [run_ops0]
    | rw [run_seq]
    | rw [run_region]
    | rw [run_block]
    | rw [run_blk]
    | rw [run_skip]
    | (apply run_go rfl; focus (intro L K hK; simp [-List.reduceReplicate, -List.getD_eq_getElem?_getD]; (repeat' apply And.intro); all_goals first | exact hK | omega)))
          rw [run_back]
          refine ⟨(), trivial, ?_⟩
          simp [-List.reduceReplicate, -List.getD_eq_getElem?_getD]
        · intro h; cases h
      · intro h; cases h
    · intro h
      simp at h
      obtain rfl : nk = 4 := by omega
      refine ⟨Nat.le_of_ble_eq_true rfl, ?_⟩
      simp only [St.put]
      apply run_guard rfl rfl rfl rfl
      · intro h; cases h
      intro _
      refine ⟨Nat.le_of_ble_eq_true rfl, ?_⟩
      simp only [St.put]
      apply run_guard rfl rfl rfl rfl
      · intro h; cases h
      intro _
      refine ⟨Nat.le_of_ble_eq_true rfl, ?_⟩
      simp only [St.put]
      repeat (first
    | rw [run_ops0]
    | rw [run_seq]
    | rw [run_region]
    | rw [run_block]
    | rw [run_blk]
    | rw [run_skip]
    | (apply run_go rfl; focus (intro L K hK; simp [-List.reduceReplicate, -List.getD_eq_getElem?_getD]; (repeat' apply And.intro); all_goals first | exact hK | omega)))
      rw [run_back]
      refine ⟨(), trivial, ?_⟩
      simp [-List.reduceReplicate, -List.getD_eq_getElem?_getD]
  · intro _ _
    refine ok_run hB tabOK pureE_ok 100 ?_
    apply run_cond2 rfl
    · intro h; cases h
    intro _
    repeat (first
    | rw [run_ops0]
    | rw [run_seq]
    | rw [run_region]
    | rw [run_block]
    | rw [run_blk]
    | rw [run_skip]
    | (apply run_go rfl; focus (intro L K hK; simp [-List.reduceReplicate, -List.getD_eq_getElem?_getD]; (repeat' apply And.intro); all_goals first | exact hK | omega)))
    rw [run_loop]
    refine ok_blank 5 99 4 (.a8 []) rfl trivial rfl ?_
    simp only [List.length_cons, List.length_nil, List.cons_append, List.nil_append]
    refine ok_loop (X := Nat × Nat) (fun x => ⟨[(7, one (.i x.1)), (6, one (.u8 (sch key nk x.1).2)), (5, one (.sl 1 0 x.1 x.2 4)), (4, one (.i nk)), (0, one (.sl 0 0 (4 * nk) cap0 1))], [.ent ⟨false, 5, none, .a8 key⟩, .ent ⟨true, 99, none, .a8 (sch key nk x.1).1⟩]⟩) (fun x => x.1 ≤ 4 * (nk + 7)) (fun x => 4 * (nk + 7) - x.1) (fun j i L h => by have := hB.anc i L h; simp at this ⊢; omega) ⟨(0, 0), by omega, by simp [-List.reduceReplicate, -List.getD_eq_getElem?_getD, sch]⟩ ?_
    rintro ⟨i, cap⟩ hi
    refine ok_run hB tabOK pureE_ok 33 ?_
    simp only at hi ⊢
    have hn0 : 0 < nk := by omega
    have hn8 : nk ≤ 8 := by omega
    have hwl := sch_lenL hk hn0 i
    repeat (first
    | rw [run_ops0]
    | rw [run_seq]
    | rw [run_region]
    | rw [run_block]
    | rw [run_blk]
    | rw [run_skip]
    | (apply run_go rfl; focus (intro L K hK; simp [-List.reduceReplicate, -List.getD_eq_getElem?_getD]; (repeat' apply And.intro); all_goals first | exact hK | omega)))
    apply run_cond2 rfl
    · intro h
      simp at h
      repeat (first
    | rw [run_ops0]
    | rw [run_seq]
    | rw [run_region]
    | rw [run_block]
    | rw [run_blk]
    | rw [run_skip]
    | (apply run_go rfl; focus (intro L K hK; simp [-List.reduceReplicate, -List.getD_eq_getElem?_getD]; (repeat' apply And.intro); all_goals first | exact hK | omega)))
      apply run_cond2 rfl
      · intro h2
        simp at h2
        have e4 : (4 * (i : Int)).toNat = 4 * i := by omega
        have hx : ((key.drop (4 * i)).take 4).length = 4 := by simp; omega
        have hsn : sch key nk (i + 1) = ((sch key nk i).1 ++ (key.drop (4 * i)).take 4, (sch key nk i).2) := by rw [sch, if_pos h2]
        generalize hx0 : (key.drop (4 * i)).take 4 = x at hx hsn ⊢
        generalize sch key nk i = sc at hwl hsn ⊢
        obtain ⟨W, c⟩ := sc
        simp only at hwl hsn ⊢
        have hk4 : ¬ key.length = 4 := by omega
        repeat (first
    | rw [run_ops0]
    | rw [run_seq]
    | rw [run_region]
    | rw [run_block]
    | rw [run_blk]
    | rw [run_skip]
    | (apply run_go rfl; focus (intro L K hK; simp [-List.reduceReplicate, -List.getD_eq_getElem?_getD, e4, hk4, hx0, hx]; (repeat' apply And.intro); all_goals first | exact hK | omega)))
        try (rw [run_zero]; refine ok_run hB tabOK pureE_ok 100 ?_)
        repeat (first
    | rw [run_ops0]
    | rw [run_seq]
    | rw [run_region]
    | rw [run_block]
    | rw [run_blk]
    | rw [run_skip]
    | (apply run_go rfl; focus (intro L K hK; simp [-List.reduceReplicate, -List.getD_eq_getElem?_getD, e4, hk4, hx0, hx]; (repeat' apply And.intro); all_goals first | exact hK | omega)))
        (apply run_app rfl; focus (intro L K hK; simp [-List.reduceReplicate, -List.getD_eq_getElem?_getD, hwl, hx]; (repeat' apply And.intro); all_goals first | exact hK | omega | (intro cap hcap; exact hK cap hcap)))
        intro cap2 hcap2
        repeat (first
    | rw [run_ops0]
    | rw [run_seq]
    | rw [run_region]
    | rw [run_block]
    | rw [run_blk]
    | rw [run_skip]
    | (apply run_go rfl; focus (intro L K hK; simp [-List.reduceReplicate, -List.getD_eq_getElem?_getD]; (repeat' apply And.intro); all_goals first | exact hK | omega)))
        try (rw [run_zero]; refine ok_run hB tabOK pureE_ok 100 ?_)
        repeat (first
    | rw [run_ops0]
    | rw [run_seq]
    | rw [run_region]
    | rw [run_block]
    | rw [run_blk]
    | rw [run_skip]
    | (apply run_go rfl; focus (intro L K hK; simp [-List.reduceReplicate, -List.getD_eq_getElem?_getD]; (repeat' apply And.intro); all_goals first | exact hK | omega)))
        apply run_exit2 rfl
        repeat (first
    | rw [run_ops0]
    | rw [run_seq]
    | rw [run_region]
    | rw [run_block]
    | rw [run_blk]
    | rw [run_skip]
    | (apply run_go rfl; focus (intro L K hK; simp [-List.reduceReplicate, -List.getD_eq_getElem?_getD]; (repeat' apply And.intro); all_goals first | exact hK | omega)))
        try (rw [run_zero]; refine ok_run hB tabOK pureE_ok 100 ?_)
        repeat (first
    | rw [run_ops0]
    | rw [run_seq]
    | rw [run_region]
    | rw [run_block]
    | rw [run_blk]
    | rw [run_skip]
    | (apply run_go rfl; focus (intro L K hK; simp [-List.reduceReplicate, -List.getD_eq_getElem?_getD]; (repeat' apply And.intro); all_goals first | exact hK | omega)))
        rw [run_back]
        refine ⟨(i + 1, cap2), by simp only; omega, by simp only; omega, ?_⟩
        rw [hsn]
        simp [-List.reduceReplicate, -List.getD_eq_getElem?_getD, killA]
        exact List.take_of_length_le (by omega)
      · intro h2
        simp at h2
        have tm : (i : Int).tmod nk = ((i % nk : Nat) : Int) := rfl
        have e1 : ((i : Int) - 1).toNat = i - 1 := by omega
        have hx : (((sch key nk i).1.drop ((i - 1) * 4)).take 4).length = 4 := by simp [hwl]; omega
        have h4i : ¬ 4 * i = 4 := by omega
        have h1i : ¬ i = 1 := by omega
        repeat (first
    | rw [run_ops0]
    | rw [run_seq]
    | rw [run_region]
    | rw [run_block]
    | rw [run_blk]
    | rw [run_skip]
    | (apply run_go rfl; focus (intro L K hK; simp [-List.reduceReplicate, -List.getD_eq_getElem?_getD, e1, hwl, hx, h4i, h1i]; (repeat' apply And.intro); all_goals first | exact hK | omega)))
        rw [run_zero]
        have hs1 : (sch key nk (i + 1)).1 = (sch key nk i).1 ++ xorO (schT nk i (sch key nk i).2 (((sch key nk i).1.drop ((i - 1) * 4)).take 4)) (sch key nk i).1 ((i - nk) * 4) 4 := by rw [sch, if_neg (by omega)]
        have hs2 : (sch key nk (i + 1)).2 = if i % nk = 0 then twice8 (sch key nk i).2 else (sch key nk i).2 := by rw [sch, if_neg (by omega)]
        generalize ((sch key nk i).1.drop ((i - 1) * 4)).take 4 = t at hx hs1 ⊢
        generalize (sch key nk i).1 = W at hwl hs1 ⊢
        generalize (sch key nk i).2 = c at hs1 hs2 ⊢
        have hn0' : ¬ nk = 0 := by omega
        refine ok_join (X := Unit) (fun _ => ⟨[(8, one (.ptr 2 0 0)), (7, one (.i i)), (6, one (.u8 (if i % nk = 0 then twice8 c else c))), (5, one (.sl 1 0 i cap 4)), (4, one (.i nk)), (0, one (.sl 0 0 (4 * nk) cap0 1))], [.ent ⟨false, 5, none, .a8 key⟩, .ent ⟨true, 99, none, .a8 W⟩, .ent ⟨true, 99, some 4, .a8 (schT nk i c t)⟩]⟩) (fun _ => True) (fun j i L h => by have := hB.anc i L h; simp at this ⊢; omega) ?_ ?_
        · refine ok_run hB tabOK pureE_ok 100 ?_
          have hbx := boxL_len
          repeat (first
    | rw [run_ops0]
    | rw [run_seq]
    | rw [run_region]
    | rw [run_block]
    | rw [run_blk]
    | rw [run_skip]
    | (apply run_go rfl; focus (intro L K hK; simp [-List.reduceReplicate, -List.getD_eq_getElem?_getD, tm, hn0']; (repeat' apply And.intro); all_goals first | exact hK | omega)))
          apply run_cond2 rfl
          · intro h3
            simp at h3
            have h3' : i % nk = 0 := by first | exact h3 | omega
            repeat (first
    | rw [run_ops0]
    | rw [run_seq]
    | rw [run_region]
    | rw [run_block]
    | rw [run_blk]
    | rw [run_skip]
    | (apply run_go rfl; focus (intro L K hK; simp [-List.reduceReplicate, -List.getD_eq_getElem?_getD]; (repeat' apply And.intro); all_goals first | exact hK | omega)))
            rw [run_draw]
            refine ok_draw2 18 tabOK pureE_ok (pureOf_mono _) mixed (by decide +kernel) rfl rfl ?_
            repeat (first
    | (apply hd_go rfl rfl rfl rfl (Nat.le_of_ble_eq_true rfl); focus (intro K' hK; simp [-List.reduceReplicate, -List.getD_eq_getElem?_getD, hx, hbx, hlt, pureOf, pureE]; (repeat' apply And.intro); all_goals first | exact hK | omega))
    | (apply hd_new rfl rfl rfl rfl (Nat.le_of_ble_eq_true rfl); focus (intro K' hK; simp [-List.reduceReplicate, -List.getD_eq_getElem?_getD, hx, hbx, hlt, pureOf, pureE]; (repeat' apply And.intro); all_goals first | exact hK | omega)))
            refine hd_nil ?_
            simp only [List.map_nil, List.append_nil]
            refine ok_run hB tabOK pureE_ok 100 ?_
            repeat (first
    | rw [run_ops0]
    | rw [run_seq]
    | rw [run_region]
    | rw [run_block]
    | rw [run_blk]
    | rw [run_skip]
    | (apply run_go rfl; focus (intro L K hK; simp [-List.reduceReplicate, -List.getD_eq_getElem?_getD, hx, pureOf, pureE]; (repeat' apply And.intro); all_goals first | exact hK | omega)))
            rw [run_back]
            refine ⟨(), trivial, ?_⟩
            simp [-List.reduceReplicate, -List.getD_eq_getElem?_getD, schT, h3', rotS, boxOf, twice8]
          · intro h3
            simp at h3
            have h3' : ¬ i % nk = 0 := by first | exact h3 | omega
            rcases hnk with rfl | rfl
            · repeat (first
    | rw [run_ops0]
    | rw [run_seq]
    | rw [run_region]
    | rw [run_block]
    | rw [run_blk]
    | rw [run_skip]
    | (apply run_go rfl; focus (intro L K hK; simp [-List.reduceReplicate, -List.getD_eq_getElem?_getD]; (repeat' apply And.intro); all_goals first | exact hK | omega)))
              apply run_guard rfl rfl rfl rfl
              · intro h; cases h
              intro _
              refine ⟨Nat.le_of_ble_eq_true rfl, ?_⟩
              simp only [St.put]
              apply run_guard rfl rfl rfl rfl
              · intro h; cases h
              intro _
              refine ⟨Nat.le_of_ble_eq_true rfl, ?_⟩
              simp only [St.put]
              apply run_guard rfl rfl rfl rfl
              · intro h; cases h
              intro _
              refine ⟨Nat.le_of_ble_eq_true rfl, ?_⟩
              simp only [St.put]
              apply run_guard rfl rfl rfl rfl
              · intro h; cases h
              intro _
              refine ⟨Nat.le_of_ble_eq_true rfl, ?_⟩
              simp only [St.put]
              repeat (first
    | rw [run_ops0]
    | rw [run_seq]
    | rw [run_region]
    | rw [run_block]
    | rw [run_blk]
    | rw [run_skip]
    | (apply run_go rfl; focus (intro L K hK; simp [-List.reduceReplicate, -List.getD_eq_getElem?_getD]; (repeat' apply And.intro); all_goals first | exact hK | omega)))
              apply run_cond2 rfl
              · intro h; cases h
              intro _
              repeat (first
    | rw [run_ops0]
    | rw [run_seq]
    | rw [run_region]
    | rw [run_block]
    | rw [run_blk]
    | rw [run_skip]
    | (apply run_go rfl; focus (intro L K hK; simp [-List.reduceReplicate, -List.getD_eq_getElem?_getD]; (repeat' apply And.intro); all_goals first | exact hK | omega)))
              rw [run_back]
              refine ⟨(), trivial, ?_⟩
              simp [-List.reduceReplicate, -List.getD_eq_getElem?_getD, schT, h3']
            · have tm8 : (i : Int).tmod 8 = ((i % 8 : Nat) : Int) := rfl
              repeat (first
    | rw [run_ops0]
    | rw [run_seq]
    | rw [run_region]
    | rw [run_block]
    | rw [run_blk]
    | rw [run_skip]
    | (apply run_go rfl; focus (intro L K hK; simp [-List.reduceReplicate, -List.getD_eq_getElem?_getD]; (repeat' apply And.intro); all_goals first | exact hK | omega)))
              apply run_guard rfl rfl rfl rfl
              · intro _
                (apply Exists.intro; apply And.intro; focus (intro L K hK; simp [-List.reduceReplicate, -List.getD_eq_getElem?_getD, tm8]; (repeat' apply And.intro); all_goals first | exact hK | omega))
                apply run_guard rfl rfl rfl rfl
                · intro _
                  (apply Exists.intro; apply And.intro; focus (intro L K hK; simp [-List.reduceReplicate, -List.getD_eq_getElem?_getD, tm8]; (repeat' apply And.intro); all_goals first | exact hK | omega))
                  apply run_guard rfl rfl rfl rfl
                  · intro _
                    (apply Exists.intro; apply And.intro; focus (intro L K hK; simp [-List.reduceReplicate, -List.getD_eq_getElem?_getD, tm8]; (repeat' apply And.intro); all_goals first | exact hK | omega))
                    apply run_guard rfl rfl rfl rfl
                    · intro _
                      (apply Exists.intro; apply And.intro; focus (intro L K hK; simp [-List.reduceReplicate, -List.getD_eq_getElem?_getD, tm8]; (repeat' apply And.intro); all_goals first | exact hK | omega))
                      repeat (first
    | rw [run_ops0]
    | rw [run_seq]
    | rw [run_region]
    | rw [run_block]
    | rw [run_blk]
    | rw [run_skip]
    | (apply run_go rfl; focus (intro L K hK; simp [-List.reduceReplicate, -List.getD_eq_getElem?_getD]; (repeat' apply And.intro); all_goals first | exact hK | omega)))
                      apply run_cond2 rfl
                      · intro h4
                        simp at h4
                        have h4' : i % 8 = 4 := by omega
                        rw [run_draw]
                        refine ok_draw2 16 tabOK pureE_ok (pureOf_mono _) mixed (by decide +kernel) rfl rfl ?_
                        repeat (first
    | (apply hd_go rfl rfl rfl rfl (Nat.le_of_ble_eq_true rfl); focus (intro K' hK; simp [-List.reduceReplicate, -List.getD_eq_getElem?_getD, hx, hbx, hlt, pureOf, pureE]; (repeat' apply And.intro); all_goals first | exact hK | omega))
    | (apply hd_new rfl rfl rfl rfl (Nat.le_of_ble_eq_true rfl); focus (intro K' hK; simp [-List.reduceReplicate, -List.getD_eq_getElem?_getD, hx, hbx, hlt, pureOf, pureE]; (repeat' apply And.intro); all_goals first | exact hK | omega)))
                        refine hd_nil ?_
                        simp only [List.map_nil, List.append_nil]
                        refine ok_run hB tabOK pureE_ok 100 ?_
                        repeat (first
    | rw [run_ops0]
    | rw [run_seq]
    | rw [run_region]
    | rw [run_block]
    | rw [run_blk]
    | rw [run_skip]
    | (apply run_go rfl; focus (intro L K hK; simp [-List.reduceReplicate, -List.getD_eq_getElem?_getD, hx]; (repeat' apply And.intro); all_goals first | exact hK | omega)))
                        rw [run_back]
                        refine ⟨(), trivial, ?_⟩
                        simp [-List.reduceReplicate, -List.getD_eq_getElem?_getD, schT, h3', h4', subW, boxOf]
                      · intro h4
                        simp at h4
                        have h4' : ¬ i % 8 = 4 := by omega
                        repeat (first
    | rw [run_ops0]
    | rw [run_seq]
    | rw [run_region]
    | rw [run_block]
    | rw [run_blk]
    | rw [run_skip]
    | (apply run_go rfl; focus (intro L K hK; simp [-List.reduceReplicate, -List.getD_eq_getElem?_getD]; (repeat' apply And.intro); all_goals first | exact hK | omega)))
                        rw [run_back]
                        refine ⟨(), trivial, ?_⟩
                        simp [-List.reduceReplicate, -List.getD_eq_getElem?_getD, schT, h3', h4']
                    · intro h; cases h
                  · intro h; cases h
                · intro h; cases h
              · intro h; cases h
        · intro _ _
          refine ok_run hB tabOK pureE_ok 100 ?_
          have htl := schT_len nk i c hx
          generalize schT nk i c t = t2 at htl hs1 ⊢
          repeat (first
    | rw [run_ops0]
    | rw [run_seq]
    | rw [run_region]
    | rw [run_block]
    | rw [run_blk]
    | rw [run_skip]
    | (apply run_go rfl; focus (intro L K hK; simp [-List.reduceReplicate, -List.getD_eq_getElem?_getD]; (repeat' apply And.intro); all_goals first | exact hK | omega)))
          rw [run_loop]
          refine ok_loop (X := Nat) (fun j => ⟨[(101, one (.i j)), (8, one (.ptr 2 0 0)), (7, one (.i i)), (6, one (.u8 (if i % nk = 0 then twice8 c else c))), (5, one (.sl 1 0 i cap 4)), (4, one (.i nk)), (0, one (.sl 0 0 (4 * nk) cap0 1))], [.ent ⟨false, 5, none, .a8 key⟩, .ent ⟨true, 99, none, .a8 W⟩, .ent ⟨true, 99, some 4, .a8 (xorO t2 W ((i - nk) * 4) j)⟩]⟩) (fun j => j ≤ 4) (fun j => 4 - j) (fun j i L h => by have := hB.anc i L h; simp at this ⊢; omega) ⟨0, by omega, by simp [-List.reduceReplicate, -List.getD_eq_getElem?_getD, xorO]⟩ ?_
          intro j hj
          refine ok_run hB tabOK pureE_ok 100 ?_
          have hxl := xorO_len t2 W ((i - nk) * 4) j
          repeat (first
    | rw [run_ops0]
    | rw [run_seq]
    | rw [run_region]
    | rw [run_block]
    | rw [run_blk]
    | rw [run_skip]
    | (apply run_go rfl; focus (intro L K hK; simp [-List.reduceReplicate, -List.getD_eq_getElem?_getD]; (repeat' apply And.intro); all_goals first | exact hK | omega)))
          apply run_cond2 rfl
          · intro h
            simp at h
            have e5 : ((i : Int) - nk).toNat = i - nk := by omega
            repeat (first
    | rw [run_ops0]
    | rw [run_seq]
    | rw [run_region]
    | rw [run_block]
    | rw [run_blk]
    | rw [run_skip]
    | (apply run_go rfl; focus (intro L K hK; simp [-List.reduceReplicate, -List.getD_eq_getElem?_getD]; (repeat' apply And.intro); all_goals first | exact hK | omega)))
            rw [run_draw]
            refine ok_draw2 12 tabOK pureE_ok (pureOf_mono _) mixed (by decide +kernel) rfl rfl ?_
            repeat (first
    | (apply hd_go rfl rfl rfl rfl (Nat.le_of_ble_eq_true rfl); focus (intro K' hK; simp [-List.reduceReplicate, -List.getD_eq_getElem?_getD, hxl, htl, hwl, e5]; (repeat' apply And.intro); all_goals first | exact hK | omega))
    | (apply hd_new rfl rfl rfl rfl (Nat.le_of_ble_eq_true rfl); focus (intro K' hK; simp [-List.reduceReplicate, -List.getD_eq_getElem?_getD, hxl, htl, hwl, e5]; (repeat' apply And.intro); all_goals first | exact hK | omega)))
            refine hd_nil ?_
            simp only [List.map_nil, List.append_nil]
            refine ok_run hB tabOK pureE_ok 100 ?_
            repeat (first
    | rw [run_ops0]
    | rw [run_seq]
    | rw [run_region]
    | rw [run_block]
    | rw [run_blk]
    | rw [run_skip]
    | (apply run_go rfl; focus (intro L K hK; simp [-List.reduceReplicate, -List.getD_eq_getElem?_getD, hxl, htl]; (repeat' apply And.intro); all_goals first | exact hK | omega)))
            rw [run_back]
            refine ⟨j + 1, by omega, by omega, ?_⟩
            simp [-List.reduceReplicate, -List.getD_eq_getElem?_getD, xorO]
          · intro h
            simp at h
            obtain rfl : j = 4 := by omega
            apply run_exit2 rfl
            generalize xorO t2 W ((i - nk) * 4) 4 = t3 at hxl hs1 ⊢
            have h3l : t3.length = 4 := by omega
            repeat (first
    | rw [run_ops0]
    | rw [run_seq]
    | rw [run_region]
    | rw [run_block]
    | rw [run_blk]
    | rw [run_skip]
    | (apply run_go rfl; focus (intro L K hK; simp [-List.reduceReplicate, -List.getD_eq_getElem?_getD, h3l]; (repeat' apply And.intro); all_goals first | exact hK | omega)))
            (apply run_app rfl; focus (intro L K hK; simp [-List.reduceReplicate, -List.getD_eq_getElem?_getD, hwl, h3l]; (repeat' apply And.intro); all_goals first | exact hK | omega | (intro cap hcap; exact hK cap hcap)))
            intro cap2 hcap2
            repeat (first
    | rw [run_ops0]
    | rw [run_seq]
    | rw [run_region]
    | rw [run_block]
    | rw [run_blk]
    | rw [run_skip]
    | (apply run_go rfl; focus (intro L K hK; simp [-List.reduceReplicate, -List.getD_eq_getElem?_getD]; (repeat' apply And.intro); all_goals first | exact hK | omega)))
            rw [run_back]
            refine ⟨(i + 1, cap2), by simp only; omega, by simp only; omega, ?_⟩
            simp only [hs1, hs2]
            simp [-List.reduceReplicate, -List.getD_eq_getElem?_getD, killA]
            exact List.take_of_length_le (by omega)
    · intro h
      simp at h
      obtain rfl : i = 4 * (nk + 7) := by omega
      apply run_exit2 rfl
      generalize hW : (sch key nk (4 * (nk + 7))).1 = W at hwl ⊢
      generalize (sch key nk (4 * (nk + 7))).2 = c
      repeat (first
    | rw [run_ops0]
    | rw [run_seq]
    | rw [run_region]
    | rw [run_block]
    | rw [run_blk]
    | rw [run_skip]
    | (apply run_go rfl; focus (intro L K hK; simp [-List.reduceReplicate, -List.getD_eq_getElem?_getD, fillS, R.solid]; (repeat' apply And.intro); all_goals first | exact hK | omega)))
      try (rw [run_zero]; refine ok_run hB tabOK pureE_ok 100 ?_)
      repeat (first
    | rw [run_ops0]
    | rw [run_seq]
    | rw [run_region]
    | rw [run_block]
    | rw [run_blk]
    | rw [run_skip]
    | (apply run_go rfl; focus (intro L K hK; simp [-List.reduceReplicate, -List.getD_eq_getElem?_getD, fillS, R.solid]; (repeat' apply And.intro); all_goals first | exact hK | omega)))
      rw [run_loop]
      refine ok_blank_mem 2 _ _ 23 16 (.a8 []) rfl trivial rfl rfl ?_
      simp only [List.cons_append, List.nil_append, List.set, List.length_cons, List.length_nil]
      refine ok_loop (X := Nat × Nat) (fun x => ⟨[(11, one (.i (4 * x.1 : Nat))), (10, one (.ptr 2 0 0)), (5, one (.sl 1 0 (4 * (nk + 7)) cap 4))], [.ent ⟨false, 5, none, .a8 key⟩, .ent ⟨true, 99, none, .a8 W⟩, .ent ⟨true, 105, some 1, .st [⟨1, .s (.sl 3 0 x.1 x.2 16)⟩]⟩, .ent ⟨true, 23, none, .a8 (W.take (16 * x.1))⟩]⟩) (fun x => x.1 ≤ nk + 7) (fun x => nk + 7 - x.1) (fun j i L h => by have := hB.anc i L h; simp at this ⊢; omega) ⟨(0, 0), by omega, by simp [-List.reduceReplicate, -List.getD_eq_getElem?_getD]⟩ ?_
      rintro ⟨r, capr⟩ hr
      refine ok_run hB tabOK pureE_ok 100 ?_
      simp only at hr ⊢
      repeat (first
    | rw [run_ops0]
    | rw [run_seq]
    | rw [run_region]
    | rw [run_block]
    | rw [run_blk]
    | rw [run_skip]
    | (apply run_go rfl; focus (intro L K hK; simp [-List.reduceReplicate, -List.getD_eq_getElem?_getD]; (repeat' apply And.intro); all_goals first | exact hK | omega)))
      apply run_cond2 rfl
      · intro h
        simp at h
        have hr7 : r < nk + 7 := by omega
        repeat (first
    | rw [run_ops0]
    | rw [run_seq]
    | rw [run_region]
    | rw [run_block]
    | rw [run_blk]
    | rw [run_skip]
    | (apply run_go rfl; focus (intro L K hK; simp [-List.reduceReplicate, -List.getD_eq_getElem?_getD]; (repeat' apply And.intro); all_goals first | exact hK | omega)))
        rw [run_loop]
        refine ok_loop (X := Nat) (fun j => ⟨[(130, one (.i j)), (12, one (.ptr 4 0 0)), (11, one (.i (4 * r : Nat))), (10, one (.ptr 2 0 0)), (5, one (.sl 1 0 (4 * (nk + 7)) cap 4))], [.ent ⟨false, 5, none, .a8 key⟩, .ent ⟨true, 99, none, .a8 W⟩, .ent ⟨true, 105, some 1, .st [⟨1, .s (.sl 3 0 r capr 16)⟩]⟩, .ent ⟨true, 23, none, .a8 (W.take (16 * r))⟩, .ent ⟨true, 23, some 16, .a8 (rowR W (4 * r) j)⟩]⟩) (fun j => j ≤ 16) (fun j => 16 - j) (fun j i L h => by have := hB.anc i L h; simp at this ⊢; omega) ⟨0, by omega, by simp [-List.reduceReplicate, -List.getD_eq_getElem?_getD, rowR, zero16]⟩ ?_
        intro j hj
        refine ok_run hB tabOK pureE_ok 100 ?_
        have hrl := rowR_len W (4 * r) j
        repeat (first
    | rw [run_ops0]
    | rw [run_seq]
    | rw [run_region]
    | rw [run_block]
    | rw [run_blk]
    | rw [run_skip]
    | (apply run_go rfl; focus (intro L K hK; simp [-List.reduceReplicate, -List.getD_eq_getElem?_getD]; (repeat' apply And.intro); all_goals first | exact hK | omega)))
        apply run_cond2 rfl
        · intro h
          simp at h
          have q1 : (j : Int).tdiv 4 = (j : Int) / 4 := Int.tdiv_eq_ediv_of_nonneg (by omega)
          have q2 : (j : Int).tmod 4 = (j : Int) % 4 := Int.tmod_eq_emod_of_nonneg (by omega)
          have q3 : (4 * (r : Int) + (j : Int) / 4).toNat = 4 * r + j / 4 := by omega
          have q4 : ((j : Int) % 4).toNat = j % 4 := by omega
          repeat (first
    | rw [run_ops0]
    | rw [run_seq]
    | rw [run_region]
    | rw [run_block]
    | rw [run_blk]
    | rw [run_skip]
    | (apply run_go rfl; focus (intro L K hK; simp [-List.reduceReplicate, -List.getD_eq_getElem?_getD, q1, q2, q3, q4, hwl, hrl]; (repeat' apply And.intro); all_goals first | exact hK | omega)))
          rw [run_back]
          refine ⟨j + 1, by omega, by omega, ?_⟩
          simp [-List.reduceReplicate, -List.getD_eq_getElem?_getD, rowR]
        · intro h
          simp at h
          obtain rfl : j = 16 := by omega
          apply run_exit2 rfl
          repeat (first
    | rw [run_ops0]
    | rw [run_seq]
    | rw [run_region]
    | rw [run_block]
    | rw [run_blk]
    | rw [run_skip]
    | (apply run_go rfl; focus (intro L K hK; simp [-List.reduceReplicate, -List.getD_eq_getElem?_getD]; (repeat' apply And.intro); all_goals first | exact hK | omega)))
          rw [run_draw]
          refine ok_draw_app2 7 tabOK pureE_ok (pureOf_mono _) mixed hB.pan (by decide +kernel) rfl rfl ?_
          repeat (first
    | (apply hd_go rfl rfl rfl rfl (Nat.le_of_ble_eq_true rfl); focus (intro K' hK; simp [-List.reduceReplicate, -List.getD_eq_getElem?_getD, hrl]; (repeat' apply And.intro); all_goals first | exact hK | omega))
    | (apply hd_new rfl rfl rfl rfl (Nat.le_of_ble_eq_true rfl); focus (intro K' hK; simp [-List.reduceReplicate, -List.getD_eq_getElem?_getD, hrl]; (repeat' apply And.intro); all_goals first | exact hK | omega)))
          refine hd_nil ?_
          simp only [List.map_cons, List.map_nil, List.nil_append, List.cons_append]
          refine ok_run hB tabOK pureE_ok 100 ?_
          have hwt : (W.take (16 * r)).length = r * 16 := by simp [hwl]; omega
          (apply run_app rfl; focus (intro L K hK; simp [-List.reduceReplicate, -List.getD_eq_getElem?_getD, hwt, hrl]; (repeat' apply And.intro); all_goals first | exact hK | omega | (intro cap hcap; exact hK cap hcap)))
          intro cap2 hcap2
          repeat (first
    | rw [run_ops0]
    | rw [run_seq]
    | rw [run_region]
    | rw [run_block]
    | rw [run_blk]
    | rw [run_skip]
    | (apply run_go rfl; focus (intro L K hK; simp [-List.reduceReplicate, -List.getD_eq_getElem?_getD]; (repeat' apply And.intro); all_goals first | exact hK | omega)))
          rw [run_back]
          refine ⟨(r + 1, cap2), by simp only; omega, by simp only; omega, ?_⟩
          have hre : W.take (16 * r) ++ (rowR W (4 * r) 16).take 16 = W.take (16 * (r + 1)) := by
            rw [List.take_of_length_le (l := rowR W (4 * r) 16) (by omega), rowR_eq W r (by omega), ← List.take_add]
            rfl
          simp [-List.reduceReplicate, -List.getD_eq_getElem?_getD, hre]
          omega
      · intro h
        simp at h
        obtain rfl : r = nk + 7 := by omega
        apply run_exit2 rfl
        repeat (first
    | rw [run_ops0]
    | rw [run_seq]
    | rw [run_region]
    | rw [run_block]
    | rw [run_blk]
    | rw [run_skip]
    | (apply run_go rfl; focus (intro L K hK; simp [-List.reduceReplicate, -List.getD_eq_getElem?_getD]; (repeat' apply And.intro); all_goals first | exact hK | omega)))
        rw [run_ret]
        have htk : W.take (16 * (nk + 7)) = W := List.take_of_length_le (by omega)
        simp [-List.reduceReplicate, -List.getD_eq_getElem?_getD, results21, f21, htk, newMem, hW]
theorem spec21 (key : B8) (nk cap0 : Nat) (hk : key.length = 4 * nk) (hnk : nk = 4 ∨ nk = 8) (hcap0 : 4 * nk ≤ cap0) : Spec prog 21 [one (.sl 0 0 (4 * nk) cap0 1)] [.ent ⟨false, 5, none, .a8 key⟩] [] (fun r m => r = .tup [.s (.ptr 2 0 0), .s (.i 0)] ∧ ∃ cap, m = newMem key nk cap) := spec21L key nk cap0 (Nat.le_of_eq hk.symm) hnk hcap0
end Go.V
end
section
set_option linter.unusedSimpArgs false
set_option linter.unusedVariables false
set_option maxRecDepth 20000
namespace Go.V
/-- A byte as an int; bytes as ints. -/
def ub (x : BitVec 8) : Int := (x.toNat : Int)
def toI (b : B8) : LI := b.map ub
theorem ub_nat (x : BitVec 8) : (ub x).toNat = x.toNat := by simp [ub]
theorem ub_byt (x : BitVec 8) : 0 ≤ ub x ∧ ub x < 256 := by have := x.isLt; simp only [ub]; omega
theorem toI_getD (b : B8) (i : Nat) : (toI b).getD i 0 = ub (b.getD i 0) := by
  simp only [toI, List.getD_eq_getElem?_getD, List.getElem?_map]
  cases b[i]? <;> rfl
theorem toI_len (b : B8) : (toI b).length = b.length := by simp [toI]
theorem toI_byt (b : B8) : Byt (toI b) := fun i => by rw [toI_getD]; exact ub_byt _
theorem xorI_ub (x y : BitVec 8) : xorI (ub x) (ub y) = ub (x ^^^ y) := by simp [xorI, ub, BitVec.toNat_xor]
theorem ofI_ub (x : BitVec 8) : BitVec.ofInt 8 (ub x) = x := by simp [ub]
theorem all_bytes {P : BitVec 8 → Prop} (h : ∀ i : Fin 256, P (BitVec.ofNat 8 i.1)) (x : BitVec 8) : P x := by
  have := h ⟨x.toNat, x.isLt⟩
  simpa using this
theorem times1 : ∀ x : BitVec 8, timesR 1 (ub x) 8 = ub x := all_bytes (by decide +kernel)
theorem times2 : ∀ x : BitVec 8, timesR 2 (ub x) 8 = ub (twice8 x) := all_bytes (by decide +kernel)
theorem times3 : ∀ x : BitVec 8, timesR 3 (ub x) 8 = ub (x ^^^ twice8 x) := all_bytes (by decide +kernel)
theorem shr7 : ∀ x : BitVec 8, (x >>> 7) * 27#8 = if x.getLsbD 7 then 27#8 else 0#8 := all_bytes (by decide +kernel)
theorem twice8_xor (x y : BitVec 8) : twice8 (x ^^^ y) = twice8 x ^^^ twice8 y := by
  simp only [twice8, shr7, BitVec.getLsbD_xor, BitVec.shiftLeft_xor_distrib]
  generalize x <<< 1 = a
  generalize y <<< 1 = b
  cases x.getLsbD 7 <;> cases y.getLsbD 7 <;> simp <;> (apply BitVec.eq_of_getLsbD_eq; intro i hi; simp only [BitVec.getLsbD_xor]; cases a.getLsbD i <;> cases b.getLsbD i <;> cases (27#8).getLsbD i <;> rfl)
theorem xor_bits {x y : BitVec 8} (h : ∀ i, x.getLsbD i = y.getLsbD i) : x = y := BitVec.eq_of_getLsbD_eq (fun i _ => h i)

/-! one round -/
theorem list16 {α : Type} {b : List α} (h : b.length = 16) : ∃ b0 b1 b2 b3 b4 b5 b6 b7 b8 b9 b10 b11 b12 b13 b14 b15, b = [b0, b1, b2, b3, b4, b5, b6, b7, b8, b9, b10, b11, b12, b13, b14, b15] := by
  match b, h with
  | [b0, b1, b2, b3, b4, b5, b6, b7, b8, b9, b10, b11, b12, b13, b14, b15], _ => exact ⟨_, _, _, _, _, _, _, _, _, _, _, _, _, _, _, _, rfl⟩
theorem list4 {α : Type} {b : List α} (h : b.length = 4) : ∃ b0 b1 b2 b3, b = [b0, b1, b2, b3] := by
  match b, h with
  | [b0, b1, b2, b3], _ => exact ⟨_, _, _, _, rfl⟩
/-- Lists of one length are alike where their entries are. -/
theorem ext_getD {α : Type} {d : α} {a b : List α} {n : Nat} (ha : a.length = n) (hb : b.length = n) (h : ∀ i, i < n → a.getD i d = b.getD i d) : a = b := by
  apply List.ext_getElem (by omega)
  intro i h1 h2
  have := h i (by omega)
  simpa [List.getD_eq_getElem?_getD, List.getElem?_eq_getElem h1, List.getElem?_eq_getElem h2] using this
/-- The substitution and the shift of rows. -/
def shI (i : Nat) : Nat := (i + 4 * (i % 4)) % 16
theorem subS_get (b : B8) : ∀ i, i < 16 → (subS b 16).getD i 0 = boxOf (b.getD (shI i) 0)
  | 0, _ => by kernel_rfl | 1, _ => by kernel_rfl | 2, _ => by kernel_rfl | 3, _ => by kernel_rfl | 4, _ => by kernel_rfl | 5, _ => by kernel_rfl | 6, _ => by kernel_rfl | 7, _ => by kernel_rfl
  | 8, _ => by kernel_rfl | 9, _ => by kernel_rfl | 10, _ => by kernel_rfl | 11, _ => by kernel_rfl | 12, _ => by kernel_rfl | 13, _ => by kernel_rfl | 14, _ => by kernel_rfl | 15, _ => by kernel_rfl
  | n + 16, h => absurd h (by omega)
theorem outT_get (sb s : LI) : ∀ i, i < 16 → (outT sb s 4).getD i 0 = sb.getD (s.getD (shI i) 0).toNat 0
  | 0, _ => by kernel_rfl | 1, _ => by kernel_rfl | 2, _ => by kernel_rfl | 3, _ => by kernel_rfl | 4, _ => by kernel_rfl | 5, _ => by kernel_rfl | 6, _ => by kernel_rfl | 7, _ => by kernel_rfl
  | 8, _ => by kernel_rfl | 9, _ => by kernel_rfl | 10, _ => by kernel_rfl | 11, _ => by kernel_rfl | 12, _ => by kernel_rfl | 13, _ => by kernel_rfl | 14, _ => by kernel_rfl | 15, _ => by kernel_rfl
  | n + 16, h => absurd h (by omega)
def SbOK (sb : LI) : Prop := ∀ x : BitVec 8, sb.getD x.toNat 0 = ub (boxOf x)
theorem outT_eq {sb : LI} (hs : SbOK sb) (b : B8) : outT sb (toI b) 4 = toI (subS b 16) := by
  apply ext_getD (d := 0) (outT_len _ _ _) (by rw [toI_len, subS_len])
  intro i hi
  rw [outT_get _ _ i hi, toI_getD, toI_getD, ub_nat, hs, subS_get b i hi]
/-- The mixing of a column: entry i. -/
def mxc (s : B8) (i : Nat) : BitVec 8 := s.getD i 0 ^^^ allOf ((s.drop (4 * (i / 4))).take 4) ^^^ twice8 (s.getD i 0 ^^^ s.getD (4 * (i / 4) + (i % 4 + 1) % 4) 0)
theorem mixS_get {s : B8} (h : s.length = 16) : ∀ i, i < 16 → (mixS s 4).getD i 0 = mxc s i := by
  obtain ⟨b0, b1, b2, b3, b4, b5, b6, b7, b8, b9, b10, b11, b12, b13, b14, b15, rfl⟩ := list16 h
  intro i hi
  match i, hi with
  | 0, _ => (show _ = _; kernel_rfl) | 1, _ => (show _ = _; kernel_rfl) | 2, _ => (show _ = _; kernel_rfl) | 3, _ => (show _ = _; kernel_rfl) | 4, _ => (show _ = _; kernel_rfl) | 5, _ => (show _ = _; kernel_rfl) | 6, _ => (show _ = _; kernel_rfl) | 7, _ => (show _ = _; kernel_rfl)
  | 8, _ => (show _ = _; kernel_rfl) | 9, _ => (show _ = _; kernel_rfl) | 10, _ => (show _ = _; kernel_rfl) | 11, _ => (show _ = _; kernel_rfl) | 12, _ => (show _ = _; kernel_rfl) | 13, _ => (show _ = _; kernel_rfl) | 14, _ => (show _ = _; kernel_rfl) | 15, _ => (show _ = _; kernel_rfl)
  | n + 16, h => exact absurd h (by omega)
theorem xorAt_get {b : B8} (s W : B8) (o : Nat) (h : b.length = 16) : ∀ i, i < 16 → (xorAt b s W o 16).getD i 0 = s.getD i 0 ^^^ W.getD (o + i) 0 := by
  obtain ⟨b0, b1, b2, b3, b4, b5, b6, b7, b8, b9, b10, b11, b12, b13, b14, b15, rfl⟩ := list16 h
  intro i hi
  match i, hi with
  | 0, _ => (show _ = _; kernel_rfl) | 1, _ => (show _ = _; kernel_rfl) | 2, _ => (show _ = _; kernel_rfl) | 3, _ => (show _ = _; kernel_rfl) | 4, _ => (show _ = _; kernel_rfl) | 5, _ => (show _ = _; kernel_rfl) | 6, _ => (show _ = _; kernel_rfl) | 7, _ => (show _ = _; kernel_rfl)
  | 8, _ => (show _ = _; kernel_rfl) | 9, _ => (show _ = _; kernel_rfl) | 10, _ => (show _ = _; kernel_rfl) | 11, _ => (show _ = _; kernel_rfl) | 12, _ => (show _ = _; kernel_rfl) | 13, _ => (show _ = _; kernel_rfl) | 14, _ => (show _ = _; kernel_rfl) | 15, _ => (show _ = _; kernel_rfl)
  | n + 16, h => exact absurd h (by omega)
theorem xorIn_get {b : B8} (W : B8) (h : b.length = 16) : ∀ i, i < 16 → (xorIn b W 16).getD i 0 = b.getD i 0 ^^^ W.getD i 0 := by
  obtain ⟨b0, b1, b2, b3, b4, b5, b6, b7, b8, b9, b10, b11, b12, b13, b14, b15, rfl⟩ := list16 h
  intro i hi
  match i, hi with
  | 0, _ => (show _ = _; kernel_rfl) | 1, _ => (show _ = _; kernel_rfl) | 2, _ => (show _ = _; kernel_rfl) | 3, _ => (show _ = _; kernel_rfl) | 4, _ => (show _ = _; kernel_rfl) | 5, _ => (show _ = _; kernel_rfl) | 6, _ => (show _ = _; kernel_rfl) | 7, _ => (show _ = _; kernel_rfl)
  | 8, _ => (show _ = _; kernel_rfl) | 9, _ => (show _ = _; kernel_rfl) | 10, _ => (show _ = _; kernel_rfl) | 11, _ => (show _ = _; kernel_rfl) | 12, _ => (show _ = _; kernel_rfl) | 13, _ => (show _ = _; kernel_rfl) | 14, _ => (show _ = _; kernel_rfl) | 15, _ => (show _ = _; kernel_rfl)
  | n + 16, h => exact absurd h (by omega)
theorem iniS_get (b : B8) (W : LI) : ∀ i, i < 16 → (iniS b W 16).getD i 0 = (((b.getD i 0).toNat ^^^ (W.getD i 0).toNat : Nat) : Int)
  | 0, _ => by kernel_rfl | 1, _ => by kernel_rfl | 2, _ => by kernel_rfl | 3, _ => by kernel_rfl | 4, _ => by kernel_rfl | 5, _ => by kernel_rfl | 6, _ => by kernel_rfl | 7, _ => by kernel_rfl
  | 8, _ => by kernel_rfl | 9, _ => by kernel_rfl | 10, _ => by kernel_rfl | 11, _ => by kernel_rfl | 12, _ => by kernel_rfl | 13, _ => by kernel_rfl | 14, _ => by kernel_rfl | 15, _ => by kernel_rfl
  | n + 16, h => absurd h (by omega)
theorem outM_get (mx : Bool) (t W : LI) (r : Nat) {s : LI} (h : s.length = 16) : ∀ i, i < 16 → (outM mx t W r s 4).getD i 0 = xorI (cellX mx t (i / 4) (i % 4)) (W.getD ((4 * r + i / 4) * 4 + i % 4) 0) := by
  obtain ⟨b0, b1, b2, b3, b4, b5, b6, b7, b8, b9, b10, b11, b12, b13, b14, b15, rfl⟩ := list16 h
  intro i hi
  match i, hi with
  | 0, _ => (show _ = _; kernel_rfl) | 1, _ => (show _ = _; kernel_rfl) | 2, _ => (show _ = _; kernel_rfl) | 3, _ => (show _ = _; kernel_rfl) | 4, _ => (show _ = _; kernel_rfl) | 5, _ => (show _ = _; kernel_rfl) | 6, _ => (show _ = _; kernel_rfl) | 7, _ => (show _ = _; kernel_rfl)
  | 8, _ => (show _ = _; kernel_rfl) | 9, _ => (show _ = _; kernel_rfl) | 10, _ => (show _ = _; kernel_rfl) | 11, _ => (show _ = _; kernel_rfl) | 12, _ => (show _ = _; kernel_rfl) | 13, _ => (show _ = _; kernel_rfl) | 14, _ => (show _ = _; kernel_rfl) | 15, _ => (show _ = _; kernel_rfl)
  | n + 16, h => exact absurd h (by omega)
theorem outB_get (s : LI) : ∀ i, i < 16 → (outB s 16).getD i 0 = BitVec.ofInt 8 (s.getD i 0)
  | 0, _ => by kernel_rfl | 1, _ => by kernel_rfl | 2, _ => by kernel_rfl | 3, _ => by kernel_rfl | 4, _ => by kernel_rfl | 5, _ => by kernel_rfl | 6, _ => by kernel_rfl | 7, _ => by kernel_rfl
  | 8, _ => by kernel_rfl | 9, _ => by kernel_rfl | 10, _ => by kernel_rfl | 11, _ => by kernel_rfl | 12, _ => by kernel_rfl | 13, _ => by kernel_rfl | 14, _ => by kernel_rfl | 15, _ => by kernel_rfl
  | n + 16, h => absurd h (by omega)
theorem mix0 (a b c d : BitVec 8) : xorI (xorI (xorI (timesR 2 (ub a) 8) (timesR 3 (ub b) 8)) (timesR 1 (ub c) 8)) (timesR 1 (ub d) 8) = ub (a ^^^ (a ^^^ b ^^^ c ^^^ d) ^^^ twice8 (a ^^^ b)) := by
  rw [times2, times3, times1, times1, xorI_ub, xorI_ub, xorI_ub, twice8_xor]
  congr 1
  apply xor_bits
  intro i
  simp only [BitVec.getLsbD_xor]
  generalize (twice8 a).getLsbD i = ta
  generalize (twice8 b).getLsbD i = tb
  cases a.getLsbD i <;> cases b.getLsbD i <;> cases c.getLsbD i <;> cases d.getLsbD i <;> cases ta <;> cases tb <;> rfl
theorem mix1 (a b c d : BitVec 8) : xorI (xorI (xorI (timesR 1 (ub a) 8) (timesR 2 (ub b) 8)) (timesR 3 (ub c) 8)) (timesR 1 (ub d) 8) = ub (b ^^^ (a ^^^ b ^^^ c ^^^ d) ^^^ twice8 (b ^^^ c)) := by
  rw [times2, times3, times1, times1, xorI_ub, xorI_ub, xorI_ub, twice8_xor]
  congr 1
  apply xor_bits
  intro i
  simp only [BitVec.getLsbD_xor]
  generalize (twice8 b).getLsbD i = tb
  generalize (twice8 c).getLsbD i = tc
  cases a.getLsbD i <;> cases b.getLsbD i <;> cases c.getLsbD i <;> cases d.getLsbD i <;> cases tb <;> cases tc <;> rfl
theorem mix2 (a b c d : BitVec 8) : xorI (xorI (xorI (timesR 1 (ub a) 8) (timesR 1 (ub b) 8)) (timesR 2 (ub c) 8)) (timesR 3 (ub d) 8) = ub (c ^^^ (a ^^^ b ^^^ c ^^^ d) ^^^ twice8 (c ^^^ d)) := by
  rw [times2, times3, times1, times1, xorI_ub, xorI_ub, xorI_ub, twice8_xor]
  congr 1
  apply xor_bits
  intro i
  simp only [BitVec.getLsbD_xor]
  generalize (twice8 d).getLsbD i = td
  generalize (twice8 c).getLsbD i = tc
  cases a.getLsbD i <;> cases b.getLsbD i <;> cases c.getLsbD i <;> cases d.getLsbD i <;> cases td <;> cases tc <;> rfl
theorem mix3 (a b c d : BitVec 8) : xorI (xorI (xorI (timesR 3 (ub a) 8) (timesR 1 (ub b) 8)) (timesR 1 (ub c) 8)) (timesR 2 (ub d) 8) = ub (d ^^^ (a ^^^ b ^^^ c ^^^ d) ^^^ twice8 (d ^^^ a)) := by
  rw [times2, times3, times1, times1, xorI_ub, xorI_ub, xorI_ub, twice8_xor]
  congr 1
  apply xor_bits
  intro i
  simp only [BitVec.getLsbD_xor]
  generalize (twice8 d).getLsbD i = td
  generalize (twice8 a).getLsbD i = ta
  cases a.getLsbD i <;> cases b.getLsbD i <;> cases c.getLsbD i <;> cases d.getLsbD i <;> cases td <;> cases ta <;> rfl
theorem cell_eq {s : B8} (h : s.length = 16) : ∀ i, i < 16 → cellX true (toI s) (i / 4) (i % 4) = ub (mxc s i) := by
  obtain ⟨b0, b1, b2, b3, b4, b5, b6, b7, b8, b9, b10, b11, b12, b13, b14, b15, rfl⟩ := list16 h
  intro i hi
  match i, hi with
  | 0, _ => exact mix0 b0 b1 b2 b3
  | 1, _ => exact mix1 b0 b1 b2 b3
  | 2, _ => exact mix2 b0 b1 b2 b3
  | 3, _ => exact mix3 b0 b1 b2 b3
  | 4, _ => exact mix0 b4 b5 b6 b7
  | 5, _ => exact mix1 b4 b5 b6 b7
  | 6, _ => exact mix2 b4 b5 b6 b7
  | 7, _ => exact mix3 b4 b5 b6 b7
  | 8, _ => exact mix0 b8 b9 b10 b11
  | 9, _ => exact mix1 b8 b9 b10 b11
  | 10, _ => exact mix2 b8 b9 b10 b11
  | 11, _ => exact mix3 b8 b9 b10 b11
  | 12, _ => exact mix0 b12 b13 b14 b15
  | 13, _ => exact mix1 b12 b13 b14 b15
  | 14, _ => exact mix2 b12 b13 b14 b15
  | 15, _ => exact mix3 b12 b13 b14 b15
  | n + 16, h => exact absurd h (by omega)
theorem round_eq {sb : LI} (hs : SbOK sb) {b : B8} (hb : b.length = 16) (W : B8) (n q : Nat) : outM (decide (q + 1 < n + 6)) (outT sb (toI b) 4) (toI W) (q + 1) (toI b) 4 = toI (oneRound b W (n + 7) (q + 1)) := by
  apply ext_getD (d := 0) (n := 16) (by rw [outM_len, toI_len, hb]) (by rw [toI_len, oneRound, xorAt_len, hb])
  intro i hi
  rw [outM_get _ _ _ _ (by rw [toI_len, hb]) i hi, toI_getD, toI_getD, outT_eq hs, oneRound, xorAt_get _ _ _ hb i hi, ← xorI_ub, show (4 * (q + 1) + i / 4) * 4 + i % 4 = 16 * (q + 1) + i by omega]
  congr 1
  by_cases h : q + 1 < n + 6
  · rw [decide_eq_true h, if_pos (by omega), mixS_get (subS_len b 16) i hi, cell_eq (subS_len b 16) i hi]
  · rw [decide_eq_false h, if_neg (by omega)]
    simp only [cellX, Bool.false_eq_true, if_false]
    rw [toI_getD, show i / 4 * 4 + i % 4 = i by omega]
theorem rounds_eq {sb : LI} (hs : SbOK sb) {b : B8} (hb : b.length = 16) (W : B8) (n : Nat) : ∀ q, rRounds sb (toI W) n (iniS b (toI W) 16) q = toI (rounds b W (n + 7) q)
  | 0 => by
    show iniS b (toI W) 16 = toI (xorIn b W 16)
    apply ext_getD (d := 0) (n := 16) (iniS_len _ _ _) (by rw [toI_len, xorIn_len, hb])
    intro i hi
    rw [iniS_get _ _ i hi, toI_getD, toI_getD, ub_nat, xorIn_get _ hb i hi]
    simp [ub, BitVec.toNat_xor]
  | q + 1 => by
    show outM _ (outT sb (rRounds sb (toI W) n (iniS b (toI W) 16) q) 4) _ _ (rRounds sb (toI W) n (iniS b (toI W) 16) q) 4 = toI (oneRound _ _ _ _)
    rw [rounds_eq hs hb W n q]
    exact round_eq hs (by rw [rounds_len, hb]) W n q
/-- The program's block is the document's. -/
theorem block_eq {sb : LI} (hs : SbOK sb) {b : B8} (hb : b.length = 16) (W : B8) (n : Nat) : outB (rRounds sb (toI W) n (iniS b (toI W) 16) (n + 6)) 16 = rounds b W (n + 7) (n + 7 - 1) := by
  rw [rounds_eq hs hb W n (n + 6)]
  apply ext_getD (d := 0) (n := 16) (outB_len _ _) (by rw [rounds_len, hb])
  intro i hi
  rw [outB_get _ i hi, toI_getD, ofI_ub]
  rfl

/-! blocks are kept apart -/
theorem box_inj : ∀ x y : BitVec 8, boxOf x = boxOf y → x = y := by
  have h : ∀ x : BitVec 8, BitVec.ofNat 8 ((boxL.idxOf (boxOf x))) = x := all_bytes (by decide +kernel)
  intro x y hxy
  rw [← h x, ← h y, hxy]
def mx4 (a b c d : BitVec 8) : BitVec 8 := a ^^^ (a ^^^ b ^^^ c ^^^ d) ^^^ twice8 (a ^^^ b)
theorem mx4_twice (a b c d : BitVec 8) : mx4 (mx4 a b c d) (mx4 b c d a) (mx4 c d a b) (mx4 d a b c) = a ^^^ twice8 (twice8 (a ^^^ c)) := by
  simp only [mx4, twice8_xor]
  apply xor_bits
  intro i
  simp only [BitVec.getLsbD_xor]
  generalize (twice8 a).getLsbD i = ta
  generalize (twice8 b).getLsbD i = tb
  generalize (twice8 c).getLsbD i = tc
  generalize (twice8 d).getLsbD i = td
  generalize (twice8 (twice8 a)).getLsbD i = tta
  generalize (twice8 (twice8 b)).getLsbD i = ttb
  generalize (twice8 (twice8 c)).getLsbD i = ttc
  generalize a.getLsbD i = a
  generalize b.getLsbD i = b
  generalize c.getLsbD i = c
  generalize d.getLsbD i = d
  revert a b c d ta tb tc td tta ttb ttc
  decide +kernel
theorem mx4_back (a b c d : BitVec 8) : a = (a ^^^ twice8 (twice8 (a ^^^ c))) ^^^ twice8 (twice8 ((a ^^^ twice8 (twice8 (a ^^^ c))) ^^^ (c ^^^ twice8 (twice8 (c ^^^ a))))) := by
  simp only [twice8_xor]
  apply xor_bits
  intro i
  simp only [BitVec.getLsbD_xor]
  generalize (twice8 (twice8 a)).getLsbD i = t1
  generalize (twice8 (twice8 c)).getLsbD i = t2
  generalize (twice8 (twice8 (twice8 (twice8 a)))).getLsbD i = t3
  generalize (twice8 (twice8 (twice8 (twice8 c)))).getLsbD i = t4
  cases a.getLsbD i <;> cases c.getLsbD i <;> cases t1 <;> cases t2 <;> cases t3 <;> cases t4 <;> rfl
theorem mx4_inj {a b c d a' b' c' d' : BitVec 8} (h1 : mx4 a b c d = mx4 a' b' c' d') (h2 : mx4 b c d a = mx4 b' c' d' a') (h3 : mx4 c d a b = mx4 c' d' a' b') (h4 : mx4 d a b c = mx4 d' a' b' c') : a = a' ∧ b = b' ∧ c = c' ∧ d = d' := by
  have e1 := mx4_twice a b c d
  have e2 := mx4_twice b c d a
  have e3 := mx4_twice c d a b
  have e4 := mx4_twice d a b c
  rw [h1, h2, h3, h4, mx4_twice] at e1
  rw [h1, h2, h3, h4, mx4_twice] at e2
  rw [h1, h2, h3, h4, mx4_twice] at e3
  rw [h1, h2, h3, h4, mx4_twice] at e4
  refine ⟨?_, ?_, ?_, ?_⟩
  · rw [mx4_back a b c d, mx4_back a' b' c' d', e1, e3]
  · rw [mx4_back b c d a, mx4_back b' c' d' a', e2, e4]
  · rw [mx4_back c d a b, mx4_back c' d' a' b', e3, e1]
  · rw [mx4_back d a b c, mx4_back d' a' b' c', e4, e2]
theorem mix_rot (a b c d : BitVec 8) : a ^^^ (d ^^^ a ^^^ b ^^^ c) ^^^ twice8 (a ^^^ b) = mx4 a b c d ∧ a ^^^ (c ^^^ d ^^^ a ^^^ b) ^^^ twice8 (a ^^^ b) = mx4 a b c d ∧ a ^^^ (b ^^^ c ^^^ d ^^^ a) ^^^ twice8 (a ^^^ b) = mx4 a b c d := by
  refine ⟨?_, ?_, ?_⟩ <;>
  · unfold mx4
    generalize twice8 (a ^^^ b) = t
    apply xor_bits
    intro i
    simp only [BitVec.getLsbD_xor]
    cases a.getLsbD i <;> cases b.getLsbD i <;> cases c.getLsbD i <;> cases d.getLsbD i <;> cases t.getLsbD i <;> rfl
theorem mixS_inj {s t : B8} (hs : s.length = 16) (ht : t.length = 16) (h : mixS s 4 = mixS t 4) : s = t := by
  have H : ∀ i, i < 16 → mxc s i = mxc t i := fun i hi => by rw [← mixS_get hs i hi, ← mixS_get ht i hi, h]
  obtain ⟨a0, a1, a2, a3, a4, a5, a6, a7, a8, a9, a10, a11, a12, a13, a14, a15, rfl⟩ := list16 hs
  obtain ⟨b0, b1, b2, b3, b4, b5, b6, b7, b8, b9, b10, b11, b12, b13, b14, b15, rfl⟩ := list16 ht
  have col : ∀ {a b c d a' b' c' d' : BitVec 8}, a ^^^ (a ^^^ b ^^^ c ^^^ d) ^^^ twice8 (a ^^^ b) = a' ^^^ (a' ^^^ b' ^^^ c' ^^^ d') ^^^ twice8 (a' ^^^ b') →
      b ^^^ (a ^^^ b ^^^ c ^^^ d) ^^^ twice8 (b ^^^ c) = b' ^^^ (a' ^^^ b' ^^^ c' ^^^ d') ^^^ twice8 (b' ^^^ c') →
      c ^^^ (a ^^^ b ^^^ c ^^^ d) ^^^ twice8 (c ^^^ d) = c' ^^^ (a' ^^^ b' ^^^ c' ^^^ d') ^^^ twice8 (c' ^^^ d') →
      d ^^^ (a ^^^ b ^^^ c ^^^ d) ^^^ twice8 (d ^^^ a) = d' ^^^ (a' ^^^ b' ^^^ c' ^^^ d') ^^^ twice8 (d' ^^^ a') → a = a' ∧ b = b' ∧ c = c' ∧ d = d' := by
    intro a b c d a' b' c' d' h1 h2 h3 h4
    rw [(mix_rot b c d a).1, (mix_rot b' c' d' a').1] at h2
    rw [(mix_rot c d a b).2.1, (mix_rot c' d' a' b').2.1] at h3
    rw [(mix_rot d a b c).2.2, (mix_rot d' a' b' c').2.2] at h4
    exact mx4_inj h1 h2 h3 h4
  obtain ⟨rfl, rfl, rfl, rfl⟩ := col (H 0 (by omega)) (H 1 (by omega)) (H 2 (by omega)) (H 3 (by omega))
  obtain ⟨rfl, rfl, rfl, rfl⟩ := col (H 4 (by omega)) (H 5 (by omega)) (H 6 (by omega)) (H 7 (by omega))
  obtain ⟨rfl, rfl, rfl, rfl⟩ := col (H 8 (by omega)) (H 9 (by omega)) (H 10 (by omega)) (H 11 (by omega))
  obtain ⟨rfl, rfl, rfl, rfl⟩ := col (H 12 (by omega)) (H 13 (by omega)) (H 14 (by omega)) (H 15 (by omega))
  rfl
theorem xor_right {a b c : BitVec 8} (h : a ^^^ c = b ^^^ c) : a = b := by
  have : a ^^^ c ^^^ c = b ^^^ c ^^^ c := by rw [h]
  simpa [BitVec.xor_assoc] using this
theorem subS_inj {s t : B8} (hs : s.length = 16) (ht : t.length = 16) (h : subS s 16 = subS t 16) : s = t := by
  apply ext_getD (d := 0) hs ht
  intro i hi
  have inv : ∀ i : Fin 16, ∃ j : Fin 16, shI j.1 = i.1 := by decide
  obtain ⟨j, hj⟩ := inv ⟨i, hi⟩
  have := subS_get s j.1 j.2
  rw [h, subS_get t j.1 j.2, hj] at this
  exact (box_inj _ _ this).symm
theorem oneRound_inj {a b : B8} (W : B8) (nr r : Nat) (ha : a.length = 16) (hb : b.length = 16) (h : oneRound a W nr r = oneRound b W nr r) : a = b := by
  have key : ∀ s t : B8, s.length = 16 → t.length = 16 → xorAt a s W (16 * r) 16 = xorAt b t W (16 * r) 16 → s = t := by
    intro s t hs ht he
    apply ext_getD (d := 0) hs ht
    intro i hi
    have h1 := xorAt_get s W (16 * r) ha i hi
    rw [he, xorAt_get t W (16 * r) hb i hi] at h1
    exact (xor_right h1).symm
  unfold oneRound at h
  apply subS_inj ha hb
  split at h
  · exact mixS_inj (subS_len _ _) (subS_len _ _) (key _ _ (by rw [mixS_len, subS_len]) (by rw [mixS_len, subS_len]) h)
  · exact key _ _ (subS_len _ _) (subS_len _ _) h
theorem rounds_inj {a b : B8} (W : B8) (nr : Nat) (ha : a.length = 16) (hb : b.length = 16) : ∀ q, rounds a W nr q = rounds b W nr q → a = b
  | 0, h => by
    apply ext_getD (d := 0) ha hb
    intro i hi
    have h1 := xorIn_get W ha i hi
    rw [show xorIn a W 16 = xorIn b W 16 from h, xorIn_get W hb i hi] at h1
    exact (xor_right h1).symm
  | q + 1, h => rounds_inj W nr ha hb q (oneRound_inj W nr (q + 1) (by rw [rounds_len, ha]) (by rw [rounds_len, hb]) h)
end Go.V
end
section
set_option linter.unusedSimpArgs false
set_option linter.unusedVariables false
set_option maxRecDepth 10000
namespace Go.V
theorem bit64 {x y : BitVec 64} (h : ∀ i, i < 64 → x.getLsbD i = y.getLsbD i) : x = y := BitVec.eq_of_getLsbD_eq (fun i hi => h i hi)
theorem and_one (x : BitVec 64) : x &&& 1#64 = if x.getLsbD 0 then 1#64 else 0#64 := by
  apply bit64
  intro i hi
  rw [BitVec.getLsbD_and]
  by_cases h : i = 0
  · subst h
    cases x.getLsbD 0 <;> rfl
  · have : (1#64).getLsbD i = false := by rw [BitVec.getLsbD_one]; simp [h]
    rw [this]
    cases x.getLsbD 0 <;> simp [this]
theorem mask_xor (x y b : BitVec 64) : b &&& -((x ^^^ y) &&& 1#64) = (b &&& -(x &&& 1#64)) ^^^ (b &&& -(y &&& 1#64)) := by
  rw [and_one, and_one, and_one, BitVec.getLsbD_xor]
  cases x.getLsbD 0 <;> cases y.getLsbD 0 <;> simp
theorem gBit_xor (a c : G) (j : Nat) : gBit (xorG a c) j = gBit a j ^^^ gBit c j := by
  unfold gBit xorG
  split <;> exact BitVec.ushiftRight_xor_distrib ..
theorem xorG_4 (a b c d : BitVec 64) : a ^^^ b ^^^ (c ^^^ d) = a ^^^ c ^^^ (b ^^^ d) := by
  apply bit64
  intro i _
  simp only [BitVec.getLsbD_xor]
  cases a.getLsbD i <;> cases b.getLsbD i <;> cases c.getLsbD i <;> cases d.getLsbD i <;> rfl
theorem gR_xor (a c b : G) : ∀ j, gR (xorG a c) b j = xorG (gR a b j) (gR c b j)
  | 0 => by simp [gR, xorG]
  | j + 1 => by
    have ih := gR_xor a c b j
    show ((gR (xorG a c) b j).1 ^^^ ((gB b j).1 &&& -(gBit (xorG a c) j &&& 1#64)), (gR (xorG a c) b j).2 ^^^ ((gB b j).2 &&& -(gBit (xorG a c) j &&& 1#64))) = _
    rw [ih, gBit_xor, mask_xor, mask_xor]
    show ((gR a b j).1 ^^^ (gR c b j).1 ^^^ _, (gR a b j).2 ^^^ (gR c b j).2 ^^^ _) = _
    exact Prod.ext (xorG_4 _ _ _ _) (xorG_4 _ _ _ _)
theorem shl_or (p q : BitVec 64) (x y : BitVec 8) : ((p ^^^ q) <<< 8) ||| (x ^^^ y).setWidth 64 = ((p <<< 8) ||| x.setWidth 64) ^^^ ((q <<< 8) ||| y.setWidth 64) := by
  apply bit64
  intro i hi
  simp only [BitVec.getLsbD_or, BitVec.getLsbD_xor, BitVec.getLsbD_shiftLeft, BitVec.getLsbD_setWidth, hi, decide_true, Bool.true_and]
  by_cases h : i < 8
  · simp [h]
  · have hx : x.getLsbD i = false := BitVec.getLsbD_of_ge x i (by omega)
    have hy : y.getLsbD i = false := BitVec.getLsbD_of_ge y i (by omega)
    simp [h, hx, hy]
theorem ofH_lin {x y z : B8} (h : ∀ i, i < 16 → z.getD i 0 = x.getD i 0 ^^^ y.getD i 0) : ∀ k, k ≤ 8 → ofH z k = ofH x k ^^^ ofH y k
  | 0, _ => by simp [ofH]
  | k + 1, hk => by rw [ofH, ofH, ofH, ofH_lin h k (by omega), h k (by omega), shl_or]
theorem ofL_lin {x y z : B8} (h : ∀ i, i < 16 → z.getD i 0 = x.getD i 0 ^^^ y.getD i 0) : ∀ k, k ≤ 8 → ofL z k = ofL x k ^^^ ofL y k
  | 0, _ => by simp [ofL]
  | k + 1, hk => by rw [ofL, ofL, ofL, ofL_lin h k (by omega), h (8 + k) (by omega), shl_or]
theorem ofG_lin {x y z : B8} (h : ∀ i, i < 16 → z.getD i 0 = x.getD i 0 ^^^ y.getD i 0) : ofG z = xorG (ofG x) (ofG y) := by
  simp only [ofG, xorG, ofH_lin h 8 (Nat.le_refl _), ofL_lin h 8 (Nat.le_refl _)]
theorem pad_get (D : B8) (j i : Nat) (hi : i < 16) : (pad16 ((D.drop (16 * j)).take 16)).getD i 0 = D.getD (16 * j + i) 0 := by
  have hz : ∀ k, zero16.getD k 0 = 0#8 := fun k => by
    by_cases h : k < 16
    · have : ∀ k : Fin 16, zero16.getD k.1 0 = 0#8 := by decide
      exact this ⟨k, h⟩
    · rw [List.getD_eq_getElem?_getD, List.getElem?_eq_none (by simp [zero16]; omega)]; rfl
  unfold pad16
  have hl : ((D.drop (16 * j)).take 16).length = min 16 (D.length - 16 * j) := by simp
  by_cases h : 16 * j + i < D.length
  · rw [List.getD_eq_getElem?_getD, List.getElem?_append_left (by omega), List.getElem?_take_of_lt hi, List.getElem?_drop, List.getD_eq_getElem?_getD]
  · rw [List.getD_eq_getElem?_getD, List.getElem?_append_right (by omega), List.getElem?_drop]
    have h1 := hz (((D.drop (16 * j)).take 16).length + (i - ((D.drop (16 * j)).take 16).length))
    rw [List.getD_eq_getElem?_getD] at h1
    rw [h1, List.getD_eq_getElem?_getD, List.getElem?_eq_none (by omega)]
    rfl
theorem xorG_comm4 (a b c d : G) : xorG (xorG a b) (xorG c d) = xorG (xorG a c) (xorG b d) := by
  simp only [xorG, xorG_4]
/-- Four texts of one length of which each byte is put together out of the others': so are the hashes. -/
theorem absG_lin {A B C Z : B8} (h : ∀ i, C.getD i 0 = A.getD i 0 ^^^ B.getD i 0) (hz : ∀ i, Z.getD i 0 = 0#8) (k : G) : ∀ j, absG k (0#64, 0#64) C j = xorG (xorG (absG k (0#64, 0#64) A j) (absG k (0#64, 0#64) B j)) (absG k (0#64, 0#64) Z j)
  | 0 => by simp [absG, xorG]
  | j + 1 => by
    have ih := absG_lin h hz k j
    have hc : ofG (pad16 ((C.drop (16 * j)).take 16)) = xorG (xorG (ofG (pad16 ((A.drop (16 * j)).take 16))) (ofG (pad16 ((B.drop (16 * j)).take 16)))) (ofG (pad16 ((Z.drop (16 * j)).take 16))) := by
      have h1 : ofG (pad16 ((C.drop (16 * j)).take 16)) = xorG (ofG (pad16 ((A.drop (16 * j)).take 16))) (ofG (pad16 ((B.drop (16 * j)).take 16))) := ofG_lin (fun i hi => by rw [pad_get _ _ _ hi, pad_get _ _ _ hi, pad_get _ _ _ hi, h])
      have h2 : ofG (pad16 ((Z.drop (16 * j)).take 16)) = xorG (ofG (pad16 ((Z.drop (16 * j)).take 16))) (ofG (pad16 ((Z.drop (16 * j)).take 16))) := ofG_lin (fun i hi => by rw [pad_get _ _ _ hi, hz]; rfl)
      rw [h1, h2]
      simp [xorG]
    rw [absG, absG, absG, absG, ih, hc, xorG_comm4, xorG_comm4 (absG k (0#64, 0#64) A j), gR_xor, gR_xor]
theorem outG_lin (x y z w : G) (h : z = xorG (xorG x y) w) : ∀ j, j ≤ 8 → ∀ i, (outG z j).getD i 0 = (outG x j).getD i 0 ^^^ (outG y j).getD i 0 ^^^ (outG w j).getD i 0
  | 0, _, i => by
    show zero16.getD i 0 = zero16.getD i 0 ^^^ zero16.getD i 0 ^^^ zero16.getD i 0
    simp
  | j + 1, hj, i => by
    have ih := outG_lin x y z w h j (by omega) i
    have lz := outG_len z j
    have lx := outG_len x j
    have ly := outG_len y j
    have lw := outG_len w j
    have g : ∀ (p : G), (outG p (j + 1)).getD i 0 = if i = 15 - j then (p.2 >>> (8 * j)).setWidth 8 else if i = 7 - j then (p.1 >>> (8 * j)).setWidth 8 else (outG p j).getD i 0 := by
      intro p
      have lp := outG_len p j
      rw [outG, List.getD_eq_getElem?_getD, List.getElem?_set]
      by_cases h1 : 15 - j = i
      · rw [if_pos h1, if_pos h1.symm, if_pos (by simp [lp]; omega)]; rfl
      · rw [if_neg h1, if_neg (fun h => h1 h.symm), List.getElem?_set]
        by_cases h2 : 7 - j = i
        · rw [if_pos h2, if_pos h2.symm, if_pos (by omega)]; rfl
        · rw [if_neg h2, if_neg (fun h => h2 h.symm), List.getD_eq_getElem?_getD]
    rw [g z, g x, g y, g w]
    subst h
    have hs : ∀ a b c : BitVec 64, ((a ^^^ b ^^^ c) >>> (8 * j)).setWidth 8 = (a >>> (8 * j)).setWidth 8 ^^^ (b >>> (8 * j)).setWidth 8 ^^^ (c >>> (8 * j)).setWidth 8 := fun a b c => by
      rw [BitVec.ushiftRight_xor_distrib, BitVec.ushiftRight_xor_distrib, BitVec.setWidth_xor, BitVec.setWidth_xor]
    split
    · exact hs _ _ _
    · split
      · exact hs _ _ _
      · exact ih
theorem hash_lin {A B C Z : B8} (H : B8) (h : ∀ i, C.getD i 0 = A.getD i 0 ^^^ B.getD i 0) (hz : ∀ i, Z.getD i 0 = 0#8) (hB : B.length = A.length) (hC : C.length = A.length) (hZ : Z.length = A.length) (i : Nat) :
    (hashG H [] C).getD i 0 = (hashG H [] A).getD i 0 ^^^ (hashG H [] B).getD i 0 ^^^ (hashG H [] Z).getD i 0 := by
  unfold hashG absAll
  simp only [List.length_nil, hB, hC, hZ]
  refine outG_lin _ _ _ _ ?_ 8 (Nat.le_refl _) i
  have e0 : absG (ofG (pad16 H)) (0#64, 0#64) [] ((0 + 15) / 16) = (0#64, 0#64) := rfl
  rw [e0, absG_lin h hz, ← gR_xor, ← gR_xor]
  congr 1
  simp only [xorG]
  generalize lenG 0 A.length = L
  have h3 : ∀ a b c l : BitVec 64, a ^^^ b ^^^ c ^^^ l = a ^^^ l ^^^ (b ^^^ l) ^^^ (c ^^^ l) := fun a b c l => by
    apply bit64
    intro i _
    simp only [BitVec.getLsbD_xor]
    cases a.getLsbD i <;> cases b.getLsbD i <;> cases c.getLsbD i <;> cases l.getLsbD i <;> rfl
  exact Prod.ext (h3 _ _ _ _) (h3 _ _ _ _)
end Go.V
end
section
set_option linter.unusedSimpArgs false
set_option linter.unusedVariables false
set_option maxRecDepth 10000
namespace Go.V
/-- A coefficient of a block. -/
def coG (g : G) (n : Nat) : Bool := if n < 64 then g.1.getLsbD (63 - n) else g.2.getLsbD (127 - n)
def lowX (n : Nat) : Bool := n == 0 || n == 1 || n == 2 || n == 7
theorem e1_bits (n : Nat) (hn : n < 64) : ((-(1#64) &&& 225#64) <<< 56).getLsbD (63 - n) = lowX n := by
  have : ∀ k : Fin 64, ((-(1#64) &&& 225#64) <<< 56).getLsbD (63 - k.1) = lowX k.1 := by decide
  exact this ⟨n, hn⟩
def e1W (c : Bool) : BitVec 64 := ((-(if c then 1#64 else 0#64)) &&& 225#64) <<< 56
theorem e1W_bit (c : Bool) (n : Nat) (hn : n < 64) : (e1W c).getLsbD (63 - n) = (c && lowX n) := by
  have : ∀ (c : Bool) (k : Fin 64), (e1W c).getLsbD (63 - k.1) = (c && lowX k.1) := by decide +kernel
  exact this c ⟨n, hn⟩
theorem lowX_big (n : Nat) (h : 8 ≤ n) : lowX n = false := by
  have h0 : n ≠ 0 := by omega
  have h1 : n ≠ 1 := by omega
  have h2 : n ≠ 2 := by omega
  have h7 : n ≠ 7 := by omega
  simp [lowX, h0, h1, h2, h7]
theorem co_lo (g : G) (n : Nat) (h : n < 64) : coG g n = g.1.getLsbD (63 - n) := if_pos h
theorem co_hi (g : G) (n : Nat) (h : ¬ n < 64) : coG g n = g.2.getLsbD (127 - n) := if_neg h
theorem co_shift (g : G) (n : Nat) (hn : n < 128) : coG ((g.1 >>> 1) ^^^ (((-(g.2 &&& 1#64)) &&& 225#64) <<< 56), (g.2 >>> 1) ||| (g.1 <<< 63)) n = ((decide (n ≠ 0) && coG g (n - 1)) ^^ (coG g 127 && lowX n)) := by
  rw [co_hi g 127 (by omega), and_one]
  show coG ((g.1 >>> 1) ^^^ e1W (g.2.getLsbD 0), (g.2 >>> 1) ||| (g.1 <<< 63)) n = _
  by_cases h : n < 64
  · rw [co_lo _ _ h, co_lo g (n - 1) (by omega)]
    show ((g.1 >>> 1) ^^^ e1W (g.2.getLsbD 0)).getLsbD (63 - n) = _
    rw [BitVec.getLsbD_xor, BitVec.getLsbD_ushiftRight, e1W_bit _ _ h]
    congr 1
    by_cases h0 : n = 0
    · subst h0; simp
    · rw [show 1 + (63 - n) = 63 - (n - 1) by omega]; simp [h0]
  · rw [co_hi _ _ h, lowX_big n (by omega), Bool.and_false, Bool.xor_false]
    show ((g.2 >>> 1) ||| (g.1 <<< 63)).getLsbD (127 - n) = _
    rw [BitVec.getLsbD_or, BitVec.getLsbD_ushiftRight, BitVec.getLsbD_shiftLeft]
    by_cases h64 : n = 64
    · subst h64
      rw [co_lo _ _ (by omega), BitVec.getLsbD_of_ge g.2 _ (by omega)]; simp
    · rw [co_hi _ _ (by omega), show 1 + (127 - n) = 127 - (n - 1) by omega]
      have : (decide (127 - n < 63)) = true := by simp; omega
      rw [this]
      simp; omega
theorem co_gB (b : G) (j n : Nat) (hn : n < 128) : coG (gB b (j + 1)) n = ((decide (n ≠ 0) && coG (gB b j) (n - 1)) ^^ (coG (gB b j) 127 && lowX n)) := co_shift (gB b j) n hn
theorem and63 (j : Nat) : j &&& 63 = j % 64 := by
  have := Nat.and_two_pow_sub_one_eq_mod j 6
  simpa using this
theorem gBit_co (a : G) (j : Nat) (hj : j < 128) : gBit a j &&& 1#64 = if coG a j then 1#64 else 0#64 := by
  rw [and_one]
  unfold gBit coG
  rw [and63]
  by_cases h : j < 64
  · rw [if_neg (show ¬ 63 < j by omega), if_pos h, BitVec.getLsbD_ushiftRight, show 63 - j % 64 + 0 = 63 - j by omega]
  · rw [if_pos (show 63 < j by omega), if_neg h, BitVec.getLsbD_ushiftRight, show 63 - j % 64 + 0 = 127 - j by omega]
theorem co_mask (x b : G) (c : Bool) (n : Nat) : coG (x.1 ^^^ (b.1 &&& -(if c then 1#64 else 0#64)), x.2 ^^^ (b.2 &&& -(if c then 1#64 else 0#64))) n = (coG x n ^^ (c && coG b n)) := by
  have h1 : b.1 &&& -1#64 = b.1 := by rw [show -1#64 = BitVec.allOnes 64 from rfl, BitVec.and_allOnes]
  have h2 : b.2 &&& -1#64 = b.2 := by rw [show -1#64 = BitVec.allOnes 64 from rfl, BitVec.and_allOnes]
  unfold coG
  cases c
  · simp
  · simp only [if_true, h1, h2, BitVec.getLsbD_xor, Bool.true_and]
    split <;> rfl
theorem co_gR (a b : G) (j n : Nat) (hj : j < 128) : coG (gR a b (j + 1)) n = (coG (gR a b j) n ^^ (coG a j && coG (gB b j) n)) := by
  show coG ((gR a b j).1 ^^^ ((gB b j).1 &&& -(gBit a j &&& 1#64)), (gR a b j).2 ^^^ ((gB b j).2 &&& -(gBit a j &&& 1#64))) n = _
  rw [gBit_co a j hj, co_mask]
theorem co_xor (a b : G) (n : Nat) : coG (xorG a b) n = (coG a n ^^ coG b n) := by
  unfold coG xorG
  simp only [BitVec.getLsbD_xor]
  split <;> rfl
theorem co_ext {a b : G} (h : ∀ n, n < 128 → coG a n = coG b n) : a = b := by
  refine Prod.ext (bit64 fun i hi => ?_) (bit64 fun i hi => ?_)
  · have := h (63 - i) (by omega)
    unfold coG at this
    rw [if_pos (by omega), if_pos (by omega), show 63 - (63 - i) = i by omega] at this
    exact this
  · have := h (127 - i) (by omega)
    unfold coG at this
    rw [if_neg (by omega), if_neg (by omega), show 127 - (127 - i) = i by omega] at this
    exact this
theorem beq_iff {a b c d : Nat} (h : a = b ↔ c = d) : (a == b) = (c == d) := by
  by_cases x : a = b
  · rw [beq_iff_eq.2 x, beq_iff_eq.2 (h.1 x)]
  · rw [beq_eq_false_iff_ne.2 x, beq_eq_false_iff_ne.2 (fun y => x (h.2 y))]
/-! polynomials as functions -/
abbrev Po := Nat → Bool
def stF (i : Nat) (t : Po) : Po := fun n => t n ^^ (t i && (n + 128 == i || n + 127 == i || n + 126 == i || n + 121 == i))
def reF (t : Po) : Nat → Po
  | 0 => t
  | j + 1 => stF (254 - j) (reF t j)
def smF (f : Nat → Po) : Nat → Po
  | 0 => fun _ => false
  | j + 1 => fun n => smF f j n ^^ f j n
theorem stF_add (i : Nat) (t u : Po) : stF i (fun n => t n ^^ u n) = fun n => stF i t n ^^ stF i u n := by
  funext n
  show ((t n ^^ u n) ^^ ((t i ^^ u i) && (n + 128 == i || n + 127 == i || n + 126 == i || n + 121 == i))) = ((t n ^^ (t i && (n + 128 == i || n + 127 == i || n + 126 == i || n + 121 == i))) ^^ (u n ^^ (u i && (n + 128 == i || n + 127 == i || n + 126 == i || n + 121 == i))))
  generalize (n + 128 == i || n + 127 == i || n + 126 == i || n + 121 == i) = c
  cases c <;> cases t n <;> cases u n <;> cases t i <;> cases u i <;> rfl
theorem reF_add (t u : Po) : ∀ j, reF (fun n => t n ^^ u n) j = fun n => reF t j n ^^ reF u j n
  | 0 => rfl
  | j + 1 => by rw [reF, reF_add t u j, stF_add]; rfl
theorem reF_zero : ∀ j, reF (fun _ => false) j = fun _ => false
  | 0 => rfl
  | j + 1 => by rw [reF, reF_zero j]; funext n; simp [stF]
theorem reF_sum (f : Nat → Po) (j : Nat) : ∀ k, reF (smF f k) j = smF (fun i => reF (f i) j) k
  | 0 => reF_zero j
  | k + 1 => by rw [smF, reF_add, reF_sum f j k]; rfl
/-- A polynomial times x. -/
def xF (t : Po) : Po := fun n => decide (n ≠ 0) && t (n - 1)
theorem stF_x (i : Nat) (hi : 128 ≤ i) (t : Po) : stF (i + 1) (xF t) = xF (stF i t) := by
  funext n
  unfold stF xF
  cases n with
  | zero =>
    have h1 : (0 + 128 == i + 1) = false := by simp; omega
    have h2 : (0 + 127 == i + 1) = false := by simp; omega
    have h3 : (0 + 126 == i + 1) = false := by simp; omega
    have h4 : (0 + 121 == i + 1) = false := by simp; omega
    simp [h1, h2, h3, h4]
  | succ n =>
    have h1 : (n + 1 + 128 == i + 1) = (n + 128 == i) := beq_iff (by omega)
    have h2 : (n + 1 + 127 == i + 1) = (n + 127 == i) := beq_iff (by omega)
    have h3 : (n + 1 + 126 == i + 1) = (n + 126 == i) := beq_iff (by omega)
    have h4 : (n + 1 + 121 == i + 1) = (n + 121 == i) := beq_iff (by omega)
    rw [h1, h2, h3, h4]
    simp
theorem reF_x (t : Po) (h : t 254 = false) : ∀ j, j ≤ 126 → reF (xF t) j = xF (reF t (j + 1))
  | 0, _ => by
    show xF t = xF (stF 254 t)
    congr 1
    funext n
    simp [stF, h]
  | j + 1, hj => by
    rw [reF, reF_x t h j (by omega), show 254 - j = (254 - (j + 1)) + 1 by omega, stF_x _ (by omega)]
    rfl
theorem reF_mul (t : Po) (h : t 254 = false) (n : Nat) (hn : n < 128) : reF (xF t) 127 n = ((decide (n ≠ 0) && reF t 127 (n - 1)) ^^ (reF t 127 127 && lowX n)) := by
  show stF (254 - 126) (reF (xF t) 126) n = _
  rw [reF_x t h 126 (Nat.le_refl _)]
  unfold stF xF
  have h1 : (n + 128 == 254 - 126) = (n == 0) := beq_iff (by omega)
  have h2 : (n + 127 == 254 - 126) = (n == 1) := beq_iff (by omega)
  have h3 : (n + 126 == 254 - 126) = (n == 2) := beq_iff (by omega)
  have h4 : (n + 121 == 254 - 126) = (n == 7) := beq_iff (by omega)
  rw [h1, h2, h3, h4]
  rfl
theorem reF_low (t : Po) (h : ∀ n, 128 ≤ n → t n = false) : ∀ j, j ≤ 127 → reF t j = t
  | 0, _ => rfl
  | j + 1, hj => by
    rw [reF, reF_low t h j (by omega)]
    funext n
    simp [stF, h (254 - j) (by omega)]
def shF (i : Nat) (b : Po) : Po := fun n => decide (i ≤ n) && decide (n < i + 128) && b (n - i)
theorem shF_x (i : Nat) (b : Po) : shF (i + 1) b = xF (shF i b) := by
  funext n
  unfold shF xF
  cases n with
  | zero => simp
  | succ n =>
    have h1 : decide (i + 1 ≤ n + 1) = decide (i ≤ n) := by simp
    have h2 : decide (n + 1 < i + 1 + 128) = decide (n < i + 128) := decide_eq_decide.2 (by omega)
    rw [h1, h2, show n + 1 - (i + 1) = n - i by omega]
    simp
theorem reF_sh (b : G) : ∀ i, i ≤ 127 → ∀ n, n < 128 → reF (shF i (coG b)) 127 n = coG (gB b i) n
  | 0, _, n, hn => by
    rw [reF_low _ (fun n hn => by simp [shF]; omega) 127 (Nat.le_refl _)]
    simp [shF, gB, hn]
  | i + 1, hi, n, hn => by
    rw [shF_x, reF_mul _ (by simp [shF]; omega) n hn, co_gB _ _ _ hn, reF_sh b i (by omega) 127 (by omega)]
    by_cases h : n = 0
    · simp [h]
    · rw [reF_sh b i (by omega) (n - 1) (by omega)]
/-- The product without the modulus, taken down, is the program's product. -/
theorem reF_prod (a b : G) : ∀ k, k ≤ 128 → ∀ n, n < 128 → reF (smF (fun i => fun n => coG a i && shF i (coG b) n) k) 127 n = coG (gR a b k) n
  | 0, _, n, hn => by
    rw [reF_sum]
    unfold coG
    simp [smF, gR]
  | k + 1, hk, n, hn => by
    have ih := reF_prod a b k (by omega) n hn
    rw [reF_sum] at ih ⊢
    show (smF (fun i => reF (fun n => coG a i && shF i (coG b) n) 127) k n ^^ reF (fun n => coG a k && shF k (coG b) n) 127 n) = _
    rw [ih, co_gR a b k n (by omega)]
    congr 1
    cases coG a k
    · simp [reF_zero]
    · simp only [Bool.true_and]
      exact reF_sh b k (by omega) n hn
end Go.V
end
section
set_option linter.unusedSimpArgs false
set_option linter.unusedVariables false
set_option maxRecDepth 10000
namespace Go.V
open Go Go.Proofs.Try
/-! power, at any exponent below 256 -/
def powG (b : Int) (n : Nat) : Nat → Int
  | 0 => 1
  | j + 1 => if n / 2 ^ j % 2 = 1 then timesR (powG b n j) (sqR b j) 8 else powG b n j
theorem powG_lt {b : Int} (hb : 0 ≤ b ∧ b < 256) (n : Nat) : ∀ j, 0 ≤ powG b n j ∧ powG b n j < 256
  | 0 => by simp [powG]
  | j + 1 => by
    unfold powG
    split
    · exact timesR_lt (powG_lt hb n j) 8
    · exact powG_lt hb n j
theorem powG_stop {b : Int} {n j : Nat} (h : n / 2 ^ j = 0) : ∀ k, powG b n (j + k) = powG b n j
  | 0 => rfl
  | k + 1 => by
    have h2 : n / 2 ^ (j + k) = 0 := by rw [Nat.pow_add, ← Nat.div_div_eq_div_mul, h, Nat.zero_div]
    rw [← Nat.add_assoc, powG, h2, if_neg (by decide)]
    exact powG_stop h k
theorem spec61G (b : Int) (n : Nat) (hb : 0 ≤ b ∧ b < 256) (hn : n < 256) : Spec prog 61 [one (.i b), one (.i (n : Int))] [] [] (fun r _ => r = one (.i (powG b n 8))) := by
  refine spec_of_body tabOK func61 rfl (Nat.le_of_ble_eq_true rfl) ?_
  intro E Q0 hB
  refine ok_run hB tabOK pureB_ok 100 ?_
  simp only [argSl]
  repeat (first
    | rw [run_ops0]
    | rw [run_seq]
    | rw [run_region]
    | rw [run_block]
    | rw [run_blk]
    | rw [run_skip]
    | (apply run_go rfl; focus (intro L K hK; simp [-List.reduceReplicate, -List.getD_eq_getElem?_getD]; (repeat' apply And.intro); all_goals first | exact hK | omega)))
  rw [run_loop]
  refine ok_loop (X := Nat) (fun j => ⟨[(5, one (.i (powG b n j))), (1, one (.i (n / 2 ^ j : Nat))), (0, one (.i (sqR b j)))], []⟩) (fun j => j ≤ 8) (fun j => 8 - j) (fun j i L h => hB.anc i L h) ⟨0, by simp, by simp [-List.reduceReplicate, -List.getD_eq_getElem?_getD, powG, sqR]⟩ ?_
  intro j hj
  refine ok_run hB tabOK pureB_ok 100 ?_
  have hp := powG_lt hb n j
  have hs := sqR_lt hb j
  have hle : n / 2 ^ j ≤ n := Nat.div_le_self _ _
  have hnx : n / 2 ^ (j + 1) = n / 2 ^ j / 2 := by rw [Nat.pow_succ, Nat.div_div_eq_div_mul]
  have h8 : n / 2 ^ 8 = 0 := Nat.div_eq_of_lt (by omega)
  have hpg : powG b n (j + 1) = if n / 2 ^ j % 2 = 1 then timesR (powG b n j) (sqR b j) 8 else powG b n j := rfl
  have hj8 : j = 8 → n / 2 ^ j = 0 := fun h => h ▸ h8
  have hst : n / 2 ^ j = 0 → powG b n 8 = powG b n j := fun h => by
    have := powG_stop (b := b) h (8 - j)
    rwa [show j + (8 - j) = 8 by omega] at this
  have t1 : ((n / 2 ^ j : Nat) : Int).tmod 2 = ((n / 2 ^ j % 2 : Nat) : Int) := rfl
  have t2 : ((n / 2 ^ j : Nat) : Int).tdiv 2 = ((n / 2 ^ j / 2 : Nat) : Int) := rfl
  generalize hN : n / 2 ^ j = N at *
  repeat (first
    | rw [run_ops0]
    | rw [run_seq]
    | rw [run_region]
    | rw [run_block]
    | rw [run_blk]
    | rw [run_skip]
    | (apply run_go rfl; focus (intro L K hK; simp [-List.reduceReplicate, -List.getD_eq_getElem?_getD]; (repeat' apply And.intro); all_goals first | exact hK | omega)))
  apply run_cond2 rfl
  · intro h
    simp at h
    have hj7 : j < 8 := by omega
    repeat (first
    | rw [run_ops0]
    | rw [run_seq]
    | rw [run_region]
    | rw [run_block]
    | rw [run_blk]
    | rw [run_skip]
    | (apply run_go rfl; focus (intro L K hK; simp [-List.reduceReplicate, -List.getD_eq_getElem?_getD, t1]; (repeat' apply And.intro); all_goals first | exact hK | omega)))
    apply run_cond2 rfl
    · intro h2
      simp at h2
      have h2' : N % 2 = 1 := by omega
      repeat (first
    | rw [run_ops0]
    | rw [run_seq]
    | rw [run_region]
    | rw [run_block]
    | rw [run_blk]
    | rw [run_skip]
    | (apply run_go rfl; focus (intro L K hK; simp [-List.reduceReplicate, -List.getD_eq_getElem?_getD, pureOf, pureB, hp, hs, t2]; (repeat' apply And.intro); all_goals first | exact hK | omega)))
      rw [run_back]
      refine ⟨j + 1, by omega, by omega, ?_⟩
      rw [hpg, hnx, if_pos h2']
      simp [-List.reduceReplicate, -List.getD_eq_getElem?_getD, sqR]
    · intro h2
      simp at h2
      have h2' : ¬ N % 2 = 1 := by omega
      repeat (first
    | rw [run_ops0]
    | rw [run_seq]
    | rw [run_region]
    | rw [run_block]
    | rw [run_blk]
    | rw [run_skip]
    | (apply run_go rfl; focus (intro L K hK; simp [-List.reduceReplicate, -List.getD_eq_getElem?_getD, pureOf, pureB, hp, hs, t2]; (repeat' apply And.intro); all_goals first | exact hK | omega)))
      rw [run_back]
      refine ⟨j + 1, by omega, by omega, ?_⟩
      rw [hpg, hnx, if_neg h2']
      simp [-List.reduceReplicate, -List.getD_eq_getElem?_getD, sqR]
  · intro h
    simp at h
    have hN0 : N = 0 := by omega
    apply run_exit2 rfl
    repeat (first
    | rw [run_ops0]
    | rw [run_seq]
    | rw [run_region]
    | rw [run_block]
    | rw [run_blk]
    | rw [run_skip]
    | (apply run_go rfl; focus (intro L K hK; simp [-List.reduceReplicate, -List.getD_eq_getElem?_getD]; (repeat' apply And.intro); all_goals first | exact hK | omega)))
    rw [run_ret, hst hN0]
    simp [-List.reduceReplicate, -List.getD_eq_getElem?_getD, results61, f61]

/-! the document's schedule -/
def rcell (key : B8) (sb : LI) (n i : Nat) (W : LI) (j : Nat) : Int :=
  if i < n then ((key.getD (4 * i + j) 0).toNat : Int) else
    xorI (W.getD ((i - n) * 4 + j) 0)
      (if i % n = 0 then
        (if j = 0 then xorI (sb.getD (W.getD ((i - 1) * 4 + (j + 1) % 4) 0).toNat 0) (powG 2 (i / n - 1) 8) else sb.getD (W.getD ((i - 1) * 4 + (j + 1) % 4) 0).toNat 0)
      else if n = 8 ∧ i % 8 = 4 then sb.getD (W.getD ((i - 1) * 4 + j) 0).toNat 0 else W.getD ((i - 1) * 4 + j) 0)
def rschW (key : B8) (sb : LI) (n i : Nat) (W : LI) : Nat → LI
  | 0 => [0, 0, 0, 0]
  | j + 1 => (rschW key sb n i W j).set j (rcell key sb n i W j)
def rsch (key : B8) (sb : LI) (n : Nat) : Nat → LI
  | 0 => []
  | i + 1 => rsch key sb n i ++ rschW key sb n i (rsch key sb n i) 4
theorem rschW_len (key : B8) (sb : LI) (n i : Nat) (W : LI) : ∀ j, (rschW key sb n i W j).length = 4
  | 0 => rfl
  | j + 1 => by simp [rschW, rschW_len key sb n i W j]
theorem rsch_len (key : B8) (sb : LI) (n : Nat) : ∀ i, (rsch key sb n i).length = 4 * i
  | 0 => rfl
  | i + 1 => by simp [rsch, rschW_len, rsch_len key sb n i]; omega
theorem rcell_byt {key : B8} {sb : LI} {n i : Nat} {W : LI} (hs : Byt sb) (hW : Byt W) (j : Nat) : 0 ≤ rcell key sb n i W j ∧ rcell key sb n i W j < 256 := by
  unfold rcell
  split
  · have := (key.getD (4 * i + j) 0).isLt; omega
  · refine xorI_lt (hW _) ?_
    split
    · split
      · exact xorI_lt (hs _) (powG_lt (by decide) _ 8)
      · exact hs _
    · split
      · exact hs _
      · exact hW _
theorem byt_append {a b : LI} (ha : Byt a) (hb : Byt b) : Byt (a ++ b) := by
  intro i
  by_cases h : i < a.length
  · have := ha i
    simpa [List.getD_eq_getElem?_getD, List.getElem?_append_left h] using this
  · have := hb (i - a.length)
    simpa [List.getD_eq_getElem?_getD, List.getElem?_append_right (by omega : a.length ≤ i)] using this
theorem byt_nil : Byt [] := fun i => by simp
theorem byt_0000 : Byt [0, 0, 0, 0] := fun i => by
  match i with
  | 0 => exact ⟨by decide, by decide⟩
  | 1 => exact ⟨by decide, by decide⟩
  | 2 => exact ⟨by decide, by decide⟩
  | 3 => exact ⟨by decide, by decide⟩
  | n + 4 => simp
theorem rschW_byt {key : B8} {sb : LI} {n i : Nat} {W : LI} (hs : Byt sb) (hW : Byt W) : ∀ j, Byt (rschW key sb n i W j)
  | 0 => byt_0000
  | j + 1 => (rschW_byt hs hW j).set (rcell_byt hs hW j)
theorem rsch_byt {key : B8} {sb : LI} {n : Nat} (hs : Byt sb) : ∀ i, Byt (rsch key sb n i)
  | 0 => byt_nil
  | i + 1 => byt_append (rsch_byt hs i) (rschW_byt hs (rsch_byt hs i) 4)
end Go.V
end
section
set_option linter.unusedSimpArgs false
set_option linter.unusedVariables false
set_option maxRecDepth 20000
namespace Go.V
theorem tabR_get (i : Nat) (hi : i < 256) : ∀ j, j ≤ 256 → (tabR j).getD i 0 = if i < j then subR i else 0
  | 0, _ => by simp [tabR, List.getD_eq_getElem?_getD, List.getElem?_replicate, hi, -List.reduceReplicate]
  | j + 1, hj => by
    have ih := tabR_get i hi j (by omega)
    have hl := tabR_len j
    rw [List.getD_eq_getElem?_getD] at ih ⊢
    rw [tabR, List.getElem?_set]
    by_cases h : j = i
    · subst h
      rw [if_pos rfl, hl, if_pos hi, if_pos (by omega)]
      rfl
    · rw [if_neg h, ih]
      by_cases h2 : i < j
      · rw [if_pos h2, if_pos (by omega)]
      · rw [if_neg h2, if_neg (by omega)]
theorem sub_box : ∀ x : BitVec 8, subR (ub x) = ub (boxOf x) := all_bytes (by decide +kernel)
theorem tab_ok : SbOK (tabR 256) := fun x => by
  rw [tabR_get _ x.isLt 256 (Nat.le_refl _), if_pos x.isLt]
  exact sub_box x
theorem tab_byt : Byt (tabR 256) := fun i => by
  by_cases h : i < 256
  · have := tab_ok (BitVec.ofNat 8 i)
    simp only [BitVec.toNat_ofNat, Nat.reducePow, Nat.mod_eq_of_lt h] at this
    rw [this]
    exact ub_byt _
  · rw [List.getD_eq_getElem?_getD, List.getElem?_eq_none (by rw [tabR_len]; omega)]
    decide
def cpow : Nat → BitVec 8
  | 0 => 1
  | m + 1 => twice8 (cpow m)
theorem pow_cpow : ∀ m : Fin 10, powG 2 m.1 8 = ub (cpow m.1) := by decide +kernel
theorem sch_c {key : B8} {nk : Nat} (hn : nk = 4 ∨ nk = 8) : ∀ i, (sch key nk i).2 = cpow ((i - 1) / nk)
  | 0 => by rcases hn with rfl | rfl <;> rfl
  | i + 1 => by
    have ih := sch_c (key := key) hn i
    rw [sch]
    split
    · rename_i h
      show (sch key nk i).2 = _
      rw [ih]
      congr 1
      rcases hn with rfl | rfl <;> omega
    · show (if i % nk = 0 then twice8 (sch key nk i).2 else (sch key nk i).2) = _
      rw [ih]
      split
      · rename_i h1 h2
        have : (i + 1 - 1) / nk = (i - 1) / nk + 1 := by rcases hn with rfl | rfl <;> omega
        rw [this]
        rfl
      · rename_i h1 h2
        have : (i + 1 - 1) / nk = (i - 1) / nk := by rcases hn with rfl | rfl <;> omega
        rw [this]
theorem rschW_get (key : B8) (sb : LI) (n i : Nat) (W : LI) : ∀ j, j < 4 → (rschW key sb n i W 4).getD j 0 = rcell key sb n i W j
  | 0, _ => rfl | 1, _ => rfl | 2, _ => rfl | 3, _ => rfl
  | n + 4, h => absurd h (by omega)
theorem xorO_get {t : B8} (W : B8) (o : Nat) (h : t.length = 4) : ∀ j, j < 4 → (xorO t W o 4).getD j 0 = t.getD j 0 ^^^ W.getD (o + j) 0 := by
  obtain ⟨b0, b1, b2, b3, rfl⟩ := list4 h
  intro i hi
  match i, hi with
  | 0, _ => rfl | 1, _ => rfl | 2, _ => rfl | 3, _ => rfl
  | n + 4, h => exact absurd h (by omega)
theorem part_get (W : B8) (o j : Nat) (hj : j < 4) : ((W.drop o).take 4).getD j 0 = W.getD (o + j) 0 := by
  rw [List.getD_eq_getElem?_getD, List.getD_eq_getElem?_getD, List.getElem?_take_of_lt hj, List.getElem?_drop]
theorem schT_get {sb : LI} (hs : SbOK sb) {nk i : Nat} (hn : nk = 4 ∨ nk = 8) (h : ¬ i < nk) (hi : i < 4 * (nk + 7)) (W t : B8) (ht : ∀ j, j < 4 → t.getD j 0 = W.getD ((i - 1) * 4 + j) 0) : ∀ j, j < 4 →
    (if i % nk = 0 then
        (if j = 0 then xorI (sb.getD ((toI W).getD ((i - 1) * 4 + (j + 1) % 4) 0).toNat 0) (powG 2 (i / nk - 1) 8) else sb.getD ((toI W).getD ((i - 1) * 4 + (j + 1) % 4) 0).toNat 0)
      else if nk = 8 ∧ i % 8 = 4 then sb.getD ((toI W).getD ((i - 1) * 4 + j) 0).toNat 0 else (toI W).getD ((i - 1) * 4 + j) 0)
      = ub ((schT nk i (cpow ((i - 1) / nk)) t).getD j 0) := by
  intro j hj
  have e : ∀ k, k < 4 → (toI W).getD ((i - 1) * 4 + k) 0 = ub (t.getD k 0) := fun k hk => by rw [toI_getD, ht k hk]
  have e2 : ∀ k, k < 4 → sb.getD ((toI W).getD ((i - 1) * 4 + k) 0).toNat 0 = ub (boxOf (t.getD k 0)) := fun k hk => by rw [e k hk, ub_nat, hs]
  rw [e2 j hj, e2 ((j + 1) % 4) (by omega), e j hj]
  unfold schT
  by_cases h0 : i % nk = 0
  · rw [if_pos h0, if_pos h0]
    have hc : (i - 1) / nk = i / nk - 1 := by rcases hn with rfl | rfl <;> omega
    have hm : i / nk - 1 < 10 := by rcases hn with rfl | rfl <;> omega
    have hp := pow_cpow ⟨i / nk - 1, hm⟩
    simp only at hp
    rw [hc, hp]
    match j, hj with
    | 0, _ => exact xorI_ub _ _
    | 1, _ => rfl
    | 2, _ => rfl
    | 3, _ => rfl
    | n + 4, h => exact absurd h (by omega)
  · rw [if_neg h0, if_neg h0]
    have hq : (nk = 8 ∧ i % 8 = 4) ↔ (6 < nk ∧ i % nk = 4) := by rcases hn with rfl | rfl <;> omega
    by_cases h4 : 6 < nk ∧ i % nk = 4
    · rw [if_pos h4, if_pos (hq.mpr h4)]
      match j, hj with
      | 0, _ => rfl
      | 1, _ => rfl
      | 2, _ => rfl
      | 3, _ => rfl
      | n + 4, h => exact absurd h (by omega)
    · rw [if_neg h4, if_neg (fun h => h4 (hq.mp h))]
theorem toI_append (a b : B8) : toI (a ++ b) = toI a ++ toI b := by simp [toI]
/-- The document's schedule is the program's. -/
theorem sched_eqL {sb : LI} (hs : SbOK sb) {key : B8} {nk : Nat} (hn : nk = 4 ∨ nk = 8) (hk : 4 * nk ≤ key.length) : ∀ i, i ≤ 4 * (nk + 7) → rsch key sb nk i = toI (sch key nk i).1
  | 0, _ => rfl
  | i + 1, hi => by
    have ih := sched_eqL hs hn hk i (by omega)
    have hl := sch_lenL hk (by omega : 0 < nk) i
    have hc := sch_c (key := key) hn i
    rw [rsch, sch, ih]
    split
    · rename_i h
      show _ = toI (_ ++ _)
      rw [toI_append]
      congr 1
      apply ext_getD (d := 0) (n := 4) (rschW_len _ _ _ _ _ _) (by rw [toI_len]; simp; omega)
      intro j hj
      rw [rschW_get _ _ _ _ _ j hj, rcell, if_pos h, toI_getD, part_get _ _ _ hj]
      rfl
    · rename_i h
      show _ = toI (_ ++ _)
      rw [toI_append]
      congr 1
      have htl : (((sch key nk i).1.drop ((i - 1) * 4)).take 4).length = 4 := by simp [hl]; omega
      have hT := schT_len nk i (sch key nk i).2 htl
      apply ext_getD (d := 0) (n := 4) (rschW_len _ _ _ _ _ _) (by rw [toI_len, xorO_len, hT])
      intro j hj
      rw [rschW_get _ _ _ _ _ j hj, rcell, if_neg h, toI_getD _ j, xorO_get _ _ hT j hj, hc, ← xorI_ub, schT_get hs hn h (by omega) (sch key nk i).1 _ (fun k hk => part_get _ _ _ hk) j hj, toI_getD]
      simp only [xorI, Nat.xor_comm]
theorem sched_eq {sb : LI} (hs : SbOK sb) {key : B8} {nk : Nat} (hn : nk = 4 ∨ nk = 8) (hk : key.length = 4 * nk) : ∀ i, i ≤ 4 * (nk + 7) → rsch key sb nk i = toI (sch key nk i).1 := sched_eqL hs hn (Nat.le_of_eq hk.symm)
end Go.V
end
section
set_option linter.unusedSimpArgs false
set_option linter.unusedVariables false
set_option maxRecDepth 10000
namespace Go.V
open Go Go.Proofs.Try
def pureF (f : FuncId) (l : List SV) : Option SV :=
  match f, l with
  | 60, [] => some (.one (.ai (tabR 256)))
  | 61, [.one (.s (.i b)), .one (.s (.i n))] => if (0 ≤ b ∧ b < 256) ∧ (0 ≤ n ∧ n < 256) then some (one (.i (powG b n.toNat 8))) else none
  | _, _ => none
theorem pureF_ok : PureOK prog (pureOf pureF) := by
  refine pureOf_ok ?_
  intro f svs sv h
  unfold pureF at h
  split at h
  · cases h
    exact ⟨⟨f60, func60, nofun, by decide⟩, spec60, rfl, rfl⟩
  · split at h
    · rename_i b n hc
      cases h
      have hs := spec61G b n.toNat hc.1 (by omega)
      have e : ((n.toNat : Nat) : Int) = n := by omega
      rw [e] at hs
      exact ⟨⟨f61, func61, nofun, by decide⟩, hs, rfl, rfl⟩
    · cases h
  · cases h
/-- The memory after ref05.New: the key's bytes, the key's block, the words. -/
def rnewMem (key : B8) (nk cap : Nat) : Mem := [.ent ⟨false, 5, none, .a8 key⟩, .ent ⟨true, 110, some 258, .st [⟨1, .s (.sl 2 0 (4 * (nk + 7)) cap 4)⟩, ⟨256, .ai (tabR 256)⟩, ⟨1, .s (.i nk)⟩]⟩, .ent ⟨true, 111, none, .ai (rsch key (tabR 256) nk (4 * (nk + 7)))⟩]
set_option maxHeartbeats 1000000 in
theorem spec22L (key : B8) (nk cap0 : Nat) (hk : 4 * nk ≤ key.length) (hnk : nk = 4 ∨ nk = 8) (hcap0 : 4 * nk ≤ cap0) : Spec prog 22 [one (.sl 0 0 (4 * nk) cap0 1)] [.ent ⟨false, 5, none, .a8 key⟩] [] (fun r m => r = one (.ptr 1 0 0) ∧ ∃ cap, m = rnewMem key nk cap) := by
  refine spec_of_body tabOK func22 rfl (Nat.le_of_ble_eq_true rfl) ?_
  intro E Q0 hB
  refine ok_run hB tabOK pureF_ok 6 ?_
  simp only [argSl]
  have hlt : ∀ x : BitVec 8, x.toNat < 256 := fun x => x.isLt
  have hsl := tabR_len 256
  have hsb := tab_byt
  have hsv : pureF 60 [] = some (.one (.ai (tabR 256))) := rfl
  generalize hsbe : tabR 256 = sb at hsl hsb hsv ⊢
  have d4 : (4 * (nk : Int)).tdiv 4 = nk := by rw [Int.tdiv_eq_ediv_of_nonneg (by omega)]; omega
  repeat (first
    | rw [run_ops0]
    | rw [run_seq]
    | rw [run_region]
    | rw [run_block]
    | rw [run_blk]
    | rw [run_skip]
    | (apply run_go rfl; focus (intro L K hK; simp [-List.reduceReplicate, -List.getD_eq_getElem?_getD, d4]; (repeat' apply And.intro); all_goals first | exact hK | omega)))
  rw [run_zero]
  refine ok_join (X := Unit) (fun _ => ⟨[(16, one (.b false)), (0, one (.sl 0 0 (4 * nk) cap0 1))], [.ent ⟨false, 5, none, .a8 key⟩]⟩) (fun _ => True) (fun j i L h => by have := hB.anc i L h; simp at this ⊢; omega) ?_ ?_
  · refine ok_run hB tabOK pureF_ok 100 ?_
    repeat (first
    | rw [run_ops0]
    | rw [run_seq]
    | rw [run_region]
    | rw [run_block]
    | rw [run_blk]
    | rw [run_skip]
    | (apply run_go rfl; focus (intro L K hK; simp [-List.reduceReplicate, -List.getD_eq_getElem?_getD, d4]; (repeat' apply And.intro); all_goals first | exact hK | omega)))
    apply run_guard rfl rfl rfl rfl
    · intro h
      simp at h
      obtain rfl : nk = 8 := by omega
      (apply Exists.intro; apply And.intro; focus (intro L K hK; simp [-List.reduceReplicate, -List.getD_eq_getElem?_getD]; (repeat' apply And.intro); all_goals first | exact hK | omega))
      apply run_guard rfl rfl rfl rfl
      · intro _
        (apply Exists.intro; apply And.intro; focus (intro L K hK; simp [-List.reduceReplicate, -List.getD_eq_getElem?_getD]; (repeat' apply And.intro); all_goals first | exact hK | omega))
        apply run_guard rfl rfl rfl rfl
        · intro _
          (apply Exists.intro; apply And.intro; focus (intro L K hK; simp [-List.reduceReplicate, -List.getD_eq_getElem?_getD]; (repeat' apply And.intro); all_goals first | exact hK | omega))
          repeat (first
    | rw [run_ops0]
    | rw [run_seq]
    | rw [run_region]
    | rw [run_block]
    | rw [run_blk]
    | rw [run_skip]
    | (apply run_go rfl; focus (intro L K hK; simp [-List.reduceReplicate, -List.getD_eq_getElem?_getD]; (repeat' apply And.intro); all_goals first | exact hK | omega)))
          rw [run_back]
          refine ⟨(), trivial, ?_⟩
          simp [-List.reduceReplicate, -List.getD_eq_getElem?_getD]
        · intro h; cases h
      · intro h; cases h
    · intro h
      simp at h
      obtain rfl : nk = 4 := by omega
      refine ⟨Nat.le_of_ble_eq_true rfl, ?_⟩
      simp only [St.put]
      apply run_guard rfl rfl rfl rfl
      · intro h; cases h
      intro _
      refine ⟨Nat.le_of_ble_eq_true rfl, ?_⟩
      simp only [St.put]
      apply run_guard rfl rfl rfl rfl
      · intro h; cases h
      intro _
      refine ⟨Nat.le_of_ble_eq_true rfl, ?_⟩
      simp only [St.put]
      repeat (first
    | rw [run_ops0]
    | rw [run_seq]
    | rw [run_region]
    | rw [run_block]
    | rw [run_blk]
    | rw [run_skip]
    | (apply run_go rfl; focus (intro L K hK; simp [-List.reduceReplicate, -List.getD_eq_getElem?_getD]; (repeat' apply And.intro); all_goals first | exact hK | omega)))
      rw [run_back]
      refine ⟨(), trivial, ?_⟩
      simp [-List.reduceReplicate, -List.getD_eq_getElem?_getD]
  · intro _ _
    refine ok_run hB tabOK pureF_ok 100 ?_
    apply run_cond2 rfl
    · intro h; cases h
    intro _
    repeat (first
    | rw [run_ops0]
    | rw [run_seq]
    | rw [run_region]
    | rw [run_block]
    | rw [run_blk]
    | rw [run_skip]
    | (apply run_go rfl; focus (intro L K hK; simp [-List.reduceReplicate, -List.getD_eq_getElem?_getD, d4, hsl, hsv, pureOf, fillS, R.solid, putS]; (repeat' apply And.intro); all_goals first | exact hK | omega)))
    rw [run_loop]
    refine ok_blank_mem 1 _ _ 111 4 (.ai []) rfl trivial rfl rfl ?_
    simp only [List.length_cons, List.length_nil, List.cons_append, List.nil_append, List.set]
    refine ok_loop (X := Nat × Nat) (fun x => ⟨[(5, one (.i x.1)), (4, one (.i nk)), (3, one (.ptr 1 0 0)), (0, one (.sl 0 0 (4 * nk) cap0 1))], [.ent ⟨false, 5, none, .a8 key⟩, .ent ⟨true, 110, some 258, .st [⟨1, .s (.sl 2 0 x.1 x.2 4)⟩, ⟨256, .ai sb⟩, ⟨1, .s (.i nk)⟩]⟩, .ent ⟨true, 111, none, .ai (rsch key sb nk x.1)⟩]⟩) (fun x => x.1 ≤ 4 * (nk + 7)) (fun x => 4 * (nk + 7) - x.1) (fun j i L h => by have := hB.anc i L h; simp at this ⊢; omega) ⟨(0, 0), by omega, by simp [-List.reduceReplicate, -List.getD_eq_getElem?_getD, rsch]⟩ ?_
    rintro ⟨i, cap⟩ hi
    refine ok_run hB tabOK pureF_ok 100 ?_
    simp only at hi ⊢
    have hn0 : 0 < nk := by omega
    have hn8 : nk ≤ 8 := by omega
    have hwl := rsch_len key sb nk i
    have hWb := rsch_byt (key := key) (n := nk) hsb i
    repeat (first
    | rw [run_ops0]
    | rw [run_seq]
    | rw [run_region]
    | rw [run_block]
    | rw [run_blk]
    | rw [run_skip]
    | (apply run_go rfl; focus (intro L K hK; simp [-List.reduceReplicate, -List.getD_eq_getElem?_getD]; (repeat' apply And.intro); all_goals first | exact hK | omega)))
    apply run_cond2 rfl
    · intro h
      simp at h
      have hsn : rsch key sb nk (i + 1) = rsch key sb nk i ++ rschW key sb nk i (rsch key sb nk i) 4 := rfl
      generalize rsch key sb nk i = W at hwl hWb hsn ⊢
      repeat (first
    | rw [run_ops0]
    | rw [run_seq]
    | rw [run_region]
    | rw [run_block]
    | rw [run_blk]
    | rw [run_skip]
    | (apply run_go rfl; focus (intro L K hK; simp [-List.reduceReplicate, -List.getD_eq_getElem?_getD]; (repeat' apply And.intro); all_goals first | exact hK | omega)))
      rw [run_loop]
      refine ok_loop (X := Nat) (fun j => ⟨[(7, one (.i j)), (6, one (.ptr 3 0 0)), (5, one (.i i)), (4, one (.i nk)), (3, one (.ptr 1 0 0)), (0, one (.sl 0 0 (4 * nk) cap0 1))], [.ent ⟨false, 5, none, .a8 key⟩, .ent ⟨true, 110, some 258, .st [⟨1, .s (.sl 2 0 i cap 4)⟩, ⟨256, .ai sb⟩, ⟨1, .s (.i nk)⟩]⟩, .ent ⟨true, 111, none, .ai W⟩, .ent ⟨true, 111, some 4, .ai (rschW key sb nk i W j)⟩]⟩) (fun j => j ≤ 4) (fun j => 4 - j) (fun j i L h => by have := hB.anc i L h; simp at this ⊢; omega) ⟨0, by omega, by simp [-List.reduceReplicate, -List.getD_eq_getElem?_getD, rschW]⟩ ?_
      intro j hj
      refine ok_run hB tabOK pureF_ok 100 ?_
      have hrl := rschW_len key sb nk i W j
      repeat (first
    | rw [run_ops0]
    | rw [run_seq]
    | rw [run_region]
    | rw [run_block]
    | rw [run_blk]
    | rw [run_skip]
    | (apply run_go rfl; focus (intro L K hK; simp [-List.reduceReplicate, -List.getD_eq_getElem?_getD]; (repeat' apply And.intro); all_goals first | exact hK | omega)))
      apply run_cond2 rfl
      · intro h3
        simp at h3
        repeat (first
    | rw [run_ops0]
    | rw [run_seq]
    | rw [run_region]
    | rw [run_block]
    | rw [run_blk]
    | rw [run_skip]
    | (apply run_go rfl; focus (intro L K hK; simp [-List.reduceReplicate, -List.getD_eq_getElem?_getD]; (repeat' apply And.intro); all_goals first | exact hK | omega)))
        apply run_cond2 rfl
        · intro h4
          simp at h4
          have e4 : (4 * (i : Int) + j).toNat = 4 * i + j := by omega
          have hbk := hlt (key.getD (4 * i + j) 0)
          repeat (first
    | rw [run_ops0]
    | rw [run_seq]
    | rw [run_region]
    | rw [run_block]
    | rw [run_blk]
    | rw [run_skip]
    | (apply run_go rfl; focus (intro L K hK; simp [-List.reduceReplicate, -List.getD_eq_getElem?_getD, e4, hrl]; (repeat' apply And.intro); all_goals first | exact hK | omega)))
          apply run_exit2 rfl
          repeat (first
    | rw [run_ops0]
    | rw [run_seq]
    | rw [run_region]
    | rw [run_block]
    | rw [run_blk]
    | rw [run_skip]
    | (apply run_go rfl; focus (intro L K hK; simp [-List.reduceReplicate, -List.getD_eq_getElem?_getD, e4, hrl]; (repeat' apply And.intro); all_goals first | exact hK | omega)))
          rw [run_back]
          refine ⟨j + 1, by omega, by omega, ?_⟩
          simp [-List.reduceReplicate, -List.getD_eq_getElem?_getD, rschW, rcell, h4]
        · intro h4
          simp at h4
          have tm : (i : Int).tmod nk = ((i % nk : Nat) : Int) := rfl
          have e1 : ((i : Int) - 1).toNat = i - 1 := by omega
          have e5 : ((i : Int) - nk).toNat = i - nk := by omega
          have hb1 := hWb ((i - 1) * 4 + j)
          have hbw := hWb ((i - nk) * 4 + j)
          have hi1 : ¬ i < nk := by omega
          have hn0' : ¬ nk = 0 := by omega
          repeat (first
    | rw [run_ops0]
    | rw [run_seq]
    | rw [run_region]
    | rw [run_block]
    | rw [run_blk]
    | rw [run_skip]
    | (apply run_go rfl; focus (intro L K hK; simp [-List.reduceReplicate, -List.getD_eq_getElem?_getD, e1, hwl, tm, hn0']; (repeat' apply And.intro); all_goals first | exact hK | omega)))
          apply run_cond2 rfl
          · intro h5
            simp at h5
            have h5' : i % nk = 0 := by first | exact h5 | omega
            have tm4 : (((j : Int) + 1) % 4).toNat = (j + 1) % 4 := by omega
            have tm5 : ((j : Int) + 1).tmod 4 = ((j : Int) + 1) % 4 := Int.tmod_eq_emod_of_nonneg (by omega)
            have hb2 := hWb ((i - 1) * 4 + (j + 1) % 4)
            have hm4 : (j + 1) % 4 < 4 := Nat.mod_lt _ (by omega)
            have hs2 := hsb (W.getD ((i - 1) * 4 + (j + 1) % 4) 0).toNat
            repeat (first
    | rw [run_ops0]
    | rw [run_seq]
    | rw [run_region]
    | rw [run_block]
    | rw [run_blk]
    | rw [run_skip]
    | (apply run_go rfl; focus (intro L K hK; simp [-List.reduceReplicate, -List.getD_eq_getElem?_getD]; (repeat' apply And.intro); all_goals first | exact hK | omega)))
            rw [run_draw]
            refine ok_draw2 17 tabOK pureF_ok (pureOf_mono _) mixed (by decide +kernel) rfl rfl ?_
            repeat (first
    | (apply hd_go rfl rfl rfl rfl (Nat.le_of_ble_eq_true rfl); focus (intro K' hK; simp [-List.reduceReplicate, -List.getD_eq_getElem?_getD, e1, hwl, hsl, tm4, tm5]; (repeat' apply And.intro); all_goals first | exact hK | omega))
    | (apply hd_new rfl rfl rfl rfl (Nat.le_of_ble_eq_true rfl); focus (intro K' hK; simp [-List.reduceReplicate, -List.getD_eq_getElem?_getD, e1, hwl, hsl, tm4, tm5]; (repeat' apply And.intro); all_goals first | exact hK | omega)))
            refine hd_nil ?_
            simp only [List.map_cons, List.map_nil, List.append_nil, List.nil_append, List.cons_append]
            refine ok_run hB tabOK pureF_ok 100 ?_
            repeat (first
    | rw [run_ops0]
    | rw [run_seq]
    | rw [run_region]
    | rw [run_block]
    | rw [run_blk]
    | rw [run_skip]
    | (apply run_go rfl; focus (intro L K hK; simp [-List.reduceReplicate, -List.getD_eq_getElem?_getD]; (repeat' apply And.intro); all_goals first | exact hK | omega)))
            apply run_cond2 rfl
            · intro h6
              simp at h6
              obtain rfl : j = 0 := by omega
              have td : (i : Int).tdiv nk = ((i / nk : Nat) : Int) := rfl
              have q1 : 1 ≤ i / nk := (Nat.one_le_div_iff hn0).2 (by omega)
              have q2 : i / nk ≤ i := Nat.div_le_self _ _
              have qe : (i : Int) / (nk : Int) = ((i / nk : Nat) : Int) := rfl
              have qI1 : 1 ≤ (i : Int) / (nk : Int) := by rw [qe]; omega
              have qI2 : (i : Int) / (nk : Int) - 1 < 256 := by rw [qe]; omega
              have qI3 : ((i : Int) / (nk : Int)).toNat = i / nk := by rw [qe]; omega
              have ti : (i : Int).tdiv nk = (i : Int) / nk := Int.tdiv_eq_ediv_of_nonneg (by omega)
              have hpl := powG_lt (b := 2) (by omega) (i / nk - 1) 8
              replace hs2 : 0 ≤ sb.getD (W.getD ((i - 1) * 4 + 1) 0).toNat 0 ∧ sb.getD (W.getD ((i - 1) * 4 + 1) 0).toNat 0 < 256 := hs2
              replace hbw : 0 ≤ W.getD ((i - nk) * 4) 0 ∧ W.getD ((i - nk) * 4) 0 < 256 := hbw
              have hq := xorI_lt hs2 hpl
              unfold xorI at hq
              repeat (first
    | rw [run_ops0]
    | rw [run_seq]
    | rw [run_region]
    | rw [run_block]
    | rw [run_blk]
    | rw [run_skip]
    | (apply run_go rfl; focus (intro L K hK; simp [-List.reduceReplicate, -List.getD_eq_getElem?_getD, ti, hn0', qI1, qI2, qI3, pureOf, pureF]; (repeat' apply And.intro); all_goals first | exact hK | omega)))
              have hx := xorI_lt hbw hq
              unfold xorI at hx
              repeat (first
    | rw [run_ops0]
    | rw [run_seq]
    | rw [run_region]
    | rw [run_block]
    | rw [run_blk]
    | rw [run_skip]
    | (apply run_go rfl; focus (intro L K hK; simp [-List.reduceReplicate, -List.getD_eq_getElem?_getD, e5, hwl, hrl, hbw, hx]; (repeat' apply And.intro); all_goals first | exact hK | omega)))
              rw [run_back]
              refine ⟨0 + 1, by omega, by omega, ?_⟩
              simp [-List.reduceReplicate, -List.getD_eq_getElem?_getD, rschW, rcell, xorI, hi1, h5']
            · intro h6
              simp at h6
              have hx := xorI_lt hbw hs2
              unfold xorI at hx
              repeat (first
    | rw [run_ops0]
    | rw [run_seq]
    | rw [run_region]
    | rw [run_block]
    | rw [run_blk]
    | rw [run_skip]
    | (apply run_go rfl; focus (intro L K hK; simp [-List.reduceReplicate, -List.getD_eq_getElem?_getD, e5, hwl, hrl, hbw, hx]; (repeat' apply And.intro); all_goals first | exact hK | omega)))
              rw [run_back]
              refine ⟨j + 1, by omega, by omega, ?_⟩
              simp [-List.reduceReplicate, -List.getD_eq_getElem?_getD, rschW, rcell, xorI, hi1, h5', h6]
          · intro h5
            simp at h5
            have h5' : ¬ i % nk = 0 := by first | exact h5 | omega
            rcases hnk with rfl | rfl
            · have e5 : ((i : Int) - 4).toNat = i - 4 := by omega
              repeat (first
    | rw [run_ops0]
    | rw [run_seq]
    | rw [run_region]
    | rw [run_block]
    | rw [run_blk]
    | rw [run_skip]
    | (apply run_go rfl; focus (intro L K hK; simp [-List.reduceReplicate, -List.getD_eq_getElem?_getD]; (repeat' apply And.intro); all_goals first | exact hK | omega)))
              apply run_guard rfl rfl rfl rfl
              · intro h; cases h
              intro _
              refine ⟨Nat.le_of_ble_eq_true rfl, ?_⟩
              simp only [St.put]
              apply run_guard rfl rfl rfl rfl
              · intro h; cases h
              intro _
              refine ⟨Nat.le_of_ble_eq_true rfl, ?_⟩
              simp only [St.put]
              apply run_guard rfl rfl rfl rfl
              · intro h; cases h
              intro _
              refine ⟨Nat.le_of_ble_eq_true rfl, ?_⟩
              simp only [St.put]
              repeat (first
    | rw [run_ops0]
    | rw [run_seq]
    | rw [run_region]
    | rw [run_block]
    | rw [run_blk]
    | rw [run_skip]
    | (apply run_go rfl; focus (intro L K hK; simp [-List.reduceReplicate, -List.getD_eq_getElem?_getD]; (repeat' apply And.intro); all_goals first | exact hK | omega)))
              apply run_cond2 rfl
              · intro h; cases h
              intro _
              have hx := xorI_lt hbw hb1
              unfold xorI at hx
              repeat (first
    | rw [run_ops0]
    | rw [run_seq]
    | rw [run_region]
    | rw [run_block]
    | rw [run_blk]
    | rw [run_skip]
    | (apply run_go rfl; focus (intro L K hK; simp [-List.reduceReplicate, -List.getD_eq_getElem?_getD, e5, hwl, hrl, hbw, hx]; (repeat' apply And.intro); all_goals first | exact hK | omega)))
              rw [run_back]
              refine ⟨j + 1, by omega, by omega, ?_⟩
              simp [-List.reduceReplicate, -List.getD_eq_getElem?_getD, rschW, rcell, xorI, hi1, h5']
            · have e5 : ((i : Int) - 8).toNat = i - 8 := by omega
              have tm8 : (i : Int).tmod 8 = ((i % 8 : Nat) : Int) := rfl
              repeat (first
    | rw [run_ops0]
    | rw [run_seq]
    | rw [run_region]
    | rw [run_block]
    | rw [run_blk]
    | rw [run_skip]
    | (apply run_go rfl; focus (intro L K hK; simp [-List.reduceReplicate, -List.getD_eq_getElem?_getD]; (repeat' apply And.intro); all_goals first | exact hK | omega)))
              apply run_guard rfl rfl rfl rfl
              · intro _
                (apply Exists.intro; apply And.intro; focus (intro L K hK; simp [-List.reduceReplicate, -List.getD_eq_getElem?_getD, tm8]; (repeat' apply And.intro); all_goals first | exact hK | omega))
                apply run_guard rfl rfl rfl rfl
                · intro _
                  (apply Exists.intro; apply And.intro; focus (intro L K hK; simp [-List.reduceReplicate, -List.getD_eq_getElem?_getD, tm8]; (repeat' apply And.intro); all_goals first | exact hK | omega))
                  apply run_guard rfl rfl rfl rfl
                  · intro _
                    (apply Exists.intro; apply And.intro; focus (intro L K hK; simp [-List.reduceReplicate, -List.getD_eq_getElem?_getD, tm8]; (repeat' apply And.intro); all_goals first | exact hK | omega))
                    repeat (first
    | rw [run_ops0]
    | rw [run_seq]
    | rw [run_region]
    | rw [run_block]
    | rw [run_blk]
    | rw [run_skip]
    | (apply run_go rfl; focus (intro L K hK; simp [-List.reduceReplicate, -List.getD_eq_getElem?_getD]; (repeat' apply And.intro); all_goals first | exact hK | omega)))
                    apply run_cond2 rfl
                    · intro h7
                      simp at h7
                      have h7' : i % 8 = 4 := by omega
                      have hs3 := hsb (W.getD ((i - 1) * 4 + j) 0).toNat
                      repeat (first
    | rw [run_ops0]
    | rw [run_seq]
    | rw [run_region]
    | rw [run_block]
    | rw [run_blk]
    | rw [run_skip]
    | (apply run_go rfl; focus (intro L K hK; simp [-List.reduceReplicate, -List.getD_eq_getElem?_getD, hsl, hb1]; (repeat' apply And.intro); all_goals first | exact hK | omega)))
                      have hx := xorI_lt hbw hs3
                      unfold xorI at hx
                      repeat (first
    | rw [run_ops0]
    | rw [run_seq]
    | rw [run_region]
    | rw [run_block]
    | rw [run_blk]
    | rw [run_skip]
    | (apply run_go rfl; focus (intro L K hK; simp [-List.reduceReplicate, -List.getD_eq_getElem?_getD, e5, hwl, hrl, hbw, hx]; (repeat' apply And.intro); all_goals first | exact hK | omega)))
                      rw [run_back]
                      refine ⟨j + 1, by omega, by omega, ?_⟩
                      simp [-List.reduceReplicate, -List.getD_eq_getElem?_getD, rschW, rcell, xorI, hi1, h5', h7']
                    · intro h7
                      simp at h7
                      have h7' : ¬ i % 8 = 4 := by omega
                      have hx := xorI_lt hbw hb1
                      unfold xorI at hx
                      repeat (first
    | rw [run_ops0]
    | rw [run_seq]
    | rw [run_region]
    | rw [run_block]
    | rw [run_blk]
    | rw [run_skip]
    | (apply run_go rfl; focus (intro L K hK; simp [-List.reduceReplicate, -List.getD_eq_getElem?_getD, e5, hwl, hrl, hbw, hx]; (repeat' apply And.intro); all_goals first | exact hK | omega)))
                      rw [run_back]
                      refine ⟨j + 1, by omega, by omega, ?_⟩
                      simp [-List.reduceReplicate, -List.getD_eq_getElem?_getD, rschW, rcell, xorI, hi1, h5', h7']
                  · intro h; cases h
                · intro h; cases h
              · intro h; cases h
      · intro h3
        simp at h3
        obtain rfl : j = 4 := by omega
        apply run_exit2 rfl
        repeat (first
    | rw [run_ops0]
    | rw [run_seq]
    | rw [run_region]
    | rw [run_block]
    | rw [run_blk]
    | rw [run_skip]
    | (apply run_go rfl; focus (intro L K hK; simp [-List.reduceReplicate, -List.getD_eq_getElem?_getD]; (repeat' apply And.intro); all_goals first | exact hK | omega)))
        rw [run_draw]
        refine ok_draw_app2 7 tabOK pureF_ok (pureOf_mono _) mixed hB.pan (by decide +kernel) rfl rfl ?_
        repeat (first
    | (apply hd_go rfl rfl rfl rfl (Nat.le_of_ble_eq_true rfl); focus (intro K' hK; simp [-List.reduceReplicate, -List.getD_eq_getElem?_getD, hrl]; (repeat' apply And.intro); all_goals first | exact hK | omega))
    | (apply hd_new rfl rfl rfl rfl (Nat.le_of_ble_eq_true rfl); focus (intro K' hK; simp [-List.reduceReplicate, -List.getD_eq_getElem?_getD, hrl]; (repeat' apply And.intro); all_goals first | exact hK | omega)))
        refine hd_nil ?_
        simp only [List.map_cons, List.map_nil, List.nil_append, List.cons_append]
        refine ok_run hB tabOK pureF_ok 100 ?_
        (apply run_app rfl; focus (intro L K hK; simp [-List.reduceReplicate, -List.getD_eq_getElem?_getD, hwl, hrl]; (repeat' apply And.intro); all_goals first | exact hK | omega | (intro cap hcap; exact hK cap hcap)))
        intro cap2 hcap2
        repeat (first
    | rw [run_ops0]
    | rw [run_seq]
    | rw [run_region]
    | rw [run_block]
    | rw [run_blk]
    | rw [run_skip]
    | (apply run_go rfl; focus (intro L K hK; simp [-List.reduceReplicate, -List.getD_eq_getElem?_getD]; (repeat' apply And.intro); all_goals first | exact hK | omega)))
        rw [run_back]
        refine ⟨(i + 1, cap2), by simp only; omega, by simp only; omega, ?_⟩
        simp only [hsn]
        simp [-List.reduceReplicate, -List.getD_eq_getElem?_getD, killA]
        first | exact List.take_of_length_le (by omega) | skip
    · intro h
      simp at h
      obtain rfl : i = 4 * (nk + 7) := by omega
      apply run_exit2 rfl
      repeat (first
    | rw [run_ops0]
    | rw [run_seq]
    | rw [run_region]
    | rw [run_block]
    | rw [run_blk]
    | rw [run_skip]
    | (apply run_go rfl; focus (intro L K hK; simp [-List.reduceReplicate, -List.getD_eq_getElem?_getD]; (repeat' apply And.intro); all_goals first | exact hK | omega)))
      rw [run_ret]
      simp [-List.reduceReplicate, -List.getD_eq_getElem?_getD, results22, f22, rnewMem, hsbe]
theorem spec22 (key : B8) (nk cap0 : Nat) (hk : key.length = 4 * nk) (hnk : nk = 4 ∨ nk = 8) (hcap0 : 4 * nk ≤ cap0) : Spec prog 22 [one (.sl 0 0 (4 * nk) cap0 1)] [.ent ⟨false, 5, none, .a8 key⟩] [] (fun r m => r = one (.ptr 1 0 0) ∧ ∃ cap, m = rnewMem key nk cap) := spec22L key nk cap0 (Nat.le_of_eq hk.symm) hnk hcap0
end Go.V
end
