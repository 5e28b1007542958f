/- Texts of the walks, put together: Ys Xa Xb Xc Xd Xe Xf Xg Xh Xi Xj Xk Lc Xl. No condition. -/
import Derived.Test.YtlnoehpjchglnaaMae
section
namespace Go.V
open Go
attribute [simp] stCopy step1 evS est St.ev St.put St.add St.upd look_hit look_miss okd stBin bin binS binB binI shS shB S.num constS one inI stUn stNil stLoad stAt stField stIndexAddr stStore wrAt stAlloc stBox stIndex stPart stPartRow stFieldV stConv cvS cvB cvI stSlice optN SV.num noMax stArrPtr stExtract stLen stBuild A.isRow A.isAgg A.noRec A.len A.get A.sub A.set A.over Ent.bound Kind.isStruct Kind.isAgg S.known A.solid segAt segPut segLen R.a R.len A.r stMake stBuildSlice litA repA rep1 fillA putP sing stMin stEqA rowEq Kind.isScal Ent2 entSl entM belSl belV belA belS belR belM finOf resP resV extraOwn stAppend srcRow SrcTy A.cat killSl killV killA killS killE killSeg killR viewM visOf memL stoP newOf fillS putS R.solid noCap
end Go.V
end
section
set_option linter.unusedSimpArgs false
set_option linter.unusedVariables false
set_option maxRecDepth 10000
namespace Go.V
open Go Go.Proofs.Try
abbrev G := BitVec 64 × BitVec 64
def gfA (p : G) : A := .st [⟨1, .s (.u64 p.1)⟩, ⟨1, .s (.u64 p.2)⟩]
def gB (b : G) : Nat → G
  | 0 => b
  | j + 1 => (((gB b j).1 >>> 1) ^^^ (((-((gB b j).2 &&& 1#64)) &&& 225#64) <<< 56), ((gB b j).2 >>> 1) ||| ((gB b j).1 <<< 63))
def gBit (a : G) (j : Nat) : BitVec 64 := if 63 < j then a.2 >>> (63 - (j &&& 63)) else a.1 >>> (63 - (j &&& 63))
def gR (a b : G) : Nat → G
  | 0 => (0#64, 0#64)
  | j + 1 => ((gR a b j).1 ^^^ ((gB b j).1 &&& -(gBit a j &&& 1#64)), (gR a b j).2 ^^^ ((gB b j).2 &&& -(gBit a j &&& 1#64)))
theorem spec65 (a b : G) : Spec prog 65 [.one (gfA a), .one (gfA b)] [] [] (fun r _ => r = .one (gfA (gR a b 128))) := by
  refine spec_of_body tabOK func65 rfl (Nat.le_of_ble_eq_true rfl) ?_
  intro E Q0 hB
  refine ok_run hB tabOK pureNone_ok 100 ?_
  simp only [argSl]
  obtain ⟨aH, aL⟩ := a
  repeat (first
    | rw [run_ops0]
    | rw [run_seq]
    | rw [run_region]
    | rw [run_block]
    | rw [run_blk]
    | rw [run_skip]
    | (apply run_go rfl; focus (intro L K hK; simp [-List.reduceReplicate, -List.getD_eq_getElem?_getD, tab115, ty115, tab3, ty3, ntmps65, gfA]; (repeat' apply And.intro); all_goals first | exact hK | omega)))
  rw [run_loop]
  refine ok_loop (X := Nat) (fun j => ⟨[(10, one (.i j)), (5, one (.ptr 3 0 0)), (4, one (.ptr 2 0 0)), (3, one (.ptr 1 0 0)), (2, one (.ptr 0 0 0))], [.ent ⟨true, 115, some 2, gfA (aH, aL)⟩, .ent ⟨true, 115, some 2, gfA (gB b j)⟩, .ent ⟨true, 115, some 2, gfA (0#64, 0#64)⟩, .ent ⟨true, 115, some 2, gfA (gR (aH, aL) b j)⟩]⟩) (fun j => j ≤ 128) (fun j => 128 - j) (fun j i L h => absurd (hB.anc i L h) (by simp)) ⟨0, by omega, by simp [-List.reduceReplicate, -List.getD_eq_getElem?_getD, gB, gR, gfA]⟩ ?_
  intro j hj
  refine ok_run hB tabOK pureNone_ok 100 ?_
  have hB1 : gB b (j + 1) = (((gB b j).1 >>> 1) ^^^ (((-((gB b j).2 &&& 1#64)) &&& 225#64) <<< 56), ((gB b j).2 >>> 1) ||| ((gB b j).1 <<< 63)) := rfl
  have hR1 : gR (aH, aL) b (j + 1) = ((gR (aH, aL) b j).1 ^^^ ((gB b j).1 &&& -(gBit (aH, aL) j &&& 1#64)), (gR (aH, aL) b j).2 ^^^ ((gB b j).2 &&& -(gBit (aH, aL) j &&& 1#64))) := rfl
  have hand : j &&& 63 ≤ 63 := Nat.and_le_right
  have q1 : (63 - ((j &&& 63 : Nat) : Int)).toNat = 63 - (j &&& 63) := by omega
  generalize gB b j = bj at hB1 hR1 ⊢
  generalize hrj : gR (aH, aL) b j = rj at hR1 ⊢
  obtain ⟨bH, bL⟩ := bj
  obtain ⟨rH, rL⟩ := rj
  simp only [gfA]
  repeat (first
    | rw [run_ops0]
    | rw [run_seq]
    | rw [run_region]
    | rw [run_block]
    | rw [run_blk]
    | rw [run_skip]
    | (apply run_go rfl; focus (intro L K hK; simp [-List.reduceReplicate, -List.getD_eq_getElem?_getD, tab3, ty3, ntmps65]; (repeat' apply And.intro); all_goals first | exact hK | omega)))
  apply run_cond2 rfl
  · intro h
    simp at h
    repeat (first
    | rw [run_ops0]
    | rw [run_seq]
    | rw [run_region]
    | rw [run_block]
    | rw [run_blk]
    | rw [run_skip]
    | (apply run_go rfl; focus (intro L K hK; simp [-List.reduceReplicate, -List.getD_eq_getElem?_getD, tab3, ty3, tab115, ty115, tab45, ty45, ntmps65, q1]; (repeat' apply And.intro); all_goals first | exact hK | omega)))
    apply run_cond2 rfl
    · intro h2
      simp at h2
      have hbit : gBit (aH, aL) j = aL >>> (63 - (j &&& 63)) := by unfold gBit; rw [if_pos (by omega)]
      repeat (first
    | rw [run_ops0]
    | rw [run_seq]
    | rw [run_region]
    | rw [run_block]
    | rw [run_blk]
    | rw [run_skip]
    | (apply run_go rfl; focus (intro L K hK; simp [-List.reduceReplicate, -List.getD_eq_getElem?_getD, tab3, ty3, tab115, ty115, tab45, ty45, tab94, ty94, ntmps65, q1]; (repeat' apply And.intro); all_goals first | exact hK | omega)))
      try (rw [run_zero]; refine ok_run hB tabOK pureNone_ok 100 ?_)
      repeat (first
    | rw [run_ops0]
    | rw [run_seq]
    | rw [run_region]
    | rw [run_block]
    | rw [run_blk]
    | rw [run_skip]
    | (apply run_go rfl; focus (intro L K hK; simp [-List.reduceReplicate, -List.getD_eq_getElem?_getD, tab3, ty3, tab115, ty115, tab45, ty45, tab94, ty94, ntmps65, q1]; (repeat' apply And.intro); all_goals first | exact hK | omega)))
      rw [run_back]
      refine ⟨j + 1, by omega, by omega, ?_⟩
      rw [hB1, hR1, hbit]
      simp [-List.reduceReplicate, -List.getD_eq_getElem?_getD]
    · intro h2
      simp at h2
      have hbit : gBit (aH, aL) j = aH >>> (63 - (j &&& 63)) := by unfold gBit; rw [if_neg (by omega)]
      repeat (first
    | rw [run_ops0]
    | rw [run_seq]
    | rw [run_region]
    | rw [run_block]
    | rw [run_blk]
    | rw [run_skip]
    | (apply run_go rfl; focus (intro L K hK; simp [-List.reduceReplicate, -List.getD_eq_getElem?_getD, tab3, ty3, tab115, ty115, tab45, ty45, tab94, ty94, ntmps65, q1]; (repeat' apply And.intro); all_goals first | exact hK | omega)))
      try (rw [run_zero]; refine ok_run hB tabOK pureNone_ok 100 ?_)
      repeat (first
    | rw [run_ops0]
    | rw [run_seq]
    | rw [run_region]
    | rw [run_block]
    | rw [run_blk]
    | rw [run_skip]
    | (apply run_go rfl; focus (intro L K hK; simp [-List.reduceReplicate, -List.getD_eq_getElem?_getD, tab3, ty3, tab115, ty115, tab45, ty45, tab94, ty94, ntmps65, q1]; (repeat' apply And.intro); all_goals first | exact hK | omega)))
      rw [run_back]
      refine ⟨j + 1, by omega, by omega, ?_⟩
      rw [hB1, hR1, hbit]
      simp [-List.reduceReplicate, -List.getD_eq_getElem?_getD]
  · intro h
    simp at h
    obtain rfl : j = 128 := by omega
    apply run_exit2 rfl
    repeat (first
    | rw [run_ops0]
    | rw [run_seq]
    | rw [run_region]
    | rw [run_block]
    | rw [run_blk]
    | rw [run_skip]
    | (apply run_go rfl; focus (intro L K hK; simp [-List.reduceReplicate, -List.getD_eq_getElem?_getD, tab3, ty3, tab115, ty115, ntmps65]; (repeat' apply And.intro); all_goals first | exact hK | omega)))
    rw [run_ret]
    simp [-List.reduceReplicate, -List.getD_eq_getElem?_getD, results65, f65, tab115, ty115, hrj]
end Go.V
end
section
set_option linter.unusedSimpArgs false
set_option linter.unusedVariables false
set_option maxRecDepth 10000
namespace Go.V
open Go Go.Proofs.Try
/-- Bytes, filled up with zeros. -/
def pad16 (l : B8) : B8 := l ++ zero16.drop l.length
def ofH (x : B8) : Nat → BitVec 64
  | 0 => 0#64
  | j + 1 => ((ofH x j) <<< 8) ||| (x.getD j 0).setWidth 64
def ofL (x : B8) : Nat → BitVec 64
  | 0 => 0#64
  | j + 1 => ((ofL x j) <<< 8) ||| (x.getD (8 + j) 0).setWidth 64
def ofG (x : B8) : G := (ofH x 8, ofL x 8)
theorem spec63 (B : B8) (off n cap : Nat) (hn : n ≤ 16) (hB' : off + n ≤ B.length) (hcap : n ≤ cap) : Spec prog 63 [one (.sl 0 off n cap 1)] [.ent ⟨false, 5, none, .a8 B⟩] [] (fun r _ => r = .one (gfA (ofG (pad16 ((B.drop off).take n))))) := by
  refine spec_of_body tabOK func63 rfl (Nat.le_of_ble_eq_true rfl) ?_
  intro E Q0 hB
  refine ok_run hB tabOK pureNone_ok 100 ?_
  simp only [argSl]
  have hxl : ((B.drop off).take n).length = n := by simp; omega
  have hmin : min n 16 = n := by omega
  repeat (first
    | rw [run_ops0]
    | rw [run_seq]
    | rw [run_region]
    | rw [run_block]
    | rw [run_blk]
    | rw [run_skip]
    | (apply run_go rfl; focus (intro L K hK; simp [-List.reduceReplicate, -List.getD_eq_getElem?_getD, tab22, ty22, tab23, ty23, tab115, ty115, tab5, ty5, tab3, ty3, ntmps63, hmin, hxl]; (repeat' apply And.intro); all_goals first | exact hK | omega)))
  have hpad : pad16 ((B.drop off).take n) = (B.drop off).take n ++ List.drop n [0#8, 0#8, 0#8, 0#8, 0#8, 0#8, 0#8, 0#8, 0#8, 0#8, 0#8, 0#8, 0#8, 0#8, 0#8, 0#8] := by
    unfold pad16
    rw [hxl]
    rfl
  have hpl : (pad16 ((B.drop off).take n)).length = 16 := by rw [hpad]; simp; omega
  rw [← hpad]
  generalize hX : pad16 ((B.drop off).take n) = X at hpl ⊢
  rw [run_loop]
  refine ok_loop (X := Nat) (fun j => ⟨[(9, one (.i j)), (4, one (.ptr 3 0 0)), (3, one (.ptr 2 0 0)), (2, one (.ptr 1 0 0))], [.ent ⟨false, 5, none, .a8 B⟩, .ent ⟨true, 115, some 2, gfA (0#64, 0#64)⟩, .ent ⟨true, 23, some 16, .a8 X⟩, .ent ⟨true, 115, some 2, gfA (ofH X j, ofL X j)⟩]⟩) (fun j => j ≤ 8) (fun j => 8 - j) (fun j i L h => by have := hB.anc i L h; simp at this ⊢; omega) ⟨0, by omega, by simp [-List.reduceReplicate, -List.getD_eq_getElem?_getD, ofH, ofL, gfA]⟩ ?_
  intro j hj
  refine ok_run hB tabOK pureNone_ok 100 ?_
  simp only [gfA]
  repeat (first
    | rw [run_ops0]
    | rw [run_seq]
    | rw [run_region]
    | rw [run_block]
    | rw [run_blk]
    | rw [run_skip]
    | (apply run_go rfl; focus (intro L K hK; simp [-List.reduceReplicate, -List.getD_eq_getElem?_getD, tab3, ty3, ntmps63]; (repeat' apply And.intro); all_goals first | exact hK | omega)))
  apply run_cond2 rfl
  · intro h
    simp at h
    have e1 : (8 + (j : Int)).toNat = 8 + j := by omega
    repeat (first
    | rw [run_ops0]
    | rw [run_seq]
    | rw [run_region]
    | rw [run_block]
    | rw [run_blk]
    | rw [run_skip]
    | (apply run_go rfl; focus (intro L K hK; simp [-List.reduceReplicate, -List.getD_eq_getElem?_getD, tab3, ty3, ntmps63]; (repeat' apply And.intro); all_goals first | exact hK | omega)))
    rw [run_draw]
    refine ok_draw2 8 tabOK pureNone_ok pureNone_mono mixed (by decide +kernel) rfl rfl ?_
    repeat (first
    | (apply hd_go rfl rfl rfl rfl (Nat.le_of_ble_eq_true rfl); focus (intro K' hK; simp [-List.reduceReplicate, -List.getD_eq_getElem?_getD, tab3, ty3, tab5, ty5, tab23, ty23, tab115, ty115, tab45, ty45, tab94, ty94, hpl, e1]; (repeat' apply And.intro); all_goals first | exact hK | omega))
    | (apply hd_new rfl rfl rfl rfl (Nat.le_of_ble_eq_true rfl); focus (intro K' hK; simp [-List.reduceReplicate, -List.getD_eq_getElem?_getD, tab3, ty3, tab5, ty5, tab23, ty23, tab115, ty115, tab45, ty45, tab94, ty94, hpl, e1]; (repeat' apply And.intro); all_goals first | exact hK | omega)))
    refine hd_nil ?_
    simp only [List.map_nil, List.append_nil]
    refine ok_run hB tabOK pureNone_ok 100 ?_
    repeat (first
    | rw [run_ops0]
    | rw [run_seq]
    | rw [run_region]
    | rw [run_block]
    | rw [run_blk]
    | rw [run_skip]
    | (apply run_go rfl; focus (intro L K hK; simp [-List.reduceReplicate, -List.getD_eq_getElem?_getD, tab3, ty3, tab5, ty5, tab23, ty23, tab115, ty115, tab45, ty45, tab94, ty94, ntmps63]; (repeat' apply And.intro); all_goals first | exact hK | omega)))
    rw [run_draw]
    refine ok_draw2 9 tabOK pureNone_ok pureNone_mono mixed (by decide +kernel) rfl rfl ?_
    repeat (first
    | (apply hd_go rfl rfl rfl rfl (Nat.le_of_ble_eq_true rfl); focus (intro K' hK; simp [-List.reduceReplicate, -List.getD_eq_getElem?_getD, tab3, ty3, tab5, ty5, tab23, ty23, tab115, ty115, tab45, ty45, tab94, ty94, hpl, e1]; (repeat' apply And.intro); all_goals first | exact hK | omega))
    | (apply hd_new rfl rfl rfl rfl (Nat.le_of_ble_eq_true rfl); focus (intro K' hK; simp [-List.reduceReplicate, -List.getD_eq_getElem?_getD, tab3, ty3, tab5, ty5, tab23, ty23, tab115, ty115, tab45, ty45, tab94, ty94, hpl, e1]; (repeat' apply And.intro); all_goals first | exact hK | omega)))
    refine hd_nil ?_
    simp only [List.map_nil, List.append_nil]
    refine ok_run hB tabOK pureNone_ok 100 ?_
    repeat (first
    | rw [run_ops0]
    | rw [run_seq]
    | rw [run_region]
    | rw [run_block]
    | rw [run_blk]
    | rw [run_skip]
    | (apply run_go rfl; focus (intro L K hK; simp [-List.reduceReplicate, -List.getD_eq_getElem?_getD, tab3, ty3, tab5, ty5, tab23, ty23, tab115, ty115, tab45, ty45, tab94, ty94, ntmps63]; (repeat' apply And.intro); all_goals first | exact hK | omega)))
    rw [run_back]
    refine ⟨j + 1, by omega, by omega, ?_⟩
    simp [-List.reduceReplicate, -List.getD_eq_getElem?_getD, ofH, ofL, gfA]
  · intro h
    simp at h
    obtain rfl : j = 8 := by omega
    apply run_exit2 rfl
    repeat (first
    | rw [run_ops0]
    | rw [run_seq]
    | rw [run_region]
    | rw [run_block]
    | rw [run_blk]
    | rw [run_skip]
    | (apply run_go rfl; focus (intro L K hK; simp [-List.reduceReplicate, -List.getD_eq_getElem?_getD, tab3, ty3, tab115, ty115, ntmps63]; (repeat' apply And.intro); all_goals first | exact hK | omega)))
    rw [run_ret]
    simp [-List.reduceReplicate, -List.getD_eq_getElem?_getD, results63, f63, tab115, ty115, gfA, ofG, hX]
end Go.V
end
section
set_option linter.unusedSimpArgs false
set_option linter.unusedVariables false
set_option maxRecDepth 10000
namespace Go.V
open Go Go.Proofs.Try
abbrev B8c := List (BitVec 8)
/-- The differences of two rows, collected. -/
def eqAcc (a b : List (BitVec 8)) : Nat → BitVec 8
  | 0 => 0#8
  | j + 1 => eqAcc a b j ||| (a.getD j 0 ^^^ b.getD j 0)
theorem eqAcc_zero (a b : List (BitVec 8)) : ∀ n, eqAcc a b n = 0#8 ↔ ∀ j, j < n → a.getD j 0 = b.getD j 0
  | 0 => by simp [eqAcc]
  | n + 1 => by
    have ih := eqAcc_zero a b n
    have hor : ∀ x y : BitVec 8, x ||| y = 0#8 ↔ x = 0#8 ∧ y = 0#8 := fun x y => by
      constructor
      · intro h
        have : ∀ i, (x ||| y).getLsbD i = false := fun i => by rw [h]; simp
        simp only [BitVec.getLsbD_or, Bool.or_eq_false_iff] at this
        exact ⟨BitVec.eq_of_getLsbD_eq (fun i _ => by rw [(this i).1]; simp), BitVec.eq_of_getLsbD_eq (fun i _ => by rw [(this i).2]; simp)⟩
      · rintro ⟨rfl, rfl⟩; rfl
    have hxor : ∀ x y : BitVec 8, x ^^^ y = 0#8 ↔ x = y := fun x y => by
      constructor
      · intro h
        have : x ^^^ y ^^^ y = 0#8 ^^^ y := by rw [h]
        simpa [BitVec.xor_assoc] using this
      · rintro rfl; simp
    rw [eqAcc, hor, ih, hxor]
    constructor
    · rintro ⟨h1, h2⟩ j hj
      by_cases h : j = n
      · subst h; exact h2
      · exact h1 j (by omega)
    · intro h
      exact ⟨fun j hj => h j (by omega), h n (by omega)⟩
/-- The answer of Equal. -/
def eqAns (a b : List (BitVec 8)) (n1 n2 : Nat) : Bool := decide (n1 = n2) && decide (eqAcc a b n1 = 0#8)
theorem spec71 (A C : List (BitVec 8)) (o1 n1 c1 o2 n2 c2 : Nat) (h1 : o1 + n1 ≤ A.length) (h2 : o2 + n2 ≤ C.length) (hc1 : n1 ≤ c1) (hc2 : n2 ≤ c2) (hmx : n1 ≤ 4611686018427387904) : Spec prog 71 [one (.sl 0 o1 n1 c1 1), one (.sl 1 o2 n2 c2 1)] [.ent ⟨false, 5, none, .a8 A⟩, .ent ⟨false, 5, none, .a8 C⟩] [] (fun r _ => r = one (.b (eqAns (A.drop o1) (C.drop o2) n1 n2))) := by
  refine spec_of_body tabOK func71 rfl (Nat.le_of_ble_eq_true rfl) ?_
  intro E Q0 hB
  refine ok_run hB tabOK pureNone_ok 100 ?_
  simp only [argSl]
  repeat (first
    | rw [run_ops0]
    | rw [run_seq]
    | rw [run_region]
    | rw [run_block]
    | rw [run_blk]
    | rw [run_skip]
    | (apply run_go rfl; focus (intro L K hK; simp [-List.reduceReplicate, -List.getD_eq_getElem?_getD, tab22, ty22, tab5, ty5, tab3, ty3, tab4, ty4, ntmps71]; (repeat' apply And.intro); all_goals first | exact hK | omega)))
  apply run_cond2 rfl
  · intro h
    simp at h
    have hne : ¬ n1 = n2 := by omega
    repeat (first
    | rw [run_ops0]
    | rw [run_seq]
    | rw [run_region]
    | rw [run_block]
    | rw [run_blk]
    | rw [run_skip]
    | (apply run_go rfl; focus (intro L K hK; simp [-List.reduceReplicate, -List.getD_eq_getElem?_getD, tab4, ty4, ntmps71]; (repeat' apply And.intro); all_goals first | exact hK | omega)))
    rw [run_ret]
    simp [-List.reduceReplicate, -List.getD_eq_getElem?_getD, results71, f71, eqAns, hne]
  intro h
  simp at h
  obtain rfl : n1 = n2 := by omega
  repeat (first
    | rw [run_ops0]
    | rw [run_seq]
    | rw [run_region]
    | rw [run_block]
    | rw [run_blk]
    | rw [run_skip]
    | (apply run_go rfl; focus (intro L K hK; simp [-List.reduceReplicate, -List.getD_eq_getElem?_getD, tab22, ty22, tab5, ty5, tab3, ty3, tab4, ty4, ntmps71]; (repeat' apply And.intro); all_goals first | exact hK | omega)))
  rw [run_loop]
  refine ok_loop (X := Nat) (fun j => ⟨[(14, one (.i j)), (13, one (.i n1)), (5, one (.u8 (eqAcc (A.drop o1) (C.drop o2) j))), (1, one (.sl 1 o2 n1 c2 1)), (0, one (.sl 0 o1 n1 c1 1))], [.ent ⟨false, 5, none, .a8 A⟩, .ent ⟨false, 5, none, .a8 C⟩]⟩) (fun j => j ≤ n1) (fun j => n1 - j) (fun j i L h => by have := hB.anc i L h; simp at this ⊢; omega) ⟨0, by omega, by simp [-List.reduceReplicate, -List.getD_eq_getElem?_getD, eqAcc]⟩ ?_
  intro j hj
  refine ok_run hB tabOK pureNone_ok 100 ?_
  repeat (first
    | rw [run_ops0]
    | rw [run_seq]
    | rw [run_region]
    | rw [run_block]
    | rw [run_blk]
    | rw [run_skip]
    | (apply run_go rfl; focus (intro L K hK; simp [-List.reduceReplicate, -List.getD_eq_getElem?_getD, tab3, ty3, ntmps71]; (repeat' apply And.intro); all_goals first | exact hK | omega)))
  apply run_cond2 rfl
  · intro h
    simp at h
    repeat (first
    | rw [run_ops0]
    | rw [run_seq]
    | rw [run_region]
    | rw [run_block]
    | rw [run_blk]
    | rw [run_skip]
    | (apply run_go rfl; focus (intro L K hK; simp [-List.reduceReplicate, -List.getD_eq_getElem?_getD, tab3, ty3, ntmps71]; (repeat' apply And.intro); all_goals first | exact hK | omega)))
    rw [run_draw]
    refine ok_draw2 11 tabOK pureNone_ok pureNone_mono mixed (by decide +kernel) rfl rfl ?_
    have g1 : (A.drop o1).getD j 0#8 = A.getD (o1 + j) 0#8 := by simp [List.getD_eq_getElem?_getD]
    have g2 : (C.drop o2).getD j 0#8 = C.getD (o2 + j) 0#8 := by simp [List.getD_eq_getElem?_getD]
    repeat (first
    | (apply hd_go rfl rfl rfl rfl (Nat.le_of_ble_eq_true rfl); focus (intro K' hK; simp [-List.reduceReplicate, -List.getD_eq_getElem?_getD, tab3, ty3, tab5, ty5, tab22, ty22]; (repeat' apply And.intro); all_goals first | exact hK | omega))
    | (apply hd_new rfl rfl rfl rfl (Nat.le_of_ble_eq_true rfl); focus (intro K' hK; simp [-List.reduceReplicate, -List.getD_eq_getElem?_getD, tab3, ty3, tab5, ty5, tab22, ty22]; (repeat' apply And.intro); all_goals first | exact hK | omega)))
    refine hd_nil ?_
    simp only [List.map_nil, List.append_nil]
    refine ok_run hB tabOK pureNone_ok 100 ?_
    repeat (first
    | rw [run_ops0]
    | rw [run_seq]
    | rw [run_region]
    | rw [run_block]
    | rw [run_blk]
    | rw [run_skip]
    | (apply run_go rfl; focus (intro L K hK; simp [-List.reduceReplicate, -List.getD_eq_getElem?_getD, tab3, ty3, tab5, ty5, ntmps71]; (repeat' apply And.intro); all_goals first | exact hK | omega)))
    rw [run_back]
    refine ⟨j + 1, by omega, by omega, ?_⟩
    simp [-List.reduceReplicate, -List.getD_eq_getElem?_getD, eqAcc, g1, g2]
  · intro h
    simp at h
    obtain rfl : j = n1 := by omega
    apply run_exit2 rfl
    repeat (first
    | rw [run_ops0]
    | rw [run_seq]
    | rw [run_region]
    | rw [run_block]
    | rw [run_blk]
    | rw [run_skip]
    | (apply run_go rfl; focus (intro L K hK; simp [-List.reduceReplicate, -List.getD_eq_getElem?_getD, tab3, ty3, tab5, ty5, tab4, ty4, ntmps71]; (repeat' apply And.intro); all_goals first | exact hK | omega)))
    rw [run_ret]
    simp [-List.reduceReplicate, -List.getD_eq_getElem?_getD, results71, f71, eqAns]
end Go.V
end
section
set_option linter.unusedSimpArgs false
set_option linter.unusedVariables false
set_option maxRecDepth 10000
namespace Go.V
open Go Go.Proofs.Try
section
variable {P : Program} {E : Env} {N : Nat} {w : World}
theorem enter_run_fn {f : FuncId} (hc : Callable P f) {a : Act} {x : Operand} {caps : Array Value} (hx : a.eval x = .func (.func f) #[] caps) {args : Array Operand} {ts : Array TypeId} {dst : Option Tmp} {type : TypeId} {pos : String} {after : Array Edge} {guard : Option (Nat × Bool)} :
    (execOp a.eval ⟨dst, .call ⟨.value x, args, ts⟩, type, pos, after, guard⟩).run P w = .ok (.enter f ((args.toList.map a.eval) ++ caps.toList).toArray) w := by
  obtain ⟨fn, hfn, hbody, hname⟩ := hc
  have hargs : args.map a.eval ++ caps = ((args.toList.map a.eval) ++ caps.toList).toArray := by apply Array.ext'; simp
  simp only [execOp, resolve, hx, Deferred.ofValue]
  simp [invoke, callFunc, hfn, hname, hbody, ← hargs]
/-- A call of a closure. -/
theorem ok_callc {all r : List Oper} {o : Oper} {k : List Item} {st : St} {Q0 : Exit → Act → World → Prop} {c : Call} {f : FuncId} {caps : List Nat} {x : Operand} {args : List SV} {pre : Mem} {post : SV → Mem → Prop} (σ : List Nat)
    (hop : o.op = .call c) (hcal : c.callee = .value x) (hx : st.ev x = one (.fn f caps)) (hc : Callable P f) (hS : Spec P f args pre [] post)
    (hg : guardOf st all o (fun _ => True) (fun _ => False))
    (hσ : σ.Nodup) (hpre : matchM (ix σ st.m.length) pre.length st.m pre σ) (hbel : args.all (belV pre.length) = true) (hargs : c.args.toList.map st.ev ++ caps.map (fun i => one (.ptr i 0 0)) = args.map (renV (ix σ st.m.length)))
    (hod : okd N o.dst)
    (hpost : ∀ sv m', post sv m' → pre.length ≤ m'.length → Ok P E N Q0 (.ops all r :: k) ((St.mk st.sl (afterM (ix σ st.m.length) st.m pre σ m')).put o.dst (renV (ix σ st.m.length) sv))) :
    Ok P E N Q0 (.ops all (o :: r) :: k) st := by
  intro a w hh
  rcases guard_ok hg hh with ⟨hw, _⟩ | ⟨_, st', hf, _⟩
  · show wpList P all.toArray (semK P E N Q0 k) (o :: r) a w
    refine wpList_do hw ?_
    obtain ⟨ℓ, h1, h2, h3, h4⟩ := hh
    have hev := fun x => ev_den (ℓ := ℓ) (st := st) (a := a) h1 x
    have hdx := hev x
    rw [hx] at hdx
    obtain ⟨Ls, hL, hxv⟩ := hdx
    have hcaps : DenVs ℓ (caps.map (fun i => one (.ptr i 0 0))) (Ls.map (fun L => Value.pointer (some ⟨L.blk, L.base, none⟩))) := by
      clear hargs hx hxv
      induction caps generalizing Ls with
      | nil => cases Ls with
        | nil => trivial
        | cons L Ls => simp at hL
      | cons i caps ih => cases Ls with
        | nil => simp at hL
        | cons L Ls =>
          simp only [List.map_cons, List.cons.injEq] at hL
          exact ⟨⟨L, hL.1.symm, by simp⟩, ih Ls hL.2⟩
    have hvs : DenVs ℓ (args.map (renV (ix σ st.m.length))) (c.args.toList.map a.eval ++ Ls.map (fun L => Value.pointer (some ⟨L.blk, L.base, none⟩))) := by
      rw [← hargs]
      have h0 := denVs_map hev c.args.toList
      revert h0
      generalize c.args.toList.map st.ev = xs
      generalize c.args.toList.map a.eval = vs
      intro h0
      clear hargs
      induction xs generalizing vs with
      | nil => cases vs with
        | nil => exact hcaps
        | cons => exact h0.elim
      | cons y ys ih => cases vs with
        | nil => exact h0.elim
        | cons v vs => exact ⟨h0.1, ih vs h0.2⟩
    have hcall := hS.use h2 σ hσ hpre hbel hvs
    obtain ⟨dst, op, type, pos, after, guard⟩ := o
    simp only at hop; subst hop
    obtain ⟨callee, cargs, cts⟩ := c
    simp only at hcal; subst hcal
    unfold Oper.wp
    rw [enter_run_fn hc hxv]
    simp only [Oper.upon]
    refine hcall.mono ?_
    rintro e w' ⟨sv, m', ℓ', v, rfl, g1, g2, g3, g4, g5⟩
    obtain ⟨p1, p2, p3⟩ := put_den (st := ⟨st.sl, afterM (ix σ st.m.length) st.m pre σ m'⟩) (d := dst) (fun t => (h1 t).mono g3) (by rw [h4]; exact hod) g4
    exact hpost sv m' g1 g2 _ w' ⟨ℓ', p1, by cases dst <;> exact g5, p2.trans h3, p3.trans h4⟩
  · exact hf.elim
end
theorem run_callc {T : Tab} {pu : Pure} {fr : Nat → Bool} {N : Nat} {fin : St → Prop} {leaf : List Item → St → Prop} {n : Nat} {k : List Item} {st : St} {all r : List Oper} {o : Oper} {c : Call} {t : Nat} (hg : o.guard = none) (ho : o.op = .call c) (hc : c.callee = .value (.tmp t))
    (h : leaf (.ops all (o :: r) :: k) st) : run T pu fr N fin leaf (n + 1) (.ops all (o :: r) :: k) st := by
  rw [run_ops]
  unfold guardOf
  rw [hg]
  obtain ⟨callee, args, ats⟩ := c
  simp only at hc
  subst hc
  simp only [step1, ho]
  exact h
def pureX (f : FuncId) (l : List SV) : Option SV :=
  match f, l with
  | 65, [.one (.st [⟨1, .s (.u64 a)⟩, ⟨1, .s (.u64 b)⟩]), .one (.st [⟨1, .s (.u64 c)⟩, ⟨1, .s (.u64 d)⟩])] => some (.one (gfA (gR (a, b) (c, d) 128)))
  | _, _ => none
theorem pureX_ok : PureOK prog (pureOf pureX) := by
  refine pureOf_ok ?_
  intro f svs sv h
  unfold pureX at h
  split at h
  · cases h
    exact ⟨⟨f65, func65, nofun, by decide⟩, spec65 (_, _) (_, _), rfl, rfl⟩
  · cases h
/-- The closure of Hash: y is multiplied on. -/
theorem spec64 (x y k : G) : Spec prog 64 [.one (gfA x), one (.ptr 0 0 0), one (.ptr 1 0 0)] [.ent ⟨true, 115, some 2, gfA y⟩, .ent ⟨false, 115, none, gfA k⟩] [] (fun r m => r = .tup [] ∧ m = [.ent ⟨true, 115, some 2, gfA (gR (y.1 ^^^ x.1, y.2 ^^^ x.2) k 128)⟩, .ent ⟨false, 115, none, gfA k⟩, .ent ⟨true, 115, some 2, gfA x⟩]) := by
  refine spec_of_body tabOK func64 rfl (Nat.le_of_ble_eq_true rfl) ?_
  intro E Q0 hB
  refine ok_run hB tabOK pureX_ok 100 ?_
  simp only [argSl, gfA]
  repeat (first
    | rw [run_ops0]
    | rw [run_seq]
    | rw [run_region]
    | rw [run_block]
    | rw [run_blk]
    | rw [run_skip]
    | (apply run_go rfl; focus (intro L K hK; simp [-List.reduceReplicate, -List.getD_eq_getElem?_getD, tab115, ty115, tab45, ty45, ntmps64, pureX, pureOf, gfA]; (repeat' apply And.intro); all_goals first | exact hK | omega)))
  rw [run_nil]
  simp [-List.reduceReplicate, -List.getD_eq_getElem?_getD, results64, f64, gfA]
end Go.V
end
section
set_option linter.unusedSimpArgs false
set_option linter.unusedVariables false
set_option maxRecDepth 10000
namespace Go.V
open Go Go.Proofs.Try
/-- of, over bytes in memory. -/
def pureO : Pure := fun m f l => match f, l with
  | 63, [.one (.s (.sl id off n cap 1))] => match m[id]? with
    | some (.ent e) => match e.c with
      | .a8 B => if n ≤ 16 ∧ off + n ≤ B.length ∧ n ≤ cap then some (.one (gfA (ofG (pad16 ((B.drop off).take n))))) else none
      | _ => none
    | _ => none
  | _, _ => none
theorem pureO_sub : PureSub pureO := by
  intro m m' f l v hs h
  unfold pureO at h ⊢
  split at h
  · split at h
    · rename_i hm
      simp only [hs _ _ hm]
      exact h
    · cases h
  · cases h
theorem pureO_ok : PureOK prog pureO := by
  intro m f svs sv h E w ℓ vs hm hd
  unfold pureO at h
  split at h
  · split at h
    · rename_i id off n cap _ e he
      split at h
      · rename_i B hc
        split at h
        · rename_i hcond
          obtain ⟨h1, h2, h3⟩ := hcond
          cases h
          refine ⟨⟨f63, func63, nofun, by decide⟩, pure_use (spec63 B off n cap h1 h2 h3) (by simp) (by simp [belV, belA, gfA, belR, belS]) hm [id] (by simp) (by simp [matchM, ix, renA, belA, he, hc]) rfl ?_⟩
          simpa [renV, renA, renS, ix, one] using hd
        · cases h
      · cases h
    · cases h
  · cases h
def xorG (a b : G) : G := (a.1 ^^^ b.1, a.2 ^^^ b.2)
/-- Blocks of data, taken up one by one. -/
def absG (k y : G) (D : B8) : Nat → G
  | 0 => y
  | j + 1 => gR (xorG (absG k y D j) (ofG (pad16 ((D.drop (16 * j)).take 16)))) k 128
def absAll (k y : G) (D : B8) : G := absG k y D ((D.length + 15) / 16)
def lenG (a c : Nat) : G := (BitVec.ofInt 64 a <<< 3, BitVec.ofInt 64 c <<< 3)
def outG (y : G) : Nat → B8
  | 0 => zero16
  | j + 1 => ((outG y j).set (7 - j) ((y.1 >>> (8 * j)).setWidth 8)).set (15 - j) ((y.2 >>> (8 * j)).setWidth 8)
theorem outG_len (y : G) : ∀ j, (outG y j).length = 16
  | 0 => rfl
  | j + 1 => by simp [outG, outG_len y j]
/-- The hash of data that goes along and of what is sealed. -/
def hashG (h A C : B8) : B8 := outG (gR (xorG (absAll (ofG (pad16 h)) (absAll (ofG (pad16 h)) (0#64, 0#64) A) C) (lenG A.length C.length)) (ofG (pad16 h)) 128) 8
theorem blk_eq (B : B8) (o n j : Nat) (h : o + n ≤ B.length) (hj : 16 * j < n) : (B.drop (o + 16 * j)).take (min (16 * j + 16) n - 16 * j) = (((B.drop o).take n).drop (16 * j)).take 16 := by
  rw [List.drop_take, List.take_take, List.drop_drop]
  congr 1
  omega
def hyG (k : G) (DA DC : B8) : Nat → G
  | 0 => (0#64, 0#64)
  | 1 => absAll k (0#64, 0#64) DA
  | _ => absAll k (absAll k (0#64, 0#64) DA) DC
theorem spec26 (h D C : B8) (oa na ca oc nc cc : Nat) (hh : h.length = 16) (hA : oa + na ≤ D.length) (hC : oc + nc ≤ C.length) (hca : na ≤ ca) (hcc : nc ≤ cc) (hmA : na ≤ 4611686018427387904) (hmC : nc ≤ 4611686018427387904) :
    Spec prog 26 [.one (.a8 h), one (.sl 1 oa na ca 1), one (.sl 0 oc nc cc 1)] [.ent ⟨false, 5, none, .a8 C⟩, .ent ⟨false, 5, none, .a8 D⟩] [] (fun r _ => r = .one (.a8 (hashG h ((D.drop oa).take na) ((C.drop oc).take nc)))) := by
  refine spec_of_body tabOK func26 rfl (Nat.le_of_ble_eq_true rfl) ?_
  intro E Q0 hB
  refine ok_run hB tabOK pureO_ok 100 ?_
  simp only [argSl]
  have hpd : h.take 16 = h := List.take_of_length_le (by omega)
  repeat (first
    | rw [run_ops0]
    | rw [run_seq]
    | rw [run_region]
    | rw [run_block]
    | rw [run_blk]
    | rw [run_skip]
    | (apply run_go rfl; focus (intro L K hK; simp [-List.reduceReplicate, -List.getD_eq_getElem?_getD, tab22, ty22, tab23, ty23, tab115, ty115, tab5, ty5, tab3, ty3, tab61, ty61, tab118, ty118, ntmps26, hh, hpd, pureO, gfA]; (repeat' apply And.intro); all_goals first | exact hK | omega)))
  -- the two texts
  simp only [List.replicate_succ, List.replicate_zero, List.set_cons_zero, List.set_cons_succ]
  generalize hK : ofG (pad16 h) = K
  rw [run_loop]
  refine ok_loop (X := Nat) (fun i => ⟨[(22, one (.i i)), (21, one (.i 2)), (20, one (.sl 6 0 2 2 1)), (9, one (.fn 64 [5, 4])), (8, one (.ptr 5 0 0)), (6, one (.ptr 3 0 0)), (1, one (.sl 1 oa na ca 1)), (2, one (.sl 0 oc nc cc 1))], [.ent ⟨false, 5, none, .a8 C⟩, .ent ⟨false, 5, none, .a8 D⟩, .ent ⟨true, 23, some 16, .a8 h⟩, .ent ⟨true, 23, some 16, .a8 zero16⟩, .ent ⟨true, 115, some 2, gfA K⟩, .ent ⟨true, 115, some 2, gfA (hyG K ((D.drop oa).take na) ((C.drop oc).take nc) i)⟩, .ent ⟨true, 22, none, .agg [.sl 1 oa na ca 1, .sl 0 oc nc cc 1]⟩]⟩) (fun i => i ≤ 2) (fun i => 2 - i) (fun j i L h => by have := hB.anc i L h; simp at this ⊢; omega) ⟨0, by omega, by simp [-List.reduceReplicate, -List.getD_eq_getElem?_getD, gfA, hyG, zero16]⟩ ?_
  intro i hi
  refine ok_run hB tabOK pureO_ok 100 ?_
  simp only [gfA]
  repeat (first
    | rw [run_ops0]
    | rw [run_seq]
    | rw [run_region]
    | rw [run_block]
    | rw [run_blk]
    | rw [run_skip]
    | (apply run_go rfl; focus (intro L K hK; simp [-List.reduceReplicate, -List.getD_eq_getElem?_getD, tab22, ty22, tab23, ty23, tab115, ty115, tab45, ty45, tab94, ty94, tab5, ty5, tab3, ty3, tab61, ty61, tab118, ty118, ntmps26, List.getD_cons_zero, List.getD_cons_succ]; (repeat' apply And.intro); all_goals first | exact hK | omega)))
  apply run_cond2 rfl
  · intro h1
    simp at h1
    have hi2 : i = 0 ∨ i = 1 := by omega
    rcases hi2 with rfl | rfl
    · -- the first
      repeat (first
    | rw [run_ops0]
    | rw [run_seq]
    | rw [run_region]
    | rw [run_block]
    | rw [run_blk]
    | rw [run_skip]
    | (apply run_go rfl; focus (intro L K hK; simp [-List.reduceReplicate, -List.getD_eq_getElem?_getD, tab22, ty22, tab23, ty23, tab115, ty115, tab45, ty45, tab94, ty94, tab5, ty5, tab3, ty3, tab61, ty61, tab118, ty118, ntmps26, List.getD_cons_zero, List.getD_cons_succ]; (repeat' apply And.intro); all_goals first | exact hK | omega)))
      rw [run_loop]
      refine ok_loop (X := Nat) (fun j => ⟨[(12, one (.i (16 * j : Nat))), (11, one (.sl 1 oa na ca 1)), (22, one (.i 0)), (21, one (.i 2)), (20, one (.sl 6 0 2 2 1)), (9, one (.fn 64 [5, 4])), (8, one (.ptr 5 0 0)), (6, one (.ptr 3 0 0)), (1, one (.sl 1 oa na ca 1)), (2, one (.sl 0 oc nc cc 1))], [.ent ⟨false, 5, none, .a8 C⟩, .ent ⟨false, 5, none, .a8 D⟩, .ent ⟨true, 23, some 16, .a8 h⟩, .ent ⟨true, 23, some 16, .a8 zero16⟩, .ent ⟨true, 115, some 2, gfA K⟩, .ent ⟨true, 115, some 2, gfA (absG K (hyG K ((D.drop oa).take na) ((C.drop oc).take nc) 0) (((D.drop oa).take na)) j)⟩, .ent ⟨true, 22, none, .agg [.sl 1 oa na ca 1, .sl 0 oc nc cc 1]⟩]⟩) (fun j => j ≤ (na + 15) / 16) (fun j => (na + 15) / 16 - j) (fun j i L h => by have := hB.anc i L h; simp at this ⊢; omega) ⟨0, by omega, by simp [-List.reduceReplicate, -List.getD_eq_getElem?_getD, absG, gfA, zero16, hyG, List.getD_cons_zero, List.getD_cons_succ]⟩ ?_
      intro j hj
      refine ok_run hB tabOK pureO_ok 100 ?_
      simp only [gfA]
      repeat (first
    | rw [run_ops0]
    | rw [run_seq]
    | rw [run_region]
    | rw [run_block]
    | rw [run_blk]
    | rw [run_skip]
    | (apply run_go rfl; focus (intro L K hK; simp [-List.reduceReplicate, -List.getD_eq_getElem?_getD, tab22, ty22, tab23, ty23, tab115, ty115, tab45, ty45, tab94, ty94, tab5, ty5, tab3, ty3, tab61, ty61, tab118, ty118, ntmps26, List.getD_cons_zero, List.getD_cons_succ]; (repeat' apply And.intro); all_goals first | exact hK | omega)))
      apply run_cond2 rfl
      · intro h2
        simp at h2
        have h2' : 16 * j < na := by omega
        have e0 : (16 * (j : Int)).toNat = 16 * j := by omega
        obtain ⟨L, hL⟩ : ∃ L, L = min (16 * j + 16) na - 16 * j := ⟨_, rfl⟩
        have e1 : (if (na : Int) < 16 * (j : Int) + 16 then (na : Int) else 16 * (j : Int) + 16) = 16 * (j : Int) + (L : Int) := by split <;> omega
        have e2 : 16 * (j : Int) + (L : Int) - 16 * (j : Int) = (L : Int) := by omega
        have e3 : ((ca : Int) - 16 * (j : Int)).toNat = ca - 16 * j := by omega
        have c1 : L ≤ 16 := by omega
        have c2 : oa + 16 * j + L ≤ D.length := by omega
        have c3 : L ≤ ca - 16 * j := by omega
        have hbq := blk_eq D oa na j hA h2'
        rw [← hL] at hbq
        repeat (first
    | rw [run_ops0]
    | rw [run_seq]
    | rw [run_region]
    | rw [run_block]
    | rw [run_blk]
    | rw [run_skip]
    | (apply run_go rfl; focus (intro L K hK; simp [-List.reduceReplicate, -List.getD_eq_getElem?_getD, tab22, ty22, tab23, ty23, tab115, ty115, tab45, ty45, tab94, ty94, tab5, ty5, tab3, ty3, tab61, ty61, tab118, ty118, ntmps26, List.getD_cons_zero, List.getD_cons_succ, e0, e1, e2, e3, c1, c2, c3, hbq, pureO, gfA]; (repeat' apply And.intro); all_goals first | exact hK | omega)))
        refine run_callc rfl rfl rfl ?_
        refine ok_callc [5, 4] rfl rfl rfl ⟨f64, func64, nofun, by decide⟩ (spec64 (ofG (pad16 ((((D.drop oa).take na).drop (16 * j)).take 16))) (absG K (hyG K ((D.drop oa).take na) ((C.drop oc).take nc) 0) ((D.drop oa).take na) j) K) trivial (by simp) (by simp [matchM, ix, renA, renSeg, renR, renS, belA, belR, belS, gfA, A.len, segLen]) rfl rfl (Nat.le_of_ble_eq_true rfl) ?_
        rintro sv m' ⟨rfl, rfl⟩ _
        simp only [gfA, afterM, putM, renMk, renA, renSeg, renR, renS, renV, ix, St.put, List.map_cons, List.map_nil, List.drop, List.length_cons, List.length_nil, List.cons_append, List.nil_append]
        simp
        refine ok_run hB tabOK pureO_ok 100 ?_
        repeat (first
    | rw [run_ops0]
    | rw [run_seq]
    | rw [run_region]
    | rw [run_block]
    | rw [run_blk]
    | rw [run_skip]
    | (apply run_go rfl; focus (intro L K hK; simp [-List.reduceReplicate, -List.getD_eq_getElem?_getD, tab22, ty22, tab23, ty23, tab115, ty115, tab45, ty45, tab94, ty94, tab5, ty5, tab3, ty3, tab61, ty61, tab118, ty118, ntmps26, List.getD_cons_zero, List.getD_cons_succ]; (repeat' apply And.intro); all_goals first | exact hK | omega)))
        rw [run_back]
        refine ⟨j + 1, by omega, by omega, ?_⟩
        simp [-List.reduceReplicate, -List.getD_eq_getElem?_getD, gfA, absG, xorG, zero16, List.getD_cons_zero, List.getD_cons_succ]
        omega
      · intro h2
        simp at h2
        obtain rfl : j = (na + 15) / 16 := by omega
        apply run_exit2 rfl
        repeat (first
    | rw [run_ops0]
    | rw [run_seq]
    | rw [run_region]
    | rw [run_block]
    | rw [run_blk]
    | rw [run_skip]
    | (apply run_go rfl; focus (intro L K hK; simp [-List.reduceReplicate, -List.getD_eq_getElem?_getD, tab22, ty22, tab23, ty23, tab115, ty115, tab45, ty45, tab94, ty94, tab5, ty5, tab3, ty3, tab61, ty61, tab118, ty118, ntmps26, List.getD_cons_zero, List.getD_cons_succ]; (repeat' apply And.intro); all_goals first | exact hK | omega)))
        rw [run_back]
        refine ⟨1, by omega, by omega, ?_⟩
        have hab : absG K (hyG K ((D.drop oa).take na) ((C.drop oc).take nc) 0) ((D.drop oa).take na) ((na + 15) / 16) = hyG K ((D.drop oa).take na) ((C.drop oc).take nc) 1 := by
          show _ = absAll _ _ _
          unfold absAll
          rw [show (((D.drop oa).take na)).length = na by simp; omega]
          rfl
        rw [hab]
        simp [-List.reduceReplicate, -List.getD_eq_getElem?_getD, gfA]
    · -- the second
      repeat (first
    | rw [run_ops0]
    | rw [run_seq]
    | rw [run_region]
    | rw [run_block]
    | rw [run_blk]
    | rw [run_skip]
    | (apply run_go rfl; focus (intro L K hK; simp [-List.reduceReplicate, -List.getD_eq_getElem?_getD, tab22, ty22, tab23, ty23, tab115, ty115, tab45, ty45, tab94, ty94, tab5, ty5, tab3, ty3, tab61, ty61, tab118, ty118, ntmps26, List.getD_cons_zero, List.getD_cons_succ]; (repeat' apply And.intro); all_goals first | exact hK | omega)))
      rw [run_loop]
      refine ok_loop (X := Nat) (fun j => ⟨[(12, one (.i (16 * j : Nat))), (11, one (.sl 0 oc nc cc 1)), (22, one (.i 1)), (21, one (.i 2)), (20, one (.sl 6 0 2 2 1)), (9, one (.fn 64 [5, 4])), (8, one (.ptr 5 0 0)), (6, one (.ptr 3 0 0)), (1, one (.sl 1 oa na ca 1)), (2, one (.sl 0 oc nc cc 1))], [.ent ⟨false, 5, none, .a8 C⟩, .ent ⟨false, 5, none, .a8 D⟩, .ent ⟨true, 23, some 16, .a8 h⟩, .ent ⟨true, 23, some 16, .a8 zero16⟩, .ent ⟨true, 115, some 2, gfA K⟩, .ent ⟨true, 115, some 2, gfA (absG K (hyG K ((D.drop oa).take na) ((C.drop oc).take nc) 1) (((C.drop oc).take nc)) j)⟩, .ent ⟨true, 22, none, .agg [.sl 1 oa na ca 1, .sl 0 oc nc cc 1]⟩]⟩) (fun j => j ≤ (nc + 15) / 16) (fun j => (nc + 15) / 16 - j) (fun j i L h => by have := hB.anc i L h; simp at this ⊢; omega) ⟨0, by omega, by simp [-List.reduceReplicate, -List.getD_eq_getElem?_getD, absG, gfA, zero16, hyG, List.getD_cons_zero, List.getD_cons_succ]⟩ ?_
      intro j hj
      refine ok_run hB tabOK pureO_ok 100 ?_
      simp only [gfA]
      repeat (first
    | rw [run_ops0]
    | rw [run_seq]
    | rw [run_region]
    | rw [run_block]
    | rw [run_blk]
    | rw [run_skip]
    | (apply run_go rfl; focus (intro L K hK; simp [-List.reduceReplicate, -List.getD_eq_getElem?_getD, tab22, ty22, tab23, ty23, tab115, ty115, tab45, ty45, tab94, ty94, tab5, ty5, tab3, ty3, tab61, ty61, tab118, ty118, ntmps26, List.getD_cons_zero, List.getD_cons_succ]; (repeat' apply And.intro); all_goals first | exact hK | omega)))
      apply run_cond2 rfl
      · intro h2
        simp at h2
        have h2' : 16 * j < nc := by omega
        have e0 : (16 * (j : Int)).toNat = 16 * j := by omega
        obtain ⟨L, hL⟩ : ∃ L, L = min (16 * j + 16) nc - 16 * j := ⟨_, rfl⟩
        have e1 : (if (nc : Int) < 16 * (j : Int) + 16 then (nc : Int) else 16 * (j : Int) + 16) = 16 * (j : Int) + (L : Int) := by split <;> omega
        have e2 : 16 * (j : Int) + (L : Int) - 16 * (j : Int) = (L : Int) := by omega
        have e3 : ((cc : Int) - 16 * (j : Int)).toNat = cc - 16 * j := by omega
        have c1 : L ≤ 16 := by omega
        have c2 : oc + 16 * j + L ≤ C.length := by omega
        have c3 : L ≤ cc - 16 * j := by omega
        have hbq := blk_eq C oc nc j hC h2'
        rw [← hL] at hbq
        repeat (first
    | rw [run_ops0]
    | rw [run_seq]
    | rw [run_region]
    | rw [run_block]
    | rw [run_blk]
    | rw [run_skip]
    | (apply run_go rfl; focus (intro L K hK; simp [-List.reduceReplicate, -List.getD_eq_getElem?_getD, tab22, ty22, tab23, ty23, tab115, ty115, tab45, ty45, tab94, ty94, tab5, ty5, tab3, ty3, tab61, ty61, tab118, ty118, ntmps26, List.getD_cons_zero, List.getD_cons_succ, e0, e1, e2, e3, c1, c2, c3, hbq, pureO, gfA]; (repeat' apply And.intro); all_goals first | exact hK | omega)))
        refine run_callc rfl rfl rfl ?_
        refine ok_callc [5, 4] rfl rfl rfl ⟨f64, func64, nofun, by decide⟩ (spec64 (ofG (pad16 ((((C.drop oc).take nc).drop (16 * j)).take 16))) (absG K (hyG K ((D.drop oa).take na) ((C.drop oc).take nc) 1) ((C.drop oc).take nc) j) K) trivial (by simp) (by simp [matchM, ix, renA, renSeg, renR, renS, belA, belR, belS, gfA, A.len, segLen]) rfl rfl (Nat.le_of_ble_eq_true rfl) ?_
        rintro sv m' ⟨rfl, rfl⟩ _
        simp only [gfA, afterM, putM, renMk, renA, renSeg, renR, renS, renV, ix, St.put, List.map_cons, List.map_nil, List.drop, List.length_cons, List.length_nil, List.cons_append, List.nil_append]
        simp
        refine ok_run hB tabOK pureO_ok 100 ?_
        repeat (first
    | rw [run_ops0]
    | rw [run_seq]
    | rw [run_region]
    | rw [run_block]
    | rw [run_blk]
    | rw [run_skip]
    | (apply run_go rfl; focus (intro L K hK; simp [-List.reduceReplicate, -List.getD_eq_getElem?_getD, tab22, ty22, tab23, ty23, tab115, ty115, tab45, ty45, tab94, ty94, tab5, ty5, tab3, ty3, tab61, ty61, tab118, ty118, ntmps26, List.getD_cons_zero, List.getD_cons_succ]; (repeat' apply And.intro); all_goals first | exact hK | omega)))
        rw [run_back]
        refine ⟨j + 1, by omega, by omega, ?_⟩
        simp [-List.reduceReplicate, -List.getD_eq_getElem?_getD, gfA, absG, xorG, zero16, List.getD_cons_zero, List.getD_cons_succ]
        omega
      · intro h2
        simp at h2
        obtain rfl : j = (nc + 15) / 16 := by omega
        apply run_exit2 rfl
        repeat (first
    | rw [run_ops0]
    | rw [run_seq]
    | rw [run_region]
    | rw [run_block]
    | rw [run_blk]
    | rw [run_skip]
    | (apply run_go rfl; focus (intro L K hK; simp [-List.reduceReplicate, -List.getD_eq_getElem?_getD, tab22, ty22, tab23, ty23, tab115, ty115, tab45, ty45, tab94, ty94, tab5, ty5, tab3, ty3, tab61, ty61, tab118, ty118, ntmps26, List.getD_cons_zero, List.getD_cons_succ]; (repeat' apply And.intro); all_goals first | exact hK | omega)))
        rw [run_back]
        refine ⟨2, by omega, by omega, ?_⟩
        have hab : absG K (hyG K ((D.drop oa).take na) ((C.drop oc).take nc) 1) ((C.drop oc).take nc) ((nc + 15) / 16) = hyG K ((D.drop oa).take na) ((C.drop oc).take nc) 2 := by
          show _ = absAll _ _ _
          unfold absAll
          rw [show (((C.drop oc).take nc)).length = nc by simp; omega]
          rfl
        rw [hab]
        simp [-List.reduceReplicate, -List.getD_eq_getElem?_getD, gfA]
  · intro h1
    simp at h1
    obtain rfl : i = 2 := by omega
    apply run_exit2 rfl
    repeat (first
    | rw [run_ops0]
    | rw [run_seq]
    | rw [run_region]
    | rw [run_block]
    | rw [run_blk]
    | rw [run_skip]
    | (apply run_go rfl; focus (intro L K hK; simp [-List.reduceReplicate, -List.getD_eq_getElem?_getD, tab22, ty22, tab23, ty23, tab115, ty115, tab45, ty45, tab94, ty94, tab5, ty5, tab3, ty3, tab61, ty61, tab118, ty118, ntmps26, List.getD_cons_zero, List.getD_cons_succ]; (repeat' apply And.intro); all_goals first | exact hK | omega)))
    refine run_callc rfl rfl rfl ?_
    refine ok_callc [5, 4] rfl rfl rfl ⟨f64, func64, nofun, by decide⟩ (spec64 (lenG na nc) (hyG K ((D.drop oa).take na) ((C.drop oc).take nc) 2) K) trivial (by simp) (by simp [matchM, ix, renA, renSeg, renR, renS, belA, belR, belS, gfA, A.len, segLen]) rfl rfl (Nat.le_of_ble_eq_true rfl) ?_
    rintro sv m' ⟨rfl, rfl⟩ _
    simp only [gfA, afterM, putM, renMk, renA, renSeg, renR, renS, renV, ix, St.put, List.map_cons, List.map_nil, List.drop, List.length_cons, List.length_nil, List.cons_append, List.nil_append]
    simp
    refine ok_run hB tabOK pureO_ok 100 ?_
    repeat (first
    | rw [run_ops0]
    | rw [run_seq]
    | rw [run_region]
    | rw [run_block]
    | rw [run_blk]
    | rw [run_skip]
    | (apply run_go rfl; focus (intro L K hK; simp [-List.reduceReplicate, -List.getD_eq_getElem?_getD, tab22, ty22, tab23, ty23, tab115, ty115, tab45, ty45, tab94, ty94, tab5, ty5, tab3, ty3, tab61, ty61, tab118, ty118, ntmps26, List.getD_cons_zero, List.getD_cons_succ]; (repeat' apply And.intro); all_goals first | exact hK | omega)))
    have hY : gR (xorG (hyG K ((D.drop oa).take na) ((C.drop oc).take nc) 2) (lenG na nc)) K 128 = gR ((hyG K ((D.drop oa).take na) ((C.drop oc).take nc) 2).1 ^^^ (lenG na nc).1, (hyG K ((D.drop oa).take na) ((C.drop oc).take nc) 2).2 ^^^ (lenG na nc).2) K 128 := rfl
    have hfin : hashG h ((D.drop oa).take na) ((C.drop oc).take nc) = outG (gR ((hyG K ((D.drop oa).take na) ((C.drop oc).take nc) 2).1 ^^^ (lenG na nc).1, (hyG K ((D.drop oa).take na) ((C.drop oc).take nc) 2).2 ^^^ (lenG na nc).2) K 128) 8 := by
      unfold hashG
      rw [hK, show ((D.drop oa).take na).length = na by simp; omega, show ((C.drop oc).take nc).length = nc by simp; omega]
      rfl
    generalize hYe : gR ((hyG K ((D.drop oa).take na) ((C.drop oc).take nc) 2).1 ^^^ (lenG na nc).1, (hyG K ((D.drop oa).take na) ((C.drop oc).take nc) 2).2 ^^^ (lenG na nc).2) K 128 = Y at hfin ⊢
    rw [run_loop]
    refine ok_loop (X := Nat) (fun j => ⟨[(55, one (.i j)), (13, one (.ptr 8 0 0)), (8, one (.ptr 5 0 0)), (6, one (.ptr 3 0 0))], [.ent ⟨false, 5, none, .a8 C⟩, .ent ⟨false, 5, none, .a8 D⟩, .ent ⟨true, 23, some 16, .a8 h⟩, .ent ⟨true, 23, some 16, .a8 zero16⟩, .ent ⟨true, 115, some 2, gfA K⟩, .ent ⟨true, 115, some 2, gfA Y⟩, .ent ⟨true, 22, none, .agg [.sl 1 oa na ca 1, .sl 0 oc nc cc 1]⟩, .ent ⟨true, 115, some 2, gfA (lenG na nc)⟩, .ent ⟨true, 23, some 16, .a8 (outG Y j)⟩]⟩) (fun j => j ≤ 8) (fun j => 8 - j) (fun j i L h => by have := hB.anc i L h; simp at this ⊢; omega) ⟨0, by omega, by simp [-List.reduceReplicate, -List.getD_eq_getElem?_getD, gfA, outG, zero16, hYe]⟩ ?_
    intro j hj
    refine ok_run hB tabOK pureO_ok 100 ?_
    simp only [gfA]
    have hol := outG_len Y j
    repeat (first
    | rw [run_ops0]
    | rw [run_seq]
    | rw [run_region]
    | rw [run_block]
    | rw [run_blk]
    | rw [run_skip]
    | (apply run_go rfl; focus (intro L K hK; simp [-List.reduceReplicate, -List.getD_eq_getElem?_getD, tab22, ty22, tab23, ty23, tab115, ty115, tab45, ty45, tab94, ty94, tab5, ty5, tab3, ty3, tab61, ty61, tab118, ty118, ntmps26, List.getD_cons_zero, List.getD_cons_succ]; (repeat' apply And.intro); all_goals first | exact hK | omega)))
    apply run_cond2 rfl
    · intro h2
      simp at h2
      have e1 : (7 - (j : Int)).toNat = 7 - j := by omega
      have e2 : (15 - (j : Int)).toNat = 15 - j := by omega
      have e3 : (8 * (j : Int)).toNat = 8 * j := by omega
      repeat (first
    | rw [run_ops0]
    | rw [run_seq]
    | rw [run_region]
    | rw [run_block]
    | rw [run_blk]
    | rw [run_skip]
    | (apply run_go rfl; focus (intro L K hK; simp [-List.reduceReplicate, -List.getD_eq_getElem?_getD, tab22, ty22, tab23, ty23, tab115, ty115, tab45, ty45, tab94, ty94, tab5, ty5, tab3, ty3, tab61, ty61, tab118, ty118, ntmps26, List.getD_cons_zero, List.getD_cons_succ, e1, e2, e3, hol]; (repeat' apply And.intro); all_goals first | exact hK | omega)))
      rw [run_back]
      refine ⟨j + 1, by omega, by omega, ?_⟩
      simp [-List.reduceReplicate, -List.getD_eq_getElem?_getD, gfA, outG]
    · intro h2
      simp at h2
      obtain rfl : j = 8 := by omega
      apply run_exit2 rfl
      repeat (first
    | rw [run_ops0]
    | rw [run_seq]
    | rw [run_region]
    | rw [run_block]
    | rw [run_blk]
    | rw [run_skip]
    | (apply run_go rfl; focus (intro L K hK; simp [-List.reduceReplicate, -List.getD_eq_getElem?_getD, tab22, ty22, tab23, ty23, tab115, ty115, tab45, ty45, tab94, ty94, tab5, ty5, tab3, ty3, tab61, ty61, tab118, ty118, ntmps26, List.getD_cons_zero, List.getD_cons_succ, hol]; (repeat' apply And.intro); all_goals first | exact hK | omega)))
      rw [run_ret]
      simp [-List.reduceReplicate, -List.getD_eq_getElem?_getD, results26, f26, tab23, ty23, hfin, hol]
end Go.V
end
section
set_option linter.unusedSimpArgs false
set_option linter.unusedVariables false
set_option maxRecDepth 10000
namespace Go.V
open Go Go.Proofs.Try
theorem pureL_mono : PureMono pureL := fun m x f l v h => pureL_sub m (m ++ x) f l v (fun id e he => get_app he) h
/-- A counter is laid into the last four bytes. -/
def ctrSet (c : B8) (n : Nat) : Nat → B8
  | 0 => c
  | k + 1 => (ctrSet c n k).set (15 - k) (BitVec.ofInt 8 ((n : Int) / 2 ^ (8 * k)))
theorem ctrSet_len (c : B8) (n : Nat) : ∀ k, (ctrSet c n k).length = c.length
  | 0 => rfl
  | k + 1 => by simp [ctrSet, ctrSet_len c n k]
def ctr0 (nonce : B8) : B8 := nonce ++ [0, 0, 0, 0]
/-- The counter block after so many bytes. -/
def stC (nonce : B8) : Nat → B8
  | 0 => ctr0 nonce
  | i + 1 => if i % 16 = 0 then ctrSet (stC nonce i) (2 + i / 16) 4 else stC nonce i
theorem stC_len {nonce : B8} (h : nonce.length = 12) : ∀ i, (stC nonce i).length = 16
  | 0 => by simp [stC, ctr0, h]
  | i + 1 => by
    rw [stC]
    split
    · rw [ctrSet_len, stC_len h i]
    · exact stC_len h i
/-- The block of a counter, put over what follows. -/
def lay (o X : B8) (i : Nat) : B8 := o.take i ++ (X.take (o.length - i)) ++ o.drop (i + (X.take (o.length - i)).length)
def stM (W : B8) (nr : Nat) (nonce : B8) (i : Nat) (o : B8) : B8 := if i % 16 = 0 then lay o (rounds (stC nonce (i + 1)) W nr (nr - 1)) i else o
def stO (W : B8) (nr : Nat) (nonce b : B8) : Nat → B8
  | 0 => List.replicate b.length 0
  | i + 1 => (stM W nr nonce i (stO W nr nonce b i)).set i ((stM W nr nonce i (stO W nr nonce b i)).getD i 0 ^^^ b.getD i 0)
theorem lay_len (o X : B8) {i : Nat} (h : i ≤ o.length) : (lay o X i).length = o.length := by
  simp only [lay, List.length_append, List.length_take, List.length_drop]
  omega
theorem stO_len (W : B8) (nr : Nat) (nonce b : B8) : ∀ i, i ≤ b.length → (stO W nr nonce b i).length = b.length
  | 0, _ => by simp [stO]
  | i + 1, h => by
    have ih := stO_len W nr nonce b i (by omega)
    rw [stO, List.length_set]
    unfold stM
    split
    · rw [lay_len _ _ (by omega), ih]
    · exact ih
theorem stM_len (W : B8) (nr : Nat) (nonce b : B8) {i : Nat} (h : i ≤ b.length) : (stM W nr nonce i (stO W nr nonce b i)).length = b.length := by
  have ih := stO_len W nr nonce b i h
  unfold stM
  split
  · rw [lay_len _ _ (by omega), ih]
  · exact ih
/-- The memory that stream reads: the key's block, its rows, the nonce, the bytes. -/
def smem (nr cap : Nat) (W N B : B8) : Mem := [.ent ⟨false, 105, some 1, .st [⟨1, .s (.sl 1 0 nr cap 16)⟩]⟩, .ent ⟨false, 23, none, .a8 W⟩, .ent ⟨false, 5, none, .a8 N⟩, .ent ⟨false, 5, none, .a8 B⟩]
set_option maxHeartbeats 1000000 in
theorem spec69 (W N B : B8) (nr cap on cn ob nb cb : Nat) (hW : 16 * nr ≤ W.length) (hR : 0 < nr) (hR2 : nr < 1000) (hN : on + 12 ≤ N.length) (hcn : 12 ≤ cn) (hb : ob + nb ≤ B.length) (hcb : nb ≤ cb) (hmx : nb ≤ 140737488355328) :
    Spec prog 69 [one (.ptr 0 0 0), one (.sl 2 on 12 cn 1), one (.sl 3 ob nb cb 1)] (smem nr cap W N B) [] (fun r m => r = one (.sl 4 0 nb nb 1) ∧ m = smem nr cap W N B ++ [.ent ⟨true, 5, none, .a8 (stO W nr ((N.drop on).take 12) ((B.drop ob).take nb) nb)⟩, .ent ⟨true, 23, some 16, .a8 (stC ((N.drop on).take 12) nb)⟩]) := by
  refine spec_of_body tabOK func69 rfl (Nat.le_of_ble_eq_true rfl) ?_
  intro E Q0 hB
  refine ok_run hB tabOK pureL_ok 100 ?_
  simp only [argSl, smem]
  have hnl : ((N.drop on).take 12).length = 12 := by simp; omega
  have hbl : ((B.drop ob).take nb).length = nb := by simp; omega
  have h0 : ctr0 ((N.drop on).take 12) = (N.drop on).take 12 ++ [0#8, 0#8, 0#8, 0#8] := rfl
  repeat (first
    | rw [run_ops0]
    | rw [run_seq]
    | rw [run_region]
    | rw [run_block]
    | rw [run_blk]
    | rw [run_skip]
    | (apply run_go rfl; focus (intro L K hK; simp [-List.reduceReplicate, -List.getD_eq_getElem?_getD, tab22, ty22, tab23, ty23, tab25, ty25, tab5, ty5, tab3, ty3, ntmps69, hnl]; (repeat' apply And.intro); all_goals first | exact hK | omega)))
  -- the loop
  generalize hNN : (N.drop on).take 12 = NN at hnl h0 ⊢
  generalize hBB : (B.drop ob).take nb = BB at hbl ⊢
  have hgB : ∀ i, i < nb → BB.getD i 0#8 = B.getD (ob + i) 0#8 := fun i hi => by
    rw [← hBB, List.getD_eq_getElem?_getD, List.getD_eq_getElem?_getD, List.getElem?_take_of_lt hi, List.getElem?_drop]
  have hi0 : stO W nr NN BB 0 = List.replicate nb 0#8 := by rw [stO, hbl]; rfl
  have hc0 : stC NN 0 = NN ++ [0#8, 0#8, 0#8, 0#8] := h0
  rw [run_loop]
  refine ok_loop (X := Nat) (fun i => ⟨[(20, one (.i i)), (19, one (.i nb)), (8, one (.ptr 5 0 0)), (7, one (.sl 4 0 nb nb 1)), (0, one (.ptr 0 0 0)), (2, one (.sl 3 ob nb cb 1))], [.ent ⟨false, 105, some 1, .st [⟨1, .s (.sl 1 0 nr cap 16)⟩]⟩, .ent ⟨false, 23, none, .a8 W⟩, .ent ⟨false, 5, none, .a8 N⟩, .ent ⟨false, 5, none, .a8 B⟩, .ent ⟨true, 5, none, .a8 (stO W nr NN BB i)⟩, .ent ⟨true, 23, some 16, .a8 (stC NN i)⟩]⟩) (fun i => i ≤ nb) (fun i => nb - i) (fun j i L h => by have := hB.anc i L h; simp [smem] at this ⊢; omega) ⟨0, by omega, by simp [-List.reduceReplicate, -List.getD_eq_getElem?_getD, hi0, hc0]⟩ ?_
  intro i hi
  refine ok_run hB tabOK pureL_ok 15 ?_
  have hol := stO_len W nr NN BB i (by omega)
  have hml := stM_len W nr NN BB (i := i) (by omega)
  have hcl := stC_len hnl i
  have hcl1 := stC_len hnl (i + 1)
  rw [hbl] at hol hml
  repeat (first
    | rw [run_ops0]
    | rw [run_seq]
    | rw [run_region]
    | rw [run_block]
    | rw [run_blk]
    | rw [run_skip]
    | (apply run_go rfl; focus (intro L K hK; simp [-List.reduceReplicate, -List.getD_eq_getElem?_getD, tab22, ty22, tab23, ty23, tab25, ty25, tab105, ty105, tab103, ty103, tab5, ty5, tab3, ty3, ntmps69]; (repeat' apply And.intro); all_goals first | exact hK | omega)))
  apply run_cond2 rfl
  · intro h1
    simp at h1
    have q2 : (i : Int).tmod 16 = (i : Int) % 16 := Int.tmod_eq_emod_of_nonneg (by omega)
    have q1 : (i : Int).tdiv 16 = (i : Int) / 16 := Int.tdiv_eq_ediv_of_nonneg (by omega)
    repeat (first
    | rw [run_ops0]
    | rw [run_seq]
    | rw [run_region]
    | rw [run_block]
    | rw [run_blk]
    | rw [run_skip]
    | (apply run_go rfl; focus (intro L K hK; simp [-List.reduceReplicate, -List.getD_eq_getElem?_getD, tab22, ty22, tab23, ty23, tab25, ty25, tab105, ty105, tab103, ty103, tab5, ty5, tab3, ty3, ntmps69, q2]; (repeat' apply And.intro); all_goals first | exact hK | omega)))
    rw [run_zero]
    refine ok_join (X := Unit) (fun _ => ⟨[(9, one (.i i)), (20, one (.i i)), (19, one (.i nb)), (8, one (.ptr 5 0 0)), (7, one (.sl 4 0 nb nb 1)), (0, one (.ptr 0 0 0)), (2, one (.sl 3 ob nb cb 1))], [.ent ⟨false, 105, some 1, .st [⟨1, .s (.sl 1 0 nr cap 16)⟩]⟩, .ent ⟨false, 23, none, .a8 W⟩, .ent ⟨false, 5, none, .a8 N⟩, .ent ⟨false, 5, none, .a8 B⟩, .ent ⟨true, 5, none, .a8 (stM W nr NN i (stO W nr NN BB i))⟩, .ent ⟨true, 23, some 16, .a8 (stC NN (i + 1))⟩]⟩) (fun _ => True) (fun j i L h => by have := hB.anc i L h; simp [smem] at this ⊢; omega) ?_ ?_
    · refine ok_run hB tabOK pureL_ok 100 ?_
      repeat (first
    | rw [run_ops0]
    | rw [run_seq]
    | rw [run_region]
    | rw [run_block]
    | rw [run_blk]
    | rw [run_skip]
    | (apply run_go rfl; focus (intro L K hK; simp [-List.reduceReplicate, -List.getD_eq_getElem?_getD, tab22, ty22, tab23, ty23, tab25, ty25, tab105, ty105, tab103, ty103, tab5, ty5, tab3, ty3, ntmps69, q2]; (repeat' apply And.intro); all_goals first | exact hK | omega)))
      apply run_cond2 rfl
      · intro h2
        simp at h2
        have h2' : i % 16 = 0 := by omega
        have hcs : stC NN (i + 1) = ctrSet (stC NN i) (2 + i / 16) 4 := by rw [stC, if_pos h2']
        have hms : stM W nr NN i (stO W nr NN BB i) = lay (stO W nr NN BB i) (rounds (stC NN (i + 1)) W nr (nr - 1)) i := by rw [stM, if_pos h2']
        generalize hC : stC NN i = c at hcl hcs ⊢
        generalize hO : stO W nr NN BB i = o at hol hml hms ⊢
        repeat (first
    | rw [run_ops0]
    | rw [run_seq]
    | rw [run_region]
    | rw [run_block]
    | rw [run_blk]
    | rw [run_skip]
    | (apply run_go rfl; focus (intro L K hK; simp [-List.reduceReplicate, -List.getD_eq_getElem?_getD, tab22, ty22, tab23, ty23, tab25, ty25, tab105, ty105, tab103, ty103, tab5, ty5, tab3, ty3, ntmps69]; (repeat' apply And.intro); all_goals first | exact hK | omega)))
        rw [run_loop]
        refine ok_loop (X := Nat) (fun k => ⟨[(26, one (.i k)), (9, one (.i i)), (20, one (.i i)), (19, one (.i nb)), (8, one (.ptr 5 0 0)), (7, one (.sl 4 0 nb nb 1)), (0, one (.ptr 0 0 0)), (2, one (.sl 3 ob nb cb 1))], [.ent ⟨false, 105, some 1, .st [⟨1, .s (.sl 1 0 nr cap 16)⟩]⟩, .ent ⟨false, 23, none, .a8 W⟩, .ent ⟨false, 5, none, .a8 N⟩, .ent ⟨false, 5, none, .a8 B⟩, .ent ⟨true, 5, none, .a8 o⟩, .ent ⟨true, 23, some 16, .a8 (ctrSet c (2 + i / 16) k)⟩]⟩) (fun k => k ≤ 4) (fun k => 4 - k) (fun j i L h => by have := hB.anc i L h; simp [smem] at this ⊢; omega) ⟨0, by omega, by simp [-List.reduceReplicate, -List.getD_eq_getElem?_getD, ctrSet]⟩ ?_
        intro k hk
        refine ok_run hB tabOK pureL_ok 100 ?_
        have hkl := ctrSet_len c (2 + i / 16) k
        repeat (first
    | rw [run_ops0]
    | rw [run_seq]
    | rw [run_region]
    | rw [run_block]
    | rw [run_blk]
    | rw [run_skip]
    | (apply run_go rfl; focus (intro L K hK; simp [-List.reduceReplicate, -List.getD_eq_getElem?_getD, tab22, ty22, tab23, ty23, tab25, ty25, tab105, ty105, tab103, ty103, tab5, ty5, tab3, ty3, ntmps69]; (repeat' apply And.intro); all_goals first | exact hK | omega)))
        apply run_cond2 rfl
        · intro h3
          simp at h3
          have e1 : (15 - (k : Int)).toNat = 15 - k := by omega
          have e2 : (8 * (k : Int)).toNat = 8 * k := by omega
          repeat (first
    | rw [run_ops0]
    | rw [run_seq]
    | rw [run_region]
    | rw [run_block]
    | rw [run_blk]
    | rw [run_skip]
    | (apply run_go rfl; focus (intro L K hK; simp [-List.reduceReplicate, -List.getD_eq_getElem?_getD, tab22, ty22, tab23, ty23, tab25, ty25, tab105, ty105, tab103, ty103, tab5, ty5, tab3, ty3, ntmps69, q1, e1, e2, hkl, hcl]; (repeat' apply And.intro); all_goals first | exact hK | omega)))
          rw [run_back]
          refine ⟨k + 1, by omega, by omega, ?_⟩
          simp [-List.reduceReplicate, -List.getD_eq_getElem?_getD, ctrSet]
        · intro h3
          simp at h3
          obtain rfl : k = 4 := by omega
          apply run_exit2 rfl
          rw [← hcs] at hkl ⊢
          generalize stC NN (i + 1) = c1 at hcl1 hkl hms ⊢
          have hkf : kFit c1 W nr := ⟨hcl1, hW, hR, hR2⟩
          have hrl := rounds_len c1 W nr (nr - 1)
          obtain ⟨X, hX⟩ : ∃ X, rounds c1 W nr (nr - 1) = X := ⟨_, rfl⟩
          rw [hX] at hrl hms
          have hrl16 : X.length = 16 := by omega
          repeat (first
    | rw [run_ops0]
    | rw [run_seq]
    | rw [run_region]
    | rw [run_block]
    | rw [run_blk]
    | rw [run_skip]
    | (apply run_go rfl; focus (intro L K hK; simp [-List.reduceReplicate, -List.getD_eq_getElem?_getD, tab22, ty22, tab23, ty23, tab25, ty25, tab105, ty105, tab103, ty103, tab5, ty5, tab3, ty3, ntmps69, hkf, hcl1, hX, hrl16, pureL, kOf]; (repeat' apply And.intro); all_goals first | exact hK | omega)))
          rw [run_draw]
          refine ok_draw2 4 tabOK pureL_ok pureL_mono mixed (by decide +kernel) rfl rfl ?_
          have e3 : (nb : Int) - (i : Int) = ((nb - i : Nat) : Int) := by omega
          repeat (first
    | (apply hd_go rfl rfl rfl rfl (Nat.le_of_ble_eq_true rfl); focus (intro K' hK; simp [-List.reduceReplicate, -List.getD_eq_getElem?_getD, tab22, ty22, tab23, ty23, tab25, ty25, tab105, ty105, tab103, ty103, tab5, ty5, tab3, ty3, ntmps69, e3]; (repeat' apply And.intro); all_goals first | exact hK | omega))
    | (apply hd_new rfl rfl rfl rfl (Nat.le_of_ble_eq_true rfl); focus (intro K' hK; simp [-List.reduceReplicate, -List.getD_eq_getElem?_getD, tab22, ty22, tab23, ty23, tab25, ty25, tab105, ty105, tab103, ty103, tab5, ty5, tab3, ty3, ntmps69, e3]; (repeat' apply And.intro); all_goals first | exact hK | omega)))
          refine hd_nil ?_
          simp only [List.map_nil, List.append_nil]
          refine ok_run hB tabOK pureL_ok 100 ?_
          repeat (first
    | rw [run_ops0]
    | rw [run_seq]
    | rw [run_region]
    | rw [run_block]
    | rw [run_blk]
    | rw [run_skip]
    | (apply run_go rfl; focus (intro L K hK; simp [-List.reduceReplicate, -List.getD_eq_getElem?_getD, tab22, ty22, tab23, ty23, tab25, ty25, tab105, ty105, tab103, ty103, tab5, ty5, tab3, ty3, ntmps69, hol, hrl16]; (repeat' apply And.intro); all_goals first | exact hK | omega)))
          rw [run_back]
          refine ⟨(), trivial, ?_⟩
          have hX16 : X.take (nb - i) = X.take (min 16 (nb - i)) := by
            conv => lhs; rw [← List.take_of_length_le (l := X) (i := 16) (by omega)]
            rw [List.take_take, Nat.min_comm]
          have hlay : lay o X i = o.take i ++ (X.take (min 16 (nb - i)) ++ o.drop (i + min 16 (nb - i))) := by
            unfold lay
            rw [hol, hX16, List.append_assoc]
            congr 2
            simp [hrl16]
          rw [hms, hlay]
          simp [-List.reduceReplicate, -List.getD_eq_getElem?_getD]
      · intro h2
        simp at h2
        have h2' : ¬ i % 16 = 0 := by omega
        have hcs : stC NN (i + 1) = stC NN i := by rw [stC, if_neg h2']
        have hms : stM W nr NN i (stO W nr NN BB i) = stO W nr NN BB i := by rw [stM, if_neg h2']
        repeat (first
    | rw [run_ops0]
    | rw [run_seq]
    | rw [run_region]
    | rw [run_block]
    | rw [run_blk]
    | rw [run_skip]
    | (apply run_go rfl; focus (intro L K hK; simp [-List.reduceReplicate, -List.getD_eq_getElem?_getD, tab22, ty22, tab23, ty23, tab25, ty25, tab105, ty105, tab103, ty103, tab5, ty5, tab3, ty3, ntmps69]; (repeat' apply And.intro); all_goals first | exact hK | omega)))
        rw [run_back]
        refine ⟨(), trivial, ?_⟩
        simp [-List.reduceReplicate, -List.getD_eq_getElem?_getD, hcs, hms]
    · intro _ _
      refine ok_run hB tabOK pureL_ok 100 ?_
      have hO1 : stO W nr NN BB (i + 1) = (stM W nr NN i (stO W nr NN BB i)).set i ((stM W nr NN i (stO W nr NN BB i)).getD i 0 ^^^ BB.getD i 0) := rfl
      have hgi := hgB i (by omega)
      generalize stM W nr NN i (stO W nr NN BB i) = M at hml hO1 ⊢
      repeat (first
    | rw [run_ops0]
    | rw [run_seq]
    | rw [run_region]
    | rw [run_block]
    | rw [run_blk]
    | rw [run_skip]
    | (apply run_go rfl; focus (intro L K hK; simp [-List.reduceReplicate, -List.getD_eq_getElem?_getD, tab22, ty22, tab23, ty23, tab25, ty25, tab105, ty105, tab103, ty103, tab5, ty5, tab3, ty3, ntmps69]; (repeat' apply And.intro); all_goals first | exact hK | omega)))
      rw [run_draw]
      refine ok_draw2 9 tabOK pureL_ok pureL_mono mixed (by decide +kernel) rfl rfl ?_
      repeat (first
    | (apply hd_go rfl rfl rfl rfl (Nat.le_of_ble_eq_true rfl); focus (intro K' hK; simp [-List.reduceReplicate, -List.getD_eq_getElem?_getD, tab22, ty22, tab23, ty23, tab25, ty25, tab105, ty105, tab103, ty103, tab5, ty5, tab3, ty3, ntmps69, hml]; (repeat' apply And.intro); all_goals first | exact hK | omega))
    | (apply hd_new rfl rfl rfl rfl (Nat.le_of_ble_eq_true rfl); focus (intro K' hK; simp [-List.reduceReplicate, -List.getD_eq_getElem?_getD, tab22, ty22, tab23, ty23, tab25, ty25, tab105, ty105, tab103, ty103, tab5, ty5, tab3, ty3, ntmps69, hml]; (repeat' apply And.intro); all_goals first | exact hK | omega)))
      refine hd_nil ?_
      simp only [List.map_nil, List.append_nil]
      refine ok_run hB tabOK pureL_ok 100 ?_
      repeat (first
    | rw [run_ops0]
    | rw [run_seq]
    | rw [run_region]
    | rw [run_block]
    | rw [run_blk]
    | rw [run_skip]
    | (apply run_go rfl; focus (intro L K hK; simp [-List.reduceReplicate, -List.getD_eq_getElem?_getD, tab22, ty22, tab23, ty23, tab25, ty25, tab105, ty105, tab103, ty103, tab5, ty5, tab3, ty3, ntmps69, hml]; (repeat' apply And.intro); all_goals first | exact hK | omega)))
      rw [run_back]
      refine ⟨i + 1, by omega, by omega, ?_⟩
      rw [hO1]
      simp [-List.reduceReplicate, -List.getD_eq_getElem?_getD, hgi]
  · intro h1
    simp at h1
    obtain rfl : i = nb := by omega
    apply run_exit2 rfl
    repeat (first
    | rw [run_ops0]
    | rw [run_seq]
    | rw [run_region]
    | rw [run_block]
    | rw [run_blk]
    | rw [run_skip]
    | (apply run_go rfl; focus (intro L K hK; simp [-List.reduceReplicate, -List.getD_eq_getElem?_getD, tab22, ty22, tab23, ty23, tab25, ty25, tab105, ty105, tab103, ty103, tab5, ty5, tab3, ty3, ntmps69]; (repeat' apply And.intro); all_goals first | exact hK | omega)))
    rw [run_ret]
    simp [-List.reduceReplicate, -List.getD_eq_getElem?_getD, results69, f69, smem, hNN, hBB]
end Go.V
end
section
set_option linter.unusedSimpArgs false
set_option linter.unusedVariables false
set_option maxRecDepth 10000
namespace Go.V
open Go Go.Proofs.Try
/-- Which bytes a slice holds. -/
def bytesOf (m : Mem) : S → Option B8
  | .snil => some []
  | .sl id off n cap 1 => match m[id]? with
    | some (.ent e) => match e.c with
      | .a8 B => if off + n ≤ B.length ∧ n ≤ cap ∧ n ≤ 140737488355328 then some ((B.drop off).take n) else none
      | _ => none
    | _ => none
  | _ => none
def slId : S → Option Nat
  | .sl id _ _ _ _ => some id
  | _ => none
theorem bytesOf_sub {m m' : Mem} {x : S} {b : B8} (hs : Sub m m') (h : bytesOf m x = some b) : bytesOf m' x = some b := by
  unfold bytesOf at h ⊢
  split at h
  · exact h
  · split at h
    · rename_i hm
      simp only [hs _ _ hm]
      exact h
    · cases h
  · cases h
theorem bytesOf_sl {m : Mem} {id off n cap : Nat} {b : B8} (h : bytesOf m (.sl id off n cap 1) = some b) : ∃ (e : Ent) (B : B8), m[id]? = some (.ent e) ∧ e.c = .a8 B ∧ off + n ≤ B.length ∧ n ≤ cap ∧ n ≤ 140737488355328 ∧ b = (B.drop off).take n := by
  unfold bytesOf at h
  simp only at h
  split at h
  · split at h
    · split at h
      · rename_i hc
        cases h
        exact ⟨_, _, by assumption, by assumption, hc.1, hc.2.1, hc.2.2, rfl⟩
      · cases h
    · cases h
  · cases h
/-- Hash over bytes in memory, or over none. -/
def pureH : Pure := fun m f l => match f, l with
  | 26, [.one (.a8 h), .one (.s .snil), .one (.s (.sl id off n cap 1))] => match bytesOf m (.sl id off n cap 1) with
    | some DC => if h.length = 16 then some (.one (.a8 (hashG h [] DC))) else none
    | none => none
  | 26, [.one (.a8 h), .one (.s (.sl id1 off1 n1 cap1 1)), .one (.s (.sl id off n cap 1))] => match bytesOf m (.sl id1 off1 n1 cap1 1), bytesOf m (.sl id off n cap 1) with
    | some DA, some DC => if h.length = 16 ∧ id ≠ id1 then some (.one (.a8 (hashG h DA DC))) else none
    | _, _ => none
  | _, _ => none
theorem pureH_sub : PureSub pureH := by
  intro m m' f l v hs h
  unfold pureH at h ⊢
  split at h
  · split at h
    · rename_i hb
      simp only [bytesOf_sub hs hb]
      exact h
    · cases h
  · split at h
    · rename_i hb1 hb2
      simp only [bytesOf_sub hs hb1, bytesOf_sub hs hb2]
      exact h
    · cases h
  · cases h
theorem pureH_ok : PureOK prog pureH := by
  intro m f svs sv h E w ℓ vs hm hd
  unfold pureH at h
  split at h
  · rename_i hh id off n cap
    split at h
    · rename_i DC hb
      split at h
      · rename_i hl
        cases h
        obtain ⟨e, B, h1, h2, h3, h4, h5, rfl⟩ := bytesOf_sl hb
        have hf : Fresh m m.length := .inl rfl
        have hbm := hm.blank hf (ty := 5) (a := .a8 []) rfl trivial
        rw [fill_len] at hbm
        have hle := hm.le_upd hf ⟨E.w0.heap.size, 0, 0⟩
        have hlt := (List.getElem?_eq_some_iff.1 h1).1
        have hg1 : (m ++ [Mk.ent ⟨true, 5, none, .a8 []⟩])[id]? = some (.ent e) := by rw [List.getElem?_append_left hlt]; exact h1
        have hg2 : (m ++ [Mk.ent ⟨true, 5, none, .a8 []⟩])[m.length]? = some (.ent ⟨true, 5, none, .a8 []⟩) := by simp
        refine ⟨⟨f26, func26, nofun, by decide⟩, ?_⟩
        have hd2 : DenVs (upd ℓ m.length ⟨E.w0.heap.size, 0, 0⟩) ([.one (.a8 hh), one (.sl 1 0 0 0 1), one (.sl 0 off n cap 1)].map (renV (ix [id, m.length] (m ++ [Mk.ent ⟨true, 5, none, .a8 []⟩]).length))) vs := by
          match vs, hd with
          | [v1, v2, v3], ⟨a1, a2, a3, _⟩ =>
            refine ⟨by simpa [renV, renA] using a1.mono hle, ?_, by simpa [renV, renA, renS, ix, one] using a3.mono hle, trivial⟩
            have a2' : v2 = .slice none 0 0 := a2
            rw [a2']
            simp only [renV, renA, renS, ix, one]
            exact ⟨⟨E.w0.heap.size, 0, 0⟩, by simp [upd], Nat.le_refl _, .inl ⟨rfl, none, rfl⟩⟩
        have hcall := pure_use (spec26 hh [] B 0 0 0 off n cap hl (by simp) h3 (Nat.le_refl _) h4 (by omega) (by omega)) (by simp) rfl hbm [id, m.length] (by simp; omega) (by simp [matchM, ix, renA, belA, hg1, h2]) rfl hd2
        refine hcall.mono ?_
        rintro e' w' ⟨v, g1, g2, g3⟩
        simp only [List.drop_nil, List.take_nil] at g2
        exact ⟨v, g1, belV_den (n := 0) (fun i hi => by omega) rfl g2, g3⟩
      · cases h
    · cases h
  · rename_i hh id1 off1 n1 cap1 id off n cap
    split at h
    · rename_i DA DC hb1 hb2
      split at h
      · rename_i hl
        obtain ⟨hl, hne⟩ := hl
        cases h
        obtain ⟨e, B, h1, h2, h3, h4, h5, rfl⟩ := bytesOf_sl hb2
        obtain ⟨e1, B1, k1, k2, k3, k4, k5, rfl⟩ := bytesOf_sl hb1
        exact ⟨⟨f26, func26, nofun, by decide⟩, pure_use (spec26 hh B1 B off1 n1 cap1 off n cap hl k3 h3 k4 h4 (by omega) (by omega)) (by simp) rfl hm [id, id1] (by simp [hne]) (by simp [matchM, ix, renA, belA, h1, h2, k1, k2]) rfl (by simpa [renV, renA, renS, ix, one] using hd)⟩
      · cases h
    · cases h
  · cases h
/-! tag -/
open Classical in
noncomputable def pureG : Pure := fun m f l => if f = 26 then pureH m f l else pureL m f l
theorem pureG_sub : PureSub pureG := by
  intro m m' f l v hs h
  unfold pureG at h ⊢
  split at h
  · rename_i hf; rw [if_pos hf]; exact pureH_sub m m' f l v hs h
  · rename_i hf; rw [if_neg hf]; exact pureL_sub m m' f l v hs h
theorem pureG_mono : PureMono pureG := fun m x f l v h => pureG_sub m (m ++ x) f l v (fun id e he => get_app he) h
theorem pureG_ok : PureOK prog pureG := by
  intro m f svs sv h
  unfold pureG at h
  split at h
  · exact pureH_ok m f svs sv h
  · exact pureL_ok m f svs sv h
def ctr1 (nonce : B8) : B8 := nonce ++ [0, 0, 0, 1]
def tagX (t x : B8) : Nat → B8
  | 0 => t
  | j + 1 => (tagX t x j).set j ((tagX t x j).getD j 0 ^^^ x.getD j 0)
theorem tagX_len (t x : B8) : ∀ j, (tagX t x j).length = t.length
  | 0 => rfl
  | j + 1 => by simp [tagX, tagX_len t x j]
def tagB (W : B8) (nr : Nat) (nonce DA DC : B8) : B8 := tagX (hashG (rounds zero16 W nr (nr - 1)) DA DC) (rounds (ctr1 nonce) W nr (nr - 1)) 16
theorem hashG_len (h A C : B8) : (hashG h A C).length = 16 := outG_len _ 8
/-- What tag makes: the counter, the enciphered counter, the tag. -/
def tagE (W : B8) (nr : Nat) (nonce DA DC : B8) : List Ent := [⟨true, 23, some 16, .a8 (ctr1 nonce)⟩, ⟨true, 23, some 16, .a8 (rounds (ctr1 nonce) W nr (nr - 1))⟩, ⟨true, 23, some 16, .a8 (tagB W nr nonce DA DC)⟩]
theorem spec70 (W N B : B8) (nr cap on cn ob nb cb : Nat) (A : B8) (oa na ca : Nat) (ha : oa + na ≤ A.length) (hca : na ≤ ca) (hma : na ≤ 140737488355328) (hW : 16 * nr ≤ W.length) (hR : 0 < nr) (hR2 : nr < 1000) (hN : on + 12 ≤ N.length) (hcn : 12 ≤ cn) (hb : ob + nb ≤ B.length) (hcb : nb ≤ cb) (hmx : nb ≤ 140737488355328) :
    Spec prog 70 [one (.ptr 0 0 0), one (.sl 2 on 12 cn 1), one (.sl 4 oa na ca 1), one (.sl 3 ob nb cb 1)] (smem nr cap W N B ++ [.ent ⟨false, 5, none, .a8 A⟩]) [] (fun r m => r = one (.sl 7 0 16 16 1) ∧ m = smem nr cap W N B ++ [.ent ⟨false, 5, none, .a8 A⟩] ++ (tagE W nr ((N.drop on).take 12) ((A.drop oa).take na) ((B.drop ob).take nb)).map .ent) := by
  refine spec_of_body tabOK func70 rfl (Nat.le_of_ble_eq_true rfl) ?_
  intro E Q0 hB
  refine ok_run hB tabOK pureG_ok 100 ?_
  simp only [argSl, smem, List.cons_append, List.nil_append]
  have hnl : ((N.drop on).take 12).length = 12 := by simp; omega
  have h0 : ctr1 ((N.drop on).take 12) = (N.drop on).take 12 ++ [0#8, 0#8, 0#8, 1#8] := rfl
  have hl1 : (ctr1 ((N.drop on).take 12)).length = 16 := by rw [h0]; simp; omega
  have hk1 : kFit (ctr1 ((N.drop on).take 12)) W nr := ⟨hl1, hW, hR, hR2⟩
  have hk0 : kFit [0#8, 0#8, 0#8, 0#8, 0#8, 0#8, 0#8, 0#8, 0#8, 0#8, 0#8, 0#8, 0#8, 0#8, 0#8, 0#8] W nr := ⟨rfl, hW, hR, hR2⟩
  have hz : zero16 = [0#8, 0#8, 0#8, 0#8, 0#8, 0#8, 0#8, 0#8, 0#8, 0#8, 0#8, 0#8, 0#8, 0#8, 0#8, 0#8] := rfl
  repeat (first
    | rw [run_ops0]
    | rw [run_seq]
    | rw [run_region]
    | rw [run_block]
    | rw [run_blk]
    | rw [run_skip]
    | (apply run_go rfl; focus (intro L K hK; simp [-List.reduceReplicate, -List.getD_eq_getElem?_getD, tab22, ty22, tab23, ty23, tab25, ty25, tab105, ty105, tab103, ty103, tab5, ty5, tab3, ty3, ntmps70, hnl]; (repeat' apply And.intro); all_goals first | exact hK | omega)))
  rw [← h0]
  generalize hNN : ctr1 ((N.drop on).take 12) = c1 at hl1 hk1 ⊢
  have hx1 := rounds_len c1 W nr (nr - 1)
  have hx0 := rounds_len [0#8, 0#8, 0#8, 0#8, 0#8, 0#8, 0#8, 0#8, 0#8, 0#8, 0#8, 0#8, 0#8, 0#8, 0#8, 0#8] W nr (nr - 1)
  rw [hl1] at hx1
  replace hx0 : (rounds [0#8, 0#8, 0#8, 0#8, 0#8, 0#8, 0#8, 0#8, 0#8, 0#8, 0#8, 0#8, 0#8, 0#8, 0#8, 0#8] W nr (nr - 1)).length = 16 := hx0
  obtain ⟨X, hX⟩ : ∃ X, rounds c1 W nr (nr - 1) = X := ⟨_, rfl⟩
  obtain ⟨H, hH⟩ : ∃ H, rounds [0#8, 0#8, 0#8, 0#8, 0#8, 0#8, 0#8, 0#8, 0#8, 0#8, 0#8, 0#8, 0#8, 0#8, 0#8, 0#8] W nr (nr - 1) = H := ⟨_, rfl⟩
  rw [hX] at hx1
  rw [hH] at hx0
  have hhl := hashG_len H ((A.drop oa).take na) ((B.drop ob).take nb)
  repeat (first
    | rw [run_ops0]
    | rw [run_seq]
    | rw [run_region]
    | rw [run_block]
    | rw [run_blk]
    | rw [run_skip]
    | (apply run_go rfl; focus (intro L K hK; simp [-List.reduceReplicate, -List.getD_eq_getElem?_getD, tab22, ty22, tab23, ty23, tab25, ty25, tab105, ty105, tab103, ty103, tab5, ty5, tab3, ty3, ntmps70, ha, hca, hma, hk1, hk0, hX, hH, hx1, hx0, hl1, hhl, hb, hcb, hmx, pureG, pureL, pureH, kOf, bytesOf]; (repeat' apply And.intro); all_goals first | exact hK | omega)))
  have htag : tagB W nr ((N.drop on).take 12) ((A.drop oa).take na) ((B.drop ob).take nb) = tagX (hashG H ((A.drop oa).take na) ((B.drop ob).take nb)) X 16 := by
    unfold tagB
    rw [hNN, hX, hz, hH]
  generalize hashG H ((A.drop oa).take na) ((B.drop ob).take nb) = t0 at hhl htag ⊢
  rw [run_loop]
  refine ok_loop (X := Nat) (fun j => ⟨[(26, one (.i j)), (11, one (.ptr 7 0 0)), (10, one (.ptr 6 0 0))], [.ent ⟨false, 105, some 1, .st [⟨1, .s (.sl 1 0 nr cap 16)⟩]⟩, .ent ⟨false, 23, none, .a8 W⟩, .ent ⟨false, 5, none, .a8 N⟩, .ent ⟨false, 5, none, .a8 B⟩, .ent ⟨false, 5, none, .a8 A⟩, .ent ⟨true, 23, some 16, .a8 c1⟩, .ent ⟨true, 23, some 16, .a8 X⟩, .ent ⟨true, 23, some 16, .a8 (tagX t0 X j)⟩]⟩) (fun j => j ≤ 16) (fun j => 16 - j) (fun j i L h => by have := hB.anc i L h; simp [smem] at this ⊢; omega) ⟨0, by omega, by simp [-List.reduceReplicate, -List.getD_eq_getElem?_getD, tagX]⟩ ?_
  intro j hj
  refine ok_run hB tabOK pureG_ok 100 ?_
  have htl := tagX_len t0 X j
  repeat (first
    | rw [run_ops0]
    | rw [run_seq]
    | rw [run_region]
    | rw [run_block]
    | rw [run_blk]
    | rw [run_skip]
    | (apply run_go rfl; focus (intro L K hK; simp [-List.reduceReplicate, -List.getD_eq_getElem?_getD, tab22, ty22, tab23, ty23, tab25, ty25, tab105, ty105, tab103, ty103, tab5, ty5, tab3, ty3, ntmps70]; (repeat' apply And.intro); all_goals first | exact hK | omega)))
  apply run_cond2 rfl
  · intro h1
    simp at h1
    repeat (first
    | rw [run_ops0]
    | rw [run_seq]
    | rw [run_region]
    | rw [run_block]
    | rw [run_blk]
    | rw [run_skip]
    | (apply run_go rfl; focus (intro L K hK; simp [-List.reduceReplicate, -List.getD_eq_getElem?_getD, tab22, ty22, tab23, ty23, tab25, ty25, tab105, ty105, tab103, ty103, tab5, ty5, tab3, ty3, ntmps70]; (repeat' apply And.intro); all_goals first | exact hK | omega)))
    rw [run_draw]
    refine ok_draw2 7 tabOK pureG_ok pureG_mono mixed (by decide +kernel) rfl rfl ?_
    repeat (first
    | (apply hd_go rfl rfl rfl rfl (Nat.le_of_ble_eq_true rfl); focus (intro K' hK; simp [-List.reduceReplicate, -List.getD_eq_getElem?_getD, tab22, ty22, tab23, ty23, tab25, ty25, tab105, ty105, tab103, ty103, tab5, ty5, tab3, ty3, ntmps70, htl, hhl, hx1]; (repeat' apply And.intro); all_goals first | exact hK | omega))
    | (apply hd_new rfl rfl rfl rfl (Nat.le_of_ble_eq_true rfl); focus (intro K' hK; simp [-List.reduceReplicate, -List.getD_eq_getElem?_getD, tab22, ty22, tab23, ty23, tab25, ty25, tab105, ty105, tab103, ty103, tab5, ty5, tab3, ty3, ntmps70, htl, hhl, hx1]; (repeat' apply And.intro); all_goals first | exact hK | omega)))
    refine hd_nil ?_
    simp only [List.map_nil, List.append_nil]
    refine ok_run hB tabOK pureG_ok 100 ?_
    repeat (first
    | rw [run_ops0]
    | rw [run_seq]
    | rw [run_region]
    | rw [run_block]
    | rw [run_blk]
    | rw [run_skip]
    | (apply run_go rfl; focus (intro L K hK; simp [-List.reduceReplicate, -List.getD_eq_getElem?_getD, tab22, ty22, tab23, ty23, tab25, ty25, tab105, ty105, tab103, ty103, tab5, ty5, tab3, ty3, ntmps70, htl, hhl]; (repeat' apply And.intro); all_goals first | exact hK | omega)))
    rw [run_back]
    refine ⟨j + 1, by omega, by omega, ?_⟩
    simp [-List.reduceReplicate, -List.getD_eq_getElem?_getD, tagX]
  · intro h1
    simp at h1
    obtain rfl : j = 16 := by omega
    apply run_exit2 rfl
    repeat (first
    | rw [run_ops0]
    | rw [run_seq]
    | rw [run_region]
    | rw [run_block]
    | rw [run_blk]
    | rw [run_skip]
    | (apply run_go rfl; focus (intro L K hK; simp [-List.reduceReplicate, -List.getD_eq_getElem?_getD, tab22, ty22, tab23, ty23, tab25, ty25, tab105, ty105, tab103, ty103, tab5, ty5, tab3, ty3, ntmps70, htl, hhl]; (repeat' apply And.intro); all_goals first | exact hK | omega)))
    rw [run_ret]
    simp [-List.reduceReplicate, -List.getD_eq_getElem?_getD, results70, f70, smem, tagE, hNN, hX, htag]
theorem spec70n (W N B : B8) (nr cap on cn ob nb cb : Nat) (hW : 16 * nr ≤ W.length) (hR : 0 < nr) (hR2 : nr < 1000) (hN : on + 12 ≤ N.length) (hcn : 12 ≤ cn) (hb : ob + nb ≤ B.length) (hcb : nb ≤ cb) (hmx : nb ≤ 140737488355328) :
    Spec prog 70 [one (.ptr 0 0 0), one (.sl 2 on 12 cn 1), one .snil, one (.sl 3 ob nb cb 1)] (smem nr cap W N B) [] (fun r m => r = one (.sl 6 0 16 16 1) ∧ m = smem nr cap W N B ++ (tagE W nr ((N.drop on).take 12) ([] : B8) ((B.drop ob).take nb)).map .ent) := by
  refine spec_of_body tabOK func70 rfl (Nat.le_of_ble_eq_true rfl) ?_
  intro E Q0 hB
  refine ok_run hB tabOK pureG_ok 100 ?_
  simp only [argSl, smem, List.cons_append, List.nil_append]
  have hnl : ((N.drop on).take 12).length = 12 := by simp; omega
  have h0 : ctr1 ((N.drop on).take 12) = (N.drop on).take 12 ++ [0#8, 0#8, 0#8, 1#8] := rfl
  have hl1 : (ctr1 ((N.drop on).take 12)).length = 16 := by rw [h0]; simp; omega
  have hk1 : kFit (ctr1 ((N.drop on).take 12)) W nr := ⟨hl1, hW, hR, hR2⟩
  have hk0 : kFit [0#8, 0#8, 0#8, 0#8, 0#8, 0#8, 0#8, 0#8, 0#8, 0#8, 0#8, 0#8, 0#8, 0#8, 0#8, 0#8] W nr := ⟨rfl, hW, hR, hR2⟩
  have hz : zero16 = [0#8, 0#8, 0#8, 0#8, 0#8, 0#8, 0#8, 0#8, 0#8, 0#8, 0#8, 0#8, 0#8, 0#8, 0#8, 0#8] := rfl
  repeat (first
    | rw [run_ops0]
    | rw [run_seq]
    | rw [run_region]
    | rw [run_block]
    | rw [run_blk]
    | rw [run_skip]
    | (apply run_go rfl; focus (intro L K hK; simp [-List.reduceReplicate, -List.getD_eq_getElem?_getD, tab22, ty22, tab23, ty23, tab25, ty25, tab105, ty105, tab103, ty103, tab5, ty5, tab3, ty3, ntmps70, hnl]; (repeat' apply And.intro); all_goals first | exact hK | omega)))
  rw [← h0]
  generalize hNN : ctr1 ((N.drop on).take 12) = c1 at hl1 hk1 ⊢
  have hx1 := rounds_len c1 W nr (nr - 1)
  have hx0 := rounds_len [0#8, 0#8, 0#8, 0#8, 0#8, 0#8, 0#8, 0#8, 0#8, 0#8, 0#8, 0#8, 0#8, 0#8, 0#8, 0#8] W nr (nr - 1)
  rw [hl1] at hx1
  replace hx0 : (rounds [0#8, 0#8, 0#8, 0#8, 0#8, 0#8, 0#8, 0#8, 0#8, 0#8, 0#8, 0#8, 0#8, 0#8, 0#8, 0#8] W nr (nr - 1)).length = 16 := hx0
  obtain ⟨X, hX⟩ : ∃ X, rounds c1 W nr (nr - 1) = X := ⟨_, rfl⟩
  obtain ⟨H, hH⟩ : ∃ H, rounds [0#8, 0#8, 0#8, 0#8, 0#8, 0#8, 0#8, 0#8, 0#8, 0#8, 0#8, 0#8, 0#8, 0#8, 0#8, 0#8] W nr (nr - 1) = H := ⟨_, rfl⟩
  rw [hX] at hx1
  rw [hH] at hx0
  have hhl := hashG_len H ([] : B8) ((B.drop ob).take nb)
  repeat (first
    | rw [run_ops0]
    | rw [run_seq]
    | rw [run_region]
    | rw [run_block]
    | rw [run_blk]
    | rw [run_skip]
    | (apply run_go rfl; focus (intro L K hK; simp [-List.reduceReplicate, -List.getD_eq_getElem?_getD, tab22, ty22, tab23, ty23, tab25, ty25, tab105, ty105, tab103, ty103, tab5, ty5, tab3, ty3, ntmps70, hk1, hk0, hX, hH, hx1, hx0, hl1, hhl, hb, hcb, hmx, pureG, pureL, pureH, kOf, bytesOf]; (repeat' apply And.intro); all_goals first | exact hK | omega)))
  have htag : tagB W nr ((N.drop on).take 12) ([] : B8) ((B.drop ob).take nb) = tagX (hashG H ([] : B8) ((B.drop ob).take nb)) X 16 := by
    unfold tagB
    rw [hNN, hX, hz, hH]
  generalize hashG H ([] : B8) ((B.drop ob).take nb) = t0 at hhl htag ⊢
  rw [run_loop]
  refine ok_loop (X := Nat) (fun j => ⟨[(26, one (.i j)), (11, one (.ptr 6 0 0)), (10, one (.ptr 5 0 0))], [.ent ⟨false, 105, some 1, .st [⟨1, .s (.sl 1 0 nr cap 16)⟩]⟩, .ent ⟨false, 23, none, .a8 W⟩, .ent ⟨false, 5, none, .a8 N⟩, .ent ⟨false, 5, none, .a8 B⟩, .ent ⟨true, 23, some 16, .a8 c1⟩, .ent ⟨true, 23, some 16, .a8 X⟩, .ent ⟨true, 23, some 16, .a8 (tagX t0 X j)⟩]⟩) (fun j => j ≤ 16) (fun j => 16 - j) (fun j i L h => by have := hB.anc i L h; simp [smem] at this ⊢; omega) ⟨0, by omega, by simp [-List.reduceReplicate, -List.getD_eq_getElem?_getD, tagX]⟩ ?_
  intro j hj
  refine ok_run hB tabOK pureG_ok 100 ?_
  have htl := tagX_len t0 X j
  repeat (first
    | rw [run_ops0]
    | rw [run_seq]
    | rw [run_region]
    | rw [run_block]
    | rw [run_blk]
    | rw [run_skip]
    | (apply run_go rfl; focus (intro L K hK; simp [-List.reduceReplicate, -List.getD_eq_getElem?_getD, tab22, ty22, tab23, ty23, tab25, ty25, tab105, ty105, tab103, ty103, tab5, ty5, tab3, ty3, ntmps70]; (repeat' apply And.intro); all_goals first | exact hK | omega)))
  apply run_cond2 rfl
  · intro h1
    simp at h1
    repeat (first
    | rw [run_ops0]
    | rw [run_seq]
    | rw [run_region]
    | rw [run_block]
    | rw [run_blk]
    | rw [run_skip]
    | (apply run_go rfl; focus (intro L K hK; simp [-List.reduceReplicate, -List.getD_eq_getElem?_getD, tab22, ty22, tab23, ty23, tab25, ty25, tab105, ty105, tab103, ty103, tab5, ty5, tab3, ty3, ntmps70]; (repeat' apply And.intro); all_goals first | exact hK | omega)))
    rw [run_draw]
    refine ok_draw2 7 tabOK pureG_ok pureG_mono mixed (by decide +kernel) rfl rfl ?_
    repeat (first
    | (apply hd_go rfl rfl rfl rfl (Nat.le_of_ble_eq_true rfl); focus (intro K' hK; simp [-List.reduceReplicate, -List.getD_eq_getElem?_getD, tab22, ty22, tab23, ty23, tab25, ty25, tab105, ty105, tab103, ty103, tab5, ty5, tab3, ty3, ntmps70, htl, hhl, hx1]; (repeat' apply And.intro); all_goals first | exact hK | omega))
    | (apply hd_new rfl rfl rfl rfl (Nat.le_of_ble_eq_true rfl); focus (intro K' hK; simp [-List.reduceReplicate, -List.getD_eq_getElem?_getD, tab22, ty22, tab23, ty23, tab25, ty25, tab105, ty105, tab103, ty103, tab5, ty5, tab3, ty3, ntmps70, htl, hhl, hx1]; (repeat' apply And.intro); all_goals first | exact hK | omega)))
    refine hd_nil ?_
    simp only [List.map_nil, List.append_nil]
    refine ok_run hB tabOK pureG_ok 100 ?_
    repeat (first
    | rw [run_ops0]
    | rw [run_seq]
    | rw [run_region]
    | rw [run_block]
    | rw [run_blk]
    | rw [run_skip]
    | (apply run_go rfl; focus (intro L K hK; simp [-List.reduceReplicate, -List.getD_eq_getElem?_getD, tab22, ty22, tab23, ty23, tab25, ty25, tab105, ty105, tab103, ty103, tab5, ty5, tab3, ty3, ntmps70, htl, hhl]; (repeat' apply And.intro); all_goals first | exact hK | omega)))
    rw [run_back]
    refine ⟨j + 1, by omega, by omega, ?_⟩
    simp [-List.reduceReplicate, -List.getD_eq_getElem?_getD, tagX]
  · intro h1
    simp at h1
    obtain rfl : j = 16 := by omega
    apply run_exit2 rfl
    repeat (first
    | rw [run_ops0]
    | rw [run_seq]
    | rw [run_region]
    | rw [run_block]
    | rw [run_blk]
    | rw [run_skip]
    | (apply run_go rfl; focus (intro L K hK; simp [-List.reduceReplicate, -List.getD_eq_getElem?_getD, tab22, ty22, tab23, ty23, tab25, ty25, tab105, ty105, tab103, ty103, tab5, ty5, tab3, ty3, ntmps70, htl, hhl]; (repeat' apply And.intro); all_goals first | exact hK | omega)))
    rw [run_ret]
    simp [-List.reduceReplicate, -List.getD_eq_getElem?_getD, results70, f70, smem, tagE, hNN, hX, htag]
end Go.V
end
section
set_option linter.unusedSimpArgs false
set_option linter.unusedVariables false
set_option maxRecDepth 10000
namespace Go.V
open Go Go.Proofs.Try
/-- stream of nothing. -/
theorem spec69n (W N : B8) (nr cap on cn : Nat) (hN : on + 12 ≤ N.length) (hcn : 12 ≤ cn) :
    Spec prog 69 [one (.ptr 0 0 0), one (.sl 2 on 12 cn 1), one .snil] [.ent ⟨false, 105, some 1, .st [⟨1, .s (.sl 1 0 nr cap 16)⟩]⟩, .ent ⟨false, 23, none, .a8 W⟩, .ent ⟨false, 5, none, .a8 N⟩] [] (fun r m => r = one (.sl 3 0 0 0 1) ∧ m = [.ent ⟨false, 105, some 1, .st [⟨1, .s (.sl 1 0 nr cap 16)⟩]⟩, .ent ⟨false, 23, none, .a8 W⟩, .ent ⟨false, 5, none, .a8 N⟩] ++ [.ent ⟨true, 5, none, .a8 []⟩, .ent ⟨true, 23, some 16, .a8 (ctr0 ((N.drop on).take 12))⟩]) := by
  refine spec_of_body tabOK func69 rfl (Nat.le_of_ble_eq_true rfl) ?_
  intro E Q0 hB
  refine ok_run hB tabOK pureL_ok 100 ?_
  simp only [argSl]
  have hnl : ((N.drop on).take 12).length = 12 := by simp; omega
  have h0 : ctr0 ((N.drop on).take 12) = (N.drop on).take 12 ++ [0#8, 0#8, 0#8, 0#8] := rfl
  repeat (first
    | rw [run_ops0]
    | rw [run_seq]
    | rw [run_region]
    | rw [run_block]
    | rw [run_blk]
    | rw [run_skip]
    | (apply run_go rfl; focus (intro L K hK; simp [-List.reduceReplicate, -List.getD_eq_getElem?_getD, tab22, ty22, tab23, ty23, tab25, ty25, tab26, ty26, tab105, ty105, tab103, ty103, tab5, ty5, tab3, ty3, tab4, ty4, ntmps69, hnl]; (repeat' apply And.intro); all_goals first | exact hK | omega)))
  rw [run_loop]
  refine ok_loop (X := Unit) (fun _ => ⟨[(20, one (.i 0)), (19, one (.i 0)), (7, one (.sl 3 0 0 0 1))], [.ent ⟨false, 105, some 1, .st [⟨1, .s (.sl 1 0 nr cap 16)⟩]⟩, .ent ⟨false, 23, none, .a8 W⟩, .ent ⟨false, 5, none, .a8 N⟩, .ent ⟨true, 5, none, .a8 []⟩, .ent ⟨true, 23, some 16, .a8 (ctr0 ((N.drop on).take 12))⟩]⟩) (fun _ => True) (fun _ => 0) (fun j i L h => by have := hB.anc i L h; simp at this ⊢; omega) ⟨(), trivial, by simp [-List.reduceReplicate, -List.getD_eq_getElem?_getD, h0]⟩ ?_
  intro _ _
  refine ok_run hB tabOK pureL_ok 100 ?_
  repeat (first
    | rw [run_ops0]
    | rw [run_seq]
    | rw [run_region]
    | rw [run_block]
    | rw [run_blk]
    | rw [run_skip]
    | (apply run_go rfl; focus (intro L K hK; simp [-List.reduceReplicate, -List.getD_eq_getElem?_getD, tab22, ty22, tab23, ty23, tab25, ty25, tab26, ty26, tab105, ty105, tab103, ty103, tab5, ty5, tab3, ty3, tab4, ty4, ntmps69]; (repeat' apply And.intro); all_goals first | exact hK | omega)))
  apply run_cond2 rfl
  · intro h; cases h
  intro _
  apply run_exit2 rfl
  repeat (first
    | rw [run_ops0]
    | rw [run_seq]
    | rw [run_region]
    | rw [run_block]
    | rw [run_blk]
    | rw [run_skip]
    | (apply run_go rfl; focus (intro L K hK; simp [-List.reduceReplicate, -List.getD_eq_getElem?_getD, tab22, ty22, tab23, ty23, tab25, ty25, tab26, ty26, tab105, ty105, tab103, ty103, tab5, ty5, tab3, ty3, tab4, ty4, ntmps69]; (repeat' apply And.intro); all_goals first | exact hK | omega)))
  rw [run_ret]
  simp [-List.reduceReplicate, -List.getD_eq_getElem?_getD, results69, f69]
theorem spec28 (W N : B8) (nr cap on cn : Nat) (D B : B8) (oa na ca ob nb cb : Nat) (ha : oa + na ≤ D.length) (hca : na ≤ ca) (hma : na ≤ 140737488355328) (hb : ob + nb ≤ B.length) (hcb : nb ≤ cb) (hmx : nb ≤ 1000000000) (hW : 16 * nr ≤ W.length) (hR : 0 < nr) (hR2 : nr < 1000) (hN : on + 12 ≤ N.length) (hcn : 12 ≤ cn) :
    Spec prog 28 [one (.ptr 0 0 0), one (.sl 2 on 12 cn 1), one (.sl 4 oa na ca 1), one (.sl 3 ob nb cb 1)] (smem nr cap W N B ++ [.ent ⟨false, 5, none, .a8 D⟩]) [] (fun r m => ∃ cap', nb + 16 ≤ cap' ∧ r = .tup [.s (.sl 5 0 (nb + 16) cap' 1), .s (.i 0)] ∧ m = smem nr cap W N B ++ [.ent ⟨false, 5, none, .a8 D⟩] ++ (([⟨true, 5, none, .a8 ((stO W nr ((N.drop on).take 12) ((B.drop ob).take nb) nb) ++ tagB W nr ((N.drop on).take 12) ((D.drop oa).take na) (stO W nr ((N.drop on).take 12) ((B.drop ob).take nb) nb))⟩, ⟨true, 23, some 16, .a8 (stC ((N.drop on).take 12) nb)⟩] : List Ent) ++ tagE W nr ((N.drop on).take 12) ((D.drop oa).take na) (stO W nr ((N.drop on).take 12) ((B.drop ob).take nb) nb)).map .ent) := by
  refine spec_of_body tabOK func28 rfl (Nat.le_of_ble_eq_true rfl) ?_
  intro E Q0 hB
  refine ok_run hB tabOK pureL_ok 100 ?_
  simp only [argSl, smem, List.cons_append, List.nil_append]
  have hnl : ((N.drop on).take 12).length = 12 := by simp; omega
  have hbl : ((B.drop ob).take nb).length = nb := by simp; omega
  have hsl : (stO W nr ((N.drop on).take 12) ((B.drop ob).take nb) nb).length = nb := by rw [stO_len _ _ _ _ _ (by omega), hbl]
  obtain ⟨S5, hS5⟩ : ∃ S5, stO W nr ((N.drop on).take 12) ((B.drop ob).take nb) nb = S5 := ⟨_, rfl⟩
  rw [hS5] at hsl
  have hs0 : (S5.drop 0).take nb = S5 := by rw [List.drop_zero]; exact List.take_of_length_le (by omega)
  repeat (first
    | rw [run_ops0]
    | rw [run_seq]
    | rw [run_region]
    | rw [run_block]
    | rw [run_blk]
    | rw [run_skip]
    | (apply run_go rfl; focus (intro L K hK; simp [-List.reduceReplicate, -List.getD_eq_getElem?_getD, tab22, ty22, tab23, ty23, tab25, ty25, tab26, ty26, tab105, ty105, tab103, ty103, tab5, ty5, tab3, ty3, tab4, ty4, ntmps28]; (repeat' apply And.intro); all_goals first | exact hK | omega)))
  apply run_guard rfl rfl rfl rfl
  · intro _
    (apply Exists.intro; apply And.intro; focus (intro L K hK; simp [-List.reduceReplicate, -List.getD_eq_getElem?_getD, tab22, ty22, tab23, ty23, tab25, ty25, tab26, ty26, tab105, ty105, tab103, ty103, tab5, ty5, tab3, ty3, tab4, ty4, ntmps28]; (repeat' apply And.intro); all_goals first | exact hK | omega))
    apply run_guard rfl rfl rfl rfl
    · intro _
      (apply Exists.intro; apply And.intro; focus (intro L K hK; simp [-List.reduceReplicate, -List.getD_eq_getElem?_getD, tab22, ty22, tab23, ty23, tab25, ty25, tab26, ty26, tab105, ty105, tab103, ty103, tab5, ty5, tab3, ty3, tab4, ty4, ntmps28]; (repeat' apply And.intro); all_goals first | exact hK | omega))
      apply run_guard rfl rfl rfl rfl
      · intro _
        (apply Exists.intro; apply And.intro; focus (intro L K hK; simp [-List.reduceReplicate, -List.getD_eq_getElem?_getD, tab22, ty22, tab23, ty23, tab25, ty25, tab26, ty26, tab105, ty105, tab103, ty103, tab5, ty5, tab3, ty3, tab4, ty4, ntmps28]; (repeat' apply And.intro); all_goals first | exact hK | omega))
        repeat (first
    | rw [run_ops0]
    | rw [run_seq]
    | rw [run_region]
    | rw [run_block]
    | rw [run_blk]
    | rw [run_skip]
    | (apply run_go rfl; focus (intro L K hK; simp [-List.reduceReplicate, -List.getD_eq_getElem?_getD, tab22, ty22, tab23, ty23, tab25, ty25, tab26, ty26, tab105, ty105, tab103, ty103, tab5, ty5, tab3, ty3, tab4, ty4, ntmps28]; (repeat' apply And.intro); all_goals first | exact hK | omega)))
        apply run_cond2 rfl
        · intro h; first | cases h | (simp at h; done)
        intro _
        repeat (first
    | rw [run_ops0]
    | rw [run_seq]
    | rw [run_region]
    | rw [run_block]
    | rw [run_blk]
    | rw [run_skip]
    | (apply run_go rfl; focus (intro L K hK; simp [-List.reduceReplicate, -List.getD_eq_getElem?_getD, tab22, ty22, tab23, ty23, tab25, ty25, tab26, ty26, tab105, ty105, tab103, ty103, tab5, ty5, tab3, ty3, tab4, ty4, ntmps28]; (repeat' apply And.intro); all_goals first | exact hK | omega)))
        refine run_call rfl rfl rfl rfl ?_
        refine ok_call [0, 1, 2, 3] rfl rfl ⟨f69, func69, nofun, by decide⟩ (spec69 W N B nr cap on cn ob nb cb hW hR hR2 hN hcn hb hcb (by omega)) trivial (by simp) (by simp [smem, matchM, ix, renA, renSeg, renR, renS, belA, belR, belS, A.len, segLen]) rfl rfl (Nat.le_of_ble_eq_true rfl) ?_
        rintro sv m' ⟨rfl, rfl⟩ _
        simp only [smem, tagE, afterM, putM, renMk, renA, renSeg, renR, renS, renV, ix, St.put, List.map_cons, List.map_nil, List.drop, List.length_cons, List.length_nil, List.cons_append, List.nil_append, one]
        simp [-List.reduceReplicate, hS5, hs0, hsl]
        refine ok_run hB tabOK pureL_ok 100 ?_
        repeat (first
    | rw [run_ops0]
    | rw [run_seq]
    | rw [run_region]
    | rw [run_block]
    | rw [run_blk]
    | rw [run_skip]
    | (apply run_go rfl; focus (intro L K hK; simp [-List.reduceReplicate, -List.getD_eq_getElem?_getD, tab22, ty22, tab23, ty23, tab25, ty25, tab26, ty26, tab105, ty105, tab103, ty103, tab5, ty5, tab3, ty3, tab4, ty4, ntmps28]; (repeat' apply And.intro); all_goals first | exact hK | omega)))
        refine run_call rfl rfl rfl rfl ?_
        refine ok_call [0, 1, 2, 5, 4] rfl rfl ⟨f70, func70, nofun, by decide⟩ (spec70 W N S5 nr cap on cn 0 nb nb D oa na ca ha hca hma hW hR hR2 hN hcn (by omega) (Nat.le_refl _) (by omega)) trivial (by simp) (by simp [smem, matchM, ix, renA, renSeg, renR, renS, belA, belR, belS, A.len, segLen, hS5, hs0, hsl]) rfl rfl (Nat.le_of_ble_eq_true rfl) ?_
        rintro sv m' ⟨rfl, rfl⟩ _
        simp only [smem, tagE, afterM, putM, renMk, renA, renSeg, renR, renS, renV, ix, St.put, List.map_cons, List.map_nil, List.drop, List.length_cons, List.length_nil, List.cons_append, List.nil_append, one]
        simp [-List.reduceReplicate, hS5, hs0, hsl]
        refine ok_run hB tabOK pureL_ok 100 ?_
        have htl : ∀ a b, (tagB W nr ((N.drop on).take 12) a b).length = 16 := fun a b => by unfold tagB; rw [tagX_len, hashG_len]
        have htt : ∀ a b, (tagB W nr ((N.drop on).take 12) a b).take 16 = tagB W nr ((N.drop on).take 12) a b := fun a b => List.take_of_length_le (by rw [htl]; omega)
        repeat (first
    | rw [run_ops0]
    | rw [run_seq]
    | rw [run_region]
    | rw [run_block]
    | rw [run_blk]
    | rw [run_skip]
    | (apply run_go rfl; focus (intro L K hK; simp [-List.reduceReplicate, -List.getD_eq_getElem?_getD, tab22, ty22, tab23, ty23, tab25, ty25, tab26, ty26, tab105, ty105, tab103, ty103, tab5, ty5, tab3, ty3, tab4, ty4, ntmps28]; (repeat' apply And.intro); all_goals first | exact hK | omega)))
        (apply run_app rfl; focus (intro L K hK; simp [-List.reduceReplicate, -List.getD_eq_getElem?_getD, tab22, ty22, tab23, ty23, tab25, ty25, tab26, ty26, tab105, ty105, tab103, ty103, tab5, ty5, tab3, ty3, tab4, ty4, ntmps28, htl, htt, smem, hS5, hs0, hsl]; (repeat' apply And.intro); all_goals first | exact hK | omega | (intro cap hcap; exact hK cap hcap)))
        intro cap2 hcap2
        repeat (first
    | rw [run_ops0]
    | rw [run_seq]
    | rw [run_region]
    | rw [run_block]
    | rw [run_blk]
    | rw [run_skip]
    | (apply run_go rfl; focus (intro L K hK; simp [-List.reduceReplicate, -List.getD_eq_getElem?_getD, tab22, ty22, tab23, ty23, tab25, ty25, tab26, ty26, tab105, ty105, tab103, ty103, tab5, ty5, tab3, ty3, tab4, ty4, ntmps28, smem]; (repeat' apply And.intro); all_goals first | exact hK | omega)))
        rw [run_ret]
        simp [-List.reduceReplicate, -List.getD_eq_getElem?_getD, results28, f28, smem, tagE, hS5, hs0, hsl]
        exact ⟨cap2, hcap2, rfl, by rw [show S5.take nb = S5 from List.take_of_length_le (by omega)]⟩
      · intro h; first | cases h | (simp at h; done)
    · intro h; first | cases h | (simp at h; done)
  · intro h; first | cases h | (simp at h; done)
theorem spec28n (W N : B8) (nr cap on cn : Nat) (hW : 16 * nr ≤ W.length) (hR : 0 < nr) (hR2 : nr < 1000) (hN : on + 12 ≤ N.length) (hcn : 12 ≤ cn) :
    Spec prog 28 [one (.ptr 0 0 0), one (.sl 2 on 12 cn 1), one .snil, one .snil] ([.ent ⟨false, 105, some 1, .st [⟨1, .s (.sl 1 0 nr cap 16)⟩]⟩, .ent ⟨false, 23, none, .a8 W⟩, .ent ⟨false, 5, none, .a8 N⟩]) [] (fun r m => ∃ cap', 0 + 16 ≤ cap' ∧ r = .tup [.s (.sl 3 0 (0 + 16) cap' 1), .s (.i 0)] ∧ m = [.ent ⟨false, 105, some 1, .st [⟨1, .s (.sl 1 0 nr cap 16)⟩]⟩, .ent ⟨false, 23, none, .a8 W⟩, .ent ⟨false, 5, none, .a8 N⟩] ++ (([⟨true, 5, none, .a8 (([] : B8) ++ tagB W nr ((N.drop on).take 12) ([] : B8) ([] : B8))⟩, ⟨true, 23, some 16, .a8 (ctr0 ((N.drop on).take 12))⟩] : List Ent) ++ tagE W nr ((N.drop on).take 12) ([] : B8) ([] : B8)).map .ent) := by
  refine spec_of_body tabOK func28 rfl (Nat.le_of_ble_eq_true rfl) ?_
  intro E Q0 hB
  refine ok_run hB tabOK pureL_ok 100 ?_
  simp only [argSl, smem, List.cons_append, List.nil_append]
  have hnl : ((N.drop on).take 12).length = 12 := by simp; omega
  repeat (first
    | rw [run_ops0]
    | rw [run_seq]
    | rw [run_region]
    | rw [run_block]
    | rw [run_blk]
    | rw [run_skip]
    | (apply run_go rfl; focus (intro L K hK; simp [-List.reduceReplicate, -List.getD_eq_getElem?_getD, tab22, ty22, tab23, ty23, tab25, ty25, tab26, ty26, tab105, ty105, tab103, ty103, tab5, ty5, tab3, ty3, tab4, ty4, ntmps28]; (repeat' apply And.intro); all_goals first | exact hK | omega)))
  apply run_guard rfl rfl rfl rfl
  · intro _
    (apply Exists.intro; apply And.intro; focus (intro L K hK; simp [-List.reduceReplicate, -List.getD_eq_getElem?_getD, tab22, ty22, tab23, ty23, tab25, ty25, tab26, ty26, tab105, ty105, tab103, ty103, tab5, ty5, tab3, ty3, tab4, ty4, ntmps28]; (repeat' apply And.intro); all_goals first | exact hK | omega))
    apply run_guard rfl rfl rfl rfl
    · intro _
      (apply Exists.intro; apply And.intro; focus (intro L K hK; simp [-List.reduceReplicate, -List.getD_eq_getElem?_getD, tab22, ty22, tab23, ty23, tab25, ty25, tab26, ty26, tab105, ty105, tab103, ty103, tab5, ty5, tab3, ty3, tab4, ty4, ntmps28]; (repeat' apply And.intro); all_goals first | exact hK | omega))
      apply run_guard rfl rfl rfl rfl
      · intro _
        (apply Exists.intro; apply And.intro; focus (intro L K hK; simp [-List.reduceReplicate, -List.getD_eq_getElem?_getD, tab22, ty22, tab23, ty23, tab25, ty25, tab26, ty26, tab105, ty105, tab103, ty103, tab5, ty5, tab3, ty3, tab4, ty4, ntmps28]; (repeat' apply And.intro); all_goals first | exact hK | omega))
        repeat (first
    | rw [run_ops0]
    | rw [run_seq]
    | rw [run_region]
    | rw [run_block]
    | rw [run_blk]
    | rw [run_skip]
    | (apply run_go rfl; focus (intro L K hK; simp [-List.reduceReplicate, -List.getD_eq_getElem?_getD, tab22, ty22, tab23, ty23, tab25, ty25, tab26, ty26, tab105, ty105, tab103, ty103, tab5, ty5, tab3, ty3, tab4, ty4, ntmps28]; (repeat' apply And.intro); all_goals first | exact hK | omega)))
        apply run_cond2 rfl
        · intro h; first | cases h | (simp at h; done)
        intro _
        repeat (first
    | rw [run_ops0]
    | rw [run_seq]
    | rw [run_region]
    | rw [run_block]
    | rw [run_blk]
    | rw [run_skip]
    | (apply run_go rfl; focus (intro L K hK; simp [-List.reduceReplicate, -List.getD_eq_getElem?_getD, tab22, ty22, tab23, ty23, tab25, ty25, tab26, ty26, tab105, ty105, tab103, ty103, tab5, ty5, tab3, ty3, tab4, ty4, ntmps28]; (repeat' apply And.intro); all_goals first | exact hK | omega)))
        refine run_call rfl rfl rfl rfl ?_
        refine ok_call [0, 1, 2] rfl rfl ⟨f69, func69, nofun, by decide⟩ (spec69n W N nr cap on cn hN hcn) trivial (by simp) (by simp [smem, matchM, ix, renA, renSeg, renR, renS, belA, belR, belS, A.len, segLen]) rfl rfl (Nat.le_of_ble_eq_true rfl) ?_
        rintro sv m' ⟨rfl, rfl⟩ _
        simp only [smem, tagE, afterM, putM, renMk, renA, renSeg, renR, renS, renV, ix, St.put, List.map_cons, List.map_nil, List.drop, List.length_cons, List.length_nil, List.cons_append, List.nil_append, one]
        simp [-List.reduceReplicate]
        refine ok_run hB tabOK pureL_ok 100 ?_
        repeat (first
    | rw [run_ops0]
    | rw [run_seq]
    | rw [run_region]
    | rw [run_block]
    | rw [run_blk]
    | rw [run_skip]
    | (apply run_go rfl; focus (intro L K hK; simp [-List.reduceReplicate, -List.getD_eq_getElem?_getD, tab22, ty22, tab23, ty23, tab25, ty25, tab26, ty26, tab105, ty105, tab103, ty103, tab5, ty5, tab3, ty3, tab4, ty4, ntmps28]; (repeat' apply And.intro); all_goals first | exact hK | omega)))
        refine run_call rfl rfl rfl rfl ?_
        refine ok_call [0, 1, 2, 3] rfl rfl ⟨f70, func70, nofun, by decide⟩ (spec70n W N [] nr cap on cn 0 0 0 hW hR hR2 hN hcn (Nat.le_refl _) (Nat.le_refl _) (by omega)) trivial (by simp) (by simp [smem, matchM, ix, renA, renSeg, renR, renS, belA, belR, belS, A.len, segLen]) rfl rfl (Nat.le_of_ble_eq_true rfl) ?_
        rintro sv m' ⟨rfl, rfl⟩ _
        simp only [smem, tagE, afterM, putM, renMk, renA, renSeg, renR, renS, renV, ix, St.put, List.map_cons, List.map_nil, List.drop, List.length_cons, List.length_nil, List.cons_append, List.nil_append, one]
        simp [-List.reduceReplicate]
        refine ok_run hB tabOK pureL_ok 100 ?_
        have htl : ∀ a b, (tagB W nr ((N.drop on).take 12) a b).length = 16 := fun a b => by unfold tagB; rw [tagX_len, hashG_len]
        have htt : ∀ a b, (tagB W nr ((N.drop on).take 12) a b).take 16 = tagB W nr ((N.drop on).take 12) a b := fun a b => List.take_of_length_le (by rw [htl]; omega)
        repeat (first
    | rw [run_ops0]
    | rw [run_seq]
    | rw [run_region]
    | rw [run_block]
    | rw [run_blk]
    | rw [run_skip]
    | (apply run_go rfl; focus (intro L K hK; simp [-List.reduceReplicate, -List.getD_eq_getElem?_getD, tab22, ty22, tab23, ty23, tab25, ty25, tab26, ty26, tab105, ty105, tab103, ty103, tab5, ty5, tab3, ty3, tab4, ty4, ntmps28]; (repeat' apply And.intro); all_goals first | exact hK | omega)))
        (apply run_app rfl; focus (intro L K hK; simp [-List.reduceReplicate, -List.getD_eq_getElem?_getD, tab22, ty22, tab23, ty23, tab25, ty25, tab26, ty26, tab105, ty105, tab103, ty103, tab5, ty5, tab3, ty3, tab4, ty4, ntmps28, htl, htt, smem]; (repeat' apply And.intro); all_goals first | exact hK | omega | (intro cap hcap; exact hK cap hcap)))
        intro cap2 hcap2
        repeat (first
    | rw [run_ops0]
    | rw [run_seq]
    | rw [run_region]
    | rw [run_block]
    | rw [run_blk]
    | rw [run_skip]
    | (apply run_go rfl; focus (intro L K hK; simp [-List.reduceReplicate, -List.getD_eq_getElem?_getD, tab22, ty22, tab23, ty23, tab25, ty25, tab26, ty26, tab105, ty105, tab103, ty103, tab5, ty5, tab3, ty3, tab4, ty4, ntmps28, smem]; (repeat' apply And.intro); all_goals first | exact hK | omega)))
        rw [run_ret]
        simp [-List.reduceReplicate, -List.getD_eq_getElem?_getD, results28, f28, smem, tagE]
        omega
      · intro h; first | cases h | (simp at h; done)
    · intro h; first | cases h | (simp at h; done)
  · intro h; first | cases h | (simp at h; done)
end Go.V
end
section
set_option linter.unusedSimpArgs false
set_option linter.unusedVariables false
set_option maxRecDepth 10000
namespace Go.V
open Go Go.Proofs.Try
/-- A block's bytes. -/
def datOf (m : Mem) (id : Nat) : Option B8 := match m[id]? with
  | some (.ent e) => (match e.c with
    | .a8 B => some B
    | _ => none)
  | _ => none
theorem datOf_get {m : Mem} {id : Nat} {B : B8} (h : datOf m id = some B) : ∃ e : Ent, m[id]? = some (.ent e) ∧ e.c = .a8 B := by
  unfold datOf at h
  split at h
  · split at h
    · cases h
      exact ⟨_, by assumption, by assumption⟩
    · cases h
  · cases h
theorem datOf_sub {m m' : Mem} {id : Nat} {B : B8} (hs : Sub m m') (h : datOf m id = some B) : datOf m' id = some B := by
  obtain ⟨e, h1, h2⟩ := datOf_get h
  unfold datOf
  simp only [hs _ _ h1, h2]
/-- Keys, nonces and bytes as they may be handed to tag. -/
def tFit (W N B : B8) (nr on cn ob nb cb : Nat) : Prop := 16 * nr ≤ W.length ∧ 0 < nr ∧ nr < 1000 ∧ on + 12 ≤ N.length ∧ 12 ≤ cn ∧ ob + nb ≤ B.length ∧ nb ≤ cb ∧ nb ≤ 140737488355328
def aFit (D : B8) (oa na ca : Nat) : Prop := oa + na ≤ D.length ∧ na ≤ ca ∧ na ≤ 140737488355328
open Classical in
noncomputable def nuT : New := fun m f l nid => match f, l with
  | 70, [.one (.s (.ptr id 0 0)), .one (.s (.sl iN on 12 cn 1)), .one (.s .snil), .one (.s (.sl iS ob nb cb 1))] => (match kOf m id, datOf m iN, datOf m iS with
    | some (j, nr, _, W), some N, some B => if tFit W N B nr on cn ob nb cb ∧ [id, j, iN, iS].Nodup then some (one (.sl (nid + 2) 0 16 16 1), tagE W nr ((N.drop on).take 12) [] ((B.drop ob).take nb)) else none
    | _, _, _ => none)
  | 70, [.one (.s (.ptr id 0 0)), .one (.s (.sl iN on 12 cn 1)), .one (.s (.sl iA oa na ca 1)), .one (.s (.sl iS ob nb cb 1))] => (match kOf m id, datOf m iN, datOf m iS, datOf m iA with
    | some (j, nr, _, W), some N, some B, some D => if tFit W N B nr on cn ob nb cb ∧ aFit D oa na ca ∧ [id, j, iN, iS, iA].Nodup then some (one (.sl (nid + 2) 0 16 16 1), tagE W nr ((N.drop on).take 12) ((D.drop oa).take na) ((B.drop ob).take nb)) else none
    | _, _, _, _ => none)
  | _, _ => none
theorem nuT_sub : NewSub nuT := by
  intro m m' f l nid r hs h
  unfold nuT at h ⊢
  split at h
  · split at h
    · rename_i h1 h2 h3
      simp only [kOf_sub hs h1, datOf_sub hs h2, datOf_sub hs h3]
      exact h
    · cases h
  · split at h
    · rename_i h1 h2 h3 h4
      simp only [kOf_sub hs h1, datOf_sub hs h2, datOf_sub hs h3, datOf_sub hs h4]
      exact h
    · cases h
  · cases h
theorem nuT_ok : NewOK prog nuT := by
  intro m f svs nid sv es h E w ℓ vs hm hh hd
  unfold nuT at h
  split at h
  · rename_i id iN on cn iS ob nb cb
    split at h
    · rename_i j nr cap W N B hk hN hB
      split at h
      · rename_i hc
        obtain ⟨⟨a1, a2, a3, a4, a5, a6, a7, a8⟩, hnd⟩ := hc
        cases h
        obtain ⟨e, e2, k1, k2, k3, k4⟩ := kOf_get hk
        obtain ⟨eN, n1, n2⟩ := datOf_get hN
        obtain ⟨eB, b1, b2⟩ := datOf_get hB
        refine ⟨⟨f70, func70, nofun, by decide⟩, ?_⟩
        have hu := new_use (spec70n W N B nr cap on cn ob nb cb a1 a2 a3 a4 a5 a6 a7 a8) (by simp [smem]) hm [id, j, iN, iS] hnd (by simp [smem, matchM, ix, renA, renSeg, renR, renS, belA, belR, belS, A.len, segLen, k1, k2, k3, k4, n1, n2, b1, b2]) rfl (by simpa [renV, renA, renS, ix, one] using hd) (nid := nid) (by simpa [tagE] using hh)
        refine hu.mono ?_
        rintro e' w' ⟨v, ℓ', g1, g2, g3, g4⟩
        refine ⟨v, ℓ', g1, g2, by simpa [renV, renA, renS, ix, one] using g3, ?_⟩
        simpa [tagE, renE, renA] using g4
      · cases h
    · cases h
  · rename_i id iN on cn iA oa na ca iS ob nb cb
    split at h
    · rename_i j nr cap W N B D hk hN hB hD
      split at h
      · rename_i hc
        obtain ⟨⟨a1, a2, a3, a4, a5, a6, a7, a8⟩, ⟨c1, c2, c3⟩, hnd⟩ := hc
        cases h
        obtain ⟨e, e2, k1, k2, k3, k4⟩ := kOf_get hk
        obtain ⟨eN, n1, n2⟩ := datOf_get hN
        obtain ⟨eB, b1, b2⟩ := datOf_get hB
        obtain ⟨eD, d1, d2⟩ := datOf_get hD
        refine ⟨⟨f70, func70, nofun, by decide⟩, ?_⟩
        have hu := new_use (spec70 W N B nr cap on cn ob nb cb D oa na ca c1 c2 c3 a1 a2 a3 a4 a5 a6 a7 a8) (by simp [smem]) hm [id, j, iN, iS, iA] hnd (by simp [smem, matchM, ix, renA, renSeg, renR, renS, belA, belR, belS, A.len, segLen, k1, k2, k3, k4, n1, n2, b1, b2, d1, d2]) rfl (by simpa [renV, renA, renS, ix, one] using hd) (nid := nid) (by simpa [tagE] using hh)
        refine hu.mono ?_
        rintro e' w' ⟨v, ℓ', g1, g2, g3, g4⟩
        refine ⟨v, ℓ', g1, g2, by simpa [renV, renA, renS, ix, one] using g3, ?_⟩
        simpa [tagE, renE, renA] using g4
      · cases h
    · cases h
  · cases h
/-- Equal, over bytes in memory. -/
def pure71 : Pure := fun m f l => match f, l with
  | 71, [.one (.s (.sl i1 o1 n1 c1 1)), .one (.s (.sl i2 o2 n2 c2 1))] => (match datOf m i1, datOf m i2 with
    | some X, some Y => if (o1 + n1 ≤ X.length ∧ n1 ≤ c1 ∧ n1 ≤ 4611686018427387904) ∧ (o2 + n2 ≤ Y.length ∧ n2 ≤ c2) ∧ i1 ≠ i2 then some (one (.b (eqAns (X.drop o1) (Y.drop o2) n1 n2))) else none
    | _, _ => none)
  | _, _ => none
theorem pure71_sub : PureSub pure71 := by
  intro m m' f l v hs h
  unfold pure71 at h ⊢
  split at h
  · split at h
    · rename_i h1 h2
      simp only [datOf_sub hs h1, datOf_sub hs h2]
      exact h
    · cases h
  · cases h
theorem pure71_ok : PureOK prog pure71 := by
  intro m f svs sv h E w ℓ vs hm hd
  unfold pure71 at h
  split at h
  · rename_i i1 o1 n1 c1 i2 o2 n2 c2
    split at h
    · rename_i X Y hX hY
      split at h
      · rename_i hc
        obtain ⟨⟨a1, a2, a3⟩, ⟨b1, b2⟩, hne⟩ := hc
        cases h
        obtain ⟨eX, x1, x2⟩ := datOf_get hX
        obtain ⟨eY, y1, y2⟩ := datOf_get hY
        exact ⟨⟨f71, func71, nofun, by decide⟩, pure_use (spec71 X Y o1 n1 c1 o2 n2 c2 a1 b1 a2 b2 a3) (by simp) rfl hm [i1, i2] (by simp [hne]) (by simp [matchM, ix, renA, belA, x1, x2, y1, y2]) rfl (by simpa [renV, renA, renS, ix, one] using hd)⟩
      · cases h
    · cases h
  · cases h
noncomputable def pureQ : Pure := fun m f l => if f = 71 then pure71 m f l else pureG m f l
theorem pureQ_sub : PureSub pureQ := by
  intro m m' f l v hs h
  unfold pureQ at h ⊢
  split at h
  · rename_i hf; rw [if_pos hf]; exact pure71_sub m m' f l v hs h
  · rename_i hf; rw [if_neg hf]; exact pureG_sub m m' f l v hs h
theorem pureQ_ok : PureOK prog pureQ := by
  intro m f svs sv h
  unfold pureQ at h
  split at h
  · exact pure71_ok m f svs sv h
  · exact pureG_ok m f svs sv h
end Go.V
end
section
set_option linter.unusedSimpArgs false
set_option linter.unusedVariables false
set_option maxRecDepth 10000
namespace Go.V
open Go Go.Proofs.Try
theorem spec29S (W N B : B8) (nr cap on cn ob nb cb : Nat) (D : B8) (oa na ca : Nat) (ha : oa + na ≤ D.length) (hca : na ≤ ca) (hma : na ≤ 140737488355328) (hW : 16 * nr ≤ W.length) (hR : 0 < nr) (hR2 : nr < 1000) (hN : on + 12 ≤ N.length) (hcn : 12 ≤ cn) (hb : ob + nb ≤ B.length) (hcb : nb ≤ cb) (hmx : nb ≤ 1000000000) (hs : nb < 16) :
    Spec prog 29 [one (.ptr 0 0 0), one (.sl 2 on 12 cn 1), one (.sl 4 oa na ca 1), one (.sl 3 ob nb cb 1)] (smem nr cap W N B ++ [.ent ⟨false, 5, none, .a8 D⟩]) [] (fun r m => r = .tup [.s .snil, .s (.i 5)] ∧ m = smem nr cap W N B ++ [.ent ⟨false, 5, none, .a8 D⟩]) := by
  refine spec_of_body tabOK func29 rfl (Nat.le_of_ble_eq_true rfl) ?_
  intro E Q0 hB
  refine ok_run hB tabOK pureQ_ok 100 ?_
  simp only [argSl, smem, List.cons_append, List.nil_append]
  repeat (first
    | rw [run_ops0]
    | rw [run_seq]
    | rw [run_region]
    | rw [run_block]
    | rw [run_blk]
    | rw [run_skip]
    | (apply run_go rfl; focus (intro L K hK; simp [-List.reduceReplicate, -List.getD_eq_getElem?_getD, tab22, ty22, tab23, ty23, tab25, ty25, tab26, ty26, tab105, ty105, tab103, ty103, tab5, ty5, tab3, ty3, tab4, ty4, ntmps29]; (repeat' apply And.intro); all_goals first | exact hK | omega)))
  apply run_guard rfl rfl rfl rfl
  · intro _
    (apply Exists.intro; apply And.intro; focus (intro L K hK; simp [-List.reduceReplicate, -List.getD_eq_getElem?_getD, tab22, ty22, tab23, ty23, tab25, ty25, tab26, ty26, tab105, ty105, tab103, ty103, tab5, ty5, tab3, ty3, tab4, ty4, ntmps29]; (repeat' apply And.intro); all_goals first | exact hK | omega))
    apply run_guard rfl rfl rfl rfl
    · intro _
      (apply Exists.intro; apply And.intro; focus (intro L K hK; simp [-List.reduceReplicate, -List.getD_eq_getElem?_getD, tab22, ty22, tab23, ty23, tab25, ty25, tab26, ty26, tab105, ty105, tab103, ty103, tab5, ty5, tab3, ty3, tab4, ty4, ntmps29]; (repeat' apply And.intro); all_goals first | exact hK | omega))
      apply run_guard rfl rfl rfl rfl
      · intro _
        (apply Exists.intro; apply And.intro; focus (intro L K hK; simp [-List.reduceReplicate, -List.getD_eq_getElem?_getD, tab22, ty22, tab23, ty23, tab25, ty25, tab26, ty26, tab105, ty105, tab103, ty103, tab5, ty5, tab3, ty3, tab4, ty4, ntmps29]; (repeat' apply And.intro); all_goals first | exact hK | omega))
        repeat (first
    | rw [run_ops0]
    | rw [run_seq]
    | rw [run_region]
    | rw [run_block]
    | rw [run_blk]
    | rw [run_skip]
    | (apply run_go rfl; focus (intro L K hK; simp [-List.reduceReplicate, -List.getD_eq_getElem?_getD, tab22, ty22, tab23, ty23, tab25, ty25, tab26, ty26, tab105, ty105, tab103, ty103, tab5, ty5, tab3, ty3, tab4, ty4, ntmps29]; (repeat' apply And.intro); all_goals first | exact hK | omega)))
        apply run_cond2 rfl
        · intro h; first | cases h | (simp at h; done)
        intro _
        repeat (first
    | rw [run_ops0]
    | rw [run_seq]
    | rw [run_region]
    | rw [run_block]
    | rw [run_blk]
    | rw [run_skip]
    | (apply run_go rfl; focus (intro L K hK; simp [-List.reduceReplicate, -List.getD_eq_getElem?_getD, tab22, ty22, tab23, ty23, tab25, ty25, tab26, ty26, tab105, ty105, tab103, ty103, tab5, ty5, tab3, ty3, tab4, ty4, ntmps29]; (repeat' apply And.intro); all_goals first | exact hK | omega)))
        rw [run_draw]
        refine ok_draw5 15 [(13, [9])] [] tabOK pureQ_ok nuT_ok pureQ_sub nuT_sub mixed (by decide +kernel) rfl rfl ?_
        have hlt : (nb : Int) - 16 < 0 := by omega
        repeat (first
    | (apply h3_go rfl rfl rfl rfl rfl (Nat.le_of_ble_eq_true rfl) rfl; focus (intro K' hK; simp [-List.reduceReplicate, -List.getD_eq_getElem?_getD, viewM, visOf, memL, tab22, ty22, tab23, ty23, tab25, ty25, tab26, ty26, tab105, ty105, tab103, ty103, tab5, ty5, tab3, ty3, tab4, ty4, hlt]; (repeat' apply And.intro); all_goals first | exact hK | omega))
    | (apply h3_new rfl rfl rfl rfl rfl (Nat.le_of_ble_eq_true rfl) rfl; focus (intro K' hK; simp [-List.reduceReplicate, -List.getD_eq_getElem?_getD, viewM, visOf, memL, tab22, ty22, tab23, ty23, tab25, ty25, tab26, ty26, tab105, ty105, tab103, ty103, tab5, ty5, tab3, ty3, tab4, ty4, hlt]; (repeat' apply And.intro); all_goals first | exact hK | omega)))
        apply h3_guard rfl rfl rfl rfl rfl (Nat.le_of_ble_eq_true rfl) rfl
        · intro h; first | cases h | (simp [hs] at h; done) | (simp at h; omega)
        intro _
        apply h3_guard rfl rfl rfl rfl rfl (Nat.le_of_ble_eq_true rfl) rfl
        · intro h; first | cases h | (simp [hs] at h; done) | (simp at h; omega)
        intro _
        apply h3_guard rfl rfl rfl rfl rfl (Nat.le_of_ble_eq_true rfl) rfl
        · intro h; first | cases h | (simp [hs] at h; done) | (simp at h; omega)
        intro _
        apply h3_guard rfl rfl rfl rfl rfl (Nat.le_of_ble_eq_true rfl) rfl
        · intro h; first | cases h | (simp [hs] at h; done) | (simp at h; omega)
        intro _
        apply h3_guard rfl rfl rfl rfl rfl (Nat.le_of_ble_eq_true rfl) rfl
        · intro h; first | cases h | (simp [hs] at h; done) | (simp at h; omega)
        intro _
        apply h3_guard rfl rfl rfl rfl rfl (Nat.le_of_ble_eq_true rfl) rfl
        · intro h; first | cases h | (simp [hs] at h; done) | (simp at h; omega)
        intro _
        apply h3_guard rfl rfl rfl rfl rfl (Nat.le_of_ble_eq_true rfl) rfl
        · intro h; first | cases h | (simp [hs] at h; done) | (simp at h; omega)
        intro _
        apply h3_guard rfl rfl rfl rfl rfl (Nat.le_of_ble_eq_true rfl) rfl
        · intro h; first | cases h | (simp [hs] at h; done) | (simp at h; omega)
        intro _
        apply h3_guard rfl rfl rfl rfl rfl (Nat.le_of_ble_eq_true rfl) rfl
        · intro h; first | cases h | (simp [hs] at h; done) | (simp at h; omega)
        intro _
        apply h3_guard rfl rfl rfl rfl rfl (Nat.le_of_ble_eq_true rfl) rfl
        · intro h; first | cases h | (simp [hs] at h; done) | (simp at h; omega)
        intro _
        apply h3_guard rfl rfl rfl rfl rfl (Nat.le_of_ble_eq_true rfl) rfl
        · intro h; first | cases h | (simp [hs] at h; done) | (simp at h; omega)
        intro _
        apply h3_guard rfl rfl rfl rfl rfl (Nat.le_of_ble_eq_true rfl) rfl
        · intro h; first | cases h | (simp [hs] at h; done) | (simp at h; omega)
        intro _
        refine h3_nil ?_
        simp [finL, contL, contAt, stT, List.range, List.range.loop, -List.reduceReplicate]
        refine ok_run hB tabOK pureQ_ok 100 ?_
        repeat (first
    | rw [run_ops0]
    | rw [run_seq]
    | rw [run_region]
    | rw [run_block]
    | rw [run_blk]
    | rw [run_skip]
    | (apply run_go rfl; focus (intro L K hK; simp [-List.reduceReplicate, -List.getD_eq_getElem?_getD, tab22, ty22, tab23, ty23, tab25, ty25, tab26, ty26, tab105, ty105, tab103, ty103, tab5, ty5, tab3, ty3, tab4, ty4, ntmps29, hs]; (repeat' apply And.intro); all_goals first | exact hK | omega)))
        apply run_cond2 rfl
        · intro _
          repeat (first
    | rw [run_ops0]
    | rw [run_seq]
    | rw [run_region]
    | rw [run_block]
    | rw [run_blk]
    | rw [run_skip]
    | (apply run_go rfl; focus (intro L K hK; simp [-List.reduceReplicate, -List.getD_eq_getElem?_getD, tab22, ty22, tab23, ty23, tab25, ty25, tab26, ty26, tab105, ty105, tab103, ty103, tab5, ty5, tab3, ty3, tab4, ty4, ntmps29]; (repeat' apply And.intro); all_goals first | exact hK | omega)))
          rw [run_ret]
          simp [-List.reduceReplicate, -List.getD_eq_getElem?_getD, results29, f29, smem]
        · intro h; first | cases h | (simp [hs] at h; done) | (simp at h; omega)
      · intro h; first | cases h | (simp at h; done)
    · intro h; first | cases h | (simp at h; done)
  · intro h; first | cases h | (simp at h; done)
theorem spec29B (W N B : B8) (nr cap on cn ob n cb : Nat) (D : B8) (oa na ca : Nat) (ha : oa + na ≤ D.length) (hca : na ≤ ca) (hma : na ≤ 140737488355328) (hW : 16 * nr ≤ W.length) (hR : 0 < nr) (hR2 : nr < 1000) (hN : on + 12 ≤ N.length) (hcn : 12 ≤ cn) (hb : ob + (n + 16) ≤ B.length) (hcb : (n + 16) ≤ cb) (hmx : (n + 16) ≤ 1000000000) (he : eqAns (tagB W nr ((N.drop on).take 12) ((D.drop oa).take na) ((B.drop ob).take n)) (B.drop (ob + n)) 16 16 = false) :
    Spec prog 29 [one (.ptr 0 0 0), one (.sl 2 on 12 cn 1), one (.sl 4 oa na ca 1), one (.sl 3 ob (n + 16) cb 1)] (smem nr cap W N B ++ [.ent ⟨false, 5, none, .a8 D⟩]) [] (fun r m => r = .tup [.s .snil, .s (.i 5)] ∧ m = smem nr cap W N B ++ [.ent ⟨false, 5, none, .a8 D⟩] ++ (tagE W nr ((N.drop on).take 12) ((D.drop oa).take na) ((B.drop ob).take n)).map .ent) := by
  refine spec_of_body tabOK func29 rfl (Nat.le_of_ble_eq_true rfl) ?_
  intro E Q0 hB
  refine ok_run hB tabOK pureQ_ok 100 ?_
  simp only [argSl, smem, List.cons_append, List.nil_append]
  have hfa : aFit D oa na ca := ⟨ha, hca, hma⟩
  have hft : tFit W N B nr on cn ob n cb := ⟨hW, hR, hR2, hN, hcn, by omega, by omega, by omega⟩
  have hft2 : ((n : Int) + 16).toNat = n + 16 := by omega
  have hcb3 : (n : Int) + 16 ≤ ((cb - n : Nat) : Int) + (n : Int) := by omega
  obtain ⟨TG, hTG⟩ : ∃ TG, tagB W nr ((N.drop on).take 12) ((D.drop oa).take na) ((B.drop ob).take n) = TG := ⟨_, rfl⟩
  have htl : TG.length = 16 := by rw [← hTG]; unfold tagB; rw [tagX_len, hashG_len]
  rw [hTG] at he
  have ht0 := hTG
  have hcb2 : 16 ≤ cb - n := by omega
  have hB2 : ob + n + 16 ≤ B.length := by omega
  repeat (first
    | rw [run_ops0]
    | rw [run_seq]
    | rw [run_region]
    | rw [run_block]
    | rw [run_blk]
    | rw [run_skip]
    | (apply run_go rfl; focus (intro L K hK; simp [-List.reduceReplicate, -List.getD_eq_getElem?_getD, tab22, ty22, tab23, ty23, tab25, ty25, tab26, ty26, tab105, ty105, tab103, ty103, tab5, ty5, tab3, ty3, tab4, ty4, ntmps29]; (repeat' apply And.intro); all_goals first | exact hK | omega)))
  apply run_guard rfl rfl rfl rfl
  · intro _
    (apply Exists.intro; apply And.intro; focus (intro L K hK; simp [-List.reduceReplicate, -List.getD_eq_getElem?_getD, tab22, ty22, tab23, ty23, tab25, ty25, tab26, ty26, tab105, ty105, tab103, ty103, tab5, ty5, tab3, ty3, tab4, ty4, ntmps29]; (repeat' apply And.intro); all_goals first | exact hK | omega))
    apply run_guard rfl rfl rfl rfl
    · intro _
      (apply Exists.intro; apply And.intro; focus (intro L K hK; simp [-List.reduceReplicate, -List.getD_eq_getElem?_getD, tab22, ty22, tab23, ty23, tab25, ty25, tab26, ty26, tab105, ty105, tab103, ty103, tab5, ty5, tab3, ty3, tab4, ty4, ntmps29]; (repeat' apply And.intro); all_goals first | exact hK | omega))
      apply run_guard rfl rfl rfl rfl
      · intro _
        (apply Exists.intro; apply And.intro; focus (intro L K hK; simp [-List.reduceReplicate, -List.getD_eq_getElem?_getD, tab22, ty22, tab23, ty23, tab25, ty25, tab26, ty26, tab105, ty105, tab103, ty103, tab5, ty5, tab3, ty3, tab4, ty4, ntmps29]; (repeat' apply And.intro); all_goals first | exact hK | omega))
        repeat (first
    | rw [run_ops0]
    | rw [run_seq]
    | rw [run_region]
    | rw [run_block]
    | rw [run_blk]
    | rw [run_skip]
    | (apply run_go rfl; focus (intro L K hK; simp [-List.reduceReplicate, -List.getD_eq_getElem?_getD, tab22, ty22, tab23, ty23, tab25, ty25, tab26, ty26, tab105, ty105, tab103, ty103, tab5, ty5, tab3, ty3, tab4, ty4, ntmps29]; (repeat' apply And.intro); all_goals first | exact hK | omega)))
        apply run_cond2 rfl
        · intro h; first | cases h | (simp at h; done)
        intro _
        repeat (first
    | rw [run_ops0]
    | rw [run_seq]
    | rw [run_region]
    | rw [run_block]
    | rw [run_blk]
    | rw [run_skip]
    | (apply run_go rfl; focus (intro L K hK; simp [-List.reduceReplicate, -List.getD_eq_getElem?_getD, tab22, ty22, tab23, ty23, tab25, ty25, tab26, ty26, tab105, ty105, tab103, ty103, tab5, ty5, tab3, ty3, tab4, ty4, ntmps29]; (repeat' apply And.intro); all_goals first | exact hK | omega)))
        rw [run_draw]
        refine ok_draw5 15 [(13, [9])] [] tabOK pureQ_ok nuT_ok pureQ_sub nuT_sub mixed (by decide +kernel) rfl rfl ?_
        repeat (first
    | (apply h3_go rfl rfl rfl rfl rfl (Nat.le_of_ble_eq_true rfl) rfl; focus (intro K' hK; simp [-List.reduceReplicate, -List.getD_eq_getElem?_getD, viewM, visOf, memL, tab22, ty22, tab23, ty23, tab25, ty25, tab26, ty26, tab105, ty105, tab103, ty103, tab5, ty5, tab3, ty3, tab4, ty4, hft, hft2, hcb3, ht0, htl, he, hcb2, hB2, Nat.add_sub_cancel_left, nuT, kOf, datOf, pureQ, pure71, pureG, pureL, pureH, smem, tagE, hfa]; (repeat' apply And.intro); all_goals first | exact hK | omega))
    | (apply h3_new rfl rfl rfl rfl rfl (Nat.le_of_ble_eq_true rfl) rfl; focus (intro K' hK; simp [-List.reduceReplicate, -List.getD_eq_getElem?_getD, viewM, visOf, memL, tab22, ty22, tab23, ty23, tab25, ty25, tab26, ty26, tab105, ty105, tab103, ty103, tab5, ty5, tab3, ty3, tab4, ty4, hft, hft2, hcb3, ht0, htl, he, hcb2, hB2, Nat.add_sub_cancel_left, nuT, kOf, datOf, pureQ, pure71, pureG, pureL, pureH, smem, tagE, hfa]; (repeat' apply And.intro); all_goals first | exact hK | omega)))
        apply h3_guard rfl rfl rfl rfl rfl (Nat.le_of_ble_eq_true rfl) rfl
        · intro _
          (apply Exists.intro; apply Exists.intro; apply And.intro; focus (apply hop_go rfl rfl; intro K' hK; simp [-List.reduceReplicate, -List.getD_eq_getElem?_getD, viewM, visOf, memL, tab22, ty22, tab23, ty23, tab25, ty25, tab26, ty26, tab105, ty105, tab103, ty103, tab5, ty5, tab3, ty3, tab4, ty4, hft, hft2, hcb3, ht0, htl, he, hcb2, hB2, Nat.add_sub_cancel_left, nuT, kOf, datOf, pureQ, pure71, pureG, pureL, pureH, smem, tagE, hfa]; (repeat' apply And.intro); all_goals first | exact hK | omega))
          apply h3_guard rfl rfl rfl rfl rfl (Nat.le_of_ble_eq_true rfl) rfl
          · intro _
            (apply Exists.intro; apply Exists.intro; apply And.intro; focus (apply hop_go rfl rfl; intro K' hK; simp [-List.reduceReplicate, -List.getD_eq_getElem?_getD, viewM, visOf, memL, tab22, ty22, tab23, ty23, tab25, ty25, tab26, ty26, tab105, ty105, tab103, ty103, tab5, ty5, tab3, ty3, tab4, ty4, hft, hft2, hcb3, ht0, htl, he, hcb2, hB2, Nat.add_sub_cancel_left, nuT, kOf, datOf, pureQ, pure71, pureG, pureL, pureH, smem, tagE, hfa]; (repeat' apply And.intro); all_goals first | exact hK | omega))
            apply h3_guard rfl rfl rfl rfl rfl (Nat.le_of_ble_eq_true rfl) rfl
            · intro _
              (apply Exists.intro; apply Exists.intro; apply And.intro; focus (apply hop_go rfl rfl; intro K' hK; simp [-List.reduceReplicate, -List.getD_eq_getElem?_getD, viewM, visOf, memL, tab22, ty22, tab23, ty23, tab25, ty25, tab26, ty26, tab105, ty105, tab103, ty103, tab5, ty5, tab3, ty3, tab4, ty4, hft, hft2, hcb3, ht0, htl, he, hcb2, hB2, Nat.add_sub_cancel_left, nuT, kOf, datOf, pureQ, pure71, pureG, pureL, pureH, smem, tagE, hfa]; (repeat' apply And.intro); all_goals first | exact hK | omega))
              apply h3_guard rfl rfl rfl rfl rfl (Nat.le_of_ble_eq_true rfl) rfl
              · intro _
                (apply Exists.intro; apply Exists.intro; apply And.intro; focus (apply hop_go rfl rfl; intro K' hK; simp [-List.reduceReplicate, -List.getD_eq_getElem?_getD, viewM, visOf, memL, tab22, ty22, tab23, ty23, tab25, ty25, tab26, ty26, tab105, ty105, tab103, ty103, tab5, ty5, tab3, ty3, tab4, ty4, hft, hft2, hcb3, ht0, htl, he, hcb2, hB2, Nat.add_sub_cancel_left, nuT, kOf, datOf, pureQ, pure71, pureG, pureL, pureH, smem, tagE, hfa]; (repeat' apply And.intro); all_goals first | exact hK | omega))
                apply h3_guard rfl rfl rfl rfl rfl (Nat.le_of_ble_eq_true rfl) rfl
                · intro _
                  (apply Exists.intro; apply Exists.intro; apply And.intro; focus (apply hop_go rfl rfl; intro K' hK; simp [-List.reduceReplicate, -List.getD_eq_getElem?_getD, viewM, visOf, memL, tab22, ty22, tab23, ty23, tab25, ty25, tab26, ty26, tab105, ty105, tab103, ty103, tab5, ty5, tab3, ty3, tab4, ty4, hft, hft2, hcb3, ht0, htl, he, hcb2, hB2, Nat.add_sub_cancel_left, nuT, kOf, datOf, pureQ, pure71, pureG, pureL, pureH, smem, tagE, hfa]; (repeat' apply And.intro); all_goals first | exact hK | omega))
                  apply h3_guard rfl rfl rfl rfl rfl (Nat.le_of_ble_eq_true rfl) rfl
                  · intro _
                    (apply Exists.intro; apply Exists.intro; apply And.intro; focus (apply hop_go rfl rfl; intro K' hK; simp [-List.reduceReplicate, -List.getD_eq_getElem?_getD, viewM, visOf, memL, tab22, ty22, tab23, ty23, tab25, ty25, tab26, ty26, tab105, ty105, tab103, ty103, tab5, ty5, tab3, ty3, tab4, ty4, hft, hft2, hcb3, ht0, htl, he, hcb2, hB2, Nat.add_sub_cancel_left, nuT, kOf, datOf, pureQ, pure71, pureG, pureL, pureH, smem, tagE, hfa]; (repeat' apply And.intro); all_goals first | exact hK | omega))
                    apply h3_guard rfl rfl rfl rfl rfl (Nat.le_of_ble_eq_true rfl) rfl
                    · intro _
                      (apply Exists.intro; apply Exists.intro; apply And.intro; focus (apply hop_call; simp [newOf, -List.reduceReplicate, -List.getD_eq_getElem?_getD, viewM, visOf, memL, tab22, ty22, tab23, ty23, tab25, ty25, tab26, ty26, tab105, ty105, tab103, ty103, tab5, ty5, tab3, ty3, tab4, ty4, hft, hft2, hcb3, ht0, htl, he, hcb2, hB2, Nat.add_sub_cancel_left, nuT, kOf, datOf, pureQ, pure71, pureG, pureL, pureH, smem, tagE, hfa]; first | done | exact ⟨rfl, rfl⟩ | rfl))
                      apply h3_guard rfl rfl rfl rfl rfl (Nat.le_of_ble_eq_true rfl) rfl
                      · intro _
                        (apply Exists.intro; apply Exists.intro; apply And.intro; focus (apply hop_go rfl rfl; intro K' hK; simp [-List.reduceReplicate, -List.getD_eq_getElem?_getD, viewM, visOf, memL, tab22, ty22, tab23, ty23, tab25, ty25, tab26, ty26, tab105, ty105, tab103, ty103, tab5, ty5, tab3, ty3, tab4, ty4, hft, hft2, hcb3, ht0, htl, he, hcb2, hB2, Nat.add_sub_cancel_left, nuT, kOf, datOf, pureQ, pure71, pureG, pureL, pureH, smem, tagE, hfa]; (repeat' apply And.intro); all_goals first | exact hK | omega))
                        apply h3_guard rfl rfl rfl rfl rfl (Nat.le_of_ble_eq_true rfl) rfl
                        · intro _
                          (apply Exists.intro; apply Exists.intro; apply And.intro; focus (apply hop_go rfl rfl; intro K' hK; simp [-List.reduceReplicate, -List.getD_eq_getElem?_getD, viewM, visOf, memL, tab22, ty22, tab23, ty23, tab25, ty25, tab26, ty26, tab105, ty105, tab103, ty103, tab5, ty5, tab3, ty3, tab4, ty4, hft, hft2, hcb3, ht0, htl, he, hcb2, hB2, Nat.add_sub_cancel_left, nuT, kOf, datOf, pureQ, pure71, pureG, pureL, pureH, smem, tagE, hfa]; (repeat' apply And.intro); all_goals first | exact hK | omega))
                          apply h3_guard rfl rfl rfl rfl rfl (Nat.le_of_ble_eq_true rfl) rfl
                          · intro _
                            (apply Exists.intro; apply Exists.intro; apply And.intro; focus (apply hop_go rfl rfl; intro K' hK; simp [-List.reduceReplicate, -List.getD_eq_getElem?_getD, viewM, visOf, memL, tab22, ty22, tab23, ty23, tab25, ty25, tab26, ty26, tab105, ty105, tab103, ty103, tab5, ty5, tab3, ty3, tab4, ty4, hft, hft2, hcb3, ht0, htl, he, hcb2, hB2, Nat.add_sub_cancel_left, nuT, kOf, datOf, pureQ, pure71, pureG, pureL, pureH, smem, tagE, hfa]; (repeat' apply And.intro); all_goals first | exact hK | omega))
                            apply h3_guard rfl rfl rfl rfl rfl (Nat.le_of_ble_eq_true rfl) rfl
                            · intro _
                              (apply Exists.intro; apply Exists.intro; apply And.intro; focus (apply hop_go rfl rfl; intro K' hK; simp [-List.reduceReplicate, -List.getD_eq_getElem?_getD, viewM, visOf, memL, tab22, ty22, tab23, ty23, tab25, ty25, tab26, ty26, tab105, ty105, tab103, ty103, tab5, ty5, tab3, ty3, tab4, ty4, hft, hft2, hcb3, ht0, htl, he, hcb2, hB2, Nat.add_sub_cancel_left, nuT, kOf, datOf, pureQ, pure71, pureG, pureL, pureH, smem, tagE, hfa]; (repeat' apply And.intro); all_goals first | exact hK | omega))
                              apply h3_guard rfl rfl rfl rfl rfl (Nat.le_of_ble_eq_true rfl) rfl
                              · intro _
                                (apply Exists.intro; apply Exists.intro; apply And.intro; focus (apply hop_go rfl rfl; intro K' hK; simp [-List.reduceReplicate, -List.getD_eq_getElem?_getD, viewM, visOf, memL, tab22, ty22, tab23, ty23, tab25, ty25, tab26, ty26, tab105, ty105, tab103, ty103, tab5, ty5, tab3, ty3, tab4, ty4, hft, hft2, hcb3, ht0, htl, he, hcb2, hB2, Nat.add_sub_cancel_left, nuT, kOf, datOf, pureQ, pure71, pureG, pureL, pureH, smem, tagE, hfa]; (repeat' apply And.intro); all_goals first | exact hK | omega))
                                refine h3_nil ?_
                                simp [finL, contL, contAt, stT, List.range, List.range.loop, -List.reduceReplicate]
                                refine ok_run hB tabOK pureQ_ok 100 ?_
                                repeat (first
    | rw [run_ops0]
    | rw [run_seq]
    | rw [run_region]
    | rw [run_block]
    | rw [run_blk]
    | rw [run_skip]
    | (apply run_go rfl; focus (intro L K hK; simp [-List.reduceReplicate, -List.getD_eq_getElem?_getD, tab22, ty22, tab23, ty23, tab25, ty25, tab26, ty26, tab105, ty105, tab103, ty103, tab5, ty5, tab3, ty3, tab4, ty4, ntmps29, he]; (repeat' apply And.intro); all_goals first | exact hK | omega)))
                                apply run_cond2 rfl
                                · intro _
                                  repeat (first
    | rw [run_ops0]
    | rw [run_seq]
    | rw [run_region]
    | rw [run_block]
    | rw [run_blk]
    | rw [run_skip]
    | (apply run_go rfl; focus (intro L K hK; simp [-List.reduceReplicate, -List.getD_eq_getElem?_getD, tab22, ty22, tab23, ty23, tab25, ty25, tab26, ty26, tab105, ty105, tab103, ty103, tab5, ty5, tab3, ty3, tab4, ty4, ntmps29]; (repeat' apply And.intro); all_goals first | exact hK | omega)))
                                  rw [run_ret]
                                  simp [-List.reduceReplicate, -List.getD_eq_getElem?_getD, results29, f29, smem, tagE, hTG]
                                · intro h; first | cases h | (simp [he] at h; done)
                              · intro h; first | cases h | (simp at h; done)
                            · intro h; first | cases h | (simp at h; done)
                          · intro h; first | cases h | (simp at h; done)
                        · intro h; first | cases h | (simp at h; done)
                      · intro h; first | cases h | (simp at h; done)
                    · intro h; first | cases h | (simp at h; done)
                  · intro h; first | cases h | (simp at h; done)
                · intro h; first | cases h | (simp at h; done)
              · intro h; first | cases h | (simp at h; done)
            · intro h; first | cases h | (simp at h; done)
          · intro h; first | cases h | (simp at h; done)
        · intro h; first | cases h | (simp at h; done)
      · intro h; first | cases h | (simp at h; done)
    · intro h; first | cases h | (simp at h; done)
  · intro h; first | cases h | (simp at h; done)
theorem spec29O (W N B : B8) (nr cap on cn ob n cb : Nat) (D : B8) (oa na ca : Nat) (ha : oa + na ≤ D.length) (hca : na ≤ ca) (hma : na ≤ 140737488355328) (hW : 16 * nr ≤ W.length) (hR : 0 < nr) (hR2 : nr < 1000) (hN : on + 12 ≤ N.length) (hcn : 12 ≤ cn) (hb : ob + (n + 16) ≤ B.length) (hcb : (n + 16) ≤ cb) (hmx : (n + 16) ≤ 1000000000) (he : eqAns (tagB W nr ((N.drop on).take 12) ((D.drop oa).take na) ((B.drop ob).take n)) (B.drop (ob + n)) 16 16 = true) :
    Spec prog 29 [one (.ptr 0 0 0), one (.sl 2 on 12 cn 1), one (.sl 4 oa na ca 1), one (.sl 3 ob (n + 16) cb 1)] (smem nr cap W N B ++ [.ent ⟨false, 5, none, .a8 D⟩]) [] (fun r m => r = .tup [.s (.sl 8 0 n n 1), .s (.i 0)] ∧ m = smem nr cap W N B ++ [.ent ⟨false, 5, none, .a8 D⟩] ++ (tagE W nr ((N.drop on).take 12) ((D.drop oa).take na) ((B.drop ob).take n) ++ ([⟨true, 5, none, .a8 (stO W nr ((N.drop on).take 12) ((B.drop ob).take n) n)⟩, ⟨true, 23, some 16, .a8 (stC ((N.drop on).take 12) n)⟩] : List Ent)).map .ent) := by
  refine spec_of_body tabOK func29 rfl (Nat.le_of_ble_eq_true rfl) ?_
  intro E Q0 hB
  refine ok_run hB tabOK pureQ_ok 100 ?_
  simp only [argSl, smem, List.cons_append, List.nil_append]
  have hfa : aFit D oa na ca := ⟨ha, hca, hma⟩
  have hft : tFit W N B nr on cn ob n cb := ⟨hW, hR, hR2, hN, hcn, by omega, by omega, by omega⟩
  have hft2 : ((n : Int) + 16).toNat = n + 16 := by omega
  have hcb3 : (n : Int) + 16 ≤ ((cb - n : Nat) : Int) + (n : Int) := by omega
  obtain ⟨TG, hTG⟩ : ∃ TG, tagB W nr ((N.drop on).take 12) ((D.drop oa).take na) ((B.drop ob).take n) = TG := ⟨_, rfl⟩
  have htl : TG.length = 16 := by rw [← hTG]; unfold tagB; rw [tagX_len, hashG_len]
  rw [hTG] at he
  have ht0 := hTG
  have hcb2 : 16 ≤ cb - n := by omega
  have hB2 : ob + n + 16 ≤ B.length := by omega
  repeat (first
    | rw [run_ops0]
    | rw [run_seq]
    | rw [run_region]
    | rw [run_block]
    | rw [run_blk]
    | rw [run_skip]
    | (apply run_go rfl; focus (intro L K hK; simp [-List.reduceReplicate, -List.getD_eq_getElem?_getD, tab22, ty22, tab23, ty23, tab25, ty25, tab26, ty26, tab105, ty105, tab103, ty103, tab5, ty5, tab3, ty3, tab4, ty4, ntmps29]; (repeat' apply And.intro); all_goals first | exact hK | omega)))
  apply run_guard rfl rfl rfl rfl
  · intro _
    (apply Exists.intro; apply And.intro; focus (intro L K hK; simp [-List.reduceReplicate, -List.getD_eq_getElem?_getD, tab22, ty22, tab23, ty23, tab25, ty25, tab26, ty26, tab105, ty105, tab103, ty103, tab5, ty5, tab3, ty3, tab4, ty4, ntmps29]; (repeat' apply And.intro); all_goals first | exact hK | omega))
    apply run_guard rfl rfl rfl rfl
    · intro _
      (apply Exists.intro; apply And.intro; focus (intro L K hK; simp [-List.reduceReplicate, -List.getD_eq_getElem?_getD, tab22, ty22, tab23, ty23, tab25, ty25, tab26, ty26, tab105, ty105, tab103, ty103, tab5, ty5, tab3, ty3, tab4, ty4, ntmps29]; (repeat' apply And.intro); all_goals first | exact hK | omega))
      apply run_guard rfl rfl rfl rfl
      · intro _
        (apply Exists.intro; apply And.intro; focus (intro L K hK; simp [-List.reduceReplicate, -List.getD_eq_getElem?_getD, tab22, ty22, tab23, ty23, tab25, ty25, tab26, ty26, tab105, ty105, tab103, ty103, tab5, ty5, tab3, ty3, tab4, ty4, ntmps29]; (repeat' apply And.intro); all_goals first | exact hK | omega))
        repeat (first
    | rw [run_ops0]
    | rw [run_seq]
    | rw [run_region]
    | rw [run_block]
    | rw [run_blk]
    | rw [run_skip]
    | (apply run_go rfl; focus (intro L K hK; simp [-List.reduceReplicate, -List.getD_eq_getElem?_getD, tab22, ty22, tab23, ty23, tab25, ty25, tab26, ty26, tab105, ty105, tab103, ty103, tab5, ty5, tab3, ty3, tab4, ty4, ntmps29]; (repeat' apply And.intro); all_goals first | exact hK | omega)))
        apply run_cond2 rfl
        · intro h; first | cases h | (simp at h; done)
        intro _
        repeat (first
    | rw [run_ops0]
    | rw [run_seq]
    | rw [run_region]
    | rw [run_block]
    | rw [run_blk]
    | rw [run_skip]
    | (apply run_go rfl; focus (intro L K hK; simp [-List.reduceReplicate, -List.getD_eq_getElem?_getD, tab22, ty22, tab23, ty23, tab25, ty25, tab26, ty26, tab105, ty105, tab103, ty103, tab5, ty5, tab3, ty3, tab4, ty4, ntmps29]; (repeat' apply And.intro); all_goals first | exact hK | omega)))
        rw [run_draw]
        refine ok_draw5 15 [(13, [9])] [] tabOK pureQ_ok nuT_ok pureQ_sub nuT_sub mixed (by decide +kernel) rfl rfl ?_
        repeat (first
    | (apply h3_go rfl rfl rfl rfl rfl (Nat.le_of_ble_eq_true rfl) rfl; focus (intro K' hK; simp [-List.reduceReplicate, -List.getD_eq_getElem?_getD, viewM, visOf, memL, tab22, ty22, tab23, ty23, tab25, ty25, tab26, ty26, tab105, ty105, tab103, ty103, tab5, ty5, tab3, ty3, tab4, ty4, hft, hft2, hcb3, ht0, htl, he, hcb2, hB2, Nat.add_sub_cancel_left, nuT, kOf, datOf, pureQ, pure71, pureG, pureL, pureH, smem, tagE, hfa]; (repeat' apply And.intro); all_goals first | exact hK | omega))
    | (apply h3_new rfl rfl rfl rfl rfl (Nat.le_of_ble_eq_true rfl) rfl; focus (intro K' hK; simp [-List.reduceReplicate, -List.getD_eq_getElem?_getD, viewM, visOf, memL, tab22, ty22, tab23, ty23, tab25, ty25, tab26, ty26, tab105, ty105, tab103, ty103, tab5, ty5, tab3, ty3, tab4, ty4, hft, hft2, hcb3, ht0, htl, he, hcb2, hB2, Nat.add_sub_cancel_left, nuT, kOf, datOf, pureQ, pure71, pureG, pureL, pureH, smem, tagE, hfa]; (repeat' apply And.intro); all_goals first | exact hK | omega)))
        apply h3_guard rfl rfl rfl rfl rfl (Nat.le_of_ble_eq_true rfl) rfl
        · intro _
          (apply Exists.intro; apply Exists.intro; apply And.intro; focus (apply hop_go rfl rfl; intro K' hK; simp [-List.reduceReplicate, -List.getD_eq_getElem?_getD, viewM, visOf, memL, tab22, ty22, tab23, ty23, tab25, ty25, tab26, ty26, tab105, ty105, tab103, ty103, tab5, ty5, tab3, ty3, tab4, ty4, hft, hft2, hcb3, ht0, htl, he, hcb2, hB2, Nat.add_sub_cancel_left, nuT, kOf, datOf, pureQ, pure71, pureG, pureL, pureH, smem, tagE, hfa]; (repeat' apply And.intro); all_goals first | exact hK | omega))
          apply h3_guard rfl rfl rfl rfl rfl (Nat.le_of_ble_eq_true rfl) rfl
          · intro _
            (apply Exists.intro; apply Exists.intro; apply And.intro; focus (apply hop_go rfl rfl; intro K' hK; simp [-List.reduceReplicate, -List.getD_eq_getElem?_getD, viewM, visOf, memL, tab22, ty22, tab23, ty23, tab25, ty25, tab26, ty26, tab105, ty105, tab103, ty103, tab5, ty5, tab3, ty3, tab4, ty4, hft, hft2, hcb3, ht0, htl, he, hcb2, hB2, Nat.add_sub_cancel_left, nuT, kOf, datOf, pureQ, pure71, pureG, pureL, pureH, smem, tagE, hfa]; (repeat' apply And.intro); all_goals first | exact hK | omega))
            apply h3_guard rfl rfl rfl rfl rfl (Nat.le_of_ble_eq_true rfl) rfl
            · intro _
              (apply Exists.intro; apply Exists.intro; apply And.intro; focus (apply hop_go rfl rfl; intro K' hK; simp [-List.reduceReplicate, -List.getD_eq_getElem?_getD, viewM, visOf, memL, tab22, ty22, tab23, ty23, tab25, ty25, tab26, ty26, tab105, ty105, tab103, ty103, tab5, ty5, tab3, ty3, tab4, ty4, hft, hft2, hcb3, ht0, htl, he, hcb2, hB2, Nat.add_sub_cancel_left, nuT, kOf, datOf, pureQ, pure71, pureG, pureL, pureH, smem, tagE, hfa]; (repeat' apply And.intro); all_goals first | exact hK | omega))
              apply h3_guard rfl rfl rfl rfl rfl (Nat.le_of_ble_eq_true rfl) rfl
              · intro _
                (apply Exists.intro; apply Exists.intro; apply And.intro; focus (apply hop_go rfl rfl; intro K' hK; simp [-List.reduceReplicate, -List.getD_eq_getElem?_getD, viewM, visOf, memL, tab22, ty22, tab23, ty23, tab25, ty25, tab26, ty26, tab105, ty105, tab103, ty103, tab5, ty5, tab3, ty3, tab4, ty4, hft, hft2, hcb3, ht0, htl, he, hcb2, hB2, Nat.add_sub_cancel_left, nuT, kOf, datOf, pureQ, pure71, pureG, pureL, pureH, smem, tagE, hfa]; (repeat' apply And.intro); all_goals first | exact hK | omega))
                apply h3_guard rfl rfl rfl rfl rfl (Nat.le_of_ble_eq_true rfl) rfl
                · intro _
                  (apply Exists.intro; apply Exists.intro; apply And.intro; focus (apply hop_go rfl rfl; intro K' hK; simp [-List.reduceReplicate, -List.getD_eq_getElem?_getD, viewM, visOf, memL, tab22, ty22, tab23, ty23, tab25, ty25, tab26, ty26, tab105, ty105, tab103, ty103, tab5, ty5, tab3, ty3, tab4, ty4, hft, hft2, hcb3, ht0, htl, he, hcb2, hB2, Nat.add_sub_cancel_left, nuT, kOf, datOf, pureQ, pure71, pureG, pureL, pureH, smem, tagE, hfa]; (repeat' apply And.intro); all_goals first | exact hK | omega))
                  apply h3_guard rfl rfl rfl rfl rfl (Nat.le_of_ble_eq_true rfl) rfl
                  · intro _
                    (apply Exists.intro; apply Exists.intro; apply And.intro; focus (apply hop_go rfl rfl; intro K' hK; simp [-List.reduceReplicate, -List.getD_eq_getElem?_getD, viewM, visOf, memL, tab22, ty22, tab23, ty23, tab25, ty25, tab26, ty26, tab105, ty105, tab103, ty103, tab5, ty5, tab3, ty3, tab4, ty4, hft, hft2, hcb3, ht0, htl, he, hcb2, hB2, Nat.add_sub_cancel_left, nuT, kOf, datOf, pureQ, pure71, pureG, pureL, pureH, smem, tagE, hfa]; (repeat' apply And.intro); all_goals first | exact hK | omega))
                    apply h3_guard rfl rfl rfl rfl rfl (Nat.le_of_ble_eq_true rfl) rfl
                    · intro _
                      (apply Exists.intro; apply Exists.intro; apply And.intro; focus (apply hop_call; simp [newOf, -List.reduceReplicate, -List.getD_eq_getElem?_getD, viewM, visOf, memL, tab22, ty22, tab23, ty23, tab25, ty25, tab26, ty26, tab105, ty105, tab103, ty103, tab5, ty5, tab3, ty3, tab4, ty4, hft, hft2, hcb3, ht0, htl, he, hcb2, hB2, Nat.add_sub_cancel_left, nuT, kOf, datOf, pureQ, pure71, pureG, pureL, pureH, smem, tagE, hfa]; first | done | exact ⟨rfl, rfl⟩ | rfl))
                      apply h3_guard rfl rfl rfl rfl rfl (Nat.le_of_ble_eq_true rfl) rfl
                      · intro _
                        (apply Exists.intro; apply Exists.intro; apply And.intro; focus (apply hop_go rfl rfl; intro K' hK; simp [-List.reduceReplicate, -List.getD_eq_getElem?_getD, viewM, visOf, memL, tab22, ty22, tab23, ty23, tab25, ty25, tab26, ty26, tab105, ty105, tab103, ty103, tab5, ty5, tab3, ty3, tab4, ty4, hft, hft2, hcb3, ht0, htl, he, hcb2, hB2, Nat.add_sub_cancel_left, nuT, kOf, datOf, pureQ, pure71, pureG, pureL, pureH, smem, tagE, hfa]; (repeat' apply And.intro); all_goals first | exact hK | omega))
                        apply h3_guard rfl rfl rfl rfl rfl (Nat.le_of_ble_eq_true rfl) rfl
                        · intro _
                          (apply Exists.intro; apply Exists.intro; apply And.intro; focus (apply hop_go rfl rfl; intro K' hK; simp [-List.reduceReplicate, -List.getD_eq_getElem?_getD, viewM, visOf, memL, tab22, ty22, tab23, ty23, tab25, ty25, tab26, ty26, tab105, ty105, tab103, ty103, tab5, ty5, tab3, ty3, tab4, ty4, hft, hft2, hcb3, ht0, htl, he, hcb2, hB2, Nat.add_sub_cancel_left, nuT, kOf, datOf, pureQ, pure71, pureG, pureL, pureH, smem, tagE, hfa]; (repeat' apply And.intro); all_goals first | exact hK | omega))
                          apply h3_guard rfl rfl rfl rfl rfl (Nat.le_of_ble_eq_true rfl) rfl
                          · intro _
                            (apply Exists.intro; apply Exists.intro; apply And.intro; focus (apply hop_go rfl rfl; intro K' hK; simp [-List.reduceReplicate, -List.getD_eq_getElem?_getD, viewM, visOf, memL, tab22, ty22, tab23, ty23, tab25, ty25, tab26, ty26, tab105, ty105, tab103, ty103, tab5, ty5, tab3, ty3, tab4, ty4, hft, hft2, hcb3, ht0, htl, he, hcb2, hB2, Nat.add_sub_cancel_left, nuT, kOf, datOf, pureQ, pure71, pureG, pureL, pureH, smem, tagE, hfa]; (repeat' apply And.intro); all_goals first | exact hK | omega))
                            apply h3_guard rfl rfl rfl rfl rfl (Nat.le_of_ble_eq_true rfl) rfl
                            · intro _
                              (apply Exists.intro; apply Exists.intro; apply And.intro; focus (apply hop_go rfl rfl; intro K' hK; simp [-List.reduceReplicate, -List.getD_eq_getElem?_getD, viewM, visOf, memL, tab22, ty22, tab23, ty23, tab25, ty25, tab26, ty26, tab105, ty105, tab103, ty103, tab5, ty5, tab3, ty3, tab4, ty4, hft, hft2, hcb3, ht0, htl, he, hcb2, hB2, Nat.add_sub_cancel_left, nuT, kOf, datOf, pureQ, pure71, pureG, pureL, pureH, smem, tagE, hfa]; (repeat' apply And.intro); all_goals first | exact hK | omega))
                              apply h3_guard rfl rfl rfl rfl rfl (Nat.le_of_ble_eq_true rfl) rfl
                              · intro _
                                (apply Exists.intro; apply Exists.intro; apply And.intro; focus (apply hop_go rfl rfl; intro K' hK; simp [-List.reduceReplicate, -List.getD_eq_getElem?_getD, viewM, visOf, memL, tab22, ty22, tab23, ty23, tab25, ty25, tab26, ty26, tab105, ty105, tab103, ty103, tab5, ty5, tab3, ty3, tab4, ty4, hft, hft2, hcb3, ht0, htl, he, hcb2, hB2, Nat.add_sub_cancel_left, nuT, kOf, datOf, pureQ, pure71, pureG, pureL, pureH, smem, tagE, hfa]; (repeat' apply And.intro); all_goals first | exact hK | omega))
                                refine h3_nil ?_
                                simp [finL, contL, contAt, stT, List.range, List.range.loop, -List.reduceReplicate]
                                refine ok_run hB tabOK pureQ_ok 100 ?_
                                repeat (first
    | rw [run_ops0]
    | rw [run_seq]
    | rw [run_region]
    | rw [run_block]
    | rw [run_blk]
    | rw [run_skip]
    | (apply run_go rfl; focus (intro L K hK; simp [-List.reduceReplicate, -List.getD_eq_getElem?_getD, tab22, ty22, tab23, ty23, tab25, ty25, tab26, ty26, tab105, ty105, tab103, ty103, tab5, ty5, tab3, ty3, tab4, ty4, ntmps29, he]; (repeat' apply And.intro); all_goals first | exact hK | omega)))
                                apply run_cond2 rfl
                                · intro h; first | cases h | (simp [he] at h; done)
                                intro _
                                repeat (first
    | rw [run_ops0]
    | rw [run_seq]
    | rw [run_region]
    | rw [run_block]
    | rw [run_blk]
    | rw [run_skip]
    | (apply run_go rfl; focus (intro L K hK; simp [-List.reduceReplicate, -List.getD_eq_getElem?_getD, tab22, ty22, tab23, ty23, tab25, ty25, tab26, ty26, tab105, ty105, tab103, ty103, tab5, ty5, tab3, ty3, tab4, ty4, ntmps29]; (repeat' apply And.intro); all_goals first | exact hK | omega)))
                                refine run_call rfl rfl rfl rfl ?_
                                refine ok_call [0, 1, 2, 3] rfl rfl ⟨f69, func69, nofun, by decide⟩ (spec69 W N B nr cap on cn ob n cb hW hR hR2 hN hcn (by omega) (by omega) (by omega)) trivial (by simp) (by simp [smem, matchM, ix, renA, renSeg, renR, renS, belA, belR, belS, A.len, segLen]) rfl rfl (Nat.le_of_ble_eq_true rfl) ?_
                                rintro sv m' ⟨rfl, rfl⟩ _
                                simp only [smem, tagE, afterM, putM, renMk, renA, renSeg, renR, renS, renV, ix, St.put, List.map_cons, List.map_nil, List.drop, List.length_cons, List.length_nil, List.cons_append, List.nil_append, one]
                                simp [-List.reduceReplicate]
                                refine ok_run hB tabOK pureQ_ok 100 ?_
                                repeat (first
    | rw [run_ops0]
    | rw [run_seq]
    | rw [run_region]
    | rw [run_block]
    | rw [run_blk]
    | rw [run_skip]
    | (apply run_go rfl; focus (intro L K hK; simp [-List.reduceReplicate, -List.getD_eq_getElem?_getD, tab22, ty22, tab23, ty23, tab25, ty25, tab26, ty26, tab105, ty105, tab103, ty103, tab5, ty5, tab3, ty3, tab4, ty4, ntmps29]; (repeat' apply And.intro); all_goals first | exact hK | omega)))
                                rw [run_ret]
                                simp [-List.reduceReplicate, -List.getD_eq_getElem?_getD, results29, f29, smem, tagE, hTG]
                              · intro h; first | cases h | (simp at h; done)
                            · intro h; first | cases h | (simp at h; done)
                          · intro h; first | cases h | (simp at h; done)
                        · intro h; first | cases h | (simp at h; done)
                      · intro h; first | cases h | (simp at h; done)
                    · intro h; first | cases h | (simp at h; done)
                  · intro h; first | cases h | (simp at h; done)
                · intro h; first | cases h | (simp at h; done)
              · intro h; first | cases h | (simp at h; done)
            · intro h; first | cases h | (simp at h; done)
          · intro h; first | cases h | (simp at h; done)
        · intro h; first | cases h | (simp at h; done)
      · intro h; first | cases h | (simp at h; done)
    · intro h; first | cases h | (simp at h; done)
  · intro h; first | cases h | (simp at h; done)
theorem spec29nS (W N B : B8) (nr cap on cn ob nb cb : Nat) (hW : 16 * nr ≤ W.length) (hR : 0 < nr) (hR2 : nr < 1000) (hN : on + 12 ≤ N.length) (hcn : 12 ≤ cn) (hb : ob + nb ≤ B.length) (hcb : nb ≤ cb) (hmx : nb ≤ 1000000000) (hs : nb < 16) :
    Spec prog 29 [one (.ptr 0 0 0), one (.sl 2 on 12 cn 1), one .snil, one (.sl 3 ob nb cb 1)] (smem nr cap W N B) [] (fun r m => r = .tup [.s .snil, .s (.i 5)] ∧ m = smem nr cap W N B) := by
  refine spec_of_body tabOK func29 rfl (Nat.le_of_ble_eq_true rfl) ?_
  intro E Q0 hB
  refine ok_run hB tabOK pureQ_ok 100 ?_
  simp only [argSl, smem, List.cons_append, List.nil_append]
  repeat (first
    | rw [run_ops0]
    | rw [run_seq]
    | rw [run_region]
    | rw [run_block]
    | rw [run_blk]
    | rw [run_skip]
    | (apply run_go rfl; focus (intro L K hK; simp [-List.reduceReplicate, -List.getD_eq_getElem?_getD, tab22, ty22, tab23, ty23, tab25, ty25, tab26, ty26, tab105, ty105, tab103, ty103, tab5, ty5, tab3, ty3, tab4, ty4, ntmps29]; (repeat' apply And.intro); all_goals first | exact hK | omega)))
  apply run_guard rfl rfl rfl rfl
  · intro _
    (apply Exists.intro; apply And.intro; focus (intro L K hK; simp [-List.reduceReplicate, -List.getD_eq_getElem?_getD, tab22, ty22, tab23, ty23, tab25, ty25, tab26, ty26, tab105, ty105, tab103, ty103, tab5, ty5, tab3, ty3, tab4, ty4, ntmps29]; (repeat' apply And.intro); all_goals first | exact hK | omega))
    apply run_guard rfl rfl rfl rfl
    · intro _
      (apply Exists.intro; apply And.intro; focus (intro L K hK; simp [-List.reduceReplicate, -List.getD_eq_getElem?_getD, tab22, ty22, tab23, ty23, tab25, ty25, tab26, ty26, tab105, ty105, tab103, ty103, tab5, ty5, tab3, ty3, tab4, ty4, ntmps29]; (repeat' apply And.intro); all_goals first | exact hK | omega))
      apply run_guard rfl rfl rfl rfl
      · intro _
        (apply Exists.intro; apply And.intro; focus (intro L K hK; simp [-List.reduceReplicate, -List.getD_eq_getElem?_getD, tab22, ty22, tab23, ty23, tab25, ty25, tab26, ty26, tab105, ty105, tab103, ty103, tab5, ty5, tab3, ty3, tab4, ty4, ntmps29]; (repeat' apply And.intro); all_goals first | exact hK | omega))
        repeat (first
    | rw [run_ops0]
    | rw [run_seq]
    | rw [run_region]
    | rw [run_block]
    | rw [run_blk]
    | rw [run_skip]
    | (apply run_go rfl; focus (intro L K hK; simp [-List.reduceReplicate, -List.getD_eq_getElem?_getD, tab22, ty22, tab23, ty23, tab25, ty25, tab26, ty26, tab105, ty105, tab103, ty103, tab5, ty5, tab3, ty3, tab4, ty4, ntmps29]; (repeat' apply And.intro); all_goals first | exact hK | omega)))
        apply run_cond2 rfl
        · intro h; first | cases h | (simp at h; done)
        intro _
        repeat (first
    | rw [run_ops0]
    | rw [run_seq]
    | rw [run_region]
    | rw [run_block]
    | rw [run_blk]
    | rw [run_skip]
    | (apply run_go rfl; focus (intro L K hK; simp [-List.reduceReplicate, -List.getD_eq_getElem?_getD, tab22, ty22, tab23, ty23, tab25, ty25, tab26, ty26, tab105, ty105, tab103, ty103, tab5, ty5, tab3, ty3, tab4, ty4, ntmps29]; (repeat' apply And.intro); all_goals first | exact hK | omega)))
        rw [run_draw]
        refine ok_draw5 15 [(13, [9])] [] tabOK pureQ_ok nuT_ok pureQ_sub nuT_sub mixed (by decide +kernel) rfl rfl ?_
        have hlt : (nb : Int) - 16 < 0 := by omega
        repeat (first
    | (apply h3_go rfl rfl rfl rfl rfl (Nat.le_of_ble_eq_true rfl) rfl; focus (intro K' hK; simp [-List.reduceReplicate, -List.getD_eq_getElem?_getD, viewM, visOf, memL, tab22, ty22, tab23, ty23, tab25, ty25, tab26, ty26, tab105, ty105, tab103, ty103, tab5, ty5, tab3, ty3, tab4, ty4, hlt]; (repeat' apply And.intro); all_goals first | exact hK | omega))
    | (apply h3_new rfl rfl rfl rfl rfl (Nat.le_of_ble_eq_true rfl) rfl; focus (intro K' hK; simp [-List.reduceReplicate, -List.getD_eq_getElem?_getD, viewM, visOf, memL, tab22, ty22, tab23, ty23, tab25, ty25, tab26, ty26, tab105, ty105, tab103, ty103, tab5, ty5, tab3, ty3, tab4, ty4, hlt]; (repeat' apply And.intro); all_goals first | exact hK | omega)))
        apply h3_guard rfl rfl rfl rfl rfl (Nat.le_of_ble_eq_true rfl) rfl
        · intro h; first | cases h | (simp [hs] at h; done) | (simp at h; omega)
        intro _
        apply h3_guard rfl rfl rfl rfl rfl (Nat.le_of_ble_eq_true rfl) rfl
        · intro h; first | cases h | (simp [hs] at h; done) | (simp at h; omega)
        intro _
        apply h3_guard rfl rfl rfl rfl rfl (Nat.le_of_ble_eq_true rfl) rfl
        · intro h; first | cases h | (simp [hs] at h; done) | (simp at h; omega)
        intro _
        apply h3_guard rfl rfl rfl rfl rfl (Nat.le_of_ble_eq_true rfl) rfl
        · intro h; first | cases h | (simp [hs] at h; done) | (simp at h; omega)
        intro _
        apply h3_guard rfl rfl rfl rfl rfl (Nat.le_of_ble_eq_true rfl) rfl
        · intro h; first | cases h | (simp [hs] at h; done) | (simp at h; omega)
        intro _
        apply h3_guard rfl rfl rfl rfl rfl (Nat.le_of_ble_eq_true rfl) rfl
        · intro h; first | cases h | (simp [hs] at h; done) | (simp at h; omega)
        intro _
        apply h3_guard rfl rfl rfl rfl rfl (Nat.le_of_ble_eq_true rfl) rfl
        · intro h; first | cases h | (simp [hs] at h; done) | (simp at h; omega)
        intro _
        apply h3_guard rfl rfl rfl rfl rfl (Nat.le_of_ble_eq_true rfl) rfl
        · intro h; first | cases h | (simp [hs] at h; done) | (simp at h; omega)
        intro _
        apply h3_guard rfl rfl rfl rfl rfl (Nat.le_of_ble_eq_true rfl) rfl
        · intro h; first | cases h | (simp [hs] at h; done) | (simp at h; omega)
        intro _
        apply h3_guard rfl rfl rfl rfl rfl (Nat.le_of_ble_eq_true rfl) rfl
        · intro h; first | cases h | (simp [hs] at h; done) | (simp at h; omega)
        intro _
        apply h3_guard rfl rfl rfl rfl rfl (Nat.le_of_ble_eq_true rfl) rfl
        · intro h; first | cases h | (simp [hs] at h; done) | (simp at h; omega)
        intro _
        apply h3_guard rfl rfl rfl rfl rfl (Nat.le_of_ble_eq_true rfl) rfl
        · intro h; first | cases h | (simp [hs] at h; done) | (simp at h; omega)
        intro _
        refine h3_nil ?_
        simp [finL, contL, contAt, stT, List.range, List.range.loop, -List.reduceReplicate]
        refine ok_run hB tabOK pureQ_ok 100 ?_
        repeat (first
    | rw [run_ops0]
    | rw [run_seq]
    | rw [run_region]
    | rw [run_block]
    | rw [run_blk]
    | rw [run_skip]
    | (apply run_go rfl; focus (intro L K hK; simp [-List.reduceReplicate, -List.getD_eq_getElem?_getD, tab22, ty22, tab23, ty23, tab25, ty25, tab26, ty26, tab105, ty105, tab103, ty103, tab5, ty5, tab3, ty3, tab4, ty4, ntmps29, hs]; (repeat' apply And.intro); all_goals first | exact hK | omega)))
        apply run_cond2 rfl
        · intro _
          repeat (first
    | rw [run_ops0]
    | rw [run_seq]
    | rw [run_region]
    | rw [run_block]
    | rw [run_blk]
    | rw [run_skip]
    | (apply run_go rfl; focus (intro L K hK; simp [-List.reduceReplicate, -List.getD_eq_getElem?_getD, tab22, ty22, tab23, ty23, tab25, ty25, tab26, ty26, tab105, ty105, tab103, ty103, tab5, ty5, tab3, ty3, tab4, ty4, ntmps29]; (repeat' apply And.intro); all_goals first | exact hK | omega)))
          rw [run_ret]
          simp [-List.reduceReplicate, -List.getD_eq_getElem?_getD, results29, f29, smem]
        · intro h; first | cases h | (simp [hs] at h; done) | (simp at h; omega)
      · intro h; first | cases h | (simp at h; done)
    · intro h; first | cases h | (simp at h; done)
  · intro h; first | cases h | (simp at h; done)
theorem spec29nB (W N B : B8) (nr cap on cn ob n cb : Nat) (hW : 16 * nr ≤ W.length) (hR : 0 < nr) (hR2 : nr < 1000) (hN : on + 12 ≤ N.length) (hcn : 12 ≤ cn) (hb : ob + (n + 16) ≤ B.length) (hcb : (n + 16) ≤ cb) (hmx : (n + 16) ≤ 1000000000) (he : eqAns (tagB W nr ((N.drop on).take 12) ([] : B8) ((B.drop ob).take n)) (B.drop (ob + n)) 16 16 = false) :
    Spec prog 29 [one (.ptr 0 0 0), one (.sl 2 on 12 cn 1), one .snil, one (.sl 3 ob (n + 16) cb 1)] (smem nr cap W N B) [] (fun r m => r = .tup [.s .snil, .s (.i 5)] ∧ m = smem nr cap W N B ++ (tagE W nr ((N.drop on).take 12) ([] : B8) ((B.drop ob).take n)).map .ent) := by
  refine spec_of_body tabOK func29 rfl (Nat.le_of_ble_eq_true rfl) ?_
  intro E Q0 hB
  refine ok_run hB tabOK pureQ_ok 100 ?_
  simp only [argSl, smem, List.cons_append, List.nil_append]
  have hft : tFit W N B nr on cn ob n cb := ⟨hW, hR, hR2, hN, hcn, by omega, by omega, by omega⟩
  have hft2 : ((n : Int) + 16).toNat = n + 16 := by omega
  have hcb3 : (n : Int) + 16 ≤ ((cb - n : Nat) : Int) + (n : Int) := by omega
  obtain ⟨TG, hTG⟩ : ∃ TG, tagB W nr ((N.drop on).take 12) ([] : B8) ((B.drop ob).take n) = TG := ⟨_, rfl⟩
  have htl : TG.length = 16 := by rw [← hTG]; unfold tagB; rw [tagX_len, hashG_len]
  rw [hTG] at he
  have ht0 := hTG
  have hcb2 : 16 ≤ cb - n := by omega
  have hB2 : ob + n + 16 ≤ B.length := by omega
  repeat (first
    | rw [run_ops0]
    | rw [run_seq]
    | rw [run_region]
    | rw [run_block]
    | rw [run_blk]
    | rw [run_skip]
    | (apply run_go rfl; focus (intro L K hK; simp [-List.reduceReplicate, -List.getD_eq_getElem?_getD, tab22, ty22, tab23, ty23, tab25, ty25, tab26, ty26, tab105, ty105, tab103, ty103, tab5, ty5, tab3, ty3, tab4, ty4, ntmps29]; (repeat' apply And.intro); all_goals first | exact hK | omega)))
  apply run_guard rfl rfl rfl rfl
  · intro _
    (apply Exists.intro; apply And.intro; focus (intro L K hK; simp [-List.reduceReplicate, -List.getD_eq_getElem?_getD, tab22, ty22, tab23, ty23, tab25, ty25, tab26, ty26, tab105, ty105, tab103, ty103, tab5, ty5, tab3, ty3, tab4, ty4, ntmps29]; (repeat' apply And.intro); all_goals first | exact hK | omega))
    apply run_guard rfl rfl rfl rfl
    · intro _
      (apply Exists.intro; apply And.intro; focus (intro L K hK; simp [-List.reduceReplicate, -List.getD_eq_getElem?_getD, tab22, ty22, tab23, ty23, tab25, ty25, tab26, ty26, tab105, ty105, tab103, ty103, tab5, ty5, tab3, ty3, tab4, ty4, ntmps29]; (repeat' apply And.intro); all_goals first | exact hK | omega))
      apply run_guard rfl rfl rfl rfl
      · intro _
        (apply Exists.intro; apply And.intro; focus (intro L K hK; simp [-List.reduceReplicate, -List.getD_eq_getElem?_getD, tab22, ty22, tab23, ty23, tab25, ty25, tab26, ty26, tab105, ty105, tab103, ty103, tab5, ty5, tab3, ty3, tab4, ty4, ntmps29]; (repeat' apply And.intro); all_goals first | exact hK | omega))
        repeat (first
    | rw [run_ops0]
    | rw [run_seq]
    | rw [run_region]
    | rw [run_block]
    | rw [run_blk]
    | rw [run_skip]
    | (apply run_go rfl; focus (intro L K hK; simp [-List.reduceReplicate, -List.getD_eq_getElem?_getD, tab22, ty22, tab23, ty23, tab25, ty25, tab26, ty26, tab105, ty105, tab103, ty103, tab5, ty5, tab3, ty3, tab4, ty4, ntmps29]; (repeat' apply And.intro); all_goals first | exact hK | omega)))
        apply run_cond2 rfl
        · intro h; first | cases h | (simp at h; done)
        intro _
        repeat (first
    | rw [run_ops0]
    | rw [run_seq]
    | rw [run_region]
    | rw [run_block]
    | rw [run_blk]
    | rw [run_skip]
    | (apply run_go rfl; focus (intro L K hK; simp [-List.reduceReplicate, -List.getD_eq_getElem?_getD, tab22, ty22, tab23, ty23, tab25, ty25, tab26, ty26, tab105, ty105, tab103, ty103, tab5, ty5, tab3, ty3, tab4, ty4, ntmps29]; (repeat' apply And.intro); all_goals first | exact hK | omega)))
        rw [run_draw]
        refine ok_draw5 15 [(13, [9])] [] tabOK pureQ_ok nuT_ok pureQ_sub nuT_sub mixed (by decide +kernel) rfl rfl ?_
        repeat (first
    | (apply h3_go rfl rfl rfl rfl rfl (Nat.le_of_ble_eq_true rfl) rfl; focus (intro K' hK; simp [-List.reduceReplicate, -List.getD_eq_getElem?_getD, viewM, visOf, memL, tab22, ty22, tab23, ty23, tab25, ty25, tab26, ty26, tab105, ty105, tab103, ty103, tab5, ty5, tab3, ty3, tab4, ty4, hft, hft2, hcb3, ht0, htl, he, hcb2, hB2, Nat.add_sub_cancel_left, nuT, kOf, datOf, pureQ, pure71, pureG, pureL, pureH, smem, tagE]; (repeat' apply And.intro); all_goals first | exact hK | omega))
    | (apply h3_new rfl rfl rfl rfl rfl (Nat.le_of_ble_eq_true rfl) rfl; focus (intro K' hK; simp [-List.reduceReplicate, -List.getD_eq_getElem?_getD, viewM, visOf, memL, tab22, ty22, tab23, ty23, tab25, ty25, tab26, ty26, tab105, ty105, tab103, ty103, tab5, ty5, tab3, ty3, tab4, ty4, hft, hft2, hcb3, ht0, htl, he, hcb2, hB2, Nat.add_sub_cancel_left, nuT, kOf, datOf, pureQ, pure71, pureG, pureL, pureH, smem, tagE]; (repeat' apply And.intro); all_goals first | exact hK | omega)))
        apply h3_guard rfl rfl rfl rfl rfl (Nat.le_of_ble_eq_true rfl) rfl
        · intro _
          (apply Exists.intro; apply Exists.intro; apply And.intro; focus (apply hop_go rfl rfl; intro K' hK; simp [-List.reduceReplicate, -List.getD_eq_getElem?_getD, viewM, visOf, memL, tab22, ty22, tab23, ty23, tab25, ty25, tab26, ty26, tab105, ty105, tab103, ty103, tab5, ty5, tab3, ty3, tab4, ty4, hft, hft2, hcb3, ht0, htl, he, hcb2, hB2, Nat.add_sub_cancel_left, nuT, kOf, datOf, pureQ, pure71, pureG, pureL, pureH, smem, tagE]; (repeat' apply And.intro); all_goals first | exact hK | omega))
          apply h3_guard rfl rfl rfl rfl rfl (Nat.le_of_ble_eq_true rfl) rfl
          · intro _
            (apply Exists.intro; apply Exists.intro; apply And.intro; focus (apply hop_go rfl rfl; intro K' hK; simp [-List.reduceReplicate, -List.getD_eq_getElem?_getD, viewM, visOf, memL, tab22, ty22, tab23, ty23, tab25, ty25, tab26, ty26, tab105, ty105, tab103, ty103, tab5, ty5, tab3, ty3, tab4, ty4, hft, hft2, hcb3, ht0, htl, he, hcb2, hB2, Nat.add_sub_cancel_left, nuT, kOf, datOf, pureQ, pure71, pureG, pureL, pureH, smem, tagE]; (repeat' apply And.intro); all_goals first | exact hK | omega))
            apply h3_guard rfl rfl rfl rfl rfl (Nat.le_of_ble_eq_true rfl) rfl
            · intro _
              (apply Exists.intro; apply Exists.intro; apply And.intro; focus (apply hop_go rfl rfl; intro K' hK; simp [-List.reduceReplicate, -List.getD_eq_getElem?_getD, viewM, visOf, memL, tab22, ty22, tab23, ty23, tab25, ty25, tab26, ty26, tab105, ty105, tab103, ty103, tab5, ty5, tab3, ty3, tab4, ty4, hft, hft2, hcb3, ht0, htl, he, hcb2, hB2, Nat.add_sub_cancel_left, nuT, kOf, datOf, pureQ, pure71, pureG, pureL, pureH, smem, tagE]; (repeat' apply And.intro); all_goals first | exact hK | omega))
              apply h3_guard rfl rfl rfl rfl rfl (Nat.le_of_ble_eq_true rfl) rfl
              · intro _
                (apply Exists.intro; apply Exists.intro; apply And.intro; focus (apply hop_go rfl rfl; intro K' hK; simp [-List.reduceReplicate, -List.getD_eq_getElem?_getD, viewM, visOf, memL, tab22, ty22, tab23, ty23, tab25, ty25, tab26, ty26, tab105, ty105, tab103, ty103, tab5, ty5, tab3, ty3, tab4, ty4, hft, hft2, hcb3, ht0, htl, he, hcb2, hB2, Nat.add_sub_cancel_left, nuT, kOf, datOf, pureQ, pure71, pureG, pureL, pureH, smem, tagE]; (repeat' apply And.intro); all_goals first | exact hK | omega))
                apply h3_guard rfl rfl rfl rfl rfl (Nat.le_of_ble_eq_true rfl) rfl
                · intro _
                  (apply Exists.intro; apply Exists.intro; apply And.intro; focus (apply hop_go rfl rfl; intro K' hK; simp [-List.reduceReplicate, -List.getD_eq_getElem?_getD, viewM, visOf, memL, tab22, ty22, tab23, ty23, tab25, ty25, tab26, ty26, tab105, ty105, tab103, ty103, tab5, ty5, tab3, ty3, tab4, ty4, hft, hft2, hcb3, ht0, htl, he, hcb2, hB2, Nat.add_sub_cancel_left, nuT, kOf, datOf, pureQ, pure71, pureG, pureL, pureH, smem, tagE]; (repeat' apply And.intro); all_goals first | exact hK | omega))
                  apply h3_guard rfl rfl rfl rfl rfl (Nat.le_of_ble_eq_true rfl) rfl
                  · intro _
                    (apply Exists.intro; apply Exists.intro; apply And.intro; focus (apply hop_go rfl rfl; intro K' hK; simp [-List.reduceReplicate, -List.getD_eq_getElem?_getD, viewM, visOf, memL, tab22, ty22, tab23, ty23, tab25, ty25, tab26, ty26, tab105, ty105, tab103, ty103, tab5, ty5, tab3, ty3, tab4, ty4, hft, hft2, hcb3, ht0, htl, he, hcb2, hB2, Nat.add_sub_cancel_left, nuT, kOf, datOf, pureQ, pure71, pureG, pureL, pureH, smem, tagE]; (repeat' apply And.intro); all_goals first | exact hK | omega))
                    apply h3_guard rfl rfl rfl rfl rfl (Nat.le_of_ble_eq_true rfl) rfl
                    · intro _
                      (apply Exists.intro; apply Exists.intro; apply And.intro; focus (apply hop_call; simp [newOf, -List.reduceReplicate, -List.getD_eq_getElem?_getD, viewM, visOf, memL, tab22, ty22, tab23, ty23, tab25, ty25, tab26, ty26, tab105, ty105, tab103, ty103, tab5, ty5, tab3, ty3, tab4, ty4, hft, hft2, hcb3, ht0, htl, he, hcb2, hB2, Nat.add_sub_cancel_left, nuT, kOf, datOf, pureQ, pure71, pureG, pureL, pureH, smem, tagE]; first | done | exact ⟨rfl, rfl⟩ | rfl))
                      apply h3_guard rfl rfl rfl rfl rfl (Nat.le_of_ble_eq_true rfl) rfl
                      · intro _
                        (apply Exists.intro; apply Exists.intro; apply And.intro; focus (apply hop_go rfl rfl; intro K' hK; simp [-List.reduceReplicate, -List.getD_eq_getElem?_getD, viewM, visOf, memL, tab22, ty22, tab23, ty23, tab25, ty25, tab26, ty26, tab105, ty105, tab103, ty103, tab5, ty5, tab3, ty3, tab4, ty4, hft, hft2, hcb3, ht0, htl, he, hcb2, hB2, Nat.add_sub_cancel_left, nuT, kOf, datOf, pureQ, pure71, pureG, pureL, pureH, smem, tagE]; (repeat' apply And.intro); all_goals first | exact hK | omega))
                        apply h3_guard rfl rfl rfl rfl rfl (Nat.le_of_ble_eq_true rfl) rfl
                        · intro _
                          (apply Exists.intro; apply Exists.intro; apply And.intro; focus (apply hop_go rfl rfl; intro K' hK; simp [-List.reduceReplicate, -List.getD_eq_getElem?_getD, viewM, visOf, memL, tab22, ty22, tab23, ty23, tab25, ty25, tab26, ty26, tab105, ty105, tab103, ty103, tab5, ty5, tab3, ty3, tab4, ty4, hft, hft2, hcb3, ht0, htl, he, hcb2, hB2, Nat.add_sub_cancel_left, nuT, kOf, datOf, pureQ, pure71, pureG, pureL, pureH, smem, tagE]; (repeat' apply And.intro); all_goals first | exact hK | omega))
                          apply h3_guard rfl rfl rfl rfl rfl (Nat.le_of_ble_eq_true rfl) rfl
                          · intro _
                            (apply Exists.intro; apply Exists.intro; apply And.intro; focus (apply hop_go rfl rfl; intro K' hK; simp [-List.reduceReplicate, -List.getD_eq_getElem?_getD, viewM, visOf, memL, tab22, ty22, tab23, ty23, tab25, ty25, tab26, ty26, tab105, ty105, tab103, ty103, tab5, ty5, tab3, ty3, tab4, ty4, hft, hft2, hcb3, ht0, htl, he, hcb2, hB2, Nat.add_sub_cancel_left, nuT, kOf, datOf, pureQ, pure71, pureG, pureL, pureH, smem, tagE]; (repeat' apply And.intro); all_goals first | exact hK | omega))
                            apply h3_guard rfl rfl rfl rfl rfl (Nat.le_of_ble_eq_true rfl) rfl
                            · intro _
                              (apply Exists.intro; apply Exists.intro; apply And.intro; focus (apply hop_go rfl rfl; intro K' hK; simp [-List.reduceReplicate, -List.getD_eq_getElem?_getD, viewM, visOf, memL, tab22, ty22, tab23, ty23, tab25, ty25, tab26, ty26, tab105, ty105, tab103, ty103, tab5, ty5, tab3, ty3, tab4, ty4, hft, hft2, hcb3, ht0, htl, he, hcb2, hB2, Nat.add_sub_cancel_left, nuT, kOf, datOf, pureQ, pure71, pureG, pureL, pureH, smem, tagE]; (repeat' apply And.intro); all_goals first | exact hK | omega))
                              apply h3_guard rfl rfl rfl rfl rfl (Nat.le_of_ble_eq_true rfl) rfl
                              · intro _
                                (apply Exists.intro; apply Exists.intro; apply And.intro; focus (apply hop_go rfl rfl; intro K' hK; simp [-List.reduceReplicate, -List.getD_eq_getElem?_getD, viewM, visOf, memL, tab22, ty22, tab23, ty23, tab25, ty25, tab26, ty26, tab105, ty105, tab103, ty103, tab5, ty5, tab3, ty3, tab4, ty4, hft, hft2, hcb3, ht0, htl, he, hcb2, hB2, Nat.add_sub_cancel_left, nuT, kOf, datOf, pureQ, pure71, pureG, pureL, pureH, smem, tagE]; (repeat' apply And.intro); all_goals first | exact hK | omega))
                                refine h3_nil ?_
                                simp [finL, contL, contAt, stT, List.range, List.range.loop, -List.reduceReplicate]
                                refine ok_run hB tabOK pureQ_ok 100 ?_
                                repeat (first
    | rw [run_ops0]
    | rw [run_seq]
    | rw [run_region]
    | rw [run_block]
    | rw [run_blk]
    | rw [run_skip]
    | (apply run_go rfl; focus (intro L K hK; simp [-List.reduceReplicate, -List.getD_eq_getElem?_getD, tab22, ty22, tab23, ty23, tab25, ty25, tab26, ty26, tab105, ty105, tab103, ty103, tab5, ty5, tab3, ty3, tab4, ty4, ntmps29, he]; (repeat' apply And.intro); all_goals first | exact hK | omega)))
                                apply run_cond2 rfl
                                · intro _
                                  repeat (first
    | rw [run_ops0]
    | rw [run_seq]
    | rw [run_region]
    | rw [run_block]
    | rw [run_blk]
    | rw [run_skip]
    | (apply run_go rfl; focus (intro L K hK; simp [-List.reduceReplicate, -List.getD_eq_getElem?_getD, tab22, ty22, tab23, ty23, tab25, ty25, tab26, ty26, tab105, ty105, tab103, ty103, tab5, ty5, tab3, ty3, tab4, ty4, ntmps29]; (repeat' apply And.intro); all_goals first | exact hK | omega)))
                                  rw [run_ret]
                                  simp [-List.reduceReplicate, -List.getD_eq_getElem?_getD, results29, f29, smem, tagE, hTG]
                                · intro h; first | cases h | (simp [he] at h; done)
                              · intro h; first | cases h | (simp at h; done)
                            · intro h; first | cases h | (simp at h; done)
                          · intro h; first | cases h | (simp at h; done)
                        · intro h; first | cases h | (simp at h; done)
                      · intro h; first | cases h | (simp at h; done)
                    · intro h; first | cases h | (simp at h; done)
                  · intro h; first | cases h | (simp at h; done)
                · intro h; first | cases h | (simp at h; done)
              · intro h; first | cases h | (simp at h; done)
            · intro h; first | cases h | (simp at h; done)
          · intro h; first | cases h | (simp at h; done)
        · intro h; first | cases h | (simp at h; done)
      · intro h; first | cases h | (simp at h; done)
    · intro h; first | cases h | (simp at h; done)
  · intro h; first | cases h | (simp at h; done)
theorem spec29nO (W N B : B8) (nr cap on cn ob n cb : Nat) (hW : 16 * nr ≤ W.length) (hR : 0 < nr) (hR2 : nr < 1000) (hN : on + 12 ≤ N.length) (hcn : 12 ≤ cn) (hb : ob + (n + 16) ≤ B.length) (hcb : (n + 16) ≤ cb) (hmx : (n + 16) ≤ 1000000000) (he : eqAns (tagB W nr ((N.drop on).take 12) ([] : B8) ((B.drop ob).take n)) (B.drop (ob + n)) 16 16 = true) :
    Spec prog 29 [one (.ptr 0 0 0), one (.sl 2 on 12 cn 1), one .snil, one (.sl 3 ob (n + 16) cb 1)] (smem nr cap W N B) [] (fun r m => r = .tup [.s (.sl 7 0 n n 1), .s (.i 0)] ∧ m = smem nr cap W N B ++ (tagE W nr ((N.drop on).take 12) ([] : B8) ((B.drop ob).take n) ++ ([⟨true, 5, none, .a8 (stO W nr ((N.drop on).take 12) ((B.drop ob).take n) n)⟩, ⟨true, 23, some 16, .a8 (stC ((N.drop on).take 12) n)⟩] : List Ent)).map .ent) := by
  refine spec_of_body tabOK func29 rfl (Nat.le_of_ble_eq_true rfl) ?_
  intro E Q0 hB
  refine ok_run hB tabOK pureQ_ok 100 ?_
  simp only [argSl, smem, List.cons_append, List.nil_append]
  have hft : tFit W N B nr on cn ob n cb := ⟨hW, hR, hR2, hN, hcn, by omega, by omega, by omega⟩
  have hft2 : ((n : Int) + 16).toNat = n + 16 := by omega
  have hcb3 : (n : Int) + 16 ≤ ((cb - n : Nat) : Int) + (n : Int) := by omega
  obtain ⟨TG, hTG⟩ : ∃ TG, tagB W nr ((N.drop on).take 12) ([] : B8) ((B.drop ob).take n) = TG := ⟨_, rfl⟩
  have htl : TG.length = 16 := by rw [← hTG]; unfold tagB; rw [tagX_len, hashG_len]
  rw [hTG] at he
  have ht0 := hTG
  have hcb2 : 16 ≤ cb - n := by omega
  have hB2 : ob + n + 16 ≤ B.length := by omega
  repeat (first
    | rw [run_ops0]
    | rw [run_seq]
    | rw [run_region]
    | rw [run_block]
    | rw [run_blk]
    | rw [run_skip]
    | (apply run_go rfl; focus (intro L K hK; simp [-List.reduceReplicate, -List.getD_eq_getElem?_getD, tab22, ty22, tab23, ty23, tab25, ty25, tab26, ty26, tab105, ty105, tab103, ty103, tab5, ty5, tab3, ty3, tab4, ty4, ntmps29]; (repeat' apply And.intro); all_goals first | exact hK | omega)))
  apply run_guard rfl rfl rfl rfl
  · intro _
    (apply Exists.intro; apply And.intro; focus (intro L K hK; simp [-List.reduceReplicate, -List.getD_eq_getElem?_getD, tab22, ty22, tab23, ty23, tab25, ty25, tab26, ty26, tab105, ty105, tab103, ty103, tab5, ty5, tab3, ty3, tab4, ty4, ntmps29]; (repeat' apply And.intro); all_goals first | exact hK | omega))
    apply run_guard rfl rfl rfl rfl
    · intro _
      (apply Exists.intro; apply And.intro; focus (intro L K hK; simp [-List.reduceReplicate, -List.getD_eq_getElem?_getD, tab22, ty22, tab23, ty23, tab25, ty25, tab26, ty26, tab105, ty105, tab103, ty103, tab5, ty5, tab3, ty3, tab4, ty4, ntmps29]; (repeat' apply And.intro); all_goals first | exact hK | omega))
      apply run_guard rfl rfl rfl rfl
      · intro _
        (apply Exists.intro; apply And.intro; focus (intro L K hK; simp [-List.reduceReplicate, -List.getD_eq_getElem?_getD, tab22, ty22, tab23, ty23, tab25, ty25, tab26, ty26, tab105, ty105, tab103, ty103, tab5, ty5, tab3, ty3, tab4, ty4, ntmps29]; (repeat' apply And.intro); all_goals first | exact hK | omega))
        repeat (first
    | rw [run_ops0]
    | rw [run_seq]
    | rw [run_region]
    | rw [run_block]
    | rw [run_blk]
    | rw [run_skip]
    | (apply run_go rfl; focus (intro L K hK; simp [-List.reduceReplicate, -List.getD_eq_getElem?_getD, tab22, ty22, tab23, ty23, tab25, ty25, tab26, ty26, tab105, ty105, tab103, ty103, tab5, ty5, tab3, ty3, tab4, ty4, ntmps29]; (repeat' apply And.intro); all_goals first | exact hK | omega)))
        apply run_cond2 rfl
        · intro h; first | cases h | (simp at h; done)
        intro _
        repeat (first
    | rw [run_ops0]
    | rw [run_seq]
    | rw [run_region]
    | rw [run_block]
    | rw [run_blk]
    | rw [run_skip]
    | (apply run_go rfl; focus (intro L K hK; simp [-List.reduceReplicate, -List.getD_eq_getElem?_getD, tab22, ty22, tab23, ty23, tab25, ty25, tab26, ty26, tab105, ty105, tab103, ty103, tab5, ty5, tab3, ty3, tab4, ty4, ntmps29]; (repeat' apply And.intro); all_goals first | exact hK | omega)))
        rw [run_draw]
        refine ok_draw5 15 [(13, [9])] [] tabOK pureQ_ok nuT_ok pureQ_sub nuT_sub mixed (by decide +kernel) rfl rfl ?_
        repeat (first
    | (apply h3_go rfl rfl rfl rfl rfl (Nat.le_of_ble_eq_true rfl) rfl; focus (intro K' hK; simp [-List.reduceReplicate, -List.getD_eq_getElem?_getD, viewM, visOf, memL, tab22, ty22, tab23, ty23, tab25, ty25, tab26, ty26, tab105, ty105, tab103, ty103, tab5, ty5, tab3, ty3, tab4, ty4, hft, hft2, hcb3, ht0, htl, he, hcb2, hB2, Nat.add_sub_cancel_left, nuT, kOf, datOf, pureQ, pure71, pureG, pureL, pureH, smem, tagE]; (repeat' apply And.intro); all_goals first | exact hK | omega))
    | (apply h3_new rfl rfl rfl rfl rfl (Nat.le_of_ble_eq_true rfl) rfl; focus (intro K' hK; simp [-List.reduceReplicate, -List.getD_eq_getElem?_getD, viewM, visOf, memL, tab22, ty22, tab23, ty23, tab25, ty25, tab26, ty26, tab105, ty105, tab103, ty103, tab5, ty5, tab3, ty3, tab4, ty4, hft, hft2, hcb3, ht0, htl, he, hcb2, hB2, Nat.add_sub_cancel_left, nuT, kOf, datOf, pureQ, pure71, pureG, pureL, pureH, smem, tagE]; (repeat' apply And.intro); all_goals first | exact hK | omega)))
        apply h3_guard rfl rfl rfl rfl rfl (Nat.le_of_ble_eq_true rfl) rfl
        · intro _
          (apply Exists.intro; apply Exists.intro; apply And.intro; focus (apply hop_go rfl rfl; intro K' hK; simp [-List.reduceReplicate, -List.getD_eq_getElem?_getD, viewM, visOf, memL, tab22, ty22, tab23, ty23, tab25, ty25, tab26, ty26, tab105, ty105, tab103, ty103, tab5, ty5, tab3, ty3, tab4, ty4, hft, hft2, hcb3, ht0, htl, he, hcb2, hB2, Nat.add_sub_cancel_left, nuT, kOf, datOf, pureQ, pure71, pureG, pureL, pureH, smem, tagE]; (repeat' apply And.intro); all_goals first | exact hK | omega))
          apply h3_guard rfl rfl rfl rfl rfl (Nat.le_of_ble_eq_true rfl) rfl
          · intro _
            (apply Exists.intro; apply Exists.intro; apply And.intro; focus (apply hop_go rfl rfl; intro K' hK; simp [-List.reduceReplicate, -List.getD_eq_getElem?_getD, viewM, visOf, memL, tab22, ty22, tab23, ty23, tab25, ty25, tab26, ty26, tab105, ty105, tab103, ty103, tab5, ty5, tab3, ty3, tab4, ty4, hft, hft2, hcb3, ht0, htl, he, hcb2, hB2, Nat.add_sub_cancel_left, nuT, kOf, datOf, pureQ, pure71, pureG, pureL, pureH, smem, tagE]; (repeat' apply And.intro); all_goals first | exact hK | omega))
            apply h3_guard rfl rfl rfl rfl rfl (Nat.le_of_ble_eq_true rfl) rfl
            · intro _
              (apply Exists.intro; apply Exists.intro; apply And.intro; focus (apply hop_go rfl rfl; intro K' hK; simp [-List.reduceReplicate, -List.getD_eq_getElem?_getD, viewM, visOf, memL, tab22, ty22, tab23, ty23, tab25, ty25, tab26, ty26, tab105, ty105, tab103, ty103, tab5, ty5, tab3, ty3, tab4, ty4, hft, hft2, hcb3, ht0, htl, he, hcb2, hB2, Nat.add_sub_cancel_left, nuT, kOf, datOf, pureQ, pure71, pureG, pureL, pureH, smem, tagE]; (repeat' apply And.intro); all_goals first | exact hK | omega))
              apply h3_guard rfl rfl rfl rfl rfl (Nat.le_of_ble_eq_true rfl) rfl
              · intro _
                (apply Exists.intro; apply Exists.intro; apply And.intro; focus (apply hop_go rfl rfl; intro K' hK; simp [-List.reduceReplicate, -List.getD_eq_getElem?_getD, viewM, visOf, memL, tab22, ty22, tab23, ty23, tab25, ty25, tab26, ty26, tab105, ty105, tab103, ty103, tab5, ty5, tab3, ty3, tab4, ty4, hft, hft2, hcb3, ht0, htl, he, hcb2, hB2, Nat.add_sub_cancel_left, nuT, kOf, datOf, pureQ, pure71, pureG, pureL, pureH, smem, tagE]; (repeat' apply And.intro); all_goals first | exact hK | omega))
                apply h3_guard rfl rfl rfl rfl rfl (Nat.le_of_ble_eq_true rfl) rfl
                · intro _
                  (apply Exists.intro; apply Exists.intro; apply And.intro; focus (apply hop_go rfl rfl; intro K' hK; simp [-List.reduceReplicate, -List.getD_eq_getElem?_getD, viewM, visOf, memL, tab22, ty22, tab23, ty23, tab25, ty25, tab26, ty26, tab105, ty105, tab103, ty103, tab5, ty5, tab3, ty3, tab4, ty4, hft, hft2, hcb3, ht0, htl, he, hcb2, hB2, Nat.add_sub_cancel_left, nuT, kOf, datOf, pureQ, pure71, pureG, pureL, pureH, smem, tagE]; (repeat' apply And.intro); all_goals first | exact hK | omega))
                  apply h3_guard rfl rfl rfl rfl rfl (Nat.le_of_ble_eq_true rfl) rfl
                  · intro _
                    (apply Exists.intro; apply Exists.intro; apply And.intro; focus (apply hop_go rfl rfl; intro K' hK; simp [-List.reduceReplicate, -List.getD_eq_getElem?_getD, viewM, visOf, memL, tab22, ty22, tab23, ty23, tab25, ty25, tab26, ty26, tab105, ty105, tab103, ty103, tab5, ty5, tab3, ty3, tab4, ty4, hft, hft2, hcb3, ht0, htl, he, hcb2, hB2, Nat.add_sub_cancel_left, nuT, kOf, datOf, pureQ, pure71, pureG, pureL, pureH, smem, tagE]; (repeat' apply And.intro); all_goals first | exact hK | omega))
                    apply h3_guard rfl rfl rfl rfl rfl (Nat.le_of_ble_eq_true rfl) rfl
                    · intro _
                      (apply Exists.intro; apply Exists.intro; apply And.intro; focus (apply hop_call; simp [newOf, -List.reduceReplicate, -List.getD_eq_getElem?_getD, viewM, visOf, memL, tab22, ty22, tab23, ty23, tab25, ty25, tab26, ty26, tab105, ty105, tab103, ty103, tab5, ty5, tab3, ty3, tab4, ty4, hft, hft2, hcb3, ht0, htl, he, hcb2, hB2, Nat.add_sub_cancel_left, nuT, kOf, datOf, pureQ, pure71, pureG, pureL, pureH, smem, tagE]; first | done | exact ⟨rfl, rfl⟩ | rfl))
                      apply h3_guard rfl rfl rfl rfl rfl (Nat.le_of_ble_eq_true rfl) rfl
                      · intro _
                        (apply Exists.intro; apply Exists.intro; apply And.intro; focus (apply hop_go rfl rfl; intro K' hK; simp [-List.reduceReplicate, -List.getD_eq_getElem?_getD, viewM, visOf, memL, tab22, ty22, tab23, ty23, tab25, ty25, tab26, ty26, tab105, ty105, tab103, ty103, tab5, ty5, tab3, ty3, tab4, ty4, hft, hft2, hcb3, ht0, htl, he, hcb2, hB2, Nat.add_sub_cancel_left, nuT, kOf, datOf, pureQ, pure71, pureG, pureL, pureH, smem, tagE]; (repeat' apply And.intro); all_goals first | exact hK | omega))
                        apply h3_guard rfl rfl rfl rfl rfl (Nat.le_of_ble_eq_true rfl) rfl
                        · intro _
                          (apply Exists.intro; apply Exists.intro; apply And.intro; focus (apply hop_go rfl rfl; intro K' hK; simp [-List.reduceReplicate, -List.getD_eq_getElem?_getD, viewM, visOf, memL, tab22, ty22, tab23, ty23, tab25, ty25, tab26, ty26, tab105, ty105, tab103, ty103, tab5, ty5, tab3, ty3, tab4, ty4, hft, hft2, hcb3, ht0, htl, he, hcb2, hB2, Nat.add_sub_cancel_left, nuT, kOf, datOf, pureQ, pure71, pureG, pureL, pureH, smem, tagE]; (repeat' apply And.intro); all_goals first | exact hK | omega))
                          apply h3_guard rfl rfl rfl rfl rfl (Nat.le_of_ble_eq_true rfl) rfl
                          · intro _
                            (apply Exists.intro; apply Exists.intro; apply And.intro; focus (apply hop_go rfl rfl; intro K' hK; simp [-List.reduceReplicate, -List.getD_eq_getElem?_getD, viewM, visOf, memL, tab22, ty22, tab23, ty23, tab25, ty25, tab26, ty26, tab105, ty105, tab103, ty103, tab5, ty5, tab3, ty3, tab4, ty4, hft, hft2, hcb3, ht0, htl, he, hcb2, hB2, Nat.add_sub_cancel_left, nuT, kOf, datOf, pureQ, pure71, pureG, pureL, pureH, smem, tagE]; (repeat' apply And.intro); all_goals first | exact hK | omega))
                            apply h3_guard rfl rfl rfl rfl rfl (Nat.le_of_ble_eq_true rfl) rfl
                            · intro _
                              (apply Exists.intro; apply Exists.intro; apply And.intro; focus (apply hop_go rfl rfl; intro K' hK; simp [-List.reduceReplicate, -List.getD_eq_getElem?_getD, viewM, visOf, memL, tab22, ty22, tab23, ty23, tab25, ty25, tab26, ty26, tab105, ty105, tab103, ty103, tab5, ty5, tab3, ty3, tab4, ty4, hft, hft2, hcb3, ht0, htl, he, hcb2, hB2, Nat.add_sub_cancel_left, nuT, kOf, datOf, pureQ, pure71, pureG, pureL, pureH, smem, tagE]; (repeat' apply And.intro); all_goals first | exact hK | omega))
                              apply h3_guard rfl rfl rfl rfl rfl (Nat.le_of_ble_eq_true rfl) rfl
                              · intro _
                                (apply Exists.intro; apply Exists.intro; apply And.intro; focus (apply hop_go rfl rfl; intro K' hK; simp [-List.reduceReplicate, -List.getD_eq_getElem?_getD, viewM, visOf, memL, tab22, ty22, tab23, ty23, tab25, ty25, tab26, ty26, tab105, ty105, tab103, ty103, tab5, ty5, tab3, ty3, tab4, ty4, hft, hft2, hcb3, ht0, htl, he, hcb2, hB2, Nat.add_sub_cancel_left, nuT, kOf, datOf, pureQ, pure71, pureG, pureL, pureH, smem, tagE]; (repeat' apply And.intro); all_goals first | exact hK | omega))
                                refine h3_nil ?_
                                simp [finL, contL, contAt, stT, List.range, List.range.loop, -List.reduceReplicate]
                                refine ok_run hB tabOK pureQ_ok 100 ?_
                                repeat (first
    | rw [run_ops0]
    | rw [run_seq]
    | rw [run_region]
    | rw [run_block]
    | rw [run_blk]
    | rw [run_skip]
    | (apply run_go rfl; focus (intro L K hK; simp [-List.reduceReplicate, -List.getD_eq_getElem?_getD, tab22, ty22, tab23, ty23, tab25, ty25, tab26, ty26, tab105, ty105, tab103, ty103, tab5, ty5, tab3, ty3, tab4, ty4, ntmps29, he]; (repeat' apply And.intro); all_goals first | exact hK | omega)))
                                apply run_cond2 rfl
                                · intro h; first | cases h | (simp [he] at h; done)
                                intro _
                                repeat (first
    | rw [run_ops0]
    | rw [run_seq]
    | rw [run_region]
    | rw [run_block]
    | rw [run_blk]
    | rw [run_skip]
    | (apply run_go rfl; focus (intro L K hK; simp [-List.reduceReplicate, -List.getD_eq_getElem?_getD, tab22, ty22, tab23, ty23, tab25, ty25, tab26, ty26, tab105, ty105, tab103, ty103, tab5, ty5, tab3, ty3, tab4, ty4, ntmps29]; (repeat' apply And.intro); all_goals first | exact hK | omega)))
                                refine run_call rfl rfl rfl rfl ?_
                                refine ok_call [0, 1, 2, 3] rfl rfl ⟨f69, func69, nofun, by decide⟩ (spec69 W N B nr cap on cn ob n cb hW hR hR2 hN hcn (by omega) (by omega) (by omega)) trivial (by simp) (by simp [smem, matchM, ix, renA, renSeg, renR, renS, belA, belR, belS, A.len, segLen]) rfl rfl (Nat.le_of_ble_eq_true rfl) ?_
                                rintro sv m' ⟨rfl, rfl⟩ _
                                simp only [smem, tagE, afterM, putM, renMk, renA, renSeg, renR, renS, renV, ix, St.put, List.map_cons, List.map_nil, List.drop, List.length_cons, List.length_nil, List.cons_append, List.nil_append, one]
                                simp [-List.reduceReplicate]
                                refine ok_run hB tabOK pureQ_ok 100 ?_
                                repeat (first
    | rw [run_ops0]
    | rw [run_seq]
    | rw [run_region]
    | rw [run_block]
    | rw [run_blk]
    | rw [run_skip]
    | (apply run_go rfl; focus (intro L K hK; simp [-List.reduceReplicate, -List.getD_eq_getElem?_getD, tab22, ty22, tab23, ty23, tab25, ty25, tab26, ty26, tab105, ty105, tab103, ty103, tab5, ty5, tab3, ty3, tab4, ty4, ntmps29]; (repeat' apply And.intro); all_goals first | exact hK | omega)))
                                rw [run_ret]
                                simp [-List.reduceReplicate, -List.getD_eq_getElem?_getD, results29, f29, smem, tagE, hTG]
                              · intro h; first | cases h | (simp at h; done)
                            · intro h; first | cases h | (simp at h; done)
                          · intro h; first | cases h | (simp at h; done)
                        · intro h; first | cases h | (simp at h; done)
                      · intro h; first | cases h | (simp at h; done)
                    · intro h; first | cases h | (simp at h; done)
                  · intro h; first | cases h | (simp at h; done)
                · intro h; first | cases h | (simp at h; done)
              · intro h; first | cases h | (simp at h; done)
            · intro h; first | cases h | (simp at h; done)
          · intro h; first | cases h | (simp at h; done)
        · intro h; first | cases h | (simp at h; done)
      · intro h; first | cases h | (simp at h; done)
    · intro h; first | cases h | (simp at h; done)
  · intro h; first | cases h | (simp at h; done)
end Go.V
end
section
set_option linter.unusedSimpArgs false
set_option linter.unusedVariables false
set_option maxRecDepth 10000
namespace Go.V
open Go Go.Proofs.Try
theorem sound6 : (tagB (sch (List.replicate 16 0#8) 4 (4 * (4 + 7))).1 11 (((List.replicate 12 0#8).drop 0).take 12) [] []).getD 0 0#8 = 88#8 ∧ (tagB (sch (List.replicate 16 0#8) 4 (4 * (4 + 7))).1 11 (((List.replicate 12 0#8).drop 0).take 12) [] []).getD 15 0#8 = 90#8 := by decide +kernel
theorem eqAns_self (a : B8) : eqAns a a 16 16 = true := by
  unfold eqAns
  have h := (eqAcc_zero a a 16).2 (fun _ _ => rfl)
  simp [h]
theorem spec25 : Spec prog 25 [] [] [] (fun r _ => r = one (.b true)) := by
  refine spec_of_body tabOK func25 rfl (Nat.le_of_ble_eq_true rfl) ?_
  intro E Q0 hB
  refine ok_run hB tabOK pureNone_ok 100 ?_
  simp only [argSl]
  have hz16 : (List.replicate 16 0#8).length = 16 := by simp [-List.reduceReplicate]
  have hz12 : (List.replicate 12 0#8).length = 12 := by simp [-List.reduceReplicate]
  have hv := sound6
  generalize hZ16 : List.replicate 16 0#8 = Z16 at hz16 hv
  generalize hZ12 : List.replicate 12 0#8 = Z12 at hz12 hv
  repeat (first
    | rw [run_ops0]
    | rw [run_seq]
    | rw [run_region]
    | rw [run_block]
    | rw [run_blk]
    | rw [run_skip]
    | (apply run_go rfl; focus (intro L K hK; simp [-List.reduceReplicate, -List.getD_eq_getElem?_getD, tab22, ty22, tab23, ty23, tab25, ty25, tab26, ty26, tab105, ty105, tab103, ty103, tab5, ty5, tab3, ty3, tab4, ty4, ntmps25, hZ16]; (repeat' apply And.intro); all_goals first | exact hK | omega)))
  refine run_call rfl rfl rfl rfl ?_
  refine ok_call [0] rfl rfl ⟨f21, func21, nofun, by decide⟩ (spec21 Z16 4 16 (by omega) (.inl rfl) (by decide)) trivial (by simp) (by simp [matchM, ix, renA, belA]) rfl rfl (Nat.le_of_ble_eq_true rfl) ?_
  rintro sv m' ⟨rfl, cap, rfl⟩ _
  have hwl := sch_len (key := Z16) (nk := 4) (by omega) (by omega) (4 * (4 + 7))
  simp only [newMem, smem, tagE, afterM, putM, renMk, renA, renSeg, renR, renS, renV, ix, St.put, List.map_cons, List.map_nil, List.drop, List.length_cons, List.length_nil, List.cons_append, List.nil_append, one]
  generalize (sch Z16 4 (4 * (4 + 7))).1 = W at hv hwl ⊢
  simp [-List.reduceReplicate]
  refine ok_run hB tabOK pureNone_ok 100 ?_
  repeat (first
    | rw [run_ops0]
    | rw [run_seq]
    | rw [run_region]
    | rw [run_block]
    | rw [run_blk]
    | rw [run_skip]
    | (apply run_go rfl; focus (intro L K hK; simp [-List.reduceReplicate, -List.getD_eq_getElem?_getD, tab22, ty22, tab23, ty23, tab25, ty25, tab26, ty26, tab105, ty105, tab103, ty103, tab5, ty5, tab3, ty3, tab4, ty4, ntmps25, hZ12]; (repeat' apply And.intro); all_goals first | exact hK | omega)))
  refine run_call rfl rfl rfl rfl ?_
  refine ok_call [2, 3, 4] rfl rfl ⟨f28, func28, nofun, by decide⟩ (spec28n W Z12 11 cap 0 12 (by omega) (by omega) (by omega) (by omega) (by omega)) trivial (by simp) (by simp [smem, matchM, ix, renA, renSeg, renR, renS, belA, belR, belS, A.len, segLen]) rfl rfl (Nat.le_of_ble_eq_true rfl) ?_
  rintro sv m' ⟨cap2, hcap2, rfl, rfl⟩ _
  have htl : (tagB W 11 ((Z12.drop 0).take 12) [] []).length = 16 := by unfold tagB; rw [tagX_len, hashG_len]
  obtain ⟨TG, hTG⟩ : ∃ TG, tagB W 11 ((Z12.drop 0).take 12) [] [] = TG := ⟨_, rfl⟩
  rw [hTG] at hv htl
  have hTG2 : tagB W 11 (Z12.take 12) [] [] = TG := hTG
  simp only [smem, tagE, afterM, putM, renMk, renA, renSeg, renR, renS, renV, ix, St.put, List.map_cons, List.map_nil, List.drop, List.length_cons, List.length_nil, List.cons_append, List.nil_append, one]
  simp only [hTG2]
  simp [-List.reduceReplicate]
  refine ok_run hB tabOK pureNone_ok 100 ?_
  repeat (first
    | rw [run_ops0]
    | rw [run_seq]
    | rw [run_region]
    | rw [run_block]
    | rw [run_blk]
    | rw [run_skip]
    | (apply run_go rfl; focus (intro L K hK; simp [-List.reduceReplicate, -List.getD_eq_getElem?_getD, tab22, ty22, tab23, ty23, tab25, ty25, tab26, ty26, tab105, ty105, tab103, ty103, tab5, ty5, tab3, ty3, tab4, ty4, ntmps25, hZ12]; (repeat' apply And.intro); all_goals first | exact hK | omega)))
  refine run_call rfl rfl rfl rfl ?_
  refine ok_call [2, 3, 10, 5] rfl rfl ⟨f29, func29, nofun, by decide⟩ (spec29nO W Z12 TG 11 cap 0 12 0 0 cap2 (by omega) (by omega) (by omega) (by omega) (by omega) (by omega) (by omega) (by omega) (by rw [List.take_zero, hTG]; exact eqAns_self TG)) trivial (by simp) (by simp [smem, matchM, ix, renA, renSeg, renR, renS, belA, belR, belS, A.len, segLen]) rfl rfl (Nat.le_of_ble_eq_true rfl) ?_
  rintro sv m' ⟨rfl, rfl⟩ _
  simp only [smem, tagE, afterM, putM, renMk, renA, renSeg, renR, renS, renV, ix, St.put, List.map_cons, List.map_nil, List.drop, List.length_cons, List.length_nil, List.cons_append, List.nil_append, one]
  simp [-List.reduceReplicate]
  refine ok_run hB tabOK pureNone_ok 100 ?_
  repeat (first
    | rw [run_ops0]
    | rw [run_seq]
    | rw [run_region]
    | rw [run_block]
    | rw [run_blk]
    | rw [run_skip]
    | (apply run_go rfl; focus (intro L K hK; simp [-List.reduceReplicate, -List.getD_eq_getElem?_getD, tab22, ty22, tab23, ty23, tab25, ty25, tab26, ty26, tab105, ty105, tab103, ty103, tab5, ty5, tab3, ty3, tab4, ty4, ntmps25, hv, htl]; (repeat' apply And.intro); all_goals first | exact hK | omega)))
  apply run_guard rfl rfl rfl rfl
  · intro _
    (apply Exists.intro; apply And.intro; focus (intro L K hK; simp [-List.reduceReplicate, -List.getD_eq_getElem?_getD, tab22, ty22, tab23, ty23, tab25, ty25, tab26, ty26, tab105, ty105, tab103, ty103, tab5, ty5, tab3, ty3, tab4, ty4, ntmps25, hv, htl]; (repeat' apply And.intro); all_goals first | exact hK | omega))
    apply run_guard rfl rfl rfl rfl
    · intro _
      (apply Exists.intro; apply And.intro; focus (intro L K hK; simp [-List.reduceReplicate, -List.getD_eq_getElem?_getD, tab22, ty22, tab23, ty23, tab25, ty25, tab26, ty26, tab105, ty105, tab103, ty103, tab5, ty5, tab3, ty3, tab4, ty4, ntmps25, hv, htl]; (repeat' apply And.intro); all_goals first | exact hK | omega))
      apply run_guard rfl rfl rfl rfl
      · intro _
        (apply Exists.intro; apply And.intro; focus (intro L K hK; simp [-List.reduceReplicate, -List.getD_eq_getElem?_getD, tab22, ty22, tab23, ty23, tab25, ty25, tab26, ty26, tab105, ty105, tab103, ty103, tab5, ty5, tab3, ty3, tab4, ty4, ntmps25, hv, htl]; (repeat' apply And.intro); all_goals first | exact hK | omega))
        repeat (first
    | rw [run_ops0]
    | rw [run_seq]
    | rw [run_region]
    | rw [run_block]
    | rw [run_blk]
    | rw [run_skip]
    | (apply run_go rfl; focus (intro L K hK; simp [-List.reduceReplicate, -List.getD_eq_getElem?_getD, tab22, ty22, tab23, ty23, tab25, ty25, tab26, ty26, tab105, ty105, tab103, ty103, tab5, ty5, tab3, ty3, tab4, ty4, ntmps25, hv, htl]; (repeat' apply And.intro); all_goals first | exact hK | omega)))
        apply run_guard rfl rfl rfl rfl
        · intro _
          (apply Exists.intro; apply And.intro; focus (intro L K hK; simp [-List.reduceReplicate, -List.getD_eq_getElem?_getD, tab22, ty22, tab23, ty23, tab25, ty25, tab26, ty26, tab105, ty105, tab103, ty103, tab5, ty5, tab3, ty3, tab4, ty4, ntmps25, hv, htl]; (repeat' apply And.intro); all_goals first | exact hK | omega))
          apply run_guard rfl rfl rfl rfl
          · intro _
            (apply Exists.intro; apply And.intro; focus (intro L K hK; simp [-List.reduceReplicate, -List.getD_eq_getElem?_getD, tab22, ty22, tab23, ty23, tab25, ty25, tab26, ty26, tab105, ty105, tab103, ty103, tab5, ty5, tab3, ty3, tab4, ty4, ntmps25, hv, htl]; (repeat' apply And.intro); all_goals first | exact hK | omega))
            apply run_guard rfl rfl rfl rfl
            · intro _
              (apply Exists.intro; apply And.intro; focus (intro L K hK; simp [-List.reduceReplicate, -List.getD_eq_getElem?_getD, tab22, ty22, tab23, ty23, tab25, ty25, tab26, ty26, tab105, ty105, tab103, ty103, tab5, ty5, tab3, ty3, tab4, ty4, ntmps25, hv, htl]; (repeat' apply And.intro); all_goals first | exact hK | omega))
              apply run_guard rfl rfl rfl rfl
              · intro _
                (apply Exists.intro; apply And.intro; focus (intro L K hK; simp [-List.reduceReplicate, -List.getD_eq_getElem?_getD, tab22, ty22, tab23, ty23, tab25, ty25, tab26, ty26, tab105, ty105, tab103, ty103, tab5, ty5, tab3, ty3, tab4, ty4, ntmps25, hv, htl]; (repeat' apply And.intro); all_goals first | exact hK | omega))
                repeat (first
    | rw [run_ops0]
    | rw [run_seq]
    | rw [run_region]
    | rw [run_block]
    | rw [run_blk]
    | rw [run_skip]
    | (apply run_go rfl; focus (intro L K hK; simp [-List.reduceReplicate, -List.getD_eq_getElem?_getD, tab22, ty22, tab23, ty23, tab25, ty25, tab26, ty26, tab105, ty105, tab103, ty103, tab5, ty5, tab3, ty3, tab4, ty4, ntmps25, hv, htl]; (repeat' apply And.intro); all_goals first | exact hK | omega)))
                apply run_guard rfl rfl rfl rfl
                · intro _
                  (apply Exists.intro; apply And.intro; focus (intro L K hK; simp [-List.reduceReplicate, -List.getD_eq_getElem?_getD, tab22, ty22, tab23, ty23, tab25, ty25, tab26, ty26, tab105, ty105, tab103, ty103, tab5, ty5, tab3, ty3, tab4, ty4, ntmps25, hv, htl]; (repeat' apply And.intro); all_goals first | exact hK | omega))
                  apply run_guard rfl rfl rfl rfl
                  · intro _
                    (apply Exists.intro; apply And.intro; focus (intro L K hK; simp [-List.reduceReplicate, -List.getD_eq_getElem?_getD, tab22, ty22, tab23, ty23, tab25, ty25, tab26, ty26, tab105, ty105, tab103, ty103, tab5, ty5, tab3, ty3, tab4, ty4, ntmps25, hv, htl]; (repeat' apply And.intro); all_goals first | exact hK | omega))
                    apply run_guard rfl rfl rfl rfl
                    · intro _
                      (apply Exists.intro; apply And.intro; focus (intro L K hK; simp [-List.reduceReplicate, -List.getD_eq_getElem?_getD, tab22, ty22, tab23, ty23, tab25, ty25, tab26, ty26, tab105, ty105, tab103, ty103, tab5, ty5, tab3, ty3, tab4, ty4, ntmps25, hv, htl]; (repeat' apply And.intro); all_goals first | exact hK | omega))
                      apply run_guard rfl rfl rfl rfl
                      · intro _
                        (apply Exists.intro; apply And.intro; focus (intro L K hK; simp [-List.reduceReplicate, -List.getD_eq_getElem?_getD, tab22, ty22, tab23, ty23, tab25, ty25, tab26, ty26, tab105, ty105, tab103, ty103, tab5, ty5, tab3, ty3, tab4, ty4, ntmps25, hv, htl]; (repeat' apply And.intro); all_goals first | exact hK | omega))
                        repeat (first
    | rw [run_ops0]
    | rw [run_seq]
    | rw [run_region]
    | rw [run_block]
    | rw [run_blk]
    | rw [run_skip]
    | (apply run_go rfl; focus (intro L K hK; simp [-List.reduceReplicate, -List.getD_eq_getElem?_getD, tab22, ty22, tab23, ty23, tab25, ty25, tab26, ty26, tab105, ty105, tab103, ty103, tab5, ty5, tab3, ty3, tab4, ty4, ntmps25, hv, htl]; (repeat' apply And.intro); all_goals first | exact hK | omega)))
                        apply run_guard rfl rfl rfl rfl
                        · intro _
                          (apply Exists.intro; apply And.intro; focus (intro L K hK; simp [-List.reduceReplicate, -List.getD_eq_getElem?_getD, tab22, ty22, tab23, ty23, tab25, ty25, tab26, ty26, tab105, ty105, tab103, ty103, tab5, ty5, tab3, ty3, tab4, ty4, ntmps25, hv, htl]; (repeat' apply And.intro); all_goals first | exact hK | omega))
                          apply run_guard rfl rfl rfl rfl
                          · intro _
                            (apply Exists.intro; apply And.intro; focus (intro L K hK; simp [-List.reduceReplicate, -List.getD_eq_getElem?_getD, tab22, ty22, tab23, ty23, tab25, ty25, tab26, ty26, tab105, ty105, tab103, ty103, tab5, ty5, tab3, ty3, tab4, ty4, ntmps25, hv, htl]; (repeat' apply And.intro); all_goals first | exact hK | omega))
                            apply run_guard rfl rfl rfl rfl
                            · intro _
                              (apply Exists.intro; apply And.intro; focus (intro L K hK; simp [-List.reduceReplicate, -List.getD_eq_getElem?_getD, tab22, ty22, tab23, ty23, tab25, ty25, tab26, ty26, tab105, ty105, tab103, ty103, tab5, ty5, tab3, ty3, tab4, ty4, ntmps25, hv, htl]; (repeat' apply And.intro); all_goals first | exact hK | omega))
                              repeat (first
    | rw [run_ops0]
    | rw [run_seq]
    | rw [run_region]
    | rw [run_block]
    | rw [run_blk]
    | rw [run_skip]
    | (apply run_go rfl; focus (intro L K hK; simp [-List.reduceReplicate, -List.getD_eq_getElem?_getD, tab22, ty22, tab23, ty23, tab25, ty25, tab26, ty26, tab105, ty105, tab103, ty103, tab5, ty5, tab3, ty3, tab4, ty4, ntmps25, hv, htl]; (repeat' apply And.intro); all_goals first | exact hK | omega)))
                              rw [run_ret]
                              simp [-List.reduceReplicate, -List.getD_eq_getElem?_getD, results25, f25]
                            · intro h; first | (simp [hv] at h; done) | (simp at h; done)
                          · intro h; first | (simp [hv] at h; done) | (simp at h; done)
                        · intro h; first | (simp [hv] at h; done) | (simp at h; done)
                      · intro h; first | (simp [hv] at h; done) | (simp at h; done)
                    · intro h; first | (simp [hv] at h; done) | (simp at h; done)
                  · intro h; first | (simp [hv] at h; done) | (simp at h; done)
                · intro h; first | (simp [hv] at h; done) | (simp at h; done)
              · intro h; first | (simp [hv] at h; done) | (simp at h; done)
            · intro h; first | (simp [hv] at h; done) | (simp at h; done)
          · intro h; first | (simp [hv] at h; done) | (simp at h; done)
        · intro h; first | (simp [hv] at h; done) | (simp at h; done)
      · intro h; first | (simp [hv] at h; done) | (simp at h; done)
    · intro h; first | (simp [hv] at h; done) | (simp at h; done)
  · intro h; first | (simp [hv] at h; done) | (simp at h; done)
end Go.V
end
section
set_option linter.unusedSimpArgs false
set_option linter.unusedVariables false
set_option maxRecDepth 10000
namespace Go.V
theorem bit64 {x y : BitVec 64} (h : ∀ i, i < 64 → x.getLsbD i = y.getLsbD i) : x = y := BitVec.eq_of_getLsbD_eq (fun i hi => h i hi)
theorem and_one (x : BitVec 64) : x &&& 1#64 = if x.getLsbD 0 then 1#64 else 0#64 := by
  apply bit64
  intro i hi
  rw [BitVec.getLsbD_and]
  by_cases h : i = 0
  · subst h
    cases x.getLsbD 0 <;> rfl
  · have : (1#64).getLsbD i = false := by rw [BitVec.getLsbD_one]; simp [h]
    rw [this]
    cases x.getLsbD 0 <;> simp [this]
theorem mask_xor (x y b : BitVec 64) : b &&& -((x ^^^ y) &&& 1#64) = (b &&& -(x &&& 1#64)) ^^^ (b &&& -(y &&& 1#64)) := by
  rw [and_one, and_one, and_one, BitVec.getLsbD_xor]
  cases x.getLsbD 0 <;> cases y.getLsbD 0 <;> simp
theorem gBit_xor (a c : G) (j : Nat) : gBit (xorG a c) j = gBit a j ^^^ gBit c j := by
  unfold gBit xorG
  split <;> exact BitVec.ushiftRight_xor_distrib ..
theorem xorG_4 (a b c d : BitVec 64) : a ^^^ b ^^^ (c ^^^ d) = a ^^^ c ^^^ (b ^^^ d) := by
  apply bit64
  intro i _
  simp only [BitVec.getLsbD_xor]
  cases a.getLsbD i <;> cases b.getLsbD i <;> cases c.getLsbD i <;> cases d.getLsbD i <;> rfl
theorem gR_xor (a c b : G) : ∀ j, gR (xorG a c) b j = xorG (gR a b j) (gR c b j)
  | 0 => by simp [gR, xorG]
  | j + 1 => by
    have ih := gR_xor a c b j
    show ((gR (xorG a c) b j).1 ^^^ ((gB b j).1 &&& -(gBit (xorG a c) j &&& 1#64)), (gR (xorG a c) b j).2 ^^^ ((gB b j).2 &&& -(gBit (xorG a c) j &&& 1#64))) = _
    rw [ih, gBit_xor, mask_xor, mask_xor]
    show ((gR a b j).1 ^^^ (gR c b j).1 ^^^ _, (gR a b j).2 ^^^ (gR c b j).2 ^^^ _) = _
    exact Prod.ext (xorG_4 _ _ _ _) (xorG_4 _ _ _ _)
theorem shl_or (p q : BitVec 64) (x y : BitVec 8) : ((p ^^^ q) <<< 8) ||| (x ^^^ y).setWidth 64 = ((p <<< 8) ||| x.setWidth 64) ^^^ ((q <<< 8) ||| y.setWidth 64) := by
  apply bit64
  intro i hi
  simp only [BitVec.getLsbD_or, BitVec.getLsbD_xor, BitVec.getLsbD_shiftLeft, BitVec.getLsbD_setWidth, hi, decide_true, Bool.true_and]
  by_cases h : i < 8
  · simp [h]
  · have hx : x.getLsbD i = false := BitVec.getLsbD_of_ge x i (by omega)
    have hy : y.getLsbD i = false := BitVec.getLsbD_of_ge y i (by omega)
    simp [h, hx, hy]
theorem ofH_lin {x y z : B8} (h : ∀ i, i < 16 → z.getD i 0 = x.getD i 0 ^^^ y.getD i 0) : ∀ k, k ≤ 8 → ofH z k = ofH x k ^^^ ofH y k
  | 0, _ => by simp [ofH]
  | k + 1, hk => by rw [ofH, ofH, ofH, ofH_lin h k (by omega), h k (by omega), shl_or]
theorem ofL_lin {x y z : B8} (h : ∀ i, i < 16 → z.getD i 0 = x.getD i 0 ^^^ y.getD i 0) : ∀ k, k ≤ 8 → ofL z k = ofL x k ^^^ ofL y k
  | 0, _ => by simp [ofL]
  | k + 1, hk => by rw [ofL, ofL, ofL, ofL_lin h k (by omega), h (8 + k) (by omega), shl_or]
theorem ofG_lin {x y z : B8} (h : ∀ i, i < 16 → z.getD i 0 = x.getD i 0 ^^^ y.getD i 0) : ofG z = xorG (ofG x) (ofG y) := by
  simp only [ofG, xorG, ofH_lin h 8 (Nat.le_refl _), ofL_lin h 8 (Nat.le_refl _)]
theorem pad_get (D : B8) (j i : Nat) (hi : i < 16) : (pad16 ((D.drop (16 * j)).take 16)).getD i 0 = D.getD (16 * j + i) 0 := by
  have hz : ∀ k, zero16.getD k 0 = 0#8 := fun k => by
    by_cases h : k < 16
    · have : ∀ k : Fin 16, zero16.getD k.1 0 = 0#8 := by decide
      exact this ⟨k, h⟩
    · rw [List.getD_eq_getElem?_getD, List.getElem?_eq_none (by simp [zero16]; omega)]; rfl
  unfold pad16
  have hl : ((D.drop (16 * j)).take 16).length = min 16 (D.length - 16 * j) := by simp
  by_cases h : 16 * j + i < D.length
  · rw [List.getD_eq_getElem?_getD, List.getElem?_append_left (by omega), List.getElem?_take_of_lt hi, List.getElem?_drop, List.getD_eq_getElem?_getD]
  · rw [List.getD_eq_getElem?_getD, List.getElem?_append_right (by omega), List.getElem?_drop]
    have h1 := hz (((D.drop (16 * j)).take 16).length + (i - ((D.drop (16 * j)).take 16).length))
    rw [List.getD_eq_getElem?_getD] at h1
    rw [h1, List.getD_eq_getElem?_getD, List.getElem?_eq_none (by omega)]
    rfl
theorem xorG_comm4 (a b c d : G) : xorG (xorG a b) (xorG c d) = xorG (xorG a c) (xorG b d) := by
  simp only [xorG, xorG_4]
/-- Four texts of one length of which each byte is put together out of the others': so are the hashes. -/
theorem absG_lin {A B C Z : B8} (h : ∀ i, C.getD i 0 = A.getD i 0 ^^^ B.getD i 0) (hz : ∀ i, Z.getD i 0 = 0#8) (k : G) : ∀ j, absG k (0#64, 0#64) C j = xorG (xorG (absG k (0#64, 0#64) A j) (absG k (0#64, 0#64) B j)) (absG k (0#64, 0#64) Z j)
  | 0 => by simp [absG, xorG]
  | j + 1 => by
    have ih := absG_lin h hz k j
    have hc : ofG (pad16 ((C.drop (16 * j)).take 16)) = xorG (xorG (ofG (pad16 ((A.drop (16 * j)).take 16))) (ofG (pad16 ((B.drop (16 * j)).take 16)))) (ofG (pad16 ((Z.drop (16 * j)).take 16))) := by
      have h1 : ofG (pad16 ((C.drop (16 * j)).take 16)) = xorG (ofG (pad16 ((A.drop (16 * j)).take 16))) (ofG (pad16 ((B.drop (16 * j)).take 16))) := ofG_lin (fun i hi => by rw [pad_get _ _ _ hi, pad_get _ _ _ hi, pad_get _ _ _ hi, h])
      have h2 : ofG (pad16 ((Z.drop (16 * j)).take 16)) = xorG (ofG (pad16 ((Z.drop (16 * j)).take 16))) (ofG (pad16 ((Z.drop (16 * j)).take 16))) := ofG_lin (fun i hi => by rw [pad_get _ _ _ hi, hz]; rfl)
      rw [h1, h2]
      simp [xorG]
    rw [absG, absG, absG, absG, ih, hc, xorG_comm4, xorG_comm4 (absG k (0#64, 0#64) A j), gR_xor, gR_xor]
theorem outG_lin (x y z w : G) (h : z = xorG (xorG x y) w) : ∀ j, j ≤ 8 → ∀ i, (outG z j).getD i 0 = (outG x j).getD i 0 ^^^ (outG y j).getD i 0 ^^^ (outG w j).getD i 0
  | 0, _, i => by
    show zero16.getD i 0 = zero16.getD i 0 ^^^ zero16.getD i 0 ^^^ zero16.getD i 0
    simp
  | j + 1, hj, i => by
    have ih := outG_lin x y z w h j (by omega) i
    have lz := outG_len z j
    have lx := outG_len x j
    have ly := outG_len y j
    have lw := outG_len w j
    have g : ∀ (p : G), (outG p (j + 1)).getD i 0 = if i = 15 - j then (p.2 >>> (8 * j)).setWidth 8 else if i = 7 - j then (p.1 >>> (8 * j)).setWidth 8 else (outG p j).getD i 0 := by
      intro p
      have lp := outG_len p j
      rw [outG, List.getD_eq_getElem?_getD, List.getElem?_set]
      by_cases h1 : 15 - j = i
      · rw [if_pos h1, if_pos h1.symm, if_pos (by simp [lp]; omega)]; rfl
      · rw [if_neg h1, if_neg (fun h => h1 h.symm), List.getElem?_set]
        by_cases h2 : 7 - j = i
        · rw [if_pos h2, if_pos h2.symm, if_pos (by omega)]; rfl
        · rw [if_neg h2, if_neg (fun h => h2 h.symm), List.getD_eq_getElem?_getD]
    rw [g z, g x, g y, g w]
    subst h
    have hs : ∀ a b c : BitVec 64, ((a ^^^ b ^^^ c) >>> (8 * j)).setWidth 8 = (a >>> (8 * j)).setWidth 8 ^^^ (b >>> (8 * j)).setWidth 8 ^^^ (c >>> (8 * j)).setWidth 8 := fun a b c => by
      rw [BitVec.ushiftRight_xor_distrib, BitVec.ushiftRight_xor_distrib, BitVec.setWidth_xor, BitVec.setWidth_xor]
    split
    · exact hs _ _ _
    · split
      · exact hs _ _ _
      · exact ih
theorem hash_lin {A B C Z : B8} (H : B8) (h : ∀ i, C.getD i 0 = A.getD i 0 ^^^ B.getD i 0) (hz : ∀ i, Z.getD i 0 = 0#8) (hB : B.length = A.length) (hC : C.length = A.length) (hZ : Z.length = A.length) (i : Nat) :
    (hashG H [] C).getD i 0 = (hashG H [] A).getD i 0 ^^^ (hashG H [] B).getD i 0 ^^^ (hashG H [] Z).getD i 0 := by
  unfold hashG absAll
  simp only [List.length_nil, hB, hC, hZ]
  refine outG_lin _ _ _ _ ?_ 8 (Nat.le_refl _) i
  have e0 : absG (ofG (pad16 H)) (0#64, 0#64) [] ((0 + 15) / 16) = (0#64, 0#64) := rfl
  rw [e0, absG_lin h hz, ← gR_xor, ← gR_xor]
  congr 1
  simp only [xorG]
  generalize lenG 0 A.length = L
  have h3 : ∀ a b c l : BitVec 64, a ^^^ b ^^^ c ^^^ l = a ^^^ l ^^^ (b ^^^ l) ^^^ (c ^^^ l) := fun a b c l => by
    apply bit64
    intro i _
    simp only [BitVec.getLsbD_xor]
    cases a.getLsbD i <;> cases b.getLsbD i <;> cases c.getLsbD i <;> cases l.getLsbD i <;> rfl
  exact Prod.ext (h3 _ _ _ _) (h3 _ _ _ _)
end Go.V
end
section
set_option linter.unusedSimpArgs false
set_option linter.unusedVariables false
set_option maxRecDepth 10000
namespace Go.V
open Go Go.Proofs.Try
/-- The bytes of two texts put together. -/
def xl (A B : B8) (i : Nat) : B8 := (List.range i).map (fun j => A.getD j 0 ^^^ B.getD j 0)
theorem xl_len (A B : B8) (i : Nat) : (xl A B i).length = i := by simp [xl]
theorem xl_succ (A B : B8) (i : Nat) : xl A B (i + 1) = xl A B i ++ [A.getD i 0 ^^^ B.getD i 0] := by simp [xl, List.range_succ]
theorem xl_get (A B : B8) (n i : Nat) : (xl A B n).getD i 0 = (A.take n).getD i 0 ^^^ (B.take n).getD i 0 := by
  by_cases h : i < n
  · rw [List.getD_eq_getElem?_getD, List.getD_eq_getElem?_getD, List.getD_eq_getElem?_getD, List.getElem?_take_of_lt h, List.getElem?_take_of_lt h]
    simp [xl, h]
  · rw [List.getD_eq_getElem?_getD, List.getD_eq_getElem?_getD, List.getD_eq_getElem?_getD, List.getElem?_eq_none (by rw [xl_len]; omega), List.getElem?_eq_none (by simp; omega), List.getElem?_eq_none (by simp; omega)]
    rfl
theorem lin11 (h A B : B8) (n : Nat) (hA : n ≤ A.length) (hB : n ≤ B.length) (i : Nat) : (hashG h [] (xl A B n)).getD i 0 = (hashG h [] (A.take n)).getD i 0 ^^^ (hashG h [] (B.take n)).getD i 0 ^^^ (hashG h [] (List.replicate n 0#8)).getD i 0 := by
  refine hash_lin h (xl_get A B n) (fun i => ?_) (by simp; omega) (by rw [xl_len]; simp; omega) (by simp; omega) i
  rw [List.getD_eq_getElem?_getD]
  by_cases h : i < n
  · rw [List.getElem?_replicate, if_pos h]; rfl
  · rw [List.getElem?_replicate, if_neg h]; rfl
/-- law06.sound as a plain call. -/
noncomputable def pureR : Pure := fun m f l => if f = 25 then (match l with | [] => some (one (.b true)) | _ => none) else pureQ m f l
theorem pureR_sub : PureSub pureR := by
  intro m m' f l v hs h
  unfold pureR at h ⊢
  split at h
  · rename_i hf; rw [if_pos hf]; exact h
  · rename_i hf; rw [if_neg hf]; exact pureQ_sub m m' f l v hs h
theorem pureR_ok : PureOK prog pureR := by
  intro m f svs sv h E w ℓ vs hm hd
  unfold pureR at h
  split at h
  · rename_i hf
    subst hf
    split at h
    · cases h
      exact ⟨⟨f25, func25, nofun, by decide⟩, pure_use spec25 (by simp) rfl hm [] (by simp) (by simp [matchM]) rfl (by simpa [renV, renA, renS, ix, one] using hd)⟩
    · cases h
  · exact pureQ_ok m f svs sv h E w ℓ vs hm hd
theorem spec11 (h A B : B8) (na ca nb cb : Nat) (hh : h.length = 16) (hA : A.length = na) (hca : na ≤ ca) (hBl : B.length = nb) (hcb : nb ≤ cb) : Spec prog 11 [.one (.a8 h), one (.sl 0 0 na ca 1), one (.sl 1 0 nb cb 1)] [.ent ⟨false, 5, none, .a8 A⟩, .ent ⟨false, 5, none, .a8 B⟩] [] (fun r _ => r = one (.b true)) := by
  refine spec_of_body tabOK func11 rfl (Nat.le_of_ble_eq_true rfl) ?_
  intro E Q0 hB
  refine ok_run hB tabOK pureR_ok 100 ?_
  simp only [argSl]
  have hpd : h.take 16 = h := List.take_of_length_le (by omega)
  repeat (first
    | rw [run_ops0]
    | rw [run_seq]
    | rw [run_region]
    | rw [run_block]
    | rw [run_blk]
    | rw [run_skip]
    | (apply run_go rfl; focus (intro L K hK; simp [-List.reduceReplicate, -List.getD_eq_getElem?_getD, tab22, ty22, tab23, ty23, tab5, ty5, tab3, ty3, tab4, ty4, ntmps11, hh, hpd, pureR]; (repeat' apply And.intro); all_goals first | exact hK | omega)))
  apply run_cond2 rfl
  · intro h; first | cases h | (simp at h; done)
  intro _
  obtain ⟨n, hn⟩ : ∃ n, n = min (min na nb) 200 := ⟨_, rfl⟩
  have hnI : (if (200 : Int) < (if nb < na then (nb : Int) else (na : Int)) then (200 : Int) else (if nb < na then (nb : Int) else (na : Int))) = (n : Int) := by
    split <;> (try split) <;> omega
  repeat (first
    | rw [run_ops0]
    | rw [run_seq]
    | rw [run_region]
    | rw [run_block]
    | rw [run_blk]
    | rw [run_skip]
    | (apply run_go rfl; focus (intro L K hK; simp [-List.reduceReplicate, -List.getD_eq_getElem?_getD, tab22, ty22, tab23, ty23, tab5, ty5, tab3, ty3, tab4, ty4, ntmps11, hnI]; (repeat' apply And.intro); all_goals first | exact hK | omega)))
  rw [run_draw]
  refine ok_draw5 7 [] [] tabOK pureR_ok newNone_ok pureR_sub newNone_sub mixed (by decide +kernel) rfl rfl ?_
  repeat (first
    | (apply h3_go rfl rfl rfl rfl rfl (Nat.le_of_ble_eq_true rfl) rfl; focus (intro K' hK; simp [-List.reduceReplicate, -List.getD_eq_getElem?_getD, viewM, visOf, memL, tab22, ty22, tab23, ty23, tab5, ty5, tab3, ty3, tab4, ty4]; (repeat' apply And.intro); all_goals first | exact hK | omega))
    | (apply h3_new rfl rfl rfl rfl rfl (Nat.le_of_ble_eq_true rfl) rfl; focus (intro K' hK; simp [-List.reduceReplicate, -List.getD_eq_getElem?_getD, viewM, visOf, memL, tab22, ty22, tab23, ty23, tab5, ty5, tab3, ty3, tab4, ty4]; (repeat' apply And.intro); all_goals first | exact hK | omega)))
  refine h3_nil ?_
  simp [finL, contL, contAt, stT, List.range, List.range.loop, -List.reduceReplicate]
  refine ok_run hB tabOK pureR_ok 100 ?_
  repeat (first
    | rw [run_ops0]
    | rw [run_seq]
    | rw [run_region]
    | rw [run_block]
    | rw [run_blk]
    | rw [run_skip]
    | (apply run_go rfl; focus (intro L K hK; simp [-List.reduceReplicate, -List.getD_eq_getElem?_getD, tab22, ty22, tab23, ty23, tab5, ty5, tab3, ty3, tab4, ty4, ntmps11]; (repeat' apply And.intro); all_goals first | exact hK | omega)))
  refine ok_blank 8 5 1 (.a8 []) rfl trivial rfl ?_
  refine ok_run hB tabOK pureR_ok 100 ?_
  repeat (first
    | rw [run_ops0]
    | rw [run_seq]
    | rw [run_region]
    | rw [run_block]
    | rw [run_blk]
    | rw [run_skip]
    | (apply run_go rfl; focus (intro L K hK; simp [-List.reduceReplicate, -List.getD_eq_getElem?_getD, tab22, ty22, tab23, ty23, tab5, ty5, tab3, ty3, tab4, ty4, ntmps11]; (repeat' apply And.intro); all_goals first | exact hK | omega)))
  rw [run_loop]
  refine ok_loop (X := Nat × Nat) (fun x => ⟨[(29, one (.i x.1)), (28, one (.i n)), (8, one (.sl 3 0 x.1 x.2 1)), (7, one (.i n)), (3, one (.ptr 2 0 0)), (1, one (.sl 0 0 n ca 1)), (2, one (.sl 1 0 n cb 1))], [.ent ⟨false, 5, none, .a8 A⟩, .ent ⟨false, 5, none, .a8 B⟩, .ent ⟨true, 23, some 16, .a8 h⟩, .ent ⟨true, 5, none, .a8 (xl A B x.1)⟩]⟩) (fun x => x.1 ≤ n ∧ x.1 ≤ x.2) (fun x => n - x.1) (fun j i L h => by have := hB.anc i L h; simp at this ⊢; omega) ⟨(0, 0), by simp, by simp [-List.reduceReplicate, -List.getD_eq_getElem?_getD, xl]⟩ ?_
  rintro ⟨i, cap⟩ ⟨hi, hic⟩
  simp only at hi hic ⊢
  refine ok_run hB tabOK pureNone_ok 100 ?_
  have hxl := xl_len A B i
  repeat (first
    | rw [run_ops0]
    | rw [run_seq]
    | rw [run_region]
    | rw [run_block]
    | rw [run_blk]
    | rw [run_skip]
    | (apply run_go rfl; focus (intro L K hK; simp [-List.reduceReplicate, -List.getD_eq_getElem?_getD, tab22, ty22, tab23, ty23, tab5, ty5, tab3, ty3, tab4, ty4, ntmps11]; (repeat' apply And.intro); all_goals first | exact hK | omega)))
  apply run_cond2 rfl
  · intro h1
    simp at h1
    repeat (first
    | rw [run_ops0]
    | rw [run_seq]
    | rw [run_region]
    | rw [run_block]
    | rw [run_blk]
    | rw [run_skip]
    | (apply run_go rfl; focus (intro L K hK; simp [-List.reduceReplicate, -List.getD_eq_getElem?_getD, tab22, ty22, tab23, ty23, tab5, ty5, tab3, ty3, tab4, ty4, ntmps11]; (repeat' apply And.intro); all_goals first | exact hK | omega)))
    rw [run_draw]
    refine ok_draw2 11 tabOK pureNone_ok pureNone_mono mixed (by decide +kernel) rfl rfl ?_
    repeat (first
    | (apply hd_go rfl rfl rfl rfl (Nat.le_of_ble_eq_true rfl); focus (intro K' hK; simp [-List.reduceReplicate, -List.getD_eq_getElem?_getD, tab22, ty22, tab23, ty23, tab5, ty5, tab3, ty3, tab4, ty4]; (repeat' apply And.intro); all_goals first | exact hK | omega))
    | (apply hd_new rfl rfl rfl rfl (Nat.le_of_ble_eq_true rfl); focus (intro K' hK; simp [-List.reduceReplicate, -List.getD_eq_getElem?_getD, tab22, ty22, tab23, ty23, tab5, ty5, tab3, ty3, tab4, ty4]; (repeat' apply And.intro); all_goals first | exact hK | omega)))
    refine hd_nil ?_
    simp only [List.map_cons, List.map_nil, List.nil_append, List.cons_append]
    refine ok_run hB tabOK pureNone_ok 100 ?_
    (apply run_app rfl; focus (intro L K hK; simp [-List.reduceReplicate, -List.getD_eq_getElem?_getD, tab22, ty22, tab23, ty23, tab5, ty5, tab3, ty3, tab4, ty4, ntmps11, hxl]; (repeat' apply And.intro); all_goals first | exact hK | omega | (intro cap hcap; exact hK cap hcap)))
    intro cap2 hcap2
    repeat (first
    | rw [run_ops0]
    | rw [run_seq]
    | rw [run_region]
    | rw [run_block]
    | rw [run_blk]
    | rw [run_skip]
    | (apply run_go rfl; focus (intro L K hK; simp [-List.reduceReplicate, -List.getD_eq_getElem?_getD, tab22, ty22, tab23, ty23, tab5, ty5, tab3, ty3, tab4, ty4, ntmps11]; (repeat' apply And.intro); all_goals first | exact hK | omega)))
    rw [run_back]
    refine ⟨(i + 1, cap2), by simp only; omega, by simp only; omega, ?_⟩
    simp [-List.reduceReplicate, -List.getD_eq_getElem?_getD, xl_succ]
  · intro h1
    simp at h1
    obtain rfl : i = n := by omega
    apply run_exit2 rfl
    refine ok_run hB tabOK pureR_ok 100 ?_
    have hA2 : i ≤ A.length := by omega
    have hB2 : i ≤ B.length := by omega
    have hlin := lin11 h A B i hA2 hB2
    have hx : (xl A B i).take i = xl A B i := List.take_of_length_le (by omega)
    have hz : (List.replicate i 0#8).take i = List.replicate i 0#8 := List.take_of_length_le (by simp)
    have hzl : (List.replicate i 0#8).length = i := by simp
    repeat (first
    | rw [run_ops0]
    | rw [run_seq]
    | rw [run_region]
    | rw [run_block]
    | rw [run_blk]
    | rw [run_skip]
    | (apply run_go rfl; focus (intro L K hK; simp [-List.reduceReplicate, -List.getD_eq_getElem?_getD, tab22, ty22, tab23, ty23, tab5, ty5, tab3, ty3, tab4, ty4, ntmps11]; (repeat' apply And.intro); all_goals first | exact hK | omega)))
    rw [run_draw]
    refine ok_draw5 20 [(12, [11])] [(17, 13), (18, 14), (19, 15)] tabOK pureR_ok newNone_ok pureR_sub newNone_sub mixed (by decide +kernel) rfl rfl ?_
    have hia : i ≤ ca := by omega
    have hib : i ≤ cb := by omega
    have him : i ≤ 140737488355328 := by omega
    have hnn : ¬ ((i : Int) < 0) := by omega
    repeat (first
    | (apply h3_go rfl rfl rfl rfl rfl (Nat.le_of_ble_eq_true rfl) rfl; focus (intro K' hK; simp [-List.reduceReplicate, -List.getD_eq_getElem?_getD, viewM, visOf, memL, tab22, ty22, tab23, ty23, tab5, ty5, tab3, ty3, tab4, ty4, hA2, hB2, hx, hz, hh, hpd, hia, hib, hic, him, hxl, hnn, pureR, pureQ, pureG, pureH, bytesOf, hashG_len]; (repeat' apply And.intro); all_goals first | exact hK | omega))
    | (apply h3_new rfl rfl rfl rfl rfl (Nat.le_of_ble_eq_true rfl) rfl; focus (intro K' hK; simp [-List.reduceReplicate, -List.getD_eq_getElem?_getD, viewM, visOf, memL, tab22, ty22, tab23, ty23, tab5, ty5, tab3, ty3, tab4, ty4, hA2, hB2, hx, hz, hh, hpd, hia, hib, hic, him, hxl, hnn, pureR, pureQ, pureG, pureH, bytesOf, hashG_len]; (repeat' apply And.intro); all_goals first | exact hK | omega)))
    (apply h3_sto rfl; focus (intro K' hK; simp [stoP, -List.reduceReplicate, -List.getD_eq_getElem?_getD, viewM, visOf, memL, tab22, ty22, tab23, ty23, tab5, ty5, tab3, ty3, tab4, ty4, hashG_len]; (repeat' apply And.intro); all_goals first | exact hK | omega))
    (apply h3_sto rfl; focus (intro K' hK; simp [stoP, -List.reduceReplicate, -List.getD_eq_getElem?_getD, viewM, visOf, memL, tab22, ty22, tab23, ty23, tab5, ty5, tab3, ty3, tab4, ty4, hashG_len]; (repeat' apply And.intro); all_goals first | exact hK | omega))
    (apply h3_sto rfl; focus (intro K' hK; simp [stoP, -List.reduceReplicate, -List.getD_eq_getElem?_getD, viewM, visOf, memL, tab22, ty22, tab23, ty23, tab5, ty5, tab3, ty3, tab4, ty4, hashG_len]; (repeat' apply And.intro); all_goals first | exact hK | omega))
    refine h3_nil ?_
    simp [finL, contL, contAt, stT, List.range, List.range.loop, -List.reduceReplicate]
    refine ok_run hB tabOK pureR_ok 100 ?_
    have l1 := hashG_len h [] (A.take i)
    have l2 := hashG_len h [] (B.take i)
    have l3 := hashG_len h [] (xl A B i)
    have l4 := hashG_len h [] (List.replicate i 0#8)
    generalize hashG h [] (A.take i) = x1 at hlin l1 ⊢
    generalize hashG h [] (B.take i) = x2 at hlin l2 ⊢
    generalize hashG h [] (xl A B i) = x3 at hlin l3 ⊢
    generalize hashG h [] (List.replicate i 0#8) = x4 at hlin l4 ⊢
    have t1 : x1.take 16 = x1 := List.take_of_length_le (by omega)
    have t2 : x2.take 16 = x2 := List.take_of_length_le (by omega)
    have t3 : x3.take 16 = x3 := List.take_of_length_le (by omega)
    have t4 : x4.take 16 = x4 := List.take_of_length_le (by omega)
    repeat (first
    | rw [run_ops0]
    | rw [run_seq]
    | rw [run_region]
    | rw [run_block]
    | rw [run_blk]
    | rw [run_skip]
    | (apply run_go rfl; focus (intro L K hK; simp [-List.reduceReplicate, -List.getD_eq_getElem?_getD, tab22, ty22, tab23, ty23, tab5, ty5, tab3, ty3, tab4, ty4, ntmps11, l1, l2, l3, l4, t1, t2, t3, t4]; (repeat' apply And.intro); all_goals first | exact hK | omega)))
    rw [run_loop]
    refine ok_loop (X := Nat) (fun j => ⟨[(58, one (.i j)), (13, one (.ptr 8 0 0)), (12, one (.ptr 7 0 0)), (11, one (.ptr 6 0 0)), (10, one (.ptr 5 0 0))], [.ent ⟨false, 5, none, .a8 A⟩, .ent ⟨false, 5, none, .a8 B⟩, .ent ⟨true, 23, some 16, .a8 h⟩, .ent ⟨true, 5, none, .a8 (xl A B i)⟩, .ent ⟨true, 5, none, .a8 (List.replicate i 0#8)⟩, .ent ⟨true, 23, some 16, .a8 x1⟩, .ent ⟨true, 23, some 16, .a8 x2⟩, .ent ⟨true, 23, some 16, .a8 x3⟩, .ent ⟨true, 23, some 16, .a8 x4⟩]⟩) (fun j => j ≤ 16) (fun j => 16 - j) (fun j i L h => by have := hB.anc i L h; simp at this ⊢; omega) ⟨0, by omega, by simp [-List.reduceReplicate, -List.getD_eq_getElem?_getD]⟩ ?_
    intro j hj
    refine ok_run hB tabOK pureR_ok 100 ?_
    repeat (first
    | rw [run_ops0]
    | rw [run_seq]
    | rw [run_region]
    | rw [run_block]
    | rw [run_blk]
    | rw [run_skip]
    | (apply run_go rfl; focus (intro L K hK; simp [-List.reduceReplicate, -List.getD_eq_getElem?_getD, tab22, ty22, tab23, ty23, tab5, ty5, tab3, ty3, tab4, ty4, ntmps11]; (repeat' apply And.intro); all_goals first | exact hK | omega)))
    apply run_cond2 rfl
    · intro h2
      simp at h2
      repeat (first
    | rw [run_ops0]
    | rw [run_seq]
    | rw [run_region]
    | rw [run_block]
    | rw [run_blk]
    | rw [run_skip]
    | (apply run_go rfl; focus (intro L K hK; simp [-List.reduceReplicate, -List.getD_eq_getElem?_getD, tab22, ty22, tab23, ty23, tab5, ty5, tab3, ty3, tab4, ty4, ntmps11]; (repeat' apply And.intro); all_goals first | exact hK | omega)))
      rw [run_draw]
      refine ok_draw2 14 tabOK pureNone_ok pureNone_mono mixed (by decide +kernel) rfl rfl ?_
      repeat (first
    | (apply hd_go rfl rfl rfl rfl (Nat.le_of_ble_eq_true rfl); focus (intro K' hK; simp [-List.reduceReplicate, -List.getD_eq_getElem?_getD, tab22, ty22, tab23, ty23, tab5, ty5, tab3, ty3, tab4, ty4, l1, l2, l3, l4]; (repeat' apply And.intro); all_goals first | exact hK | omega))
    | (apply hd_new rfl rfl rfl rfl (Nat.le_of_ble_eq_true rfl); focus (intro K' hK; simp [-List.reduceReplicate, -List.getD_eq_getElem?_getD, tab22, ty22, tab23, ty23, tab5, ty5, tab3, ty3, tab4, ty4, l1, l2, l3, l4]; (repeat' apply And.intro); all_goals first | exact hK | omega)))
      refine hd_nil ?_
      simp only [List.map_nil, List.append_nil]
      refine ok_run hB tabOK pureR_ok 100 ?_
      have hlj : x3.getD j 0#8 = x1.getD j 0#8 ^^^ x2.getD j 0#8 ^^^ x4.getD j 0#8 := hlin j
      repeat (first
    | rw [run_ops0]
    | rw [run_seq]
    | rw [run_region]
    | rw [run_block]
    | rw [run_blk]
    | rw [run_skip]
    | (apply run_go rfl; focus (intro L K hK; simp [-List.reduceReplicate, -List.getD_eq_getElem?_getD, tab22, ty22, tab23, ty23, tab5, ty5, tab3, ty3, tab4, ty4, ntmps11, hlj]; (repeat' apply And.intro); all_goals first | exact hK | omega)))
      apply run_cond2 rfl
      · intro h; first | cases h | (simp [hlj, -List.getD_eq_getElem?_getD] at h; done)
      intro _
      repeat (first
    | rw [run_ops0]
    | rw [run_seq]
    | rw [run_region]
    | rw [run_block]
    | rw [run_blk]
    | rw [run_skip]
    | (apply run_go rfl; focus (intro L K hK; simp [-List.reduceReplicate, -List.getD_eq_getElem?_getD, tab22, ty22, tab23, ty23, tab5, ty5, tab3, ty3, tab4, ty4, ntmps11]; (repeat' apply And.intro); all_goals first | exact hK | omega)))
      rw [run_back]
      refine ⟨j + 1, by omega, by omega, ?_⟩
      simp [-List.reduceReplicate, -List.getD_eq_getElem?_getD]
    · intro h2
      simp at h2
      obtain rfl : j = 16 := by omega
      apply run_exit2 rfl
      repeat (first
    | rw [run_ops0]
    | rw [run_seq]
    | rw [run_region]
    | rw [run_block]
    | rw [run_blk]
    | rw [run_skip]
    | (apply run_go rfl; focus (intro L K hK; simp [-List.reduceReplicate, -List.getD_eq_getElem?_getD, tab22, ty22, tab23, ty23, tab5, ty5, tab3, ty3, tab4, ty4, ntmps11]; (repeat' apply And.intro); all_goals first | exact hK | omega)))
      rw [run_ret]
      simp [-List.reduceReplicate, -List.getD_eq_getElem?_getD, results11, f11]
end Go.V
end
