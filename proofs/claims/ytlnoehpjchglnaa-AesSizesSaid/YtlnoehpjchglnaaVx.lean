/- A small verifier of our own: regions whose order is open, with calls that hand back memory, the theorem. No condition. -/
import Derived.Test.YtlnoehpjchglnaaVw
set_option linter.unusedSimpArgs false
set_option linter.unusedVariables false
namespace Go.V
open Go

/-! what is checked of a region by looking at it -/
def awB (l : List Oper) : Nat → Nat → Nat → Bool
  | 0, _, _ => false
  | f + 1, i, j => Region.waitsFor .any l.toArray i j || (List.range i).any fun m => Region.waitsFor .any l.toArray i m && awB l f m j
/-- Of which operations' memory an operation may know. -/
def visOf : List (Nat × List Nat) → Nat → List Nat
  | [], _ => []
  | (k, A) :: r, i => if i = k then A else visOf r i
def headB2 (l : List Oper) (n : Nat) (vis : List (Nat × List Nat)) : Bool := (List.range n).all fun i => match l[i]? with
  | none => false
  | some o => (dstOf l i).isSome && ((List.range n).all fun j => i == j || dstOf l j != dstOf l i) &&
    ((List.range n).all fun j => match dstOf l j with | none => true | some d => !(readsOf l o).contains d || (decide (j < i) && Region.waitsFor .any l.toArray i j) || (decide (i < j) && Region.waitsFor .any l.toArray j i)) &&
    (o.after.toList.all fun e => !Region.binds .any e || decide (e.on < i)) &&
    ((visOf vis i).all fun j => decide (j < i) && awB l 3 i j)
def drawB2 (l : List Oper) (n : Nat) (vis : List (Nat × List Nat)) : Bool :=
  decide (n < l.length) && Region.sinkB .any l.toArray n && Region.chainB .any l.toArray n && Region.seqB .any l.toArray (l.length - n) n (firstN n (l.length - n)) && headB2 l n vis
def viewM (m0 : Mem) (vis : List (Nat × List Nat)) (i : Nat) (al : List (List Ent)) : Mem :=
  match visOf vis i with
  | [] => m0
  | A => m0 ++ memL al (fun j => A.contains j) 0
def hd2 (T : Tab) (pu : Pure) (nu : New) (m0 : Mem) (l : List Oper) (vis : List (Nat × List Nat)) (N : Nat) : Nat → List Oper → Slots → List (List Ent) → (Slots → List (List Ent) → Prop) → Prop
  | _, [], sl, al, K => K sl al
  | i, o :: r, sl, al, K =>
    (noCap T o = true ∧ okd N o.dst) ∧ match guardTmp l o, o.guard with
    | none, none => hop T pu nu (viewM m0 vis i al) (m0.length + al.flatten.length) (evS sl) o (fun v es => hd2 T pu nu m0 l vis N (i + 1) r (pushD o.dst v sl) (al ++ [es]) K)
    | some d, some (_, b) => (match look sl d with
      | .one (.s (.b c)) => (c = b → hop T pu nu (viewM m0 vis i al) (m0.length + al.flatten.length) (evS sl) o (fun v es => hd2 T pu nu m0 l vis N (i + 1) r (pushD o.dst v sl) (al ++ [es]) K)) ∧ (c = (!b) → hd2 T pu nu m0 l vis N (i + 1) r (pushD o.dst (.tup []) sl) (al ++ [[]]) K)
      | .tup [] => hd2 T pu nu m0 l vis N (i + 1) r (pushD o.dst (.tup []) sl) (al ++ [[]]) K
      | _ => False)
    | _, _ => False
/-- An operation comes to this value and these blocks. -/
def Doing (T : Tab) (pu : Pure) (nu : New) (m : Mem) (nid : Nat) (g : Operand → SV) (o : Oper) (v : SV) (es : List Ent) : Prop :=
  newOf nu m nid g o = some (v, es) ∨ ∃ eo : Option Ent, es = eo.toList ∧ eo.isSome = allocs o ∧ ∀ K' : SV → Option Ent → Prop, K' v eo → est T pu m nid g o K'
theorem hop_doing {T : Tab} {pu : Pure} {nu : New} {m : Mem} {nid : Nat} {g : Operand → SV} {o : Oper} {K : SV → List Ent → Prop} (hc : noCap T o = true) (h : hop T pu nu m nid g o K) : ∃ v es, Doing T pu nu m nid g o v es ∧ K v es := by
  unfold hop at h
  split at h
  · rename_i v es hn
    exact ⟨v, es, .inl hn, h⟩
  · obtain ⟨⟨v, eo⟩, ⟨h1, h2⟩, h3⟩ := det_est T pu m nid g o hc (fun p => p.2.isSome = allocs o ∧ K p.1 p.2.toList) h
    exact ⟨v, eo.toList, .inr ⟨eo, rfl, h1, fun K' hK' => h3 (fun p => K' p.1 p.2) hK'⟩, h2⟩
def Trace2 (T : Tab) (pu : Pure) (nu : New) (m0 : Mem) (l : List Oper) (vis : List (Nat × List Nat)) (N : Nat) : Nat → List Oper → Slots → List (List Ent) → List (SV × List Ent) → Prop
  | _, [], _, _, [] => True
  | i, o :: r, sl, al, (v, es) :: vs => (noCap T o = true ∧ okd N o.dst) ∧ ((says l o (look sl) true ∧ Doing T pu nu (viewM m0 vis i al) (m0.length + al.flatten.length) (evS sl) o v es) ∨ (says l o (look sl) false ∧ v = .tup [] ∧ es = [])) ∧ Trace2 T pu nu m0 l vis N (i + 1) r (pushD o.dst v sl) (al ++ [es]) vs
  | _, _, _, _, _ => False
def push2 : List Oper → List (SV × List Ent) → Slots → Slots
  | o :: r, (v, _) :: vs, sl => push2 r vs (pushD o.dst v sl)
  | _, _, sl => sl
theorem hd2_trace {T : Tab} {pu : Pure} {nu : New} {m0 : Mem} {l : List Oper} {vis : List (Nat × List Nat)} {N : Nat} : ∀ (r : List Oper) (i : Nat) (sl : Slots) (al : List (List Ent)) (K : Slots → List (List Ent) → Prop), hd2 T pu nu m0 l vis N i r sl al K →
    ∃ vs, Trace2 T pu nu m0 l vis N i r sl al vs ∧ K (push2 r vs sl) (al ++ vs.map (·.2))
  | [], i, sl, al, K, h => ⟨[], trivial, by have h' : K sl al := h; simpa [push2] using h'⟩
  | o :: r, i, sl, al, K, h => by
    obtain ⟨⟨hc, hd⟩, h⟩ := h
    have go : says l o (look sl) true → hop T pu nu (viewM m0 vis i al) (m0.length + al.flatten.length) (evS sl) o (fun v es => hd2 T pu nu m0 l vis N (i + 1) r (pushD o.dst v sl) (al ++ [es]) K) → ∃ vs, Trace2 T pu nu m0 l vis N i (o :: r) sl al vs ∧ K (push2 (o :: r) vs sl) (al ++ vs.map (·.2)) := by
      intro hs h
      obtain ⟨v, es, h1, h2⟩ := hop_doing hc h
      obtain ⟨vs, g1, g2⟩ := hd2_trace r _ _ _ _ h2
      exact ⟨(v, es) :: vs, ⟨⟨hc, hd⟩, .inl ⟨hs, h1⟩, g1⟩, by simpa [push2] using g2⟩
    have sk : says l o (look sl) false → hd2 T pu nu m0 l vis N (i + 1) r (pushD o.dst (.tup []) sl) (al ++ [[]]) K → ∃ vs, Trace2 T pu nu m0 l vis N i (o :: r) sl al vs ∧ K (push2 (o :: r) vs sl) (al ++ vs.map (·.2)) := by
      intro hs h
      obtain ⟨vs, g1, g2⟩ := hd2_trace r _ _ _ _ h
      exact ⟨(.tup [], []) :: vs, ⟨⟨hc, hd⟩, .inr ⟨hs, rfl, rfl⟩, g1⟩, by simpa [push2] using g2⟩
    split at h
    · rename_i h1 h2
      exact go (by simp [says, h1, h2]) h
    · rename_i d b h1 h2
      split at h
      · rename_i c hlk
        by_cases hcb : c = b
        · exact go (by simp only [says, h1, h2]; exact .inl ⟨c, hlk, by simp [hcb]⟩) (h.1 hcb)
        · exact sk (by simp only [says, h1, h2]; exact .inl ⟨c, hlk, by simp [hcb]⟩) (h.2 (by cases c <;> cases b <;> simp_all))
      · rename_i hlk
        exact sk (by simp only [says, h1, h2]; exact .inr ⟨hlk, trivial⟩) h
      · exact h.elim
    · exact h.elim

/-! the state in which some of the operations have been carried out -/
section
variable (l : List Oper) (n : Nat) (vs : List (SV × List Ent)) (sl : Slots)
def valAt2 (i : Nat) : SV := match vs[i]? with | some p => p.1 | none => one .any
def view2 (L : Nat → Bool) (t : Nat) : SV :=
  match (List.range n).find? (fun j => L j && dstOf l j == some t) with
  | some j => valAt2 vs j
  | none => look sl t
variable {l n vs sl}
theorem view2_congr {L L' : Nat → Bool} {t : Nat} (h : ∀ j, j < n → dstOf l j = some t → L j = L' j) : view2 l n vs sl L t = view2 l n vs sl L' t := by
  unfold view2
  have : (List.range n).find? (fun j => L j && dstOf l j == some t) = (List.range n).find? (fun j => L' j && dstOf l j == some t) := by
    refine find_congr ?_
    intro j hj
    by_cases hd : dstOf l j = some t
    · rw [h j (List.mem_range.1 hj) hd]
    · have : (dstOf l j == some t) = false := by simpa using hd
      rw [this]; simp
  rw [this]
theorem view2_at {L : Nat → Bool} {t i : Nat} (hu : ∀ a b, a < n → b < n → dstOf l a = some t → dstOf l b = some t → a = b) (hi : i < n) (hd : dstOf l i = some t) (hL : L i = true) : view2 l n vs sl L t = valAt2 vs i := by
  unfold view2
  cases hf : (List.range n).find? (fun j => L j && dstOf l j == some t) with
  | none =>
    have := List.find?_eq_none.1 hf i (List.mem_range.2 hi)
    simp [hL, hd] at this
  | some j =>
    have h1 := List.find?_some hf
    have h2 := List.mem_range.1 (List.mem_of_find?_eq_some hf)
    simp only [Bool.and_eq_true, beq_iff_eq] at h1
    rw [hu j i h2 hi h1.2 hd]
theorem view2_none {L : Nat → Bool} {t : Nat} (h : ∀ j, j < n → dstOf l j = some t → L j = false) : view2 l n vs sl L t = look sl t := by
  unfold view2
  have : (List.range n).find? (fun j => L j && dstOf l j == some t) = none := by
    rw [List.find?_eq_none]
    intro j hj hh
    simp only [Bool.and_eq_true, beq_iff_eq] at hh
    rw [h j (List.mem_range.1 hj) hh.2] at hh
    cases hh.1
  rw [this]
end
structure HeadOK2 (l : List Oper) (n : Nat) (vis : List (Nat × List Nat)) (i : Nat) (o : Oper) : Prop where
  get : l[i]? = some o
  dst : ∃ d, o.dst = some d
  uniq : ∀ j, j < n → i ≠ j → dstOf l j ≠ dstOf l i
  reads : ∀ j d, j < n → dstOf l j = some d → d ∈ readsOf l o → (j < i ∧ Region.waitsFor .any l.toArray i j = true) ∨ (i < j ∧ Region.waitsFor .any l.toArray j i = true)
  back : ∀ e ∈ o.after, Region.binds .any e = true → e.on < i
  vis : ∀ j ∈ visOf vis i, j < i ∧ awB l 3 i j = true
theorem headB2_ok {l : List Oper} {n : Nat} {vis : List (Nat × List Nat)} (h : headB2 l n vis = true) {i : Nat} (hi : i < n) : ∃ o, HeadOK2 l n vis i o := by
  have h1 := List.all_eq_true.1 h i (List.mem_range.2 hi)
  split at h1
  · cases h1
  · rename_i o ho
    simp only [Bool.and_eq_true] at h1
    obtain ⟨⟨⟨⟨a, b⟩, c⟩, d⟩, e⟩ := h1
    have hd : dstOf l i = o.dst := by simp [dstOf, ho]
    refine ⟨o, ho, Option.isSome_iff_exists.1 (hd ▸ a), fun j hj hij => ?_, fun j x hj hx hr => ?_, fun e he hb => ?_, fun j hj => ?_⟩
    · have := List.all_eq_true.1 b j (List.mem_range.2 hj)
      simp only [Bool.or_eq_true, beq_iff_eq, bne_iff_ne] at this
      exact this.resolve_left hij
    · have := List.all_eq_true.1 c j (List.mem_range.2 hj)
      simp only [hx, Bool.or_eq_true, Bool.not_eq_true', Bool.and_eq_true, decide_eq_true_eq] at this
      rcases this with (h2 | h2) | h2
      · have h3 : (readsOf l o).contains x = true := by simpa using hr
        rw [h2] at h3; cases h3
      · exact .inl h2
      · exact .inr h2
    · have := List.all_eq_true.1 d e (by simpa using he)
      simp only [Bool.or_eq_true, Bool.not_eq_true', decide_eq_true_eq, hb] at this
      simpa using this
    · have := List.all_eq_true.1 e j hj
      simpa using this
section
variable {T : Tab} {pu : Pure} {nu : New} {m0 : Mem} {l : List Oper} {vis : List (Nat × List Nat)} {N : Nat}
theorem trace2_len : ∀ {r : List Oper} {i : Nat} {sl : Slots} {al : List (List Ent)} {vs : List (SV × List Ent)}, Trace2 T pu nu m0 l vis N i r sl al vs → vs.length = r.length
  | [], i, sl, al, [], _ => rfl
  | o :: r, i, sl, al, (v, es) :: vs, h => by simp [trace2_len h.2.2]
  | [], _, _, _, _ :: _, h => h.elim
  | _ :: _, _, _, _, [], h => h.elim
theorem trace2_at : ∀ {r : List Oper} {i0 : Nat} {sl : Slots} {al : List (List Ent)} {vs : List (SV × List Ent)}, Trace2 T pu nu m0 l vis N i0 r sl al vs → ∀ {i : Nat} {o : Oper}, r[i]? = some o →
    ∃ v es, vs[i]? = some (v, es) ∧ (noCap T o = true ∧ okd N o.dst) ∧ ((says l o (look (push2 (r.take i) (vs.take i) sl)) true ∧ Doing T pu nu (viewM m0 vis (i0 + i) (al ++ (vs.take i).map (·.2))) (m0.length + (al ++ (vs.take i).map (·.2)).flatten.length) (evS (push2 (r.take i) (vs.take i) sl)) o v es) ∨ (says l o (look (push2 (r.take i) (vs.take i) sl)) false ∧ v = .tup [] ∧ es = []))
  | [], i0, sl, al, vs, _, i, o, hi => by simp at hi
  | o0 :: r, i0, sl, al, [], h, _, _, _ => h.elim
  | o0 :: r, i0, sl, al, (v, es) :: vs, h, 0, o, hi => by
    simp at hi; subst hi
    exact ⟨v, es, by simp, h.1, by simpa [push2] using h.2.1⟩
  | o0 :: r, i0, sl, al, (v, es) :: vs, h, i + 1, o, hi => by
    obtain ⟨v', es', g1, g2, g3⟩ := trace2_at h.2.2 (i := i) (o := o) (by simpa using hi)
    refine ⟨v', es', by simpa using g1, g2, ?_⟩
    simp only [List.take_succ_cons, push2, List.map_cons]
    rw [show i0 + (i + 1) = i0 + 1 + i by omega, show al ++ es :: (vs.take i).map (·.2) = al ++ [es] ++ (vs.take i).map (·.2) by simp]
    exact g3
theorem push2_succ : ∀ {r : List Oper} {vs : List (SV × List Ent)} {sl : Slots} {i : Nat} {o : Oper} {v : SV} {es : List Ent}, r[i]? = some o → vs[i]? = some (v, es) →
    push2 (r.take (i + 1)) (vs.take (i + 1)) sl = pushD o.dst v (push2 (r.take i) (vs.take i) sl)
  | [], vs, sl, i, o, v, es, h, _ => by simp at h
  | _ :: r, [], sl, i, o, v, es, _, h => by simp at h
  | o0 :: r, (v0, e0) :: vs, sl, 0, o, v, es, h, h2 => by
    simp at h h2; subst h; obtain ⟨rfl, rfl⟩ := h2
    simp [push2]
  | o0 :: r, (v0, e0) :: vs, sl, i + 1, o, v, es, h, h2 => by
    simp only [List.take_succ_cons, push2]
    exact push2_succ (by simpa using h) (by simpa using h2)
theorem look_prefix2 {n : Nat} (hn : n ≤ l.length) (hB : headB2 l n vis = true) {vs : List (SV × List Ent)} {sl : Slots} (hv : vs.length = n) : ∀ (i : Nat), i ≤ n → ∀ t, look (push2 ((l.take n).take i) (vs.take i) sl) t = view2 l n vs sl (fun j => decide (j < i)) t
  | 0, _, t => by
    rw [view2_none (fun j _ _ => by simp)]
    simp [push2]
  | i + 1, hi, t => by
    obtain ⟨o, ho⟩ := headB2_ok hB (i := i) (by omega)
    have hl : (l.take n)[i]? = some o := by rw [List.getElem?_take_of_lt (by omega)]; exact ho.get
    have hvi : vs[i]? = some vs[i] := List.getElem?_eq_getElem (by omega)
    rw [push2_succ (v := vs[i].1) (es := vs[i].2) hl hvi]
    obtain ⟨d, hd⟩ := ho.dst
    have hdi : dstOf l i = some d := by simp [dstOf, ho.get, hd]
    rw [hd]
    show (if t = d then vs[i].1 else look (push2 ((l.take n).take i) (vs.take i) sl) t) = _
    have huniq : ∀ j, j < n → dstOf l j = some d → j = i := fun j hj hjd => by
      rcases Nat.decEq i j with h | h
      · exact absurd (hjd.trans hdi.symm) (ho.uniq j hj h)
      · exact h.symm
    split
    · rename_i htd
      subst htd
      rw [view2_at (i := i) (fun a b ha hb h1 h2 => (huniq a ha h1).trans (huniq b hb h2).symm) (by omega) hdi (by simp)]
      simp [valAt2, hvi]
    · rename_i htd
      rw [look_prefix2 hn hB hv i (by omega) t]
      refine view2_congr (fun j hj hjd => ?_)
      have : j ≠ i := fun h => by subst h; rw [hdi] at hjd; exact htd (Option.some.inj hjd).symm
      simp only [decide_eq_decide]; omega
end

theorem aw_listed {l : List Oper} {n : Nat} {listed : Array Bool} (inv : HeadInv .any l.toArray n listed) : ∀ (f i : Nat), (∀ m, Region.waitsFor .any l.toArray i m = true → Lof listed m = true) → ∀ j, awB l f i j = true → Lof listed j = true
  | 0, i, _, j, h => by cases h
  | f + 1, i, hW, j, h => by
    simp only [awB, Bool.or_eq_true, List.any_eq_true, Bool.and_eq_true] at h
    rcases h with h | ⟨m, _, h1, h2⟩
    · exact hW j h
    · refine aw_listed inv f m (fun m' hm' => ?_) j h2
      obtain ⟨oj, hoj, e, he, hb, hon⟩ := Region.waitsFor_spec hm'
      have := inv.closed m oj hoj (hW m h1) e he hb
      rw [hon] at this
      exact this
section
variable {P : Program} {E : Env} {N : Nat} {l : List Oper}
theorem ok_draw3 {T : Tab} {pu : Pure} {nu : New} {vis : List (Nat × List Nat)} (hT : TabOK P T) (hpu : PureOK P pu) (hnu : NewOK P nu) (hmono : PureSub pu) (hnmono : NewSub nu) (hmix : P.follows .mixedOrders = true) {Q0 : Exit → Act → World → Prop} {id n : Nat} {k : List Item} {st : St} (hB : drawB2 l n vis = true)
    (h : hd2 T pu nu st.m l vis N 0 (l.take n) st.sl [] (fun sl al => Ok P E N Q0 (.ops l (l.drop n) :: k) ⟨sl, st.m ++ al.flatten.map .ent⟩)) : Ok P E N Q0 (.code (.region id l.toArray true) :: k) st := by
  simp only [drawB2, Bool.and_eq_true, decide_eq_true_eq] at hB
  obtain ⟨⟨⟨⟨hn, hs⟩, hc⟩, hseq⟩, hhead⟩ := hB
  obtain ⟨vs, htr, hfin⟩ := hd2_trace _ _ _ _ _ h
  have hvl : vs.length = n := by rw [trace2_len htr]; simp; omega
  simp only [List.nil_append] at hfin
  intro a0 w0 hh
  show (Code.region id l.toArray true).wp P (semK P E N Q0 k) a0 w0
  refine wp_region_any hmix ?_
  have main : ∀ (f : Nat) (listed : Array Bool) (a : Act) (w : World), HeadInv .any l.toArray n listed → cntF (Lof listed) n = f →
      (∃ ℓ, (∀ t, DenV ℓ (view2 l n vs st.sl (Lof listed) t) (a.tmps.getD t undef)) ∧ MH E ℓ (st.m ++ memL (vs.map (·.2)) (Lof listed) 0) w ∧ a.defers = [] ∧ a.tmps.size = N) →
      wpAny P .any l.toArray (semK P E N Q0 k) (f + (l.length - n)) listed a w := by
    intro f
    induction f with
    | zero =>
      intro listed a w inv hcnt ⟨ℓ, h1, h2, h3, h4⟩
      have hall := cntF_zero hcnt
      have hlist : listed = firstN n (l.length - n) := by
        have hsz := inv.size
        simp only [List.size_toArray] at hsz
        refine Array.ext (by simp [firstN, hsz]; omega) (fun j hj hj2 => ?_)
        rcases Nat.lt_or_ge j n with hjn | hjn
        · have := hall j hjn
          simp only [Lof] at this
          rw [Array.getD_eq_getD_getElem?, Array.getElem?_eq_getElem hj] at this
          simp only [Option.getD_some] at this
          rw [this]
          simp [firstN, List.getElem_append, hjn]
        · have := inv.tail j hjn (by simp; omega)
          rw [Array.getD_eq_getD_getElem?, Array.getElem?_eq_getElem hj] at this
          simp only [Option.getD_some] at this
          rw [this]
          simp [firstN, List.getElem_append, Nat.not_lt.2 hjn]
      have hdl : (l.drop n).length = l.length - n := by simp
      rw [Nat.zero_add, ← hdl]
      refine wpAny_of_seq (l.drop n) n listed a w (fun j => by simp) (by rw [hdl, hlist]; exact hseq) ?_
      refine hfin a w ⟨ℓ, fun t => ?_, ?_, h3, h4⟩
      · have hpf := look_prefix2 (Nat.le_of_lt hn) hhead (sl := st.sl) hvl n (Nat.le_refl _) t
        rw [List.take_take, Nat.min_self, List.take_of_length_le (l := vs) (by omega)] at hpf
        show DenV ℓ (look (push2 (l.take n) vs st.sl) t) _
        rw [hpf]
        rw [view2_congr (L' := Lof listed) (fun j hj _ => by rw [hall j hj]; simpa using hj)]
        exact h1 t
      · rw [memL_all (fun k hk => by rw [Nat.zero_add]; exact hall k (by simpa [hvl] using hk))] at h2
        exact h2
    | succ f ih =>
      intro listed a w inv hcnt hD
      have hsz : listed.size = l.length := by simpa using inv.size
      obtain ⟨i0, hi0, hL0, hless⟩ := cntF_least (L := Lof listed) (n := n) (by omega)
      have hun : listed.getD i0 true = false := getD_in (by omega) hL0
      rw [show f + 1 + (l.length - n) = (f + (l.length - n)) + 1 by omega]
      refine ⟨fun hr => ?_, fun i hi => ?_⟩
      · exfalso
        obtain ⟨o, ho⟩ := headB2_ok hhead hi0
        have : i0 ∈ Region.ready .any l.toArray listed := mem_ready.2 ⟨hun, o, by simpa using ho.get, fun e he hb => hless _ (ho.back e he hb)⟩
        rw [hr] at this; cases this
      · have hin : i < n := by
          rcases Nat.lt_or_ge i n with hx | hx
          · exact hx
          · exact absurd hi (tail_waits hs hc (by simpa using hn) inv _ i0 rfl hi0 hun i hx)
        obtain ⟨hiun, oi', hoi', hall⟩ := mem_ready.1 hi
        obtain ⟨o, ho⟩ := headB2_ok hhead hin
        have hoi : l.toArray[i]? = some o := by simpa using ho.get
        obtain rfl : o = oi' := Option.some.inj (hoi.symm.trans hoi')
        have hLi : Lof listed i = false := getD_both hiun
        have inv' := inv.set hi hin
        have hLof := Lof_set (listed := listed) (i := i) (by omega)
        have hcnt' : cntF (Lof (listed.setIfInBounds i true)) n = f := by
          rw [hLof]
          have := cntF_set hin hLi
          omega
        obtain ⟨d, hd⟩ := ho.dst
        have hdi : dstOf l i = some d := by simp [dstOf, ho.get, hd]
        have huniq : ∀ j, j < n → dstOf l j = some d → j = i := fun j hj hjd => by
          rcases Nat.decEq i j with h | h
          · exact absurd (hjd.trans hdi.symm) (ho.uniq j hj h)
          · exact h.symm
        obtain ⟨v, es, hvi, ⟨hcap, hok⟩, hex⟩ := trace2_at htr (i := i) (o := o) (by rw [List.getElem?_take_of_lt hin]; exact ho.get)
        simp only [Nat.zero_add, List.nil_append] at hex
        rw [hd] at hok
        have hok : d < N := hok
        obtain ⟨ℓ, h1, h2, h3, h4⟩ := hD
        have hW : ∀ m, Region.waitsFor .any l.toArray i m = true → Lof listed m = true := fun m hw => by
          obtain ⟨oj, hoj, e, he, hb, hon⟩ := Region.waitsFor_spec hw
          obtain rfl : o = oj := Option.some.inj (hoi.symm.trans hoj)
          have := hall e he hb
          rw [hon] at this
          exact this
        have hread : ∀ t, t ∈ readsOf l o → look (push2 ((l.take n).take i) (vs.take i) st.sl) t = view2 l n vs st.sl (Lof listed) t := by
          intro t ht
          rw [look_prefix2 (Nat.le_of_lt hn) hhead hvl i (by omega) t]
          refine view2_congr (fun j hj hjd => ?_)
          show decide (j < i) = Lof listed j
          rcases ho.reads j t hj hjd ht with ⟨hji, hw⟩ | ⟨hij, hw⟩
          · rw [hW j hw]
            simpa using hji
          · cases hLj : Lof listed j with
            | false => simp; omega
            | true =>
              obtain ⟨oj, hoj, e, he, hb, hon⟩ := Region.waitsFor_spec hw
              have := inv.closed j oj hoj hLj e he hb
              rw [hon] at this
              rw [show Lof listed i = true from this] at hLi
              cases hLi
        have hview : ∀ t, view2 l n vs st.sl (updB (Lof listed) i) t = if t = d then v else view2 l n vs st.sl (Lof listed) t := by
          intro t
          split
          · rename_i htd
            subst htd
            rw [view2_at (i := i) (fun a b ha hb h1 h2 => (huniq a ha h1).trans (huniq b hb h2).symm) hin hdi (by simp [updB])]
            simp [valAt2, hvi]
          · rename_i htd
            refine view2_congr (fun j hj hjd => ?_)
            have : j ≠ i := fun h => by subst h; rw [hdi] at hjd; exact htd (Option.some.inj hjd).symm
            simp [updB, this]
        have hsays : ∀ {t : Bool}, says l o (look (push2 ((l.take n).take i) (vs.take i) st.sl)) t → Region.wanted o (yielded l.toArray a.tmps) = t := fun hs =>
          wanted_says h1 (says_congr (fun d' hd' => hread d' (by simp [readsOf, hd'])) hs)
        unfold wpOp
        simp only [hoi]
        have hvim : (vs.map (·.2))[i]? = some es := by simp [hvi]
        rcases hex with ⟨hsy, hdo⟩ | ⟨hsy, rfl, rfl⟩
        · rw [if_pos (hsays hsy)]
          refine .inl ?_
          have next : ∀ {ℓ' : Nat → Option Loc} {v' : Value} {w' : World}, Le ℓ ℓ' → MH E ℓ' (st.m ++ memL (vs.map (·.2)) (updB (Lof listed) i) 0) w' → DenV ℓ' v v' → wpAny P .any l.toArray (semK P E N Q0 k) (f + (l.length - n)) (listed.setIfInBounds i true) (a.put o.dst v') w' := by
            intro ℓ' v' w' hle hm' hdv
            refine ih _ _ _ inv' hcnt' ⟨ℓ', fun t => ?_, by rw [hLof]; exact hm', ?_, ?_⟩
            · rw [hLof, hview, hd]
              exact put_view (fun t => (h1 t).mono hle) (by rw [h4]; exact hok) hdv t
            · rw [hd]; exact h3
            · rw [hd]; simpa [Act.put] using h4
          have hops : ∀ x ∈ o.op.operands.toList, evV (look (push2 ((l.take n).take i) (vs.take i) st.sl)) x = evV (view2 l n vs st.sl (Lof listed)) x := fun x hx => by
            cases x with
            | tmp t =>
              refine hread t ?_
              simp only [readsOf, tmpsOf, List.mem_append, List.mem_filterMap]
              exact .inl ⟨.tmp t, hx, rfl⟩
            | _ => rfl
          have hsub : Sub (viewM st.m vis i ((vs.take i).map (·.2))) (st.m ++ memL (vs.map (·.2)) (Lof listed) 0) := by
            unfold viewM
            split
            · intro id e hid
              rw [List.getElem?_append_left (List.getElem?_eq_some_iff.1 hid).1]; exact hid
            · intro id e hid
              rcases Nat.lt_or_ge id st.m.length with hl | hl
              · rw [List.getElem?_append_left hl] at hid ⊢; exact hid
              · rw [List.getElem?_append_right hl] at hid ⊢
                have hsplit : vs.map (·.2) = (vs.take i).map (·.2) ++ (vs.drop i).map (·.2) := by rw [← List.map_append, List.take_append_drop]
                have hp := (List.getElem?_eq_some_iff.1 hid).1
                rw [memL_len] at hp
                rw [hsplit, memL_app, List.getElem?_append_left (by rw [memL_len]; exact hp)]
                refine memL_sub (fun k hk hL => ?_) _ _ hid
                rw [Nat.zero_add] at hL ⊢
                exact aw_listed inv 3 i hW k (ho.vis k (by simpa using hL)).2
          obtain ⟨k1, k2⟩ := memL_set (L := Lof listed) hvim hLi
          have hA : (memL ((vs.map (·.2)).take i) (Lof listed) 0).length = ((vs.take i).map (·.2)).flatten.length := by
            rw [memL_len, List.map_take]
          have hholes : ∀ k, k < es.length → (st.m ++ memL (vs.map (·.2)) (Lof listed) 0)[st.m.length + ((vs.take i).map (·.2)).flatten.length + k]? = some .hole := by
            intro k hk
            rw [k1, List.getElem?_append_right (by omega), show st.m.length + ((vs.take i).map (·.2)).flatten.length + k - st.m.length = ((vs.take i).map (·.2)).flatten.length + k by omega, ← hA, List.append_assoc, List.getElem?_append_right (by omega), List.getElem?_append_left (by simp; omega)]
            simp [hk]
          have hfill : fillL (st.m ++ memL (vs.map (·.2)) (Lof listed) 0) (st.m.length + ((vs.take i).map (·.2)).flatten.length) es = st.m ++ memL (vs.map (·.2)) (updB (Lof listed) i) 0 := by
            rw [k1, k2, ← List.append_assoc, ← List.append_assoc, fillL_eq (by simp [hA]), List.append_assoc, List.append_assoc, List.append_assoc]
          rcases hdo with hnew | ⟨eo, rfl, hal, hest⟩
          · rw [evS_V, newOf_congr hops] at hnew
            have hn2 := newOf_sub hnmono hsub hnew
            clear hnew
            unfold newOf at hn2
            split at hn2
            · rename_i c hop
              split at hn2
              · rename_i fid hcal
                have hargs : DenVs ℓ (c.args.toList.map (evV (view2 l n vs st.sl (Lof listed)))) (c.args.toList.map a.eval) := denVs_map (evV_den h1) _
                obtain ⟨hcallable, hcalls⟩ := hnu _ _ _ _ _ _ hn2 E w ℓ _ h2 hholes hargs
                rw [hfill] at hcalls
                have hwp : o.wp P a w (fun a' w' => wpAny P .any l.toArray (semK P E N Q0 k) (f + (l.length - n)) (listed.setIfInBounds i true) a' w') (semK P E N Q0 k) := by
                  clear hn2 hsays hread hview hops
                  obtain ⟨dst, op, type, pos, after, guard⟩ := o
                  simp only at hop; subst hop
                  obtain ⟨callee, cargs, cts⟩ := c
                  simp only at hcal; subst hcal
                  unfold Oper.wp
                  rw [enter_run hcallable]
                  simp only [Oper.upon]
                  refine hcalls.mono ?_
                  rintro e w' ⟨v', ℓ', rfl, hle, hdv, hm'⟩
                  exact next hle hm' hdv
                exact hwp
              · cases hn2
            · cases hn2
          · have hcg : ∀ K', K' v eo → est T pu (st.m ++ memL (vs.map (·.2)) (Lof listed) 0) (st.m.length + ((vs.take i).map (·.2)).flatten.length) (evV (view2 l n vs st.sl (Lof listed))) o K' := by
              intro K' hK'
              have h5 := hest K' hK'
              rw [evS_V, est_congr hops] at h5
              exact est_sub hmono hsub h5
            cases heo : eo with
            | none =>
              subst heo
              have hna : allocs o = false := by simpa using hal.symm
              have h6 := hcg (fun sv e => sv = v ∧ e = none) ⟨rfl, rfl⟩
              rw [est_nid (n' := (st.m ++ memL (vs.map (·.2)) (Lof listed) 0).length) hna hcap] at h6
              refine est_ok hT hpu h2 (.inl rfl) (evV_den h1) h6 _ _ ?_
              rintro v' w' ⟨sv, e, ℓ', ⟨rfl, rfl⟩, hle, hm', hdv⟩
              refine next hle ?_ hdv
              rw [← hfill]
              exact hm'
            | some e0 =>
              subst heo
              have hget := hholes 0 (by simp)
              rw [Nat.add_zero] at hget
              refine est_ok hT hpu h2 (.inr hget) (evV_den h1) (hcg (fun sv e => sv = v ∧ e = some e0) ⟨rfl, rfl⟩) _ _ ?_
              rintro v' w' ⟨sv, e, ℓ', ⟨rfl, rfl⟩, hle, hm', hdv⟩
              refine next hle ?_ hdv
              rw [← hfill]
              have hlt := (List.getElem?_eq_some_iff.1 hget).1
              have hf : fill (st.m ++ memL (vs.map (·.2)) (Lof listed) 0) (st.m.length + ((vs.take i).map (·.2)).flatten.length) e0 = fillL (st.m ++ memL (vs.map (·.2)) (Lof listed) 0) (st.m.length + ((vs.take i).map (·.2)).flatten.length) [e0] := by
                unfold fill
                rw [if_pos hlt]
                rfl
              show MH E ℓ' (fillL _ _ [e0]) w'
              rw [← hf]
              exact hm'
        · rw [if_neg (by rw [hsays hsy]; simp)]
          refine ih _ _ _ inv' hcnt' ⟨ℓ, fun t => ?_, ?_, ?_, ?_⟩
          · rw [hLof, hview, hd]
            exact put_view (sv := .tup []) (v := undef) h1 (by rw [h4]; exact hok) ⟨[], rfl, trivial⟩ t
          · rw [hLof, memL_congr (L' := Lof listed) (fun k e hk hne => ?_)]
            · exact h2
            · simp only [updB, Nat.zero_add]
              split
              · rename_i hki; subst hki; rw [hvim] at hk; cases hk; exact absurd rfl hne
              · rfl
          · rw [hd]; exact h3
          · rw [hd]; simpa [Act.put] using h4
  obtain ⟨ℓ, h1, h2, h3, h4⟩ := hh
  have hL0 : ∀ j, Lof (Array.replicate l.toArray.size false) j = false := fun j => getD_replicate_false _ _
  have hc0 : cntF (Lof (Array.replicate l.toArray.size false)) n = n := by
    clear main htr hvl hfin hhead hseq hc hs hn h
    induction n with
    | zero => rfl
    | succ n ih => simp only [cntF, hL0, ih]; rfl
  have := main n (Array.replicate l.toArray.size false) a0 { w0 with drawn := w0.drawn + 1 }
    ⟨by simp, fun j oj _ hl => (by rw [getD_replicate_false] at hl; cases hl), fun t _ ht => getD_in (by simpa using ht) (getD_replicate_false _ _)⟩ hc0
    ⟨ℓ, fun t => by rw [view2_none (fun j _ _ => hL0 j)]; exact h1 t, (h2.drew).holes (memL_holes hL0), h3, h4⟩
  rw [show n + (l.length - n) = l.toArray.size by simp; omega] at this
  exact this
end
end Go.V
