/- A small verifier of our own, part 17: regions whose order is open, the theorem. No condition. -/
import Derived.Test.YtlnoehpjchglnaaVp
set_option linter.unusedSimpArgs false
set_option linter.unusedVariables false
namespace Go.V
open Go

def evV (f : Nat → SV) : Operand → SV
  | .tmp t => f t
  | .const v => constS v
  | .global _ => one .any
  | .func f => one (.fn f [])
theorem evS_V (sl : Slots) : evS sl = evV (look sl) := by funext x; cases x <;> rfl
theorem est_nid {T : Tab} {pu : Pure} {m : Mem} {n n' : Nat} {g : Operand → SV} {o : Oper} {K : SV → Option Ent → Prop} (h : allocs o = false) (hc : noCap T o = true) : est T pu m n g o K = est T pu m n' g o K := by
  unfold est
  unfold allocs at h
  unfold noCap at hc
  cases hop : o.op <;> simp only [hop] at h hc ⊢
  all_goals first | rfl | cases h | skip
  rename_i s d x
  unfold stConv
  split
  · rename_i s' d' x' h1 h2 h3
    split
    all_goals first | rfl | skip
    rename_i e hk1 hk2
    simp only [h2, hk2] at hc
    cases hc
  · rfl

structure HeadOK (l : List Oper) (n i : Nat) (o : Oper) : Prop where
  get : l[i]? = some o
  dst : ∃ d, o.dst = some d
  uniq : ∀ j, j < n → i ≠ j → dstOf l j ≠ dstOf l i
  reads : ∀ j d, j < n → dstOf l j = some d → d ∈ readsOf l o → j < i ∧ Region.waitsFor .any l.toArray i j = true
  back : ∀ e ∈ o.after, Region.binds .any e = true → e.on < i
theorem headB_ok {l : List Oper} {n : Nat} (h : headB l n = true) {i : Nat} (hi : i < n) : ∃ o, HeadOK l n i o := by
  have h1 := List.all_eq_true.1 h i (List.mem_range.2 hi)
  split at h1
  · cases h1
  · rename_i o ho
    simp only [Bool.and_eq_true] at h1
    obtain ⟨⟨⟨a, b⟩, c⟩, d⟩ := h1
    have hd : dstOf l i = o.dst := by simp [dstOf, ho]
    refine ⟨o, ho, Option.isSome_iff_exists.1 (hd ▸ a), fun j hj hij => ?_, fun j x hj hx hr => ?_, fun e he hb => ?_⟩
    · have := List.all_eq_true.1 b j (List.mem_range.2 hj)
      simp only [Bool.or_eq_true, beq_iff_eq, bne_iff_ne] at this
      exact this.resolve_left hij
    · have := List.all_eq_true.1 c j (List.mem_range.2 hj)
      simp only [hx, Bool.or_eq_true, Bool.not_eq_true', Bool.and_eq_true, decide_eq_true_eq] at this
      rcases this with h2 | h2
      · have h3 : (readsOf l o).contains x = true := by simpa using hr
        rw [h2] at h3; cases h3
      · exact h2
    · have := List.all_eq_true.1 d e (by simpa using he)
      simp only [Bool.or_eq_true, Bool.not_eq_true', decide_eq_true_eq, hb] at this
      simpa using this

section
variable {T : Tab} {pu : Pure} {m0 : Mem} {l : List Oper} {N : Nat}
theorem trace_len : ∀ {r : List Oper} {sl : Slots} {q : Nat} {vs : List (SV × Option Ent)}, Trace T pu m0 l N r sl q vs → vs.length = r.length
  | [], sl, q, [], _ => rfl
  | o :: r, sl, q, (v, eo) :: vs, h => by simp [trace_len h.2.2]
  | [], _, _, _ :: _, h => h.elim
  | _ :: _, _, _, [], h => h.elim
theorem trace_at : ∀ {r : List Oper} {sl : Slots} {q : Nat} {vs : List (SV × Option Ent)}, Trace T pu m0 l N r sl q vs → ∀ {i : Nat} {o : Oper}, r[i]? = some o →
    ∃ v eo, vs[i]? = some (v, eo) ∧ (noCap T o = true ∧ okd N o.dst) ∧ ((says l o (look (pushAll (r.take i) (vs.take i) sl)) true ∧ eo.isSome = allocs o ∧ ∀ K', K' v eo → est T pu m0 (m0.length + (q + (entsOf (vs.take i)).length)) (evS (pushAll (r.take i) (vs.take i) sl)) o K') ∨ (says l o (look (pushAll (r.take i) (vs.take i) sl)) false ∧ v = .tup [] ∧ eo = none))
  | [], sl, q, vs, _, i, o, hi => by simp at hi
  | o0 :: r, sl, q, [], h, _, _, _ => h.elim
  | o0 :: r, sl, q, (v, eo) :: vs, h, 0, o, hi => by
    simp at hi; subst hi
    exact ⟨v, eo, by simp, h.1, by simpa [pushAll, entsOf] using h.2.1⟩
  | o0 :: r, sl, q, (v, eo) :: vs, h, i + 1, o, hi => by
    obtain ⟨v', eo', g1, g2, g3⟩ := trace_at h.2.2 (i := i) (o := o) (by simpa using hi)
    refine ⟨v', eo', by simpa using g1, g2, ?_⟩
    simp only [List.take_succ_cons, pushAll]
    have : q + (entsOf ((v, eo) :: vs.take i)).length = q + eo.toList.length + (entsOf (vs.take i)).length := by
      cases eo <;> simp [entsOf] <;> omega
    rw [this]; exact g3
theorem pushAll_succ : ∀ {r : List Oper} {vs : List (SV × Option Ent)} {sl : Slots} {i : Nat} {o : Oper} {v : SV} {eo : Option Ent}, r[i]? = some o → vs[i]? = some (v, eo) →
    pushAll (r.take (i + 1)) (vs.take (i + 1)) sl = pushD o.dst v (pushAll (r.take i) (vs.take i) sl)
  | [], vs, sl, i, o, v, eo, h, _ => by simp at h
  | _ :: r, [], sl, i, o, v, eo, _, h => by simp at h
  | o0 :: r, (v0, e0) :: vs, sl, 0, o, v, eo, h, h2 => by
    simp at h h2; subst h; obtain ⟨rfl, rfl⟩ := h2
    simp [pushAll]
  | o0 :: r, (v0, e0) :: vs, sl, i + 1, o, v, eo, h, h2 => by
    simp only [List.take_succ_cons, pushAll]
    exact pushAll_succ (by simpa using h) (by simpa using h2)
theorem look_prefix {n : Nat} (hn : n ≤ l.length) (hB : headB l n = true) {vs : List (SV × Option Ent)} {sl : Slots} (hv : vs.length = n) : ∀ (i : Nat), i ≤ n → ∀ t, look (pushAll ((l.take n).take i) (vs.take i) sl) t = view l n vs sl (fun j => decide (j < i)) t
  | 0, _, t => by
    rw [view_none (fun j _ _ => by simp)]
    simp [pushAll]
  | i + 1, hi, t => by
    obtain ⟨o, ho⟩ := headB_ok hB (i := i) (by omega)
    have hl : (l.take n)[i]? = some o := by rw [List.getElem?_take_of_lt (by omega)]; exact ho.get
    have hvi : vs[i]? = some vs[i] := List.getElem?_eq_getElem (by omega)
    rw [pushAll_succ (v := vs[i].1) (eo := vs[i].2) hl hvi]
    obtain ⟨d, hd⟩ := ho.dst
    have hdi : dstOf l i = some d := by simp [dstOf, ho.get, hd]
    rw [hd]
    show (if t = d then vs[i].1 else look (pushAll ((l.take n).take i) (vs.take i) sl) t) = _
    have huniq : ∀ j, j < n → dstOf l j = some d → j = i := fun j hj hjd => by
      rcases Nat.decEq i j with h | h
      · exact absurd (hjd.trans hdi.symm) (ho.uniq j hj h)
      · exact h.symm
    split
    · rename_i htd
      subst htd
      rw [view_at (i := i) (fun a b ha hb h1 h2 => (huniq a ha h1).trans (huniq b hb h2).symm) (by omega) hdi (by simp)]
      simp [valAt, hvi]
    · rename_i htd
      rw [look_prefix hn hB hv i (by omega) t]
      refine view_congr (fun j hj hjd => ?_)
      have : j ≠ i := fun h => by subst h; rw [hdi] at hjd; exact htd (Option.some.inj hjd).symm
      simp only [decide_eq_decide]; omega
end

section
variable {P : Program} {E : Env} {N : Nat} {l : List Oper}
theorem says_congr {o : Oper} {f g : Nat → SV} {t : Bool} (h : ∀ d, guardTmp l o = some d → f d = g d) (hs : says l o f t) : says l o g t := by
  unfold says at hs ⊢
  split at hs
  · exact hs
  · rename_i d g b h1 h2
    rw [h d h1] at hs
    exact hs
  · exact hs.elim
theorem wanted_says {o : Oper} {f : Nat → SV} {t : Bool} {a : Act} {ℓ : Nat → Option Loc} (h : ∀ t, DenV ℓ (f t) (a.tmps.getD t undef)) (hs : says l o f t) : Region.wanted o (yielded l.toArray a.tmps) = t := by
  unfold says at hs
  split at hs
  · rename_i h1 h2
    subst hs
    simp [Region.wanted, h2]
  · rename_i d g b h1 h2
    have hgd : (l[g]?).bind (·.dst) = some d := by simpa [guardTmp, h2] using h1
    have hy : yielded l.toArray a.tmps g = match a.tmps[d]? with | some (.bool b) => some b | _ => none := by
      unfold yielded
      rw [show (l.toArray[g]?).bind (·.dst) = some d by simpa using hgd]
      rfl
    have hv := h d
    rcases hs with ⟨c, hc, rfl⟩ | ⟨hc, rfl⟩
    · rw [hc] at hv
      have hv' : a.tmps.getD d undef = .bool c := hv
      have hlt : d < a.tmps.size := by
        rcases Nat.lt_or_ge d a.tmps.size with hx | hx
        · exact hx
        · rw [Array.getD_eq_getD_getElem?, Array.getElem?_eq_none hx] at hv'; simp [undef] at hv'
      have hq : a.tmps[d]? = some (.bool c) := by
        rw [Array.getD_eq_getD_getElem?, Array.getElem?_eq_getElem hlt] at hv'
        rw [Array.getElem?_eq_getElem hlt]
        simpa using hv'
      rw [hq] at hy
      simp [Region.wanted, h2, hy]
    · rw [hc] at hv
      obtain ⟨vs, hv, hvs⟩ := hv
      cases vs with
      | cons => exact hvs.elim
      | nil =>
        have : yielded l.toArray a.tmps g = none := by
          rw [hy]
          rw [Array.getD_eq_getD_getElem?] at hv
          cases hq : a.tmps[d]? with
          | none => rfl
          | some x => rw [hq] at hv; simp at hv; subst hv; rfl
        simp [Region.wanted, h2, this]
  · exact hs.elim
theorem evV_den {ℓ : Nat → Option Loc} {f : Nat → SV} {a : Act} (h : ∀ t, DenV ℓ (f t) (a.tmps.getD t undef)) (x : Operand) : DenV ℓ (evV f x) (a.eval x) := by
  cases x with
  | tmp t => exact h t
  | const v => exact constS_den ℓ v
  | global g => trivial
  | func f => exact ⟨[], rfl, rfl⟩
theorem put_view {ℓ : Nat → Option Loc} {f : Nat → SV} {a : Act} {d : Nat} {sv : SV} {v : Value} (h : ∀ t, DenV ℓ (f t) (a.tmps.getD t undef)) (hd : d < a.tmps.size) (hv : DenV ℓ sv v) (t : Nat) :
    DenV ℓ (if t = d then sv else f t) ((a.put (some d) v).tmps.getD t undef) := by
  simp only [Act.put]
  by_cases ht : t = d
  · subst ht
    rw [if_pos rfl]
    have : (a.tmps.setIfInBounds t v).getD t undef = v := by simp [hd]
    rw [this]; exact hv
  · rw [if_neg ht]
    have : (a.tmps.setIfInBounds d v).getD t undef = a.tmps.getD t undef := by simp [Array.getElem?_setIfInBounds_ne (Ne.symm ht)]
    rw [this]; exact h t
def Lof (listed : Array Bool) : Nat → Bool := fun j => listed.getD j false
theorem Lof_set {listed : Array Bool} {i : Nat} (hi : i < listed.size) : Lof (listed.setIfInBounds i true) = updB (Lof listed) i := by
  funext j
  simp only [Lof, updB]
  by_cases h : j = i
  · subst h; simp [hi]
  · rw [if_neg h, getD_set_ne false (Ne.symm h)]

theorem entsOf_eq (vs : List (SV × Option Ent)) : entsOf vs = (vs.map (·.2)).filterMap _root_.id := by
  induction vs with
  | nil => rfl
  | cons p r ih => obtain ⟨v, eo⟩ := p; cases eo <;> simp [entsOf] at ih ⊢ <;> exact ih

theorem ok_draw {T : Tab} {pu : Pure} (hT : TabOK P T) (hpu : PureOK P pu) (hmono : PureMono pu) (hmix : P.follows .mixedOrders = true) {Q0 : Exit → Act → World → Prop} {id n : Nat} {k : List Item} {st : St} (hB : drawB l n = true)
    (h : hdRun T pu st.m l N (l.take n) st.sl [] (fun sl al => Ok P E N Q0 (.ops l (l.drop n) :: k) ⟨sl, st.m ++ al.map .ent⟩)) : Ok P E N Q0 (.code (.region id l.toArray true) :: k) st := by
  simp only [drawB, Bool.and_eq_true, decide_eq_true_eq] at hB
  obtain ⟨⟨⟨⟨hn, hs⟩, hc⟩, hseq⟩, hhead⟩ := hB
  obtain ⟨vs, htr, hfin⟩ := hdRun_trace _ _ _ _ h
  have hvl : vs.length = n := by rw [trace_len htr]; simp; omega
  simp only [List.nil_append] at hfin
  intro a0 w0 hh
  show (Code.region id l.toArray true).wp P (semK P E N Q0 k) a0 w0
  refine wp_region_any hmix ?_
  have main : ∀ (f : Nat) (listed : Array Bool) (a : Act) (w : World), HeadInv .any l.toArray n listed → cntF (Lof listed) n = f →
      (∃ ℓ, (∀ t, DenV ℓ (view l n vs st.sl (Lof listed) t) (a.tmps.getD t undef)) ∧ MH E ℓ (st.m ++ memF (vs.map (·.2)) (Lof listed) 0) w ∧ a.defers = [] ∧ a.tmps.size = N) →
      wpAny P .any l.toArray (semK P E N Q0 k) (f + (l.length - n)) listed a w := by
    intro f
    induction f with
    | zero =>
      intro listed a w inv hcnt ⟨ℓ, h1, h2, h3, h4⟩
      have hall := cntF_zero hcnt
      have hlist : listed = firstN n (l.length - n) := by
        have hsz := inv.size
        simp only [List.size_toArray] at hsz
        refine Array.ext (by simp [firstN, hsz]; omega) (fun j hj hj2 => ?_)
        rcases Nat.lt_or_ge j n with hjn | hjn
        · have := hall j hjn
          simp only [Lof] at this
          rw [Array.getD_eq_getD_getElem?, Array.getElem?_eq_getElem hj] at this
          simp only [Option.getD_some] at this
          rw [this]
          simp [firstN, List.getElem_append, hjn]
        · have := inv.tail j hjn (by simp; omega)
          rw [Array.getD_eq_getD_getElem?, Array.getElem?_eq_getElem hj] at this
          simp only [Option.getD_some] at this
          rw [this]
          simp [firstN, List.getElem_append, Nat.not_lt.2 hjn]
      have hdl : (l.drop n).length = l.length - n := by simp
      rw [Nat.zero_add, ← hdl]
      refine wpAny_of_seq (l.drop n) n listed a w (fun j => by simp) (by rw [hdl, hlist]; exact hseq) ?_
      refine hfin a w ⟨ℓ, fun t => ?_, ?_, h3, h4⟩
      · have hpf := look_prefix (Nat.le_of_lt hn) hhead (sl := st.sl) hvl n (Nat.le_refl _) t
        rw [List.take_take, Nat.min_self, List.take_of_length_le (l := vs) (by omega)] at hpf
        show DenV ℓ (look (pushAll (l.take n) vs st.sl) t) _
        rw [hpf]
        rw [view_congr (L' := Lof listed) (fun j hj _ => by rw [hall j hj]; simpa using hj)]
        exact h1 t
      · rw [memF_all (fun k hk => by rw [Nat.zero_add]; exact hall k (by simpa [hvl] using hk))] at h2
        rw [← entsOf_eq] at h2
        exact h2
    | succ f ih =>
      intro listed a w inv hcnt hD
      have hsz : listed.size = l.length := by simpa using inv.size
      obtain ⟨i0, hi0, hL0, hless⟩ := cntF_least (L := Lof listed) (n := n) (by omega)
      have hun : listed.getD i0 true = false := getD_in (by omega) hL0
      rw [show f + 1 + (l.length - n) = (f + (l.length - n)) + 1 by omega]
      refine ⟨fun hr => ?_, fun i hi => ?_⟩
      · exfalso
        obtain ⟨o, ho⟩ := headB_ok hhead hi0
        have : i0 ∈ Region.ready .any l.toArray listed := mem_ready.2 ⟨hun, o, by simpa using ho.get, fun e he hb => hless _ (ho.back e he hb)⟩
        rw [hr] at this; cases this
      · have hin : i < n := by
          rcases Nat.lt_or_ge i n with hx | hx
          · exact hx
          · exact absurd hi (tail_waits hs hc (by simpa using hn) inv _ i0 rfl hi0 hun i hx)
        obtain ⟨hiun, oi', hoi', hall⟩ := mem_ready.1 hi
        obtain ⟨o, ho⟩ := headB_ok hhead hin
        have hoi : l.toArray[i]? = some o := by simpa using ho.get
        obtain rfl : o = oi' := Option.some.inj (hoi.symm.trans hoi')
        have hLi : Lof listed i = false := getD_both hiun
        have inv' := inv.set hi hin
        have hLof := Lof_set (listed := listed) (i := i) (by omega)
        have hcnt' : cntF (Lof (listed.setIfInBounds i true)) n = f := by
          rw [hLof]
          have := cntF_set hin hLi
          omega
        obtain ⟨d, hd⟩ := ho.dst
        have hdi : dstOf l i = some d := by simp [dstOf, ho.get, hd]
        have huniq : ∀ j, j < n → dstOf l j = some d → j = i := fun j hj hjd => by
          rcases Nat.decEq i j with h | h
          · exact absurd (hjd.trans hdi.symm) (ho.uniq j hj h)
          · exact h.symm
        obtain ⟨v, eo, hvi, ⟨hcap, hok⟩, hex⟩ := trace_at htr (i := i) (o := o) (by rw [List.getElem?_take_of_lt hin]; exact ho.get)
        rw [hd] at hok
        have hok : d < N := hok
        obtain ⟨ℓ, h1, h2, h3, h4⟩ := hD
        have hread : ∀ t, t ∈ readsOf l o → look (pushAll ((l.take n).take i) (vs.take i) st.sl) t = view l n vs st.sl (Lof listed) t := by
          intro t ht
          rw [look_prefix (Nat.le_of_lt hn) hhead hvl i (by omega) t]
          refine view_congr (fun j hj hjd => ?_)
          obtain ⟨hji, hw⟩ := ho.reads j t hj hjd ht
          obtain ⟨oj, hoj, e, he, hb, hon⟩ := Region.waitsFor_spec hw
          obtain rfl : o = oj := Option.some.inj (hoi.symm.trans hoj)
          have := hall e he hb
          rw [hon] at this
          show decide (j < i) = Lof listed j
          rw [show Lof listed j = true from this]
          simpa using hji
        have hview : ∀ t, view l n vs st.sl (updB (Lof listed) i) t = if t = d then v else view l n vs st.sl (Lof listed) t := by
          intro t
          split
          · rename_i htd
            subst htd
            rw [view_at (i := i) (fun a b ha hb h1 h2 => (huniq a ha h1).trans (huniq b hb h2).symm) hin hdi (by simp [updB])]
            simp [valAt, hvi]
          · rename_i htd
            refine view_congr (fun j hj hjd => ?_)
            have : j ≠ i := fun h => by subst h; rw [hdi] at hjd; exact htd (Option.some.inj hjd).symm
            simp [updB, this]
        have hsays : ∀ {t : Bool}, says l o (look (pushAll ((l.take n).take i) (vs.take i) st.sl)) t → Region.wanted o (yielded l.toArray a.tmps) = t := fun hs =>
          wanted_says h1 (says_congr (fun d' hd' => hread d' (by simp [readsOf, hd'])) hs)
        unfold wpOp
        simp only [hoi]
        rcases hex with ⟨hsy, hal, hest⟩ | ⟨hsy, rfl, rfl⟩
        · rw [if_pos (hsays hsy)]
          refine .inl ?_
          have hcg : ∀ K', K' v eo → est T pu (st.m ++ memF (vs.map (·.2)) (Lof listed) 0) (st.m.length + (0 + (entsOf (vs.take i)).length)) (evV (view l n vs st.sl (Lof listed))) o K' := by
            intro K' hK'
            have h5 := hest K' hK'
            rw [evS_V, est_congr (g' := evV (view l n vs st.sl (Lof listed))) (fun x hx => ?_)] at h5
            · exact est_app hmono _ h5
            · cases x with
              | tmp t =>
                refine hread t ?_
                simp only [readsOf, tmpsOf, List.mem_append, List.mem_filterMap]
                exact .inl ⟨.tmp t, hx, rfl⟩
              | _ => rfl
          have next : ∀ {ℓ' : Nat → Option Loc} {v' : Value} {w' : World}, Le ℓ ℓ' → MH E ℓ' (st.m ++ memF (vs.map (·.2)) (updB (Lof listed) i) 0) w' → DenV ℓ' v v' → wpAny P .any l.toArray (semK P E N Q0 k) (f + (l.length - n)) (listed.setIfInBounds i true) (a.put o.dst v') w' := by
            intro ℓ' v' w' hle hm' hdv
            refine ih _ _ _ inv' hcnt' ⟨ℓ', fun t => ?_, by rw [hLof]; exact hm', ?_, ?_⟩
            · rw [hLof, hview, hd]
              exact put_view (fun t => (h1 t).mono hle) (by rw [h4]; exact hok) hdv t
            · rw [hd]; exact h3
            · rw [hd]; simpa [Act.put] using h4
          have hvim : (vs.map (·.2))[i]? = some eo := by simp [hvi]
          cases heo : eo with
          | none =>
            subst heo
            have hna : allocs o = false := by simpa using hal.symm
            have h6 := hcg (fun sv e => sv = v ∧ e = none) ⟨rfl, rfl⟩
            rw [est_nid (n' := (st.m ++ memF (vs.map (·.2)) (Lof listed) 0).length) hna hcap] at h6
            refine est_ok hT hpu h2 (.inl rfl) (evV_den h1) h6 _ _ ?_
            rintro v' w' ⟨sv, e, ℓ', ⟨rfl, rfl⟩, hle, hm', hdv⟩
            refine next hle ?_ hdv
            rw [memF_congr (L' := Lof listed) (fun k e hk => ?_)]
            · exact hm'
            · simp only [updB, Nat.zero_add]
              split
              · rename_i hki; subst hki; rw [hvim] at hk; cases hk
              · rfl
          | some e0 =>
            subst heo
            obtain ⟨A, B, k1, k2, k3⟩ := memF_set (eos := vs.map (·.2)) (L := Lof listed) (i := 0) (k := i) (e := e0) hvim (by rw [Nat.zero_add]; exact hLi)
            rw [Nat.zero_add] at k2
            have hA : A.length = (entsOf (vs.take i)).length := by
              rw [k3, entsOf_eq, List.map_take]
            have hget : (st.m ++ memF (vs.map (·.2)) (Lof listed) 0)[st.m.length + (0 + (entsOf (vs.take i)).length)]? = some .hole := by
              rw [k1, List.getElem?_append_right (by omega), ← hA]
              simp
            refine est_ok hT hpu h2 (.inr hget) (evV_den h1) (hcg (fun sv e => sv = v ∧ e = some e0) ⟨rfl, rfl⟩) _ _ ?_
            rintro v' w' ⟨sv, e, ℓ', ⟨rfl, rfl⟩, hle, hm', hdv⟩
            refine next hle ?_ hdv
            rw [k2]
            have hf : fill (st.m ++ memF (vs.map (·.2)) (Lof listed) 0) (st.m.length + (0 + (entsOf (vs.take i)).length)) e0 = st.m ++ (A ++ .ent e0 :: B) := by
              have hlt := (List.getElem?_eq_some_iff.1 hget).1
              unfold fill
              rw [if_pos hlt, k1, ← hA, List.set_append_right _ _ (by omega)]
              congr 1
              rw [show st.m.length + (0 + A.length) - st.m.length = A.length by omega, List.set_append_right _ _ (Nat.le_refl _)]
              simp
            rw [← hf]
            exact hm'
        · rw [if_neg (by rw [hsays hsy]; simp)]
          refine ih _ _ _ inv' hcnt' ⟨ℓ, fun t => ?_, ?_, ?_, ?_⟩
          · rw [hLof, hview, hd]
            exact put_view (sv := .tup []) (v := undef) h1 (by rw [h4]; exact hok) ⟨[], rfl, trivial⟩ t
          · rw [hLof]
            have hvim : (vs.map (·.2))[i]? = some none := by simp [hvi]
            rw [memF_congr (L' := Lof listed) (fun k e hk => ?_)]
            · exact h2
            · simp only [updB, Nat.zero_add]
              split
              · rename_i hki; subst hki; rw [hvim] at hk; cases hk
              · rfl
          · rw [hd]; exact h3
          · rw [hd]; simpa [Act.put] using h4
  obtain ⟨ℓ, h1, h2, h3, h4⟩ := hh
  have hL0 : ∀ j, Lof (Array.replicate l.toArray.size false) j = false := fun j => getD_replicate_false _ _
  have hc0 : cntF (Lof (Array.replicate l.toArray.size false)) n = n := by
    clear main htr hvl hfin hhead hseq hc hs hn h
    induction n with
    | zero => rfl
    | succ n ih => simp only [cntF, hL0, ih]; rfl
  have := main n (Array.replicate l.toArray.size false) a0 { w0 with drawn := w0.drawn + 1 }
    ⟨by simp, fun j oj _ hl => (by rw [getD_replicate_false] at hl; cases hl), fun t _ ht => getD_in (by simpa using ht) (getD_replicate_false _ _)⟩ hc0
    ⟨ℓ, fun t => by rw [view_none (fun j _ _ => hL0 j)]; exact h1 t, (h2.drew).holes (memF_holes hL0), h3, h4⟩
  rw [show n + (l.length - n) = l.toArray.size by simp; omega] at this
  exact this
end
end Go.V
