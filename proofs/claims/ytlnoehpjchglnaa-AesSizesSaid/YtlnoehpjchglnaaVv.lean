/- A small verifier of our own: regions whose order is open, with an append that a move may follow. No condition. -/
import Derived.Test.YtlnoehpjchglnaaVu
set_option linter.unusedSimpArgs false
set_option linter.unusedVariables false
namespace Go.V
open Go

def appB (l : List Oper) (n : Nat) : Bool :=
  decide (0 < n ∧ n + 1 < l.length) && Region.chainB .any l.toArray n && Region.seqB .any l.toArray (l.length - n) n (firstN n (l.length - n)) && headB l n &&
  ((List.range n).all fun i => i == 0 || (List.range (n + 1)).any fun j => decide (i < j) && Region.waitsFor .any l.toArray j i) && Region.waitsFor .any l.toArray (n + 1) 0 &&
  (match l[0]?, l[n]? with
  | some o0, some on => (match o0.op with | .move _ => true | _ => false) && o0.guard.isNone && on.guard.isNone && Oper.apart l.toArray o0 on && (match on.op with | .call _ => true | _ => false)
  | _, _ => false)
theorem semK_panic {P : Program} {E : Env} {N : Nat} {Q0 : Exit → Act → World → Prop} {c : List PanicEntry} : ∀ (k : List Item) (a : Act) (w : World), semK P E N Q0 k (.panic c) a w = Q0 (.panic c) a w
  | [], a, w => rfl
  | .code _ :: k, a, w => semK_panic k a w
  | .ops _ _ :: k, a, w => semK_panic k a w
  | .blk _ :: k, a, w => semK_panic k a w
  | .back _ :: k, a, w => semK_panic k a w
theorem wp_late {P : Program} {o : Oper} {a : Act} {w : World} {d0 : Option Tmp} {v0 : Value} (hx : execOp (a.put d0 v0).eval o = execOp a.eval o) (hne : ∀ d, d0 = some d → o.dst ≠ some d) {next : Act → World → Prop} {Q : Exit → Act → World → Prop}
    (hpan : ∀ c a w, ¬ Q (.panic c) a w) (h : o.wp P (a.put d0 v0) w next Q) : o.wp P a w (fun a' w' => (∃ u, a'.tmps = (a.put o.dst u).tmps) ∧ next (a'.put d0 v0) w') Q := by
  unfold Oper.wp at *
  rw [hx] at h
  generalize (execOp a.eval o).run P w = r at *
  cases r with
  | ok n w' =>
    cases n <;> simp only [Oper.upon] at h ⊢
    case value u => exact ⟨⟨u, rfl⟩, by rw [← Act.put_comm a v0 u hne]; exact h⟩
    case skip => exact ⟨⟨undef, rfl⟩, by rw [← Act.put_comm a v0 undef hne]; exact h⟩
    case enter f args =>
      refine Calls.mono h ?_
      intro e w'' he
      cases e with
      | returned v => exact ⟨⟨v, rfl⟩, by rw [← Act.put_comm a v0 v hne]; exact he⟩
      | panicked c => exact absurd he (hpan _ _ _)
      | outgrown => exact he
    case row r args => exact Rows.mono h (fun v w'' he => ⟨⟨v, rfl⟩, by rw [← Act.put_comm a v0 v hne]; exact he⟩)
    case defer d =>
      refine ⟨⟨undef, ?_⟩, ?_⟩
      · cases o.dst <;> rfl
      · rw [← Act.put_comm _ v0 undef hne]
        cases d0 <;> exact h
  | halt x w' => cases x <;> simp only [Oper.upon] at h ⊢ <;> first | exact h | exact absurd h (hpan _ _ _)
theorem late_waits {ops : Array Oper} {n : Nat} {listed : Array Bool} (hs : ∀ i, 0 < i → i < n → ∃ j, i < j ∧ j ≤ n ∧ Region.waitsFor .any ops j i = true) (hc : Region.chainB .any ops n = true) (hn : n < ops.size) (inv : HeadInv .any ops n listed) :
    ∀ (d i : Nat), n - i = d → 0 < i → i < n → listed.getD i true = false → ∀ t, n ≤ t → t ∉ Region.ready .any ops listed := by
  intro d
  induction d using Nat.strongRecOn with
  | _ d ih =>
    intro i hd hi0 hi hun t ht hr
    obtain ⟨_, ot, hot, hall⟩ := mem_ready.1 hr
    have htlt : t < ops.size := (Array.getElem?_eq_some_iff.1 hot).1
    by_cases htn : t = n
    · subst htn
      obtain ⟨j, hij, hjn, hw⟩ := hs i hi0 hi
      obtain ⟨oj, hoj, e, he, hb, hon⟩ := Region.waitsFor_spec hw
      by_cases hjt : j = t
      · subst hjt
        obtain rfl : ot = oj := Option.some.inj (hot.symm.trans hoj)
        have h2 := hall e he hb
        rw [hon, getD_both hun] at h2
        cases h2
      · have hl : listed.getD j false = false := by
          cases hl : listed.getD j false with
          | false => rfl
          | true =>
            have h2 := inv.closed j oj hoj hl e he hb
            rw [hon, getD_both hun] at h2
            cases h2
        have hjs : j < listed.size := by rw [inv.size]; exact (Array.getElem?_eq_some_iff.1 hoj).1
        exact ih (t - j) (by omega) j rfl (by omega) (by omega) (getD_in hjs hl) t (Nat.le_refl _) hr
    · have h1 := List.all_eq_true.1 hc t (List.mem_range.2 htlt)
      simp only [Bool.or_eq_true, decide_eq_true_eq] at h1
      rcases h1 with h1 | h1
      · omega
      · obtain ⟨o', ho', e, he, hb, hon⟩ := Region.waitsFor_spec h1
        obtain rfl : o' = ot := Option.some.inj (ho'.symm.trans hot)
        have h2 := hall e he hb
        rw [hon, getD_both (inv.tail (t - 1) (by omega) (by omega))] at h2
        cases h2
section
variable {P : Program} {E : Env} {N : Nat} {l : List Oper}
theorem ok_draw_app {T : Tab} {pu : Pure} (hT : TabOK P T) (hpu : PureOK P pu) (hmono : PureMono pu) (hmix : P.follows .mixedOrders = true) {Q0 : Exit → Act → World → Prop} {id n : Nat} {k : List Item} {st : St} (hpan : ∀ c a w, ¬ Q0 (.panic c) a w) (hB : appB l n = true)
    (h : hdRun T pu st.m l N (l.take n) st.sl [] (fun sl al => Ok P E N Q0 (.ops l (l.drop n) :: k) ⟨sl, st.m ++ al.map .ent⟩)) : Ok P E N Q0 (.code (.region id l.toArray true) :: k) st := by
  simp only [appB, Bool.and_eq_true, decide_eq_true_eq] at hB
  obtain ⟨⟨⟨⟨⟨⟨⟨hn0, hn1⟩, hc⟩, hseq⟩, hhead⟩, hsn⟩, hw10⟩, hlate⟩ := hB
  have hn : n < l.length := by omega
  have hs : ∀ i, 0 < i → i < n → ∃ j, i < j ∧ j ≤ n ∧ Region.waitsFor .any l.toArray j i = true := by
    intro i hi0 hi
    have h1 := List.all_eq_true.1 hsn i (List.mem_range.2 hi)
    simp only [Bool.or_eq_true, beq_iff_eq] at h1
    rcases h1 with h1 | h1
    · omega
    · obtain ⟨j, hj, hj2⟩ := List.any_eq_true.1 h1
      simp only [Bool.and_eq_true, decide_eq_true_eq] at hj2
      have := List.mem_range.1 hj
      exact ⟨j, hj2.1, by omega, hj2.2⟩
  obtain ⟨o0, on, x0, hl0, hln, hop0, hg0, hgn, hap, hcn⟩ : ∃ o0 on x0, l[0]? = some o0 ∧ l[n]? = some on ∧ o0.op = .move x0 ∧ o0.guard = none ∧ on.guard = none ∧ Oper.apart l.toArray o0 on = true ∧ ∃ c, on.op = .call c := by
    split at hlate
    · rename_i o0 on h0 h1
      simp only [Bool.and_eq_true, Option.isNone_iff_eq_none] at hlate
      obtain ⟨⟨⟨⟨a, b⟩, c⟩, d⟩, e⟩ := hlate
      cases ho : o0.op <;> rw [ho] at a <;> first | (cases a; done) | skip
      cases hq : on.op <;> rw [hq] at e <;> first | (cases e; done) | skip
      exact ⟨o0, on, _, h0, h1, ho, b, c, d, _, hq⟩
    · cases hlate
  obtain ⟨hap1, hap2, hap3⟩ := Oper.apart_spec hap
  obtain ⟨vs, htr, hfin⟩ := hdRun_trace _ _ _ _ h
  have hvl : vs.length = n := by rw [trace_len htr]; simp; omega
  simp only [List.nil_append] at hfin
  intro a0 w0 hh
  show (Code.region id l.toArray true).wp P (semK P E N Q0 k) a0 w0
  refine wp_region_any hmix ?_
  have mv : ∀ (K : Act → World → Prop) (a : Act) (w : World), wpOp P l.toArray (semK P E N Q0 k) 0 K a w → K (a.put o0.dst (a.eval x0)) w := by
    intro K a w h
    unfold wpOp at h
    simp only [show l.toArray[0]? = some o0 by simpa using hl0] at h
    rw [if_pos (by simp [Region.wanted, hg0])] at h
    rcases h with h | ⟨h, _⟩
    · unfold Oper.wp at h
      have : (execOp a.eval o0).run P w = .ok (.value (a.eval x0)) w := by simp [execOp, hop0]
      rw [this] at h
      exact h
    · exfalso
      unfold Oper.asks at h
      have := h.1
      have e : (execOp a.eval o0) = pure (Next.value (a.eval x0)) := by simp [execOp, hop0]
      rw [e] at this
      have this2 : noRoomEvent ∈ (#[] : Array Event) := this
      simp at this2
  have late : ∀ (listed : Array Bool) (a : Act) (w : World), HeadInv .any l.toArray n listed → ∀ f, cntF (Lof listed) n = f + 1 → ∀ i0, i0 < n → Lof listed i0 = false → listed.getD i0 true = false →
      (0 ∈ Region.ready .any l.toArray listed → wpAny P .any l.toArray (semK P E N Q0 k) (f + (l.length - n)) (listed.setIfInBounds 0 true) (a.put o0.dst (a.eval x0)) w) →
      ∀ i, i ∈ Region.ready .any l.toArray listed → n ≤ i → wpOp P l.toArray (semK P E N Q0 k) i (wpAny P .any l.toArray (semK P E N Q0 k) (f + (l.length - n)) (listed.setIfInBounds i true)) a w := by
    intro listed a w inv f hcnt i0 hi0 hL0 hun hmv i hi hin
    have hsz : listed.size = l.length := by simpa using inv.size
    have hothers : ∀ j, 0 < j → j < n → listed.getD j true = true := by
      intro j hj0 hj
      cases hx : listed.getD j true with
      | true => rfl
      | false => exact absurd hi (late_waits hs hc (by simpa using hn) inv _ j rfl hj0 hj hx i hin)
    have hz : i0 = 0 := by
      rcases Nat.eq_zero_or_pos i0 with h | h
      · exact h
      · rw [hothers i0 h hi0] at hun; cases hun
    subst hz
    have hLj : ∀ j, 0 < j → j < n → Lof listed j = true := by
      intro j hj0 hj
      have := hothers j hj0 hj
      simp only [Lof]
      have hjs : j < listed.size := by omega
      rw [Array.getD_eq_getD_getElem?, Array.getElem?_eq_getElem hjs] at this ⊢
      simpa using this
    obtain ⟨hiun, oi, hoi, hall⟩ := mem_ready.1 hi
    have hil : i < l.length := by have := (Array.getElem?_eq_some_iff.1 hoi).1; simpa using this
    have hi_n : i = n := by
      rcases Nat.lt_or_ge n i with hlt | hge
      · exfalso
        have h1 := List.all_eq_true.1 hc i (List.mem_range.2 (by simpa using hil))
        simp only [Bool.or_eq_true, decide_eq_true_eq] at h1
        rcases h1 with h1 | h1
        · omega
        · obtain ⟨o', ho', e, he, hb, hon⟩ := Region.waitsFor_spec h1
          obtain rfl : o' = oi := Option.some.inj (ho'.symm.trans hoi)
          have h2 := hall e he hb
          rw [hon, getD_both (inv.tail (i - 1) (by omega) (by simp; omega))] at h2
          cases h2
      · omega
    subst hi_n
    have hon : l.toArray[i]? = some on := by simpa using hln
    obtain rfl : on = oi := Option.some.inj (hon.symm.trans hoi)
    obtain ⟨oz, hoz⟩ := headB_ok hhead hn0
    obtain rfl : o0 = oz := Option.some.inj (hl0.symm.trans hoz.get)
    obtain ⟨d0, hd0⟩ := hoz.dst
    -- the state in which the move has been carried out ahead
    have hf0 : f = 0 := by
      have hLall : ∀ j, j < i → updB (Lof listed) 0 j = true := fun j hj => by
        simp only [updB]
        split
        · rfl
        · exact hLj j (by omega) hj
      have h1 := cntF_set hn0 hL0
      have h2 : ∀ (L : Nat → Bool) (m : Nat), (∀ j, j < m → L j = true) → cntF L m = 0 := by
        intro L m
        induction m with
        | zero => intro _; rfl
        | succ m ihm => intro h; simp only [cntF, ihm (fun j hj => h j (by omega)), h m (by omega)]; rfl
      rw [h2 _ _ hLall] at h1
      omega
    subst hf0
    have hready0 : 0 ∈ Region.ready .any l.toArray listed := by
      refine mem_ready.2 ⟨hun, o0, by simpa using hl0, fun e he hb => ?_⟩
      exact absurd (hoz.back e he hb) (by omega)
    have hpre := hmv hready0
    · -- out of the text's order
      have hseq0 := hseq
      rw [show l.length - i = (l.length - (i + 1)) + 1 by omega] at hseq0
      simp only [Region.seqB, Bool.and_eq_true, decide_eq_true_eq] at hseq0
      have hlist : (listed.setIfInBounds 0 true) = firstN i (l.length - (i + 1) + 1) := by
        have inv' := inv.set hready0 hn0
        have hsz' := inv'.size
        simp only [List.size_toArray] at hsz'
        refine Array.ext (by simp [firstN]; simp at hsz'; omega) (fun j hj hj2 => ?_)
        rcases Nat.lt_or_ge j i with hjn | hjn
        · have : Lof (listed.setIfInBounds 0 true) j = true := by
            rw [Lof_set (by omega)]
            simp only [updB]
            split
            · rfl
            · exact hLj j (by omega) hjn
          simp only [Lof] at this
          rw [Array.getD_eq_getD_getElem?, Array.getElem?_eq_getElem hj] at this
          simp only [Option.getD_some] at this
          rw [this]
          simp [firstN, List.getElem_append, hjn]
        · have := inv'.tail j hjn (by simp at hj ⊢; omega)
          rw [Array.getD_eq_getD_getElem?, Array.getElem?_eq_getElem hj] at this
          simp only [Option.getD_some] at this
          rw [this]
          simp [firstN, List.getElem_append, Nat.not_lt.2 hjn]
      rw [Nat.zero_add, show l.length - i = (l.length - (i + 1)) + 1 by omega] at hpre
      have hrd : Region.ready .any l.toArray (listed.setIfInBounds 0 true) = [i] := by rw [hlist]; exact hseq0.1
      have hop := hpre.2 i (by rw [hrd]; simp)
      unfold wpOp at hop ⊢
      simp only [hoi] at hop ⊢
      have hwn : ∀ tm, Region.wanted on (yielded l.toArray tm) = true := fun tm => by simp [Region.wanted, hgn]
      rw [if_pos (hwn _)] at hop ⊢
      have hexec := execOp_put (ops := l.toArray) on (by obtain ⟨c, hc'⟩ := hcn; rw [hc']; intro cs b h; cases h) a o0.dst (a.eval x0) hap1
      have hQpan : ∀ c a w, ¬ semK P E N Q0 k (.panic c) a w := fun c a w => by rw [semK_panic]; exact hpan c a w
      rcases hop with hop | ⟨hask, hout⟩
      · refine .inl (Oper.wp_mono ?_ (wp_late hexec hap2 hQpan hop))
        rintro a' w' ⟨⟨u, hu⟩, hnx⟩
        rw [Nat.zero_add, show l.length - i = (l.length - (i + 1)) + 1 by omega]
        have hset : (listed.setIfInBounds 0 true).setIfInBounds i true = (listed.setIfInBounds i true).setIfInBounds 0 true := Array.setIfInBounds_comm _ _ (by omega)
        have hr0 : 0 ∈ Region.ready .any l.toArray (listed.setIfInBounds i true) := ready_mono hready0 (by omega)
        refine ⟨fun h => (by rw [h] at hr0; cases hr0), fun j hj => ?_⟩
        have hj0 : j = 0 := by
          rcases Nat.eq_zero_or_pos j with h | hjp
          · exact h
          · exfalso
            obtain ⟨hjun, oj, hoj, hjall⟩ := mem_ready.1 hj
            have hjl : j < l.length := by have := (Array.getElem?_eq_some_iff.1 hoj).1; simpa using this
            by_cases hji : j = i
            · subst hji
              simp [hsz, hjl] at hjun
            · rw [getD_set_ne true (Ne.symm hji)] at hjun
              rcases Nat.lt_or_ge j i with hlt | hge
              · rw [hothers j hjp hlt] at hjun; cases hjun
              · by_cases hj1 : j = i + 1
                · subst hj1
                  obtain ⟨o', ho', e, he, hb, hon'⟩ := Region.waitsFor_spec hw10
                  obtain rfl : o' = oj := Option.some.inj (ho'.symm.trans hoj)
                  have h2 := hjall e he hb
                  rw [hon', getD_set_ne false (by omega), getD_both hun] at h2
                  cases h2
                · have h1 := List.all_eq_true.1 hc j (List.mem_range.2 (by simpa using hjl))
                  simp only [Bool.or_eq_true, decide_eq_true_eq] at h1
                  rcases h1 with h1 | h1
                  · omega
                  · obtain ⟨o', ho', e, he, hb, hon'⟩ := Region.waitsFor_spec h1
                    obtain rfl : o' = oj := Option.some.inj (ho'.symm.trans hoj)
                    have h2 := hjall e he hb
                    rw [hon', getD_set_ne false (by omega), getD_both (inv.tail (j - 1) (by omega) (by simp; omega))] at h2
                    cases h2
        subst hj0
        unfold wpOp
        simp only [show l.toArray[0]? = some o0 by simpa using hl0]
        rw [if_pos (by simp [Region.wanted, hg0])]
        refine .inl ?_
        have hev : a'.eval x0 = a.eval x0 := by
          have h1 : a'.eval x0 = (a.put on.dst u).eval x0 := by
            cases x0 <;> simp [Act.eval, hu]
          rw [h1]
          refine Act.eval_put fun d hd hxd => ?_
          refine hap3 d hd ?_
          subst hxd
          refine List.mem_append_left _ (List.mem_filterMap.2 ⟨.tmp d, ?_, rfl⟩)
          rw [hop0]; simp [Op.operands]
        unfold Oper.wp
        have : (execOp a'.eval o0).run P w' = .ok (.value (a.eval x0)) w' := by
          rw [← hev]; simp [execOp, hop0]
        rw [this]
        show wpAny _ _ _ _ _ _ (a'.put o0.dst (a.eval x0)) w'
        rw [← hset]
        exact hnx
      · refine .inr ⟨?_, hout⟩
        unfold Oper.asks at hask ⊢
        rw [hexec] at hask
        exact hask
  have main : ∀ (f : Nat) (listed : Array Bool) (a : Act) (w : World), HeadInv .any l.toArray n listed → cntF (Lof listed) n = f →
      (∃ ℓ, (∀ t, DenV ℓ (view l n vs st.sl (Lof listed) t) (a.tmps.getD t undef)) ∧ MH E ℓ (st.m ++ memF (vs.map (·.2)) (Lof listed) 0) w ∧ a.defers = [] ∧ a.tmps.size = N) →
      wpAny P .any l.toArray (semK P E N Q0 k) (f + (l.length - n)) listed a w := by
    intro f
    induction f with
    | zero =>
      intro listed a w inv hcnt ⟨ℓ, h1, h2, h3, h4⟩
      have hall := cntF_zero hcnt
      have hlist : listed = firstN n (l.length - n) := by
        have hsz := inv.size
        simp only [List.size_toArray] at hsz
        refine Array.ext (by simp [firstN, hsz]; omega) (fun j hj hj2 => ?_)
        rcases Nat.lt_or_ge j n with hjn | hjn
        · have := hall j hjn
          simp only [Lof] at this
          rw [Array.getD_eq_getD_getElem?, Array.getElem?_eq_getElem hj] at this
          simp only [Option.getD_some] at this
          rw [this]
          simp [firstN, List.getElem_append, hjn]
        · have := inv.tail j hjn (by simp; omega)
          rw [Array.getD_eq_getD_getElem?, Array.getElem?_eq_getElem hj] at this
          simp only [Option.getD_some] at this
          rw [this]
          simp [firstN, List.getElem_append, Nat.not_lt.2 hjn]
      have hdl : (l.drop n).length = l.length - n := by simp
      rw [Nat.zero_add, ← hdl]
      refine wpAny_of_seq (l.drop n) n listed a w (fun j => by simp) (by rw [hdl, hlist]; exact hseq) ?_
      refine hfin a w ⟨ℓ, fun t => ?_, ?_, h3, h4⟩
      · have hpf := look_prefix (Nat.le_of_lt hn) hhead (sl := st.sl) hvl n (Nat.le_refl _) t
        rw [List.take_take, Nat.min_self, List.take_of_length_le (l := vs) (by omega)] at hpf
        show DenV ℓ (look (pushAll (l.take n) vs st.sl) t) _
        rw [hpf]
        rw [view_congr (L' := Lof listed) (fun j hj _ => by rw [hall j hj]; simpa using hj)]
        exact h1 t
      · rw [memF_all (fun k hk => by rw [Nat.zero_add]; exact hall k (by simpa [hvl] using hk))] at h2
        rw [← entsOf_eq] at h2
        exact h2
    | succ f ih =>
      intro listed a w inv hcnt hD
      have hsz : listed.size = l.length := by simpa using inv.size
      obtain ⟨i0, hi0, hL0, hless⟩ := cntF_least (L := Lof listed) (n := n) (by omega)
      have hun : listed.getD i0 true = false := getD_in (by omega) hL0
      rw [show f + 1 + (l.length - n) = (f + (l.length - n)) + 1 by omega]
      refine ⟨fun hr => ?_, fun i hi => ?_⟩
      · exfalso
        obtain ⟨o, ho⟩ := headB_ok hhead hi0
        have : i0 ∈ Region.ready .any l.toArray listed := mem_ready.2 ⟨hun, o, by simpa using ho.get, fun e he hb => hless _ (ho.back e he hb)⟩
        rw [hr] at this; cases this
      · have low : ∀ i, i ∈ Region.ready .any l.toArray listed → i < n → wpOp P l.toArray (semK P E N Q0 k) i (wpAny P .any l.toArray (semK P E N Q0 k) (f + (l.length - n)) (listed.setIfInBounds i true)) a w := by
          intro i hi hin
          obtain ⟨hiun, oi', hoi', hall⟩ := mem_ready.1 hi
          obtain ⟨o, ho⟩ := headB_ok hhead hin
          have hoi : l.toArray[i]? = some o := by simpa using ho.get
          obtain rfl : o = oi' := Option.some.inj (hoi.symm.trans hoi')
          have hLi : Lof listed i = false := getD_both hiun
          have inv' := inv.set hi hin
          have hLof := Lof_set (listed := listed) (i := i) (by omega)
          have hcnt' : cntF (Lof (listed.setIfInBounds i true)) n = f := by
            rw [hLof]
            have := cntF_set hin hLi
            omega
          obtain ⟨d, hd⟩ := ho.dst
          have hdi : dstOf l i = some d := by simp [dstOf, ho.get, hd]
          have huniq : ∀ j, j < n → dstOf l j = some d → j = i := fun j hj hjd => by
            rcases Nat.decEq i j with h | h
            · exact absurd (hjd.trans hdi.symm) (ho.uniq j hj h)
            · exact h.symm
          obtain ⟨v, eo, hvi, ⟨hcap, hok⟩, hex⟩ := trace_at htr (i := i) (o := o) (by rw [List.getElem?_take_of_lt hin]; exact ho.get)
          rw [hd] at hok
          have hok : d < N := hok
          obtain ⟨ℓ, h1, h2, h3, h4⟩ := hD
          have hread : ∀ t, t ∈ readsOf l o → look (pushAll ((l.take n).take i) (vs.take i) st.sl) t = view l n vs st.sl (Lof listed) t := by
            intro t ht
            rw [look_prefix (Nat.le_of_lt hn) hhead hvl i (by omega) t]
            refine view_congr (fun j hj hjd => ?_)
            obtain ⟨hji, hw⟩ := ho.reads j t hj hjd ht
            obtain ⟨oj, hoj, e, he, hb, hon⟩ := Region.waitsFor_spec hw
            obtain rfl : o = oj := Option.some.inj (hoi.symm.trans hoj)
            have := hall e he hb
            rw [hon] at this
            show decide (j < i) = Lof listed j
            rw [show Lof listed j = true from this]
            simpa using hji
          have hview : ∀ t, view l n vs st.sl (updB (Lof listed) i) t = if t = d then v else view l n vs st.sl (Lof listed) t := by
            intro t
            split
            · rename_i htd
              subst htd
              rw [view_at (i := i) (fun a b ha hb h1 h2 => (huniq a ha h1).trans (huniq b hb h2).symm) hin hdi (by simp [updB])]
              simp [valAt, hvi]
            · rename_i htd
              refine view_congr (fun j hj hjd => ?_)
              have : j ≠ i := fun h => by subst h; rw [hdi] at hjd; exact htd (Option.some.inj hjd).symm
              simp [updB, this]
          have hsays : ∀ {t : Bool}, says l o (look (pushAll ((l.take n).take i) (vs.take i) st.sl)) t → Region.wanted o (yielded l.toArray a.tmps) = t := fun hs =>
            wanted_says h1 (says_congr (fun d' hd' => hread d' (by simp [readsOf, hd'])) hs)
          unfold wpOp
          simp only [hoi]
          rcases hex with ⟨hsy, hal, hest⟩ | ⟨hsy, rfl, rfl⟩
          · rw [if_pos (hsays hsy)]
            refine .inl ?_
            have hcg : ∀ K', K' v eo → est T pu (st.m ++ memF (vs.map (·.2)) (Lof listed) 0) (st.m.length + (0 + (entsOf (vs.take i)).length)) (evV (view l n vs st.sl (Lof listed))) o K' := by
              intro K' hK'
              have h5 := hest K' hK'
              rw [evS_V, est_congr (g' := evV (view l n vs st.sl (Lof listed))) (fun x hx => ?_)] at h5
              · exact est_app hmono _ h5
              · cases x with
                | tmp t =>
                  refine hread t ?_
                  simp only [readsOf, tmpsOf, List.mem_append, List.mem_filterMap]
                  exact .inl ⟨.tmp t, hx, rfl⟩
                | _ => rfl
            have next : ∀ {ℓ' : Nat → Option Loc} {v' : Value} {w' : World}, Le ℓ ℓ' → MH E ℓ' (st.m ++ memF (vs.map (·.2)) (updB (Lof listed) i) 0) w' → DenV ℓ' v v' → wpAny P .any l.toArray (semK P E N Q0 k) (f + (l.length - n)) (listed.setIfInBounds i true) (a.put o.dst v') w' := by
              intro ℓ' v' w' hle hm' hdv
              refine ih _ _ _ inv' hcnt' ⟨ℓ', fun t => ?_, by rw [hLof]; exact hm', ?_, ?_⟩
              · rw [hLof, hview, hd]
                exact put_view (fun t => (h1 t).mono hle) (by rw [h4]; exact hok) hdv t
              · rw [hd]; exact h3
              · rw [hd]; simpa [Act.put] using h4
            have hvim : (vs.map (·.2))[i]? = some eo := by simp [hvi]
            cases heo : eo with
            | none =>
              subst heo
              have hna : allocs o = false := by simpa using hal.symm
              have h6 := hcg (fun sv e => sv = v ∧ e = none) ⟨rfl, rfl⟩
              rw [est_nid (n' := (st.m ++ memF (vs.map (·.2)) (Lof listed) 0).length) hna hcap] at h6
              refine est_ok hT hpu h2 (.inl rfl) (evV_den h1) h6 _ _ ?_
              rintro v' w' ⟨sv, e, ℓ', ⟨rfl, rfl⟩, hle, hm', hdv⟩
              refine next hle ?_ hdv
              rw [memF_congr (L' := Lof listed) (fun k e hk => ?_)]
              · exact hm'
              · simp only [updB, Nat.zero_add]
                split
                · rename_i hki; subst hki; rw [hvim] at hk; cases hk
                · rfl
            | some e0 =>
              subst heo
              obtain ⟨A, B, k1, k2, k3⟩ := memF_set (eos := vs.map (·.2)) (L := Lof listed) (i := 0) (k := i) (e := e0) hvim (by rw [Nat.zero_add]; exact hLi)
              rw [Nat.zero_add] at k2
              have hA : A.length = (entsOf (vs.take i)).length := by
                rw [k3, entsOf_eq, List.map_take]
              have hget : (st.m ++ memF (vs.map (·.2)) (Lof listed) 0)[st.m.length + (0 + (entsOf (vs.take i)).length)]? = some .hole := by
                rw [k1, List.getElem?_append_right (by omega), ← hA]
                simp
              refine est_ok hT hpu h2 (.inr hget) (evV_den h1) (hcg (fun sv e => sv = v ∧ e = some e0) ⟨rfl, rfl⟩) _ _ ?_
              rintro v' w' ⟨sv, e, ℓ', ⟨rfl, rfl⟩, hle, hm', hdv⟩
              refine next hle ?_ hdv
              rw [k2]
              have hf : fill (st.m ++ memF (vs.map (·.2)) (Lof listed) 0) (st.m.length + (0 + (entsOf (vs.take i)).length)) e0 = st.m ++ (A ++ .ent e0 :: B) := by
                have hlt := (List.getElem?_eq_some_iff.1 hget).1
                unfold fill
                rw [if_pos hlt, k1, ← hA, List.set_append_right _ _ (by omega)]
                congr 1
                rw [show st.m.length + (0 + A.length) - st.m.length = A.length by omega, List.set_append_right _ _ (Nat.le_refl _)]
                simp
              rw [← hf]
              exact hm'
          · rw [if_neg (by rw [hsays hsy]; simp)]
            refine ih _ _ _ inv' hcnt' ⟨ℓ, fun t => ?_, ?_, ?_, ?_⟩
            · rw [hLof, hview, hd]
              exact put_view (sv := .tup []) (v := undef) h1 (by rw [h4]; exact hok) ⟨[], rfl, trivial⟩ t
            · rw [hLof]
              have hvim : (vs.map (·.2))[i]? = some none := by simp [hvi]
              rw [memF_congr (L' := Lof listed) (fun k e hk => ?_)]
              · exact h2
              · simp only [updB, Nat.zero_add]
                split
                · rename_i hki; subst hki; rw [hvim] at hk; cases hk
                · rfl
            · rw [hd]; exact h3
            · rw [hd]; simpa [Act.put] using h4
        rcases Nat.lt_or_ge i n with hin | hin
        · exact low i hi hin
        · exact late listed a w inv f hcnt i0 hi0 hL0 hun (fun h0 => mv _ a w (low 0 h0 hn0)) i hi hin
  obtain ⟨ℓ, h1, h2, h3, h4⟩ := hh
  have hL0 : ∀ j, Lof (Array.replicate l.toArray.size false) j = false := fun j => getD_replicate_false _ _
  have hc0 : cntF (Lof (Array.replicate l.toArray.size false)) n = n := by
    have : ∀ m, cntF (Lof (Array.replicate l.toArray.size false)) m = m := by
      intro m
      induction m with
      | zero => rfl
      | succ m ih => simp only [cntF, hL0, ih]; rfl
    exact this n
  have := main n (Array.replicate l.toArray.size false) a0 { w0 with drawn := w0.drawn + 1 }
    ⟨by simp, fun j oj _ hl => (by rw [getD_replicate_false] at hl; cases hl), fun t _ ht => getD_in (by simpa using ht) (getD_replicate_false _ _)⟩ hc0
    ⟨ℓ, fun t => by rw [view_none (fun j _ _ => hL0 j)]; exact h1 t, (h2.drew).holes (memF_holes hL0), h3, h4⟩
  rw [show n + (l.length - n) = l.toArray.size by simp; omega] at this
  exact this
theorem ok_draw_app2 {E : Env} {N : Nat} {l hd tl : List Oper} {T : Tab} {pu : Pure} (n : Nat) (hT : TabOK P T) (hpu : PureOK P pu) (hmono : PureMono pu) (hmix : P.follows .mixedOrders = true) {Q0 : Exit → Act → World → Prop} {id : Nat} {k : List Item} {sl : Slots} {m : Mem} (hpan : ∀ c a w, ¬ Q0 (.panic c) a w) (hB : appB l n = true)
    (h1 : l.take n = hd) (h2 : l.drop n = tl)
    (h : hdRun T pu m l N hd sl [] (fun sl al => Ok P E N Q0 (.ops l tl :: k) ⟨sl, m ++ al.map .ent⟩)) : Ok P E N Q0 (.code (.region id l.toArray true) :: k) ⟨sl, m⟩ := by
  subst h1 h2
  exact ok_draw_app hT hpu hmono hmix hpan hB h
end
section
variable {P : Program} {E : Env} {N : Nat} {ℓ : Nat → Option Loc} {m : Mem} {w : World}
/-- The content of a block, said otherwise. -/
theorem MH.again (h : MH E ℓ m w) {i0 : Nat} {e : Ent} {c : A} (hm : m[i0]? = some (.ent e)) (hl : c.len = e.c.len) (hok : c.OK) (hd : ∀ vs, DenL ℓ e.c.cells vs → DenL ℓ c.cells vs) : MH E ℓ (m.set i0 (.ent { e with c := c })) w := by
  have hlt := (List.getElem?_eq_some_iff.1 hm).1
  have get : ∀ {i : Nat} {x : Ent}, (m.set i0 (.ent { e with c := c }))[i]? = some (.ent x) → (i = i0 ∧ x = { e with c := c }) ∨ (i ≠ i0 ∧ m[i]? = some (.ent x)) := by
    intro i x hi
    rw [List.getElem?_set] at hi
    split at hi
    · rename_i hii
      simp only [Option.some.injEq, Mk.ent.injEq] at hi
      exact .inl ⟨hii.symm, hi.symm⟩
    · rename_i hii
      exact .inr ⟨Ne.symm hii, hi⟩
  have back : ∀ {i : Nat} {x : Ent}, (m.set i0 (.ent { e with c := c }))[i]? = some (.ent x) → ∃ x', m[i]? = some (.ent x') ∧ x'.own = x.own ∧ x'.c.len = x.c.len := by
    intro i x hi
    rcases get hi with ⟨rfl, rfl⟩ | ⟨_, hi⟩
    · exact ⟨e, hm, rfl, hl.symm⟩
    · exact ⟨x, hi, rfl, rfl⟩
  refine ⟨h.os, h.tape, h.output, h.size, h.keep, h.anch, fun i hi => ?_, fun i x hi => ?_, fun i j ei ej Li Lj hi hj hLi hLj ho h0 hne hr => ?_⟩
  · refine h.dom i ?_
    rcases hi with hi | hi
    · exact .inl (by simpa using hi)
    · rw [List.getElem?_set] at hi
      split at hi
      · cases hi
      · exact .inr hi
  · rcases get hi with ⟨rfl, rfl⟩ | ⟨_, hi⟩
    · obtain ⟨L, h1, ⟨⟨hf, _⟩, h2⟩, h3⟩ := h.ent _ _ hm
      refine ⟨L, h1, ⟨⟨fun n hn => hl.trans (hf n hn), hok⟩, ?_⟩, h3⟩
      split at h2
      · rename_i ho
        rw [if_pos ho]
        obtain ⟨a, b, g⟩ := h2
        refine ⟨a, by show c.len ≤ L.lim; rw [hl]; exact b, fun h0 => ?_⟩
        obtain ⟨cs, fr, vs, rest, g1, g2, g3, g4, g5⟩ := g h0
        exact ⟨cs, fr, vs, rest, g1, g2, g3, g4, hd vs g5⟩
      · rename_i ho
        rw [if_neg ho]
        obtain ⟨vs, a, b⟩ := h2
        exact ⟨vs, hd vs a, b⟩
    · exact h.ent i x hi
  · obtain ⟨xi, a1, a2, a3⟩ := back hi
    obtain ⟨xj, b1, b2, b3⟩ := back hj
    refine h.apart i j xi xj Li Lj a1 b1 hLi hLj (a2.trans ho) h0 hne ?_
    unfold Real at hr ⊢
    rw [b2, b3]; exact hr
/-- A nil slice that a block of one cell holds may be taken for an empty one of our own. -/
theorem ok_blank_mem {Q0 : Exit → Act → World → Prop} {k : List Item} {st : St} (i0 : Nat) (e : Ent) (rest : List Seg) (ty : TypeId) (es : Nat) (a : A) (hl : a.len = 0) (hok : a.OK) (hm : st.m[i0]? = some (.ent e)) (hc : e.c = .st (⟨1, .s .snil⟩ :: rest))
    (h : Ok P E N Q0 k ⟨st.sl, (st.m ++ [Mk.ent ⟨true, ty, none, a⟩]).set i0 (Mk.ent { e with c := .st (⟨1, .s (.sl st.m.length 0 0 0 es)⟩ :: rest) })⟩) : Ok P E N Q0 k st := by
  intro b w hh
  obtain ⟨ℓ, h1, h2, h3, h4⟩ := hh
  have hf : Fresh st.m st.m.length := .inl rfl
  have hle := h2.le_upd hf ⟨E.w0.heap.size, 0, 0⟩
  have hb := h2.blank hf (ty := ty) hl hok
  have hrest : SegOK rest := by
    obtain ⟨L, _, hE, _⟩ := h2.ent i0 e hm
    have := hE.ok
    rw [hc] at this
    exact this.2
  rw [fill_len] at hb
  have hb2 := hb.again (i0 := i0) (e := e) (c := .st (⟨1, .s (.sl st.m.length 0 0 0 es)⟩ :: rest)) (by rw [List.getElem?_append_left (List.getElem?_eq_some_iff.1 hm).1]; exact hm) (by rw [hc]; rfl) ⟨rfl, hrest⟩ (fun vs hvs => by
    rw [hc] at hvs
    cases vs with
    | nil => exact hvs.elim
    | cons v r =>
      obtain ⟨hv, hr⟩ := hvs
      refine ⟨?_, hr⟩
      have hv' : v = .slice none 0 0 := hv
      rw [hv']
      exact ⟨⟨E.w0.heap.size, 0, 0⟩, by simp [upd], Nat.le_refl _, .inl ⟨rfl, none, rfl⟩⟩)
  exact h b w ⟨_, fun u => (h1 u).mono hle, hb2, h3, h4⟩
end
end Go.V
