/- A small verifier of our own, part 14: the use of a contract at a call. No condition. -/
import Derived.Test.YtlnoehpjchglnaaVm
set_option linter.unusedSimpArgs false
set_option linter.unusedVariables false
namespace Go.V
open Go

/-- Ids of a callee in the caller's count: the first ones lie as the list says, the others behind. -/
def ix (σ : List Nat) (n : Nat) (i : Nat) : Nat := if i < σ.length then σ.getD i 0 else n + (i - σ.length)
/-- The caller's memory is such as the contract asks for. -/
def matchM (ρ : Nat → Nat) (k : Nat) (m : Mem) : Mem → List Nat → Prop
  | [], [] => True
  | .ent e :: r, j :: σ => (match m[j]? with
    | some (.ent e') => (e.own = true → e'.own = true ∧ e'.ty = e.ty ∧ 0 < e.c.len) ∧ (∀ n, e.fix = some n → e.c.len = n) ∧ e'.c = renA ρ e.c ∧ belA k e.c = true
    | _ => False) ∧ matchM ρ k m r σ
  | _, _ => False
/-- The caller's memory after the call. -/
def putM (ρ : Nat → Nat) (m : Mem) : Mem → List Nat → Mem → Mem
  | .ent e :: r, j :: σ, x :: m' => putM ρ (if e.own = true then m.set j (renMk ρ x) else m) r σ m'
  | _, _, _ => m
def afterM (ρ : Nat → Nat) (m pre : Mem) (σ : List Nat) (m' : Mem) : Mem := putM ρ m pre σ m' ++ (m'.drop pre.length).map (renMk ρ)

theorem matchM_get {ρ : Nat → Nat} {k : Nat} {m : Mem} : ∀ {pre : Mem} {σ : List Nat}, matchM ρ k m pre σ → σ.length = pre.length ∧ (∀ (t : Nat) (x : Mk), pre[t]? = some x → ∃ (e : Ent) (j : Nat) (e' : Ent), x = .ent e ∧ σ[t]? = some j ∧ m[j]? = some (.ent e') ∧ (e.own = true → e'.own = true ∧ e'.ty = e.ty ∧ 0 < e.c.len) ∧ (∀ n, e.fix = some n → e.c.len = n) ∧ e'.c = renA ρ e.c ∧ belA k e.c = true)
  | [], [], _ => ⟨rfl, fun t x h => by simp at h⟩
  | .ent e :: r, j :: σ, ⟨h1, h2⟩ => by
    obtain ⟨g1, g2⟩ := matchM_get h2
    refine ⟨by simp [g1], fun t x h => ?_⟩
    cases t with
    | zero =>
      simp at h; subst h
      split at h1
      · rename_i e' he'
        exact ⟨e, j, e', rfl, by simp, he', h1⟩
      · exact h1.elim
    | succ t => simpa using g2 t x (by simpa using h)
  | .gone :: _, _, h => by cases ‹List Nat› <;> exact h.elim
  | .hole :: _, _, h => by cases ‹List Nat› <;> exact h.elim
  | .ent _ :: _, [], h => h.elim
  | [], _ :: _, h => h.elim
theorem putM_get {ρ : Nat → Nat} : ∀ {pre : Mem} {σ : List Nat} {m' m : Mem}, (∀ x ∈ pre, ∃ e, x = Mk.ent e) → σ.length = pre.length → pre.length ≤ m'.length → σ.Nodup → (∀ j ∈ σ, j < m.length) → (putM ρ m pre σ m').length = m.length ∧
    ∀ j, (∃ (t : Nat) (e : Ent) (x : Mk), pre[t]? = some (.ent e) ∧ e.own = true ∧ σ[t]? = some j ∧ m'[t]? = some x ∧ (putM ρ m pre σ m')[j]? = some (renMk ρ x)) ∨ ((∀ (t : Nat) (e : Ent), pre[t]? = some (.ent e) → e.own = true → σ[t]? = some j → False) ∧ (putM ρ m pre σ m')[j]? = m[j]?)
  | [], σ, m', m, _, _, _, _, _ => by
    refine ⟨by simp [putM], fun j => .inr ⟨fun t e h => by simp at h, ?_⟩⟩
    simp [putM]
  | y :: r, [], m', m, _, h, _, _, _ => by simp at h
  | y :: r, i :: σ, [], m, _, _, h, _, _ => by simp at h
  | y :: r, i :: σ, x :: m', m, h0, h1, h2, h3, h4 => by
    obtain ⟨e0, rfl⟩ := h0 y (by simp)
    simp only [List.nodup_cons] at h3
    have hm : (if e0.own = true then m.set i (renMk ρ x) else m).length = m.length := by split <;> simp
    obtain ⟨g1, g2⟩ := putM_get (ρ := ρ) (pre := r) (σ := σ) (m' := m') (m := if e0.own = true then m.set i (renMk ρ x) else m) (fun z hz => h0 z (by simp [hz])) (by simpa using h1) (by simpa using h2) h3.2 (fun j hj => by rw [hm]; exact h4 j (by simp [hj]))
    refine ⟨by simp only [putM]; rw [g1, hm], fun j => ?_⟩
    simp only [putM]
    rcases g2 j with ⟨t, e, z, a1, a2, a3, a4, a5⟩ | ⟨a1, a2⟩
    · exact .inl ⟨t + 1, e, z, by simpa using a1, a2, by simpa using a3, by simpa using a4, a5⟩
    · by_cases hj : e0.own = true ∧ i = j
      · obtain ⟨ho, rfl⟩ := hj
        refine .inl ⟨0, e0, x, by simp, ho, by simp, by simp, ?_⟩
        rw [a2, if_pos ho, List.getElem?_set_self (h4 i (by simp))]
      · refine .inr ⟨fun t e b1 b2 b3 => ?_, a2.trans ?_⟩
        · cases t with
          | zero => simp at b1 b3; subst b1; exact hj ⟨b2, b3⟩
          | succ t => exact a1 t e (by simpa using b1) b2 (by simpa using b3)
        · split
          · rename_i ho
            rw [List.getElem?_set_ne (fun h => hj ⟨ho, h⟩)]
          · rfl

theorem extraOwn_get {n : Nat} {m : Mem} (h : extraOwn n m = true) {i : Nat} (hi : n ≤ i) : m[i]? ≠ some .hole ∧ ∀ e, m[i]? = some (.ent e) → e.own = true := by
  simp only [extraOwn, List.all_eq_true] at h
  have key : ∀ x, m[i]? = some x → x ∈ m.drop n := fun x hx => List.mem_of_getElem? (i := i - n) (by rw [List.getElem?_drop, Nat.add_sub_cancel' hi]; exact hx)
  refine ⟨fun hx => ?_, fun e hx => ?_⟩
  · simpa using h _ (key _ hx)
  · simpa using h _ (key _ hx)

section
variable {P : Program} {E : Env} {ℓ : Nat → Option Loc} {m : Mem} {w : World}
def cutC (σ : List Nat) (ℓ : Nat → Option Loc) : Nat → Option Loc := fun i => match σ[i]? with | some j => ℓ j | none => none
def joinC (n k : Nat) (ℓ ℓ' : Nat → Option Loc) : Nat → Option Loc := fun j => if j < n then ℓ j else ℓ' (k + (j - n))

/-- What the caller hands over, as the callee sees it. -/
theorem call_pre (hm : MH E ℓ m w) {pre : Mem} {σ : List Nat} (hσ : σ.Nodup) (hpre : matchM (ix σ m.length) pre.length m pre σ) (an : Nat → Option Loc) (han : Le an (cutC σ ℓ)) :
    MH ⟨w, ownBlk pre (cutC σ ℓ), an⟩ (cutC σ ℓ) pre w := by
  obtain ⟨hl, hg⟩ := matchM_get hpre
  have hback : ∀ i, i < pre.length → cutC σ ℓ i = ℓ (ix σ m.length i) := fun i hi => by
    have hi' : i < σ.length := by omega
    simp [cutC, ix, hi', List.getD_eq_getElem?_getD]
  have loc : ∀ {t : Nat} {e : Ent}, pre[t]? = some (.ent e) → ∃ j e' L, σ[t]? = some j ∧ m[j]? = some (.ent e') ∧ ℓ j = some L ∧ cutC σ ℓ t = some L ∧ EntOK ℓ w L e' ∧ (e.own = true → e'.own = true ∧ e'.ty = e.ty ∧ 0 < e.c.len) ∧ (∀ n, e.fix = some n → e.c.len = n) ∧ e'.c = renA (ix σ m.length) e.c ∧ belA pre.length e.c = true := by
    intro t e ht
    obtain ⟨e1, j, e', h0, h1, h2, h3, h4, h5, h6⟩ := hg t _ ht
    cases h0
    obtain ⟨L, g1, g2, _⟩ := hm.ent j e' h2
    exact ⟨j, e', L, h1, h2, g1, by simp [cutC, h1, g1], g2, h3, h4, h5, h6⟩
  refine ⟨rfl, rfl, rfl, Nat.le_refl _, fun _ _ _ => rfl, han, ?_, ?_, ?_⟩
  · rintro i (hi | hi)
    · have hi' : σ.length ≤ i := by omega
      simp [cutC, List.getElem?_eq_none hi']
    · obtain ⟨e1, _, _, h0, _⟩ := hg i _ hi
      cases h0
  · intro t e ht
    obtain ⟨j, e', L, h1, h2, h3, h4, h5, h6, h7, h8, h9⟩ := loc ht
    obtain ⟨k1, k2, k3⟩ := renA_cells (ix σ m.length) e.c
    refine ⟨L, h4, ⟨⟨h7, k3.1 (by rw [← h8]; exact h5.ok)⟩, ?_⟩, fun ho => .inl ⟨t, e, L, ht, ho, h4, rfl⟩⟩
    split
    · rename_i ho
      obtain ⟨o1, o2, o3⟩ := h6 ho
      obtain ⟨_, h5'⟩ := h5
      rw [if_pos o1] at h5'
      obtain ⟨a, b, c⟩ := h5'
      refine ⟨a, by rw [h8, k2] at b; exact b, fun h0 => ?_⟩
      obtain ⟨cs, fr, vs, rest, c1, c2, c3, c4, c5⟩ := c h0
      rw [h8, k1] at c5
      exact ⟨cs, fr, vs, rest, by rw [← o2]; exact c1, c2, c3, c4, renL_back hback (belA_cells h9) c5⟩
    · obtain ⟨vs, hd, hc⟩ := h5.row
      rw [h8, k1] at hd
      exact ⟨vs, renL_back hback (belA_cells h9) hd, hc⟩
  · intro t u et eu Lt Lu ht hu hLt hLu ho hlim hne hreal
    obtain ⟨j, e', L, h1, h2, h3, h4, h5, h6, h7, h8, h9⟩ := loc ht
    obtain ⟨j2, e2', L2, p1, p2, p3, p4, p5, p6, p7, p8, p9⟩ := loc hu
    obtain rfl := Option.some.inj (h4.symm.trans hLt)
    obtain rfl := Option.some.inj (p4.symm.trans hLu)
    refine hm.apart j j2 e' e2' L L2 h2 p2 h3 p3 (h6 ho).1 hlim ?_ ?_
    · intro hj
      subst hj
      obtain ⟨q1, q2⟩ := List.getElem?_eq_some_iff.1 h1
      obtain ⟨r1, r2⟩ := List.getElem?_eq_some_iff.1 p1
      exact hne ((List.getElem_inj hσ).1 (q2.trans r2.symm))
    · obtain ⟨k1, k2, k3⟩ := renA_cells (ix σ m.length) eu.c
      have hlen : e2'.c.len = eu.c.len := by rw [p8, k2]
      unfold Real at hreal ⊢
      split at hreal
      · rename_i hou
        rw [if_pos (p6 hou).1]; exact hreal
      · split
        · rename_i ho2
          obtain ⟨_, p5'⟩ := p5
          rw [if_pos ho2] at p5'
          have := p5'.2.1
          omega
        · omega
/-- What the callee leaves, as the caller sees it. -/
theorem call_post (hm : MH E ℓ m w) {pre : Mem} {σ : List Nat} (hσ : σ.Nodup) (hpre : matchM (ix σ m.length) pre.length m pre σ) {ℓ' : Nat → Option Loc} {m' : Mem} {w' : World}
    (h1 : pre.length ≤ m'.length) (h2 : extraOwn pre.length m' = true) (h3 : MH ⟨w, ownBlk pre (cutC σ ℓ), ancOf pre.length [] (cutC σ ℓ)⟩ ℓ' m' w') :
    Le ℓ (joinC m.length pre.length ℓ ℓ') ∧ Via (ix σ m.length) ℓ' (joinC m.length pre.length ℓ ℓ') ∧ MH E (joinC m.length pre.length ℓ ℓ') (afterM (ix σ m.length) m pre σ m') w' := by
  obtain ⟨hl, hg⟩ := matchM_get hpre
  have hlt : ∀ {j x}, m[j]? = some x → j < m.length := fun h => (List.getElem?_eq_some_iff.1 h).1
  have hσlt : ∀ j ∈ σ, j < m.length := by
    intro j hj
    obtain ⟨t, ht⟩ := List.getElem?_of_mem hj
    have htl : t < pre.length := by rw [← hl]; exact (List.getElem?_eq_some_iff.1 ht).1
    obtain ⟨e, j', e', _, a1, a2, _⟩ := hg t _ (List.getElem?_eq_getElem htl)
    obtain rfl := Option.some.inj (ht.symm.trans a1)
    exact hlt a2
  have hent : ∀ x ∈ pre, ∃ e, x = Mk.ent e := by
    intro x hx
    obtain ⟨t, ht⟩ := List.getElem?_of_mem hx
    obtain ⟨e, _, _, a, _⟩ := hg t x ht
    exact ⟨e, a⟩
  have hlow : ∀ {j}, j < m.length → joinC m.length pre.length ℓ ℓ' j = ℓ j := fun h => by simp [joinC, h]
  have hLe : Le ℓ (joinC m.length pre.length ℓ ℓ') := fun j L hL => by
    rw [hlow, hL]
    rcases Nat.lt_or_ge j m.length with h | h
    · exact h
    · rw [hm.dom j (.inl h)] at hL; cases hL
  have hloc : ∀ {t : Nat} {j : Nat} {L : Loc}, σ[t]? = some j → ℓ j = some L → ℓ' t = some L := by
    intro t j L ht hL
    have htl : t < σ.length := (List.getElem?_eq_some_iff.1 ht).1
    refine h3.anch t L ?_
    have : t < pre.length := by omega
    simp [ancOf, this, cutC, ht, hL]
  have hVia : Via (ix σ m.length) ℓ' (joinC m.length pre.length ℓ ℓ') := by
    intro i L hL
    by_cases hi : i < σ.length
    · have hs : σ[i]? = some σ[i] := List.getElem?_eq_getElem hi
      have hx : ix σ m.length i = σ[i] := by simp [ix, hi, List.getD_eq_getElem?_getD]
      rw [hx, hlow (hσlt _ (List.getElem_mem hi))]
      obtain ⟨e, j, e', _, a1, a2, _⟩ := hg i _ (List.getElem?_eq_getElem (by omega))
      obtain rfl := Option.some.inj (hs.symm.trans a1)
      obtain ⟨L2, b1, _⟩ := hm.ent _ _ a2
      rw [b1]
      have := hloc a1 b1
      rw [this] at hL; exact hL
    · have hx : ix σ m.length i = m.length + (i - σ.length) := by simp [ix, hi]
      rw [hx]
      simp only [joinC]
      rw [if_neg (by omega), show pre.length + (m.length + (i - σ.length) - m.length) = i by omega]
      exact hL
  -- what lies at an id after the call
  obtain ⟨pl, pg⟩ := putM_get (ρ := ix σ m.length) (m := m) hent hl h1 hσ hσlt
  have split_ : ∀ {j : Nat} {e : Ent}, (afterM (ix σ m.length) m pre σ m')[j]? = some (.ent e) →
      (∃ (t : Nat) (e0 : Ent), m'[t]? = some (.ent e0) ∧ e = { e0 with c := renA (ix σ m.length) e0.c } ∧ joinC m.length pre.length ℓ ℓ' j = ℓ' t ∧ j = ix σ m.length t ∧ ((∃ ep, pre[t]? = some (.ent ep) ∧ ep.own = true ∧ σ[t]? = some j) ∨ (pre.length ≤ t ∧ e0.own = true))) ∨
      (m[j]? = some (.ent e) ∧ joinC m.length pre.length ℓ ℓ' j = ℓ j ∧ ∀ (t : Nat) (ep : Ent), pre[t]? = some (.ent ep) → ep.own = true → σ[t]? = some j → False) := by
    intro j e hj
    unfold afterM at hj
    rcases Nat.lt_or_ge j m.length with hjl | hjl
    · rw [List.getElem?_append_left (by rw [pl]; exact hjl)] at hj
      rcases pg j with ⟨t, ep, x, a1, a2, a3, a4, a5⟩ | ⟨a1, a2⟩
      · rw [a5] at hj
        cases x with
        | ent e0 =>
          simp only [renMk, Option.some.injEq, Mk.ent.injEq] at hj
          have htl : t < σ.length := (List.getElem?_eq_some_iff.1 a3).1
          refine .inl ⟨t, e0, a4, hj.symm, ?_, by rw [List.getElem?_eq_getElem htl] at a3; simp [ix, htl, List.getD_eq_getElem?_getD]; exact (Option.some.inj a3).symm, .inl ⟨ep, a1, a2, a3⟩⟩
          rw [hlow hjl]
          obtain ⟨_, j', e', _, b1, b2, _⟩ := hg t _ a1
          obtain rfl := Option.some.inj (a3.symm.trans b1)
          obtain ⟨L2, c1, _⟩ := hm.ent _ _ b2
          rw [c1, hloc a3 c1]
        | gone => simp [renMk] at hj
        | hole => simp [renMk] at hj
      · rw [a2] at hj
        exact .inr ⟨hj, hlow hjl, a1⟩
    · rw [List.getElem?_append_right (by rw [pl]; exact hjl), pl, List.getElem?_map, List.getElem?_drop] at hj
      cases hx : m'[pre.length + (j - m.length)]? with
      | none => rw [hx] at hj; simp at hj
      | some x =>
        rw [hx] at hj
        cases x with
        | ent e0 =>
          simp only [Option.map_some, renMk, Option.some.injEq, Mk.ent.injEq] at hj
          refine .inl ⟨pre.length + (j - m.length), e0, hx, hj.symm, ?_, ?_, .inr ⟨by omega, (extraOwn_get h2 (by omega)).2 e0 hx⟩⟩
          · simp [joinC, Nat.not_lt.2 hjl]
          · simp only [ix]; rw [if_neg (by omega)]; omega
        | gone => simp [renMk] at hj
        | hole => simp [renMk] at hj
  have alen : (afterM (ix σ m.length) m pre σ m').length = m.length + (m'.length - pre.length) := by simp [afterM, pl]
  -- blocks that the callee may write to
  have own_ : ∀ {b : Nat}, ownBlk pre (cutC σ ℓ) b → ∃ (t : Nat) (ep : Ent) (j : Nat) (e' : Ent) (L : Loc), pre[t]? = some (.ent ep) ∧ ep.own = true ∧ σ[t]? = some j ∧ m[j]? = some (.ent e') ∧ e'.own = true ∧ ℓ j = some L ∧ L.blk = b ∧ 0 < L.lim := by
    rintro b ⟨t, ep, L, a1, a2, a3, a4⟩
    obtain ⟨_, j, e', hh, b1, b2, b3, b4, b5, b6⟩ := hg t _ a1
    cases hh
    have hcc : ℓ j = some L := by simpa [cutC, b1] using a3
    obtain ⟨L2, c1, c2, c3⟩ := hm.ent _ _ b2
    obtain rfl := Option.some.inj (c1.symm.trans hcc)
    obtain ⟨q1, q2, q3⟩ := b3 a2
    obtain ⟨_, c2'⟩ := c2
    rw [if_pos q1] at c2'
    have := c2'.2.1
    rw [b5, (renA_cells _ _).2.1] at this
    exact ⟨t, ep, j, e', L2, a1, a2, b1, b2, q1, c1, a4, by omega⟩
  have may_ : ∀ {b : Nat}, ownBlk pre (cutC σ ℓ) b → E.may b ∨ E.w0.heap.size ≤ b := by
    intro b hb
    obtain ⟨t, ep, j, e', L, a1, a2, a3, a4, a5, a6, rfl, a8⟩ := own_ hb
    obtain ⟨L2, c1, c2, c3⟩ := hm.ent _ _ a4
    obtain rfl := Option.some.inj (c1.symm.trans a6)
    exact c3 a5
  -- what the callee did not touch
  have stay : ∀ {j : Nat} {e : Ent} {L : Loc}, m[j]? = some (.ent e) → ℓ j = some L → (∀ (t : Nat) (ep : Ent), pre[t]? = some (.ent ep) → ep.own = true → σ[t]? = some j → False) → Real e L → L.blk < w.heap.size ∧ ¬ ownBlk pre (cutC σ ℓ) L.blk := by
    intro j e L hj hL hno hreal
    obtain ⟨L2, c1, c2, c3⟩ := hm.ent _ _ hj
    obtain rfl := Option.some.inj (c1.symm.trans hL)
    refine ⟨c2.lt hreal, fun hb => ?_⟩
    obtain ⟨t, ep, j2, e2, L3, a1, a2, a3, a4, a5, a6, a7, a8⟩ := own_ hb
    by_cases hjj : j2 = j
    · subst hjj; exact hno t ep a1 a2 a3
    · exact hm.apart j2 j e2 e L3 L2 a4 hj a6 hL a5 a8 hjj hreal a7
  -- what the callee made or may have written to
  have where_ : ∀ {t : Nat} {e0 : Ent} {L : Loc} {j : Nat}, m'[t]? = some (.ent e0) → ℓ' t = some L → ((∃ ep, pre[t]? = some (.ent ep) ∧ ep.own = true ∧ σ[t]? = some j) ∨ (pre.length ≤ t ∧ e0.own = true)) → ownBlk pre (cutC σ ℓ) L.blk ∨ w.heap.size ≤ L.blk := by
    intro t e0 L j ht hL h
    rcases h with ⟨ep, a1, a2, a3⟩ | ⟨a1, a2⟩
    · obtain ⟨_, j', e', _, b1, b2, _⟩ := hg t _ a1
      obtain rfl := Option.some.inj (a3.symm.trans b1)
      obtain ⟨L2, c1, _⟩ := hm.ent _ _ b2
      obtain rfl := Option.some.inj ((hloc a3 c1).symm.trans hL)
      exact .inl ⟨t, ep, L2, a1, a2, by simp [cutC, a3, c1], rfl⟩
    · obtain ⟨L2, c1, _, c3⟩ := h3.ent _ _ ht
      obtain rfl := Option.some.inj (c1.symm.trans hL)
      exact c3 a2
  refine ⟨hLe, hVia, ⟨h3.os.trans hm.os, h3.tape.trans hm.tape, h3.output.trans hm.output, Nat.le_trans hm.size h3.size, ?_, hm.anch.trans hLe, ?_, ?_, ?_⟩⟩
  · intro b hb hnm
    refine (h3.keep b (Nat.lt_of_lt_of_le hb hm.size) (fun ho => ?_)).trans (hm.keep b hb hnm)
    rcases may_ ho with h | h
    · exact hnm h
    · omega
  · intro i hi
    rw [alen] at hi
    rcases Nat.lt_or_ge i m.length with hil | hil
    · rw [hlow hil]
      rcases hi with hi | hi
      · omega
      · unfold afterM at hi
        rw [List.getElem?_append_left (by rw [pl]; exact hil)] at hi
        rcases pg i with ⟨t, ep, x, a1, a2, a3, a4, a5⟩ | ⟨a1, a2⟩
        · exfalso
          rw [a5] at hi
          cases x with
          | hole =>
            have := h3.dom t (.inr a4)
            obtain ⟨_, j', e', _, b1, b2, _⟩ := hg t _ a1
            obtain ⟨L2, c1, _⟩ := hm.ent _ _ b2
            rw [hloc b1 c1] at this
            cases this
          | gone => simp [renMk] at hi
          | ent => simp [renMk] at hi
        · rw [a2] at hi
          exact hm.dom i (.inr hi)
    · simp only [joinC]
      rw [if_neg (by omega)]
      rcases hi with hi | hi
      · exact h3.dom _ (.inl (by omega))
      · exfalso
        unfold afterM at hi
        rw [List.getElem?_append_right (by rw [pl]; exact hil), pl, List.getElem?_map, List.getElem?_drop] at hi
        cases hx : m'[pre.length + (i - m.length)]? with
        | none => rw [hx] at hi; simp at hi
        | some x =>
          rw [hx] at hi
          cases x with
          | hole => exact (extraOwn_get h2 (by omega)).1 hx
          | gone => simp [renMk] at hi
          | ent => simp [renMk] at hi
  · intro j e hj
    rcases split_ hj with ⟨t, e0, a1, rfl, a3, a4, a5⟩ | ⟨a1, a2, a3⟩
    · obtain ⟨L, b1, b2, b3⟩ := h3.ent _ _ a1
      refine ⟨L, a3.trans b1, renE_ok hVia b2, fun ho => ?_⟩
      rcases b3 ho with h | h
      · exact may_ h
      · exact .inr (Nat.le_trans hm.size h)
    · obtain ⟨L, b1, b2, b3⟩ := hm.ent _ _ a1
      refine ⟨L, a2.trans b1, (b2.of_block fun hr => ?_).mono hLe, b3⟩
      obtain ⟨c1, c2⟩ := stay a1 b1 a3 hr
      exact h3.keep _ c1 c2
  · intro i j ei ej Li Lj hi hj hLi hLj ho hlim hne hreal
    rcases split_ hi with ⟨t, e0, a1, rfl, a3, a4, a5⟩ | ⟨a1, a2, a3⟩
    · rcases split_ hj with ⟨u, e1, b1, rfl, b3, b4, b5⟩ | ⟨b1, b2, b3⟩
      · refine h3.apart t u e0 e1 Li Lj a1 b1 (a3.symm.trans hLi) (b3.symm.trans hLj) ho hlim (fun h => ?_) ?_
        · subst h; exact hne (a4.trans b4.symm)
        · unfold Real at hreal ⊢
          rw [show ({ e1 with c := renA (ix σ m.length) e1.c } : Ent).c.len = e1.c.len from (renA_cells _ _).2.1] at hreal
          exact hreal
      · have hw := where_ a1 (a3.symm.trans hLi) a5
        obtain ⟨c1, c2⟩ := stay b1 (b2.symm.trans hLj) b3 hreal
        intro hb
        rcases hw with hw | hw
        · exact c2 (hb ▸ hw)
        · omega
    · have hri : Real ei Li := by unfold Real; rw [if_pos ho]; exact hlim
      obtain ⟨c1, c2⟩ := stay a1 (a2.symm.trans hLi) a3 hri
      rcases split_ hj with ⟨u, e1, b1, rfl, b3, b4, b5⟩ | ⟨b1, b2, b3⟩
      · have hw := where_ b1 (b3.symm.trans hLj) b5
        intro hb
        rcases hw with hw | hw
        · exact c2 (hb ▸ hw)
        · omega
      · exact hm.apart i j ei ej Li Lj a1 b1 (a2.symm.trans hLi) (b2.symm.trans hLj) ho hlim hne hreal

/-- A contract put to use. -/
theorem Spec.use {f : FuncId} {args : List SV} {pre : Mem} {post : SV → Mem → Prop} (hS : Spec P f args pre [] post) (hm : MH E ℓ m w) (σ : List Nat) (hσ : σ.Nodup) (hpre : matchM (ix σ m.length) pre.length m pre σ)
    (hbel : args.all (belV pre.length) = true) {vs : List Value} (hvs : DenVs ℓ (args.map (renV (ix σ m.length))) vs) :
    Calls P f vs.toArray w (fun e w' => ∃ sv m' ℓ' v, e = .returned v ∧ post sv m' ∧ pre.length ≤ m'.length ∧ Le ℓ ℓ' ∧ DenV ℓ' (renV (ix σ m.length) sv) v ∧ MH E ℓ' (afterM (ix σ m.length) m pre σ m') w') := by
  obtain ⟨hl, hg⟩ := matchM_get hpre
  have hback : ∀ i, i < pre.length → cutC σ ℓ i = ℓ (ix σ m.length i) := fun i hi => by
    have hi' : i < σ.length := by omega
    simp [cutC, ix, hi', List.getD_eq_getElem?_getD]
  have h := hS w (cutC σ ℓ) vs (renVs_back hback hbel hvs) (fun an han => call_pre hm hσ hpre an han)
  refine h.mono ?_
  rintro e w' ⟨sv, m', ℓ', v, h1, h2, h3, h4, h5, h6⟩
  obtain ⟨g1, g2, g3⟩ := call_post hm hσ hpre h3 h4 h6
  exact ⟨sv, m', _, v, h1, h2, h3, g1, renV_den g2 h5, g3⟩
end
end Go.V
