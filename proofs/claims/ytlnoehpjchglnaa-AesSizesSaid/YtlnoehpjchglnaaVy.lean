/- A small verifier of our own: contracts that hand back memory, used in a region whose order is open. No condition. -/
import Derived.Test.YtlnoehpjchglnaaVx
set_option linter.unusedSimpArgs false
set_option linter.unusedVariables false
namespace Go.V
open Go
section
variable {ℓ ℓ' : Nat → Option Loc} {τ ρ : Nat → Nat}
theorem renS_id (h : ∀ i L, ℓ i = some L → τ i = i) : ∀ {x : S} {v : Value}, DenS ℓ x v → renS τ x = x := by
  intro x
  induction x with
  | ptr i b o => rintro v ⟨L, h1, h2⟩; simp only [renS, h i L h1]
  | sl i o l c e => rintro v ⟨L, h1, h2⟩; simp only [renS, h i L h1]
  | slq i o l e => rintro v ⟨L, h1, h2⟩; simp only [renS, h i L h1]
  | fn f caps =>
    rintro v ⟨Ls, h1, h2⟩
    clear h2
    simp only [renS]
    congr 1
    induction caps generalizing Ls with
    | nil => rfl
    | cons c cs ih =>
      cases Ls with
      | nil => simp at h1
      | cons L Ls =>
        simp only [List.map_cons, List.cons.injEq] at h1 ⊢
        exact ⟨h c L h1.1.symm, ih Ls h1.2⟩
  | ifc t x ih => rintro v ⟨u, h1, h2⟩; simp only [renS, ih h2]
  | ifa t x ih => rintro v ⟨u, h1, h2⟩; simp only [renS, ih h2]
  | _ => intro v _; rfl
theorem renL_id (h : ∀ i L, ℓ i = some L → τ i = i) : ∀ {xs : List S} {vs : List Value}, DenL ℓ xs vs → ∀ x ∈ xs, renS τ x = x
  | [], [], _, x, hx => by cases hx
  | y :: xs, v :: vs, ⟨h1, h2⟩, x, hx => by
    rcases List.mem_cons.1 hx with rfl | hx
    · exact renS_id h h1
    · exact renL_id h h2 x hx
  | [], _ :: _, hd, _, _ => hd.elim
  | _ :: _, [], hd, _, _ => hd.elim
theorem map_same {l : List S} (h : ∀ x ∈ l, renS τ x = x) : l.map (renS τ) = l := by
  conv => rhs; rw [← List.map_id l]
  exact List.map_congr_left h
theorem renR_id {r : R} (h : ∀ x ∈ r.cells, renS τ x = x) : renR τ r = r := by
  cases r with
  | s x => simp only [renR]; rw [h x (by simp [R.cells])]
  | agg l => simp only [renR]; rw [map_same (fun x hx => h x (by simpa [R.cells] using hx))]
  | _ => rfl
theorem renSegs_id : ∀ {l : List Seg}, (∀ x ∈ segCells l, renS τ x = x) → l.map (renSeg τ) = l
  | [], _ => rfl
  | g :: l, h => by
    simp only [segCells, List.mem_append] at h
    rw [List.map_cons, renSegs_id (fun x hx => h x (.inr hx))]
    congr 1
    obtain ⟨n, r⟩ := g
    simp only [renSeg]
    rw [renR_id (fun x hx => h x (.inl hx))]
theorem renA_id {a : A} (h : ∀ x ∈ a.cells, renS τ x = x) : renA τ a = a := by
  cases a with
  | s x => simp only [renA]; rw [h x (by simp [A.cells])]
  | agg l => simp only [renA]; rw [map_same (fun x hx => h x (by simpa [A.cells] using hx))]
  | st l => simp only [renA]; rw [renSegs_id (fun x hx => h x (by simpa [A.cells] using hx))]
  | _ => rfl
theorem renS_comp : ∀ x : S, renS τ (renS ρ x) = renS (fun i => τ (ρ i)) x := by
  intro x
  induction x with
  | ifc t x ih => simp only [renS, ih]
  | ifa t x ih => simp only [renS, ih]
  | fn f caps => simp only [renS, List.map_map]; rfl
  | _ => rfl
theorem renR_comp : ∀ x : R, renR τ (renR ρ x) = renR (fun i => τ (ρ i)) x := by
  intro x
  cases x with
  | s x => simp only [renR, renS_comp]
  | agg l => simp only [renR, List.map_map]; congr 1; exact List.map_congr_left (fun x _ => renS_comp x)
  | _ => rfl
theorem renA_comp : ∀ x : A, renA τ (renA ρ x) = renA (fun i => τ (ρ i)) x := by
  intro x
  cases x with
  | s x => simp only [renA, renS_comp]
  | agg l => simp only [renA, List.map_map]; congr 1; exact List.map_congr_left (fun x _ => renS_comp x)
  | st l =>
    simp only [renA, List.map_map]
    congr 1
    refine List.map_congr_left (fun g _ => ?_)
    obtain ⟨n, r⟩ := g
    simp only [Function.comp, renSeg, renR_comp]
  | _ => rfl
theorem renV_comp : ∀ x : SV, renV τ (renV ρ x) = renV (fun i => τ (ρ i)) x := by
  intro x
  cases x with
  | one a => simp only [renV, renA_comp]
  | tup l => simp only [renV, List.map_map]; congr 1; exact List.map_congr_left (fun x _ => renA_comp x)
end
/-- An entry with its ids put otherwise. -/
def renE (ρ : Nat → Nat) (e : Ent) : Ent := { e with c := renA ρ e.c }
section
variable {P : Program} {E : Env} {ℓ ℓ2 : Nat → Option Loc} {m m2 : Mem} {w : World} {τ : Nat → Nat}
/-- The same memory with its entries in other places. -/
theorem MH.perm (h : MH E ℓ m w) (hvia : Via τ ℓ ℓ2) (hent : ∀ (j : Nat) (e2 : Ent), m2[j]? = some (.ent e2) → ∃ i e1, m[i]? = some (.ent e1) ∧ j = τ i ∧ e2 = renE τ e1)
    (hdom : ∀ i, (m2.length ≤ i ∨ m2[i]? = some .hole) → ℓ2 i = none) (hanch : Le E.anc ℓ2) : MH E ℓ2 m2 w := by
  refine ⟨h.os, h.tape, h.output, h.size, h.keep, hanch, hdom, ?_, ?_⟩
  · intro j e2 hj
    obtain ⟨i, e1, hi, rfl, rfl⟩ := hent j e2 hj
    obtain ⟨L, h1, h2, h3⟩ := h.ent i e1 hi
    exact ⟨L, hvia _ _ h1, renE_ok hvia h2, h3⟩
  · intro i j ei ej Li Lj hi hj hLi hLj ho h0 hne hr
    obtain ⟨i1, e1, hi1, rfl, rfl⟩ := hent i ei hi
    obtain ⟨j1, f1, hj1, rfl, rfl⟩ := hent j ej hj
    obtain ⟨L1, g1, _, _⟩ := h.ent i1 e1 hi1
    obtain ⟨L2, g2, _, _⟩ := h.ent j1 f1 hj1
    have a1 := hvia _ _ g1
    have a2 := hvia _ _ g2
    rw [a1] at hLi; cases hLi
    rw [a2] at hLj; cases hLj
    refine h.apart i1 j1 e1 f1 _ _ hi1 hj1 g1 g2 ho h0 (fun he => hne (by rw [he])) ?_
    unfold Real at hr ⊢
    have k2 := (renA_cells τ f1.c).2.1
    simp only [renE] at hr
    rw [k2] at hr
    exact hr
theorem fillL_len : ∀ {es : List Ent} {m : Mem} {nid : Nat}, (fillL m nid es).length = m.length
  | [], m, nid => rfl
  | e :: es, m, nid => by simp [fillL, fillL_len (es := es)]
theorem fillL_get : ∀ {es : List Ent} {m : Mem} {nid : Nat}, nid + es.length ≤ m.length → ∀ j, (fillL m nid es)[j]? = if nid ≤ j ∧ j < nid + es.length then (es[j - nid]?).map .ent else m[j]?
  | [], m, nid, _, j => by simp only [fillL, List.length_nil]; rw [if_neg (by omega)]
  | e :: es, m, nid, h, j => by
    simp only [List.length_cons] at h ⊢
    rw [fillL, fillL_get (by simp; omega)]
    by_cases h1 : nid + 1 ≤ j ∧ j < nid + 1 + es.length
    · rw [if_pos h1, if_pos (by omega), show j - nid = (j - (nid + 1)) + 1 by omega]
      rfl
    · rw [if_neg h1, List.getElem?_set]
      by_cases h2 : nid = j
      · subst h2
        rw [if_pos rfl, if_pos (by omega), if_pos (by omega)]
        simp
      · rw [if_neg h2, if_neg (by omega)]
/-- What a call made lies behind the memory; it may as well lie in holes that were left for it. -/
theorem MH.reloc {w₀ : World} (h0 : MH E ℓ m w₀) {ℓ' : Nat → Option Loc} {w : World} {es : List Ent} (hle : Le ℓ ℓ') (h : MH E ℓ' (m ++ es.map .ent) w) {nid : Nat} (hh : ∀ k, k < es.length → m[nid + k]? = some .hole)
    (τ : Nat → Nat) (hτ : ∀ j, τ j = if j < m.length then j else nid + (j - m.length)) :
    ∃ ℓ2, Le ℓ ℓ2 ∧ Via τ ℓ' ℓ2 ∧ MH E ℓ2 (fillL m nid (es.map (renE τ))) w := by
  have hlen : 0 < es.length → nid + es.length ≤ m.length := fun hp => by
    have := (List.getElem?_eq_some_iff.1 (hh (es.length - 1) (by omega))).1
    omega
  have hnone : ∀ k, k < es.length → ℓ (nid + k) = none := fun k hk => h0.dom _ (.inr (hh k hk))
  have hhole' : ∀ k, k < es.length → ℓ' (nid + k) = none := fun k hk => by
    refine h.dom _ (.inr ?_)
    rw [List.getElem?_append_left (List.getElem?_eq_some_iff.1 (hh k hk)).1]
    exact hh k hk
  have hbig : ∀ j, m.length + es.length ≤ j → ℓ' j = none := fun j hj => h.dom _ (.inl (by simpa using hj))
  have hvia : Via τ ℓ' (fun j => if nid ≤ j ∧ j < nid + es.length then ℓ' (m.length + (j - nid)) else if j < m.length then ℓ' j else none) := by
    intro i L hi
    rw [hτ]
    simp only
    by_cases hlt : i < m.length
    · rw [if_pos hlt]
      by_cases hr : nid ≤ i ∧ i < nid + es.length
      · have := hhole' (i - nid) (by omega)
        rw [show nid + (i - nid) = i by omega, hi] at this
        cases this
      · rw [if_neg hr, if_pos hlt]; exact hi
    · rw [if_neg hlt]
      have hlt2 : i < m.length + es.length := by
        rcases Nat.lt_or_ge i (m.length + es.length) with hx | hx
        · exact hx
        · rw [hbig i hx] at hi; cases hi
      rw [if_pos (by omega), show m.length + (nid + (i - m.length) - nid) = i by omega]
      exact hi
  have hold : ∀ i L, ℓ i = some L → (fun j => if nid ≤ j ∧ j < nid + es.length then ℓ' (m.length + (j - nid)) else if j < m.length then ℓ' j else none) i = some L := by
    intro i L hi
    have hlt : i < m.length := by
      rcases Nat.lt_or_ge i m.length with hx | hx
      · exact hx
      · rw [h0.dom i (.inl hx)] at hi; cases hi
    have := hvia i L (hle i L hi)
    rw [hτ, if_pos hlt] at this
    exact this
  have hself : ∀ i L, ℓ i = some L → τ i = i := by
    intro i L hi
    have hlt : i < m.length := by
      rcases Nat.lt_or_ge i m.length with hx | hx
      · exact hx
      · rw [h0.dom i (.inl hx)] at hi; cases hi
    rw [hτ, if_pos hlt]
  refine ⟨_, hold, hvia, h.perm hvia ?_ ?_ ?_⟩
  · intro j e2 hj
    by_cases hr : nid ≤ j ∧ j < nid + es.length
    · rw [fillL_get (by simpa using hlen (by omega)), List.length_map, if_pos hr, List.getElem?_map, List.getElem?_eq_getElem (by omega)] at hj
      simp only [Option.map_some, Option.some.injEq, Mk.ent.injEq] at hj
      refine ⟨m.length + (j - nid), es[j - nid], ?_, ?_, hj.symm⟩
      · rw [List.getElem?_append_right (by omega), List.getElem?_map, List.getElem?_eq_getElem (by omega)]
        simp
      · rw [hτ, if_neg (by omega)]; omega
    · have hj' : m[j]? = some (.ent e2) := by
        by_cases hz : es.length = 0
        · have : es = [] := List.eq_nil_of_length_eq_zero hz
          subst this
          simpa [fillL] using hj
        · rw [fillL_get (by simpa using hlen (by omega)), List.length_map, if_neg hr] at hj
          exact hj
      have hlt := (List.getElem?_eq_some_iff.1 hj').1
      refine ⟨j, e2, by rw [List.getElem?_append_left hlt]; exact hj', by rw [hτ, if_pos hlt], ?_⟩
      obtain ⟨L, h1, h2, _⟩ := h0.ent j e2 hj'
      obtain ⟨vs, hd, _⟩ := h2.row
      unfold renE
      rw [renA_id (renL_id hself hd)]
  · intro i hi
    rw [fillL_len] at hi
    by_cases hr : nid ≤ i ∧ i < nid + es.length
    · rcases hi with hi | hi
      · have := hlen (by omega); omega
      · rw [fillL_get (by simpa using hlen (by omega)), List.length_map, if_pos hr, List.getElem?_map, List.getElem?_eq_getElem (by omega)] at hi
        cases hi
    · simp only [if_neg hr]
      rcases hi with hi | hi
      · rw [if_neg (by omega)]
      · have hi' : m[i]? = some .hole := by
          by_cases hz : es.length = 0
          · have : es = [] := List.eq_nil_of_length_eq_zero hz
            subst this
            simpa [fillL] using hi
          · rw [fillL_get (by simpa using hlen (by omega)), List.length_map, if_neg hr] at hi
            exact hi
        have hlt := (List.getElem?_eq_some_iff.1 hi').1
        rw [if_pos hlt]
        exact h.dom i (.inr (by rw [List.getElem?_append_left hlt]; exact hi'))
  · intro i L hi
    exact hold i L (h0.anch i L hi)
/-- A contract that reads and hands back new memory, at a place of its own. -/
theorem new_use {f : FuncId} {args : List SV} {pre : Mem} {sv : SV} {es : List Ent} (hS : Spec P f args pre [] (fun r m' => r = sv ∧ m' = pre ++ es.map .ent)) (hro : ∀ x ∈ pre, ∀ e, x = .ent e → e.own = false)
    {ℓ : Nat → Option Loc} {m : Mem} {w : World} (hm : MH E ℓ m w) (σ : List Nat) (hσ : σ.Nodup) (hpre : matchM (ix σ m.length) pre.length m pre σ) (hbel : args.all (belV pre.length) = true) {vs : List Value} (hvs : DenVs ℓ (args.map (renV (ix σ m.length))) vs)
    {nid : Nat} (hh : ∀ k, k < es.length → m[nid + k]? = some .hole) :
    Calls P f vs.toArray w (fun e w' => ∃ v ℓ', e = .returned v ∧ Le ℓ ℓ' ∧ DenV ℓ' (renV (ix σ nid) sv) v ∧ MH E ℓ' (fillL m nid (es.map (renE (ix σ nid)))) w') := by
  obtain ⟨hl, hg⟩ := matchM_get hpre
  refine (hS.use hm σ hσ hpre hbel hvs).mono ?_
  rintro e w' ⟨r, m', ℓ', v, rfl, ⟨rfl, rfl⟩, _, hle, hdv, hm'⟩
  have hput : ∀ (pre : Mem) (σ : List Nat) (x m : Mem) (ρ : Nat → Nat), (∀ y ∈ pre, ∀ e, y = .ent e → e.own = false) → putM ρ m pre σ x = m := by
    intro pre
    induction pre with
    | nil => intro σ x m ρ _; cases σ <;> rfl
    | cons y pre ih =>
      intro σ x m ρ hp
      cases y with
      | ent e =>
        cases σ with
        | nil => rfl
        | cons j σ =>
          cases x with
          | nil => rfl
          | cons z x =>
            simp only [putM]
            rw [if_neg (by rw [hp _ (by simp) e rfl]; simp)]
            exact ih σ x m ρ (fun y hy => hp y (by simp [hy]))
      | _ => cases σ <;> rfl
  have haft : afterM (ix σ m.length) m pre σ (pre ++ es.map .ent) = m ++ (es.map (renE (ix σ m.length))).map .ent := by
    unfold afterM
    rw [hput pre σ _ m _ hro]
    simp only [List.drop_left, List.map_map]
    congr 1
  rw [haft] at hm'
  have hτ : ∀ j, (fun j => if j < m.length then j else nid + (j - m.length)) j = if j < m.length then j else nid + (j - m.length) := fun _ => rfl
  obtain ⟨ℓ2, g1, g2, g3⟩ := MH.reloc hm hle hm' (nid := nid) (by simpa using hh) _ hτ
  have hcomp : (fun i => (fun j => if j < m.length then j else nid + (j - m.length)) (ix σ m.length i)) = ix σ nid := by
    funext i
    show (if ix σ m.length i < m.length then ix σ m.length i else nid + (ix σ m.length i - m.length)) = ix σ nid i
    by_cases hi : i < σ.length
    · have h1 : ix σ m.length i = σ.getD i 0 := by simp [ix, hi]
      have h2 : ix σ nid i = σ.getD i 0 := by simp [ix, hi]
      have hj : σ.getD i 0 < m.length := by
        obtain ⟨e, j, e', _, h2, h3, _⟩ := hg i pre[i] (List.getElem?_eq_getElem (by omega))
        rw [List.getD_eq_getElem?_getD, h2]
        exact (List.getElem?_eq_some_iff.1 h3).1
      rw [h1, h2, if_pos hj]
    · have h1 : ix σ m.length i = m.length + (i - σ.length) := by simp [ix, hi]
      have h2 : ix σ nid i = nid + (i - σ.length) := by simp [ix, hi]
      rw [h1, h2, if_neg (by omega)]
      omega
  refine ⟨v, ℓ2, rfl, g1, ?_, ?_⟩
  · have := renV_den g2 hdv
    rw [renV_comp, hcomp] at this
    exact this
  · rw [List.map_map] at g3
    have : (renE (fun j => if j < m.length then j else nid + (j - m.length))) ∘ renE (ix σ m.length) = renE (ix σ nid) := by
      funext e
      simp only [Function.comp, renE, renA_comp, hcomp]
    rw [this] at g3
    exact g3
end
end Go.V
