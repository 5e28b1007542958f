/- A small verifier of our own, part 12: loops, what a state entails, contracts of functions and their use at a call. No condition. -/
import Derived.Test.YtlnoehpjchglnaaVk
set_option linter.unusedSimpArgs false
set_option linter.unusedVariables false
namespace Go.V
open Go

/-! what a state entails -/
def belS (n : Nat) : S → Bool
  | .ptr i _ _ => i < n
  | .sl i _ _ _ _ => i < n
  | .slq i _ _ _ => i < n
  | .fn _ caps => caps.all (fun i => decide (i < n))
  | .ifc _ x => belS n x
  | .ifa _ x => belS n x
  | _ => true
def belR (n : Nat) : R → Bool
  | .s x => belS n x
  | .agg l => l.all (belS n)
  | _ => true
def belA (n : Nat) : A → Bool
  | .s x => belS n x
  | .agg l => l.all (belS n)
  | .st l => l.all (fun g => belR n g.r)
  | _ => true
def belV (n : Nat) : SV → Bool
  | .one a => belA n a
  | .tup l => l.all (belA n)
def belSl (n : Nat) : Slots → Bool
  | [] => true
  | (_, v) :: r => belV n v && belSl n r
def belM (n : Nat) : Mem → Bool
  | [] => true
  | .ent e :: r => belA n e.c && belM n r
  | _ :: r => belM n r
def entSl : Slots → St → Prop
  | [], _ => True
  | (t, v) :: r, s => look s.sl t = v ∧ entSl r s
def entM : Mem → Mem → Prop
  | [], _ => True
  | .gone :: r, _ :: s => entM r s
  | .ent e :: r, .ent e' :: s => (e'.own = e.own ∧ e'.ty = e.ty ∧ e'.fix = e.fix ∧ e'.c = e.c) ∧ entM r s
  | _, _ => False
/-- Whatever runs as 's' says runs as 't' says. -/
def Ent2 (s t : St) : Prop := entSl t.sl s ∧ entM t.m s.m ∧ belSl t.m.length t.sl = true ∧ belM t.m.length t.m = true

section
variable {P : Program} {E : Env} {N : Nat}
def cutL (n : Nat) (ℓ : Nat → Option Loc) : Nat → Option Loc := fun i => if i < n then ℓ i else none
section
variable {ℓ ℓ' : Nat → Option Loc} {n : Nat}
def Agree (n : Nat) (ℓ ℓ' : Nat → Option Loc) : Prop := ∀ i, i < n → ℓ' i = ℓ i
theorem belS_den (hb : Agree n ℓ ℓ') : ∀ {x : S} {v : Value}, belS n x = true → DenS ℓ x v → DenS ℓ' x v := by
  intro x
  induction x with
  | ptr i b o => rintro v h ⟨L, h1, h2⟩; exact ⟨L, by rw [hb i (by simpa [belS] using h)]; exact h1, h2⟩
  | sl i o l c e => rintro v h ⟨L, h1, h2⟩; exact ⟨L, by rw [hb i (by simpa [belS] using h)]; exact h1, h2⟩
  | slq i o l e => rintro v h ⟨L, h1, h2⟩; exact ⟨L, by rw [hb i (by simpa [belS] using h)]; exact h1, h2⟩
  | fn f caps =>
    rintro v h ⟨Ls, h1, h2⟩
    refine ⟨Ls, ?_, h2⟩
    rw [h1]
    apply List.map_congr_left
    intro i hi
    simp only [belS, List.all_eq_true, decide_eq_true_eq] at h
    exact (hb i (h i hi)).symm
  | ifc t x ih => rintro v h ⟨u, h1, h2⟩; exact ⟨u, h1, ih h h2⟩
  | ifa t x ih => rintro v h ⟨u, h1, h2⟩; exact ⟨u, h1, ih h h2⟩
  | any => intro v _ _; trivial
  | _ => intro v _ h; exact h
theorem belL_den (hb : Agree n ℓ ℓ') : ∀ {xs : List S} {vs : List Value}, (∀ x ∈ xs, belS n x = true) → DenL ℓ xs vs → DenL ℓ' xs vs
  | [], [], _, _ => trivial
  | x :: xs, v :: vs, h, ⟨h1, h2⟩ => ⟨belS_den hb (h x (by simp)) h1, belL_den hb (fun y hy => h y (by simp [hy])) h2⟩
theorem belR_cells {r : R} (h : belR n r = true) : ∀ x ∈ r.cells, belS n x = true := by
  cases r with
  | s x => intro y hy; simp [R.cells] at hy; subst hy; exact h
  | agg l => simpa [belR, R.cells] using h
  | _ => intro y hy; simp only [R.cells, List.mem_map] at hy; obtain ⟨z, _, rfl⟩ := hy; rfl
theorem belSeg_cells : ∀ {l : List Seg}, l.all (fun g => belR n g.r) = true → ∀ x ∈ segCells l, belS n x = true
  | [], _, x, hx => by cases hx
  | g :: l, h, x, hx => by
    simp only [List.all_cons, Bool.and_eq_true] at h
    simp only [segCells, List.mem_append] at hx
    exact hx.elim (belR_cells h.1 x) (belSeg_cells h.2 x)
theorem belA_cells {a : A} (h : belA n a = true) : ∀ x ∈ a.cells, belS n x = true := by
  cases a with
  | s x => intro y hy; simp [A.cells] at hy; subst hy; exact h
  | agg l => simpa [belA, A.cells] using h
  | st l => exact belSeg_cells h
  | _ => intro y hy; simp only [A.cells, List.mem_map] at hy; obtain ⟨z, _, rfl⟩ := hy; rfl
theorem belA_den (hb : Agree n ℓ ℓ') {a : A} {v : Value} (h : belA n a = true) (hd : DenA ℓ a v) : DenA ℓ' a v := by
  cases a with
  | s x => exact belS_den hb h hd
  | _ => obtain ⟨h0, vs, h1, h2⟩ := hd; exact ⟨h0, vs, h1, belL_den hb (belA_cells h) h2⟩
theorem belT_den (hb : Agree n ℓ ℓ') : ∀ {xs : List A} {vs : List Value}, xs.all (belA n) = true → DenT ℓ xs vs → DenT ℓ' xs vs
  | [], [], _, _ => trivial
  | x :: xs, v :: vs, h, ⟨h1, h2⟩ => by
    simp only [List.all_cons, Bool.and_eq_true] at h
    exact ⟨belA_den hb h.1 h1, belT_den hb h.2 h2⟩
theorem belV_den (hb : Agree n ℓ ℓ') {x : SV} {v : Value} (h : belV n x = true) (hd : DenV ℓ x v) : DenV ℓ' x v := by
  cases x with
  | one a => exact belA_den hb h hd
  | tup l => obtain ⟨vs, h1, h2⟩ := hd; exact ⟨vs, h1, belT_den hb h h2⟩
theorem belE_ok (hb : Agree n ℓ ℓ') {w : World} {L : Loc} {e : Ent} (h : belA n e.c = true) (hE : EntOK ℓ w L e) : EntOK ℓ' w L e := by
  obtain ⟨h0, hE⟩ := hE
  refine ⟨h0, ?_⟩
  split at hE
  · rename_i ho
    rw [if_pos ho]
    obtain ⟨a, b, c⟩ := hE
    refine ⟨a, b, fun h1 => ?_⟩
    obtain ⟨cs, fr, vs, rest, c1, c2, c3, c4, c5⟩ := c h1
    exact ⟨cs, fr, vs, rest, c1, c2, c3, c4, belL_den hb (belA_cells h) c5⟩
  · rename_i ho
    rw [if_neg ho]
    obtain ⟨vs, a, b⟩ := hE
    exact ⟨vs, belL_den hb (belA_cells h) a, b⟩
end
theorem look_bel {n : Nat} : ∀ {sl : Slots}, belSl n sl = true → ∀ t, belV n (look sl t) = true
  | [], _, t => rfl
  | (k, v) :: r, h, t => by
    simp only [belSl, Bool.and_eq_true] at h
    simp only [look]
    split
    · exact h.1
    · exact look_bel h.2 t
theorem belM_get {n : Nat} : ∀ {m : Mem}, belM n m = true → ∀ {i : Nat} {e : Ent}, m[i]? = some (.ent e) → belA n e.c = true
  | [], _, i, e, h => by simp at h
  | x :: m, hb, 0, e, h => by
    simp at h; subst h
    simp only [belM, Bool.and_eq_true] at hb
    exact hb.1
  | x :: m, hb, i + 1, e, h => by
    have : belM n m = true := by
      cases x <;> simp only [belM, Bool.and_eq_true] at hb <;> first | exact hb | exact hb.2
    exact belM_get this (by simpa using h)
theorem entSl_look {s : St} : ∀ {sl : Slots}, entSl sl s → ∀ t, (∃ v, (t, v) ∈ sl) → look sl t = look s.sl t ∨ False := by
  intro sl
  induction sl with
  | nil => rintro _ t ⟨v, h⟩; cases h
  | cons p r ih =>
    obtain ⟨k, v⟩ := p
    rintro ⟨h1, h2⟩ t ⟨u, hu⟩
    simp only [look]
    split
    · rename_i ht; subst ht; exact .inl h1.symm
    · rename_i ht
      refine ih h2 t ⟨u, ?_⟩
      cases hu with
      | head => exact absurd rfl ht
      | tail _ h => exact h
theorem look_none : ∀ {sl : Slots} {t : Nat}, (¬ ∃ v, (t, v) ∈ sl) → look sl t = one .any
  | [], t, _ => rfl
  | (k, v) :: r, t, h => by
    simp only [look]
    rw [if_neg (fun e => h ⟨v, by rw [e]; simp⟩)]
    exact look_none (fun ⟨u, hu⟩ => h ⟨u, by simp [hu]⟩)
theorem entM_get : ∀ {m m' : Mem}, entM m m' → m.length ≤ m'.length ∧ ∀ (i : Nat) (x : Mk), m[i]? = some x → x = .gone ∨ m'[i]? = some x
  | [], m', _ => ⟨by simp, fun i x h => by simp at h⟩
  | .gone :: r, y :: s, h => by
    obtain ⟨h1, h2⟩ := entM_get (m := r) (m' := s) h
    refine ⟨by simpa using h1, fun i x hx => ?_⟩
    cases i with
    | zero => simp at hx; exact .inl hx.symm
    | succ i => simpa using h2 i x (by simpa using hx)
  | .ent e :: r, .ent e' :: s, ⟨h0, h⟩ => by
    obtain ⟨h1, h2⟩ := entM_get (m := r) (m' := s) h
    refine ⟨by simpa using h1, fun i x hx => ?_⟩
    cases i with
    | zero =>
      simp at hx; subst hx
      refine .inr ?_
      obtain ⟨a, b, c, d⟩ := h0
      cases e; cases e'
      simp at a b c d
      subst a b c d; rfl
    | succ i => simpa using h2 i x (by simpa using hx)
  | .gone :: _, [], h => h.elim
  | .hole :: _, _, h => by cases ‹Mem› <;> exact h.elim
  | .ent _ :: _, [], h => h.elim
  | .ent _ :: _, .gone :: _, h => h.elim
  | .ent _ :: _, .hole :: _, h => h.elim
theorem holds_ent {s t : St} {a : Act} {w : World} (hanc : ∀ i L, E.anc i = some L → i < t.m.length) (hh : Holds E N s a w) (h : Ent2 s t) : Holds E N t a w := by
  obtain ⟨ℓ, h1, h2, h3, h4⟩ := hh
  obtain ⟨e1, e2, e3, e4⟩ := h
  obtain ⟨hl, hm⟩ := entM_get e2
  have hag : Agree t.m.length ℓ (cutL t.m.length ℓ) := fun i hi => by simp [cutL, hi]
  have he : ∀ {i : Nat} {e : Ent}, t.m[i]? = some (.ent e) → s.m[i]? = some (.ent e) := fun hi => (hm _ _ hi).resolve_left (by simp)
  have hlt : ∀ {i : Nat} {x : Mk}, t.m[i]? = some x → i < t.m.length := fun hi => (List.getElem?_eq_some_iff.1 hi).1
  refine ⟨cutL t.m.length ℓ, fun u => ?_, ?_, h3, h4⟩
  · by_cases hu : ∃ v, (u, v) ∈ t.sl
    · have hq := (entSl_look e1 u hu).resolve_right id
      refine belV_den hag (look_bel e3 u) ?_
      rw [hq]; exact h1 u
    · rw [look_none hu]; trivial
  · refine ⟨h2.os, h2.tape, h2.output, h2.size, h2.keep, fun i L hL => ?_, ?_, ?_, ?_⟩
    · rw [hag i (hanc i L hL)]; exact h2.anch i L hL
    · intro i hi
      unfold cutL
      split
      · rename_i hlt
        rcases hi with hi | hi
        · omega
        · exact h2.dom i (.inr ((hm _ _ hi).resolve_left (by simp)))
      · rfl
    · intro id e hid
      obtain ⟨L, g1, g2, g3⟩ := h2.ent id e (he hid)
      exact ⟨L, by rw [hag id (hlt hid)]; exact g1, belE_ok hag (belM_get e4 hid) g2, g3⟩
    · intro i j ei ej Li Lj hi hj hLi hLj
      rw [hag i (hlt hi)] at hLi
      rw [hag j (hlt hj)] at hLj
      exact h2.apart i j ei ej Li Lj (he hi) (he hj) hLi hLj

/-! loops -/
theorem ok_loop {Q0 : Exit → Act → World → Prop} {X : Type} (S : X → St) (G : X → Prop) (μ : X → Nat) {c : Code} {k : List Item} {st : St}
    (hanc : ∀ x i L, E.anc i = some L → i < (S x).m.length)
    (h0 : ∃ x, G x ∧ Ent2 st (S x))
    (hr : ∀ x, G x → Ok P E N Q0 (.code c :: .back (fun s => ∃ x', G x' ∧ μ x' < μ x ∧ Ent2 s (S x')) :: k) (S x)) : Ok P E N Q0 (.code (.loop c) :: k) st := by
  intro a w hh
  obtain ⟨x0, hG0, hE0⟩ := h0
  have key : ∀ (n : Nat) (x : X) (a : Act) (w : World), μ x < n → G x → Holds E N (S x) a w → Code.rounds P c (semK P E N Q0 k) n a w := by
    intro n
    induction n with
    | zero => intro x a w h; omega
    | succ n ih =>
      intro x a w hlt hG hh
      refine wp_mono (hr x hG a w hh) ?_
      intro e a' w' hq
      cases e with
      | normal =>
        obtain ⟨s, ⟨x', g1, g2, g3⟩, hh'⟩ := hq
        exact ih x' a' w' (by omega) g1 (holds_ent (hanc x') hh' g3)
      | _ => exact hq
  exact wp_loop_rounds (μ x0 + 1) (key _ x0 a w (Nat.lt_succ_self _) hG0 (holds_ent (hanc x0) hh hE0))
/-- Two ways that meet again. -/
theorem ok_join {Q0 : Exit → Act → World → Prop} {X : Type} (S : X → St) (G : X → Prop) {c : Code} {k : List Item} {st : St}
    (hanc : ∀ x i L, E.anc i = some L → i < (S x).m.length)
    (h : Ok P E N Q0 (.code c :: .back (fun s => ∃ x, G x ∧ Ent2 s (S x)) :: k) st) (h2 : ∀ x, G x → Ok P E N Q0 k (S x)) : Ok P E N Q0 (.code c :: k) st := by
  intro a w hh
  refine wp_mono (h a w hh) ?_
  intro e a' w' hq
  cases e with
  | normal =>
    obtain ⟨s, ⟨x, g1, g2⟩, hh'⟩ := hq
    exact h2 x g1 a' w' (holds_ent (hanc x) hh' g2)
  | _ => exact hq
/-- One may forget, and cut back what is known. -/
theorem ok_weaken {Q0 : Exit → Act → World → Prop} {k : List Item} {st t : St} (hanc : ∀ i L, E.anc i = some L → i < t.m.length) (h : Ent2 st t) (ht : Ok P E N Q0 k t) : Ok P E N Q0 k st :=
  fun a w hh => ht a w (holds_ent hanc hh h)
/-- A nil slice in a slot may be taken for an empty one of our own. -/
theorem ok_blank {Q0 : Exit → Act → World → Prop} {k : List Item} {st : St} (t : Nat) (ty : TypeId) (es : Nat) (a : A) (hl : a.len = 0) (hok : a.OK) (hs : look st.sl t = one .snil)
    (h : Ok P E N Q0 k ⟨(t, one (.sl st.m.length 0 0 0 es)) :: st.sl, st.m ++ [.ent ⟨true, ty, none, a⟩]⟩) : Ok P E N Q0 k st := by
  intro b w hh
  obtain ⟨ℓ, h1, h2, h3, h4⟩ := hh
  have hf : Fresh st.m st.m.length := .inl rfl
  have hle := h2.le_upd hf ⟨E.w0.heap.size, 0, 0⟩
  have hb := h2.blank hf (ty := ty) hl hok
  rw [fill_len] at hb
  refine h b w ⟨upd ℓ st.m.length ⟨E.w0.heap.size, 0, 0⟩, fun u => ?_, hb, h3, h4⟩
  show DenV _ (if u = t then _ else look st.sl u) _
  split
  · rename_i hu; subst hu
    have hv := h1 u
    rw [hs] at hv
    have hv' : b.tmps.getD u undef = .slice none 0 0 := hv
    rw [hv']
    exact ⟨⟨E.w0.heap.size, 0, 0⟩, by simp [upd], Nat.le_refl _, .inl ⟨rfl, none, rfl⟩⟩
  · exact (h1 u).mono hle
end
end Go.V
