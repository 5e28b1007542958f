/- A small verifier of our own: regions whose order is open, with calls that hand back memory. No condition. -/
import Derived.Test.YtlnoehpjchglnaaVr
set_option linter.unusedSimpArgs false
set_option linter.unusedVariables false
namespace Go.V
open Go

/-- All that is known here is known there. -/
def Sub (m m' : Mem) : Prop := ∀ (id : Nat) (e : Ent), m[id]? = some (.ent e) → m'[id]? = some (.ent e)
theorem stLoad_sub {T : Tab} {m m' : Mem} (hs : Sub m m') {t : TypeId} {y : SV} {K : SV → Prop} (h : stLoad T m t y K) : stLoad T m' t y K := by
  unfold stLoad at h ⊢
  split at h
  · split at h
    · rename_i hm
      simp only [hs _ _ hm]
      exact h
    · exact h.elim
  · exact h.elim
theorem stSlice_sub {T : Tab} {m m' : Mem} (hs : Sub m m') {t : TypeId} {y : SV} {lo hi mx : Option SV} {K : SV → Prop} (h : stSlice T m t y lo hi mx K) : stSlice T m' t y lo hi mx K := by
  unfold stSlice at h ⊢
  split at h
  · exact h.elim
  · rename_i ty hty
    split at h
    · exact h
    · exact h
    · split at h
      · rename_i h1 h2 h3 h4 hm
        simp only [h1, h2, h3, h4, hs _ _ hm]
        exact h
      · exact h.elim
    · exact h
    · exact h.elim
theorem stConv_sub {T : Tab} {m m' : Mem} (hs : Sub m m') {nid : Nat} {s d : TypeId} {y : SV} {K : SV → Option Ent → Prop} (h : stConv T m nid s d y K) : stConv T m' nid s d y K := by
  unfold stConv at h ⊢
  split at h
  · split at h
    · exact h
    · exact h
    · exact h
    · split at h
      · split at h
        · rename_i hk hm
          simp only [hk, hs _ _ hm]
          exact h
        · exact h.elim
      · split at h
        · rename_i hk hm
          simp only [hk, hs _ _ hm]
          exact h
        · exact h.elim
      · exact h
      · exact h.elim
    · exact h.elim
  · exact h.elim
def PureSub (pu : Pure) : Prop := ∀ m m' f l v, Sub m m' → pu m f l = some v → pu m' f l = some v
theorem est_sub {T : Tab} {pu : Pure} {m m' : Mem} (hpu : PureSub pu) (hs : Sub m m') {nid : Nat} {g : Operand → SV} {o : Oper} {K : SV → Option Ent → Prop} (h : est T pu m nid g o K) : est T pu m' nid g o K := by
  unfold est at h ⊢
  cases hop : o.op <;> simp only [hop] at h ⊢
  case load => exact stLoad_sub hs h
  case slice => exact stSlice_sub hs h
  case convert => exact stConv_sub hs h
  case call c =>
    split at h
    · exact h
    · exact h
    · exact h
    · rename_i f hf
      split at h
      · rename_i v hv
        simp only [hpu _ _ _ _ _ hs hv]
        exact h
      · exact h.elim
    · exact h.elim
  all_goals exact h
theorem pureOf_sub (g : FuncId → List SV → Option SV) : PureSub (pureOf g) := fun m m' f l v _ h => h

/-! calls that hand back memory -/
/-- What such a call answers: its value, and the blocks that it makes, laid from the given id on. -/
abbrev New := Mem → FuncId → List SV → Nat → Option (SV × List Ent)
def fillL (m : Mem) (nid : Nat) : List Ent → Mem
  | [] => m
  | e :: es => fillL (m.set nid (.ent e)) (nid + 1) es
def NewOK (P : Program) (nu : New) : Prop := ∀ m f svs nid sv es, nu m f svs nid = some (sv, es) → ∀ (E : Env) (w : World) ℓ vs, MH E ℓ m w → (∀ k, k < es.length → m[nid + k]? = some .hole) → DenVs ℓ svs vs →
  Callable P f ∧ Calls P f vs.toArray w (fun e w' => ∃ v ℓ', e = .returned v ∧ Le ℓ ℓ' ∧ DenV ℓ' sv v ∧ MH E ℓ' (fillL m nid es) w')
def NewSub (nu : New) : Prop := ∀ m m' f l nid r, Sub m m' → nu m f l nid = some r → nu m' f l nid = some r
def newOf (nu : New) (m : Mem) (nid : Nat) (g : Operand → SV) (o : Oper) : Option (SV × List Ent) :=
  match o.op with
  | .call c => (match c.callee with
    | .value (.func f) => nu m f (c.args.toList.map g) nid
    | _ => none)
  | _ => none
theorem newOf_congr {nu : New} {m : Mem} {nid : Nat} {g g' : Operand → SV} {o : Oper} (h : ∀ x ∈ o.op.operands.toList, g x = g' x) : newOf nu m nid g o = newOf nu m nid g' o := by
  unfold newOf
  cases hop : o.op <;> simp only
  rename_i c
  rw [hop] at h
  simp only [Op.operands] at h
  have : c.args.toList.map g = c.args.toList.map g' := List.map_congr_left (fun x hx => h x (by simp only [Call.operands, Array.toList_append, List.mem_append]; exact .inr hx))
  rw [this]
theorem newOf_sub {nu : New} (hn : NewSub nu) {m m' : Mem} (hs : Sub m m') {nid : Nat} {g : Operand → SV} {o : Oper} {r : SV × List Ent} (h : newOf nu m nid g o = some r) : newOf nu m' nid g o = some r := by
  unfold newOf at h ⊢
  split at h
  · split at h
    · exact hn _ _ _ _ _ _ hs h
    · cases h
  · cases h
/-- One operation of a head. -/
def hop (T : Tab) (pu : Pure) (nu : New) (m : Mem) (nid : Nat) (g : Operand → SV) (o : Oper) (K : SV → List Ent → Prop) : Prop :=
  match newOf nu m nid g o with
  | some (v, es) => K v es
  | none => est T pu m nid g o (fun v eo => eo.isSome = allocs o ∧ K v eo.toList)

/-! memory in which some of the operations have been carried out -/
def memL : List (List Ent) → (Nat → Bool) → Nat → Mem
  | [], _, _ => []
  | es :: r, L, i => es.map (fun e => if L i = true then Mk.ent e else Mk.hole) ++ memL r L (i + 1)
theorem memL_app : ∀ {a b : List (List Ent)} {L : Nat → Bool} {i : Nat}, memL (a ++ b) L i = memL a L i ++ memL b L (i + a.length)
  | [], b, L, i => by simp [memL]
  | es :: a, b, L, i => by
    simp only [List.cons_append, memL, memL_app (a := a) (b := b), List.append_assoc, List.length_cons]
    rw [show i + 1 + a.length = i + (a.length + 1) by omega]
theorem memL_len : ∀ {a : List (List Ent)} {L : Nat → Bool} {i : Nat}, (memL a L i).length = a.flatten.length
  | [], L, i => rfl
  | es :: a, L, i => by simp [memL, memL_len (a := a)]
theorem memL_congr : ∀ {a : List (List Ent)} {L L' : Nat → Bool} {i : Nat}, (∀ k es, a[k]? = some es → es ≠ [] → L (i + k) = L' (i + k)) → memL a L i = memL a L' i
  | [], _, _, _, _ => rfl
  | es :: a, L, L', i, h => by
    have h1 := memL_congr (a := a) (L := L) (L' := L') (i := i + 1) (fun k e hk hne => by have := h (k + 1) e (by simpa using hk) hne; rw [show i + 1 + k = i + (k + 1) by omega]; exact this)
    simp only [memL, h1]
    cases es with
    | nil => rfl
    | cons e es => rw [show L i = L' i from h 0 _ rfl (by simp)]
theorem memL_sub : ∀ {a : List (List Ent)} {L L' : Nat → Bool} {i : Nat}, (∀ k, k < a.length → L (i + k) = true → L' (i + k) = true) → ∀ (p : Nat) (e : Ent), (memL a L i)[p]? = some (.ent e) → (memL a L' i)[p]? = some (.ent e)
  | [], _, _, _, _, p, e, hp => by simp [memL] at hp
  | es :: a, L, L', i, h, p, e, hp => by
    simp only [memL] at hp ⊢
    rcases Nat.lt_or_ge p es.length with hl | hl
    · rw [List.getElem?_append_left (by simpa using hl)] at hp ⊢
      rw [List.getElem?_map, List.getElem?_eq_getElem hl] at hp ⊢
      simp only [Option.map_some, Option.some.injEq] at hp ⊢
      split at hp
      · rename_i hL
        rw [if_pos (show L' i = true from h 0 (by simp) hL)]
        exact hp
      · cases hp
    · rw [List.getElem?_append_right (by simpa using hl)] at hp ⊢
      simp only [List.length_map] at hp ⊢
      exact memL_sub (a := a) (fun k hk hL => by rw [show i + 1 + k = i + (k + 1) by omega] at hL ⊢; exact h (k + 1) (by simp; omega) hL) _ _ hp
theorem memL_all : ∀ {a : List (List Ent)} {L : Nat → Bool} {i : Nat}, (∀ k, k < a.length → L (i + k) = true) → memL a L i = a.flatten.map .ent
  | [], _, _, _ => rfl
  | es :: a, L, i, h => by
    have := memL_all (a := a) (L := L) (i := i + 1) (fun k hk => by rw [show i + 1 + k = i + (k + 1) by omega]; exact h (k + 1) (by simp; omega))
    simp only [memL, this, List.flatten_cons, List.map_append]
    rw [show L i = true from h 0 (by simp)]
    simp
theorem memL_holes : ∀ {a : List (List Ent)} {L : Nat → Bool} {i : Nat}, (∀ k, L k = false) → ∀ x ∈ memL a L i, x = .hole
  | [], L, i, h, x, hx => by cases hx
  | es :: a, L, i, h, x, hx => by
    simp only [memL, h i, List.mem_append] at hx
    rcases hx with hx | hx
    · simp at hx
      exact hx.2.symm
    · exact memL_holes (a := a) h x hx
/-- The blocks of an operation come to their places. -/
theorem fillL_eq : ∀ {es : List Ent} {A B : Mem} {nid : Nat}, nid = A.length → fillL (A ++ es.map (fun _ => Mk.hole) ++ B) nid es = A ++ es.map .ent ++ B
  | [], A, B, nid, h => by simp [fillL]
  | e :: es, A, B, nid, h => by
    subst h
    have := fillL_eq (es := es) (A := A ++ [.ent e]) (B := B) (nid := A.length + 1) (by simp)
    simp only [List.map_cons, fillL]
    rw [show (A ++ (Mk.hole :: es.map (fun _ => Mk.hole)) ++ B).set A.length (.ent e) = A ++ [.ent e] ++ es.map (fun _ => Mk.hole) ++ B by
      rw [List.append_assoc, List.set_append_right _ _ (Nat.le_refl _)]; simp]
    rw [this]
    simp
theorem memL_set {a : List (List Ent)} {L : Nat → Bool} {k : Nat} {es : List Ent} (h : a[k]? = some es) (hL : L k = false) :
    memL a L 0 = memL (a.take k) L 0 ++ es.map (fun _ => Mk.hole) ++ memL (a.drop (k + 1)) L (k + 1) ∧ memL a (updB L k) 0 = memL (a.take k) L 0 ++ es.map .ent ++ memL (a.drop (k + 1)) L (k + 1) := by
  have hk := (List.getElem?_eq_some_iff.1 h).1
  have he : a = a.take k ++ es :: a.drop (k + 1) := by
    rw [← (List.getElem?_eq_some_iff.1 h).2, List.getElem_cons_drop, List.take_append_drop]
  have hl : (a.take k).length = k := by simp; omega
  constructor
  · conv => lhs; rw [he]
    rw [memL_app, hl]
    simp only [memL, Nat.zero_add, hL]
    simp
  · conv => lhs; rw [he]
    rw [memL_app, hl]
    simp only [memL, Nat.zero_add]
    have h1 : memL (a.take k) (updB L k) 0 = memL (a.take k) L 0 := memL_congr (fun j e hj _ => by
      have := (List.getElem?_eq_some_iff.1 hj).1
      rw [hl] at this
      simp only [updB]; rw [if_neg (by omega)])
    have h2 : memL (a.drop (k + 1)) (updB L k) (k + 1) = memL (a.drop (k + 1)) L (k + 1) := memL_congr (fun j e hj _ => by simp only [updB]; rw [if_neg (by omega)])
    rw [h1, h2]
    simp [updB]
end Go.V
