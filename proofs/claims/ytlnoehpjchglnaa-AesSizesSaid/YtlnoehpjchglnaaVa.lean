/- A small verifier of our own, part 1: abstract values, abstract memory, and what it means that they stand for the model's. No condition. -/
import Derived.Orders
import Derived.Tactics
import Derived.Below
import Derived.Laws.Rows
import Derived.Laws.CopyRow
import Derived.Lib.FrozenHead
set_option linter.unusedSimpArgs false
set_option linter.unusedVariables false
namespace Go.V
open Go

/-- One cell's value. -/
inductive S where
  | any | i (n : Int) | b (c : Bool) | u8 (x : BitVec 8) | u16 (x : BitVec 16) | u32 (x : BitVec 32) | u64 (x : BitVec 64)
  | str (l : List (BitVec 8)) | nil | ptr (id base off : Nat) | snil | sl (id off len cap e : Nat) | slq (id off len e : Nat)
  | fn (f : FuncId) (caps : List Nat) | ifc (t : TypeId) (x : S) | ifa (t : TypeId) (x : S) | inil | raw (x : Value)

structure Loc where
  blk : Nat
  base : Nat
  lim : Nat

/-- Locations known stay known. -/
def Le (ℓ ℓ' : Nat → Option Loc) : Prop := ∀ (i : Nat) (L : Loc), ℓ i = some L → ℓ' i = some L
theorem Le.refl (ℓ : Nat → Option Loc) : Le ℓ ℓ := fun _ _ h => h
theorem Le.trans {a b c : Nat → Option Loc} (h : Le a b) (k : Le b c) : Le a c := fun i L x => k i L (h i L x)

def DenS (ℓ : Nat → Option Loc) : S → Value → Prop
  | .any, _ => True
  | .i n, v => v = .int .i64 n
  | .b c, v => v = .bool c
  | .u8 x, v => v = .int .u8 x.toNat
  | .u16 x, v => v = .int .u16 x.toNat
  | .u32 x, v => v = .int .u32 x.toNat
  | .u64 x, v => v = .int .u64 x.toNat
  | .str l, v => ∃ s : ByteArray, v = .string s ∧ s.data.toList.map UInt8.toBitVec = l
  | .nil, v => v = .pointer none
  | .ptr id base off, v => ∃ L, ℓ id = some L ∧ v = .pointer (some ⟨L.blk, L.base + (base + off), none⟩)
  | .snil, v => v = .slice none 0 0
  | .sl id off len cap e, v => ∃ L, ℓ id = some L ∧ len ≤ cap ∧ ((cap = 0 ∧ ∃ a, v = .slice a 0 0) ∨ (off + cap * e ≤ L.lim ∧ v = .slice (some ⟨L.blk, L.base + off, none⟩) len cap))
  | .slq id off len e, v => ∃ L, ℓ id = some L ∧ ∃ cap, len ≤ cap ∧ ((cap = 0 ∧ ∃ a, v = .slice a 0 0) ∨ (off + cap * e ≤ L.lim ∧ v = .slice (some ⟨L.blk, L.base + off, none⟩) len cap))
  | .fn f caps, v => ∃ Ls : List Loc, Ls.map some = caps.map ℓ ∧ v = .func (.func f) #[] (Ls.map (fun L => Value.pointer (some ⟨L.blk, L.base, none⟩))).toArray
  | .ifc t x, v => ∃ u, v = .iface t u ∧ DenS ℓ x u
  | .ifa t x, v => ∃ u, v = .iface t (.agg #[u]) ∧ DenS ℓ x u
  | .inil, v => v = .nilIface
  | .raw x, v => v = x

theorem DenS.mono {ℓ ℓ' : Nat → Option Loc} (h : Le ℓ ℓ') : ∀ {x : S} {v : Value}, DenS ℓ x v → DenS ℓ' x v := by
  intro x
  induction x with
  | ptr id base off => rintro v ⟨L, h1, h2⟩; exact ⟨L, h _ _ h1, h2⟩
  | sl id off len cap e => rintro v ⟨L, h1, h2⟩; exact ⟨L, h _ _ h1, h2⟩
  | slq id off len e => rintro v ⟨L, h1, h2⟩; exact ⟨L, h _ _ h1, h2⟩
  | fn f caps =>
    rintro v ⟨Ls, h1, h2⟩
    refine ⟨Ls, ?_, h2⟩
    clear h2
    induction caps generalizing Ls with
    | nil => simpa using h1
    | cons c cs ih =>
      cases Ls with
      | nil => simp at h1
      | cons L Ls =>
        simp only [List.map_cons, List.cons.injEq] at h1 ⊢
        exact ⟨(h _ _ h1.1.symm).symm, ih Ls h1.2⟩
  | ifc t x ih => rintro v ⟨u, h1, h2⟩; exact ⟨u, h1, ih h2⟩
  | ifa t x ih => rintro v ⟨u, h1, h2⟩; exact ⟨u, h1, ih h2⟩
  | any => intro v h; trivial
  | _ => intro v h; exact h

def DenL (ℓ : Nat → Option Loc) : List S → List Value → Prop
  | [], [] => True
  | x :: xs, v :: vs => DenS ℓ x v ∧ DenL ℓ xs vs
  | _, _ => False

section
variable {ℓ ℓ' : Nat → Option Loc}
theorem DenL.mono (h : Le ℓ ℓ') : ∀ {xs : List S} {vs : List Value}, DenL ℓ xs vs → DenL ℓ' xs vs
  | [], [], _ => trivial
  | _ :: _, _ :: _, ⟨h1, h2⟩ => ⟨h1.mono h, DenL.mono h h2⟩
theorem DenL.length : ∀ {xs : List S} {vs : List Value}, DenL ℓ xs vs → xs.length = vs.length
  | [], [], _ => rfl
  | _ :: xs, _ :: vs, ⟨_, h⟩ => by simp [DenL.length h]
theorem DenL.get : ∀ {xs : List S} {vs : List Value} (i : Nat) (x : S), DenL ℓ xs vs → xs[i]? = some x → ∃ v, vs[i]? = some v ∧ DenS ℓ x v
  | [], [], i, x, _, h => by simp at h
  | y :: xs, v :: vs, 0, x, ⟨h1, _⟩, h => by simp at h; subst h; exact ⟨v, rfl, h1⟩
  | y :: xs, v :: vs, i + 1, x, ⟨_, h2⟩, h => by simpa using DenL.get i x h2 (by simpa using h)
theorem DenL.getv : ∀ {xs : List S} {vs : List Value} (i : Nat) (v : Value), DenL ℓ xs vs → vs[i]? = some v → ∃ x, xs[i]? = some x ∧ DenS ℓ x v
  | [], [], i, x, _, h => by simp at h
  | y :: xs, v :: vs, 0, x, ⟨h1, _⟩, h => by simp at h; subst h; exact ⟨y, rfl, h1⟩
  | y :: xs, v :: vs, i + 1, x, ⟨_, h2⟩, h => by simpa using DenL.getv i x h2 (by simpa using h)
theorem DenL.set : ∀ {xs : List S} {vs : List Value} (i : Nat) (x : S) (v : Value), DenL ℓ xs vs → DenS ℓ x v → DenL ℓ (xs.set i x) (vs.set i v)
  | [], [], i, x, v, _, _ => trivial
  | y :: xs, u :: vs, 0, x, v, ⟨_, h2⟩, h => ⟨h, h2⟩
  | y :: xs, u :: vs, i + 1, x, v, ⟨h1, h2⟩, h => ⟨h1, DenL.set i x v h2 h⟩
theorem DenL.take : ∀ {xs : List S} {vs : List Value} (n : Nat), DenL ℓ xs vs → DenL ℓ (xs.take n) (vs.take n)
  | _, _, 0, _ => by simp [DenL]
  | [], [], n + 1, _ => trivial
  | y :: xs, v :: vs, n + 1, ⟨h1, h2⟩ => ⟨h1, DenL.take n h2⟩
theorem DenL.drop : ∀ {xs : List S} {vs : List Value} (n : Nat), DenL ℓ xs vs → DenL ℓ (xs.drop n) (vs.drop n)
  | _, _, 0, h => h
  | [], [], n + 1, _ => trivial
  | y :: xs, v :: vs, n + 1, ⟨h1, h2⟩ => DenL.drop n h2
theorem DenL.append : ∀ {xs : List S} {vs : List Value} {ys : List S} {us : List Value}, DenL ℓ xs vs → DenL ℓ ys us → DenL ℓ (xs ++ ys) (vs ++ us)
  | [], [], _, _, _, h => h
  | y :: xs, v :: vs, _, _, ⟨h1, h2⟩, h => ⟨h1, DenL.append h2 h⟩
theorem DenL.mk {xs : List S} {vs : List Value} (hl : xs.length = vs.length) (h : ∀ (i : Nat) (x : S) (v : Value), xs[i]? = some x → vs[i]? = some v → DenS ℓ x v) : DenL ℓ xs vs := by
  induction xs generalizing vs with
  | nil => cases vs with
    | nil => trivial
    | cons => simp at hl
  | cons y xs ih => cases vs with
    | nil => simp at hl
    | cons v vs => exact ⟨h 0 y v rfl rfl, ih (by simpa using hl) (fun i x v hx hv => h (i + 1) x v (by simpa using hx) (by simpa using hv))⟩
end

/-- A field of a struct: one cell, or a row of cells of one kind. -/
inductive R where
  | s (x : S) | a8 (l : List (BitVec 8)) | a32 (l : List (BitVec 32)) | a64 (l : List (BitVec 64)) | ai (l : List Int) | ab (l : List Bool) | agg (l : List S)
structure Seg where
  n : Nat
  r : R
/-- A slot's value or a block's content: one cell, a row of cells (typed where all its cells are of one kind), or a struct, field by field. -/
inductive A where
  | s (x : S) | a8 (l : List (BitVec 8)) | a32 (l : List (BitVec 32)) | a64 (l : List (BitVec 64)) | ai (l : List Int) | ab (l : List Bool) | agg (l : List S) | st (l : List Seg)

def R.a : R → A
  | .s x => .s x | .a8 l => .a8 l | .a32 l => .a32 l | .a64 l => .a64 l | .ai l => .ai l | .ab l => .ab l | .agg l => .agg l
def A.r : A → Option R
  | .s x => some (.s x) | .a8 l => some (.a8 l) | .a32 l => some (.a32 l) | .a64 l => some (.a64 l) | .ai l => some (.ai l) | .ab l => some (.ab l) | .agg l => some (.agg l) | .st _ => none
theorem A.r_a {a : A} {r : R} (h : a.r = some r) : r.a = a := by cases a <;> simp [A.r] at h <;> subst h <;> rfl
def R.cells : R → List S
  | .s x => [x]
  | .a8 l => l.map .u8
  | .a32 l => l.map .u32
  | .a64 l => l.map .u64
  | .ai l => l.map .i
  | .ab l => l.map .b
  | .agg l => l
def R.len : R → Nat
  | .s _ => 1
  | .a8 l => l.length
  | .a32 l => l.length
  | .a64 l => l.length
  | .ai l => l.length
  | .ab l => l.length
  | .agg l => l.length
theorem R.len_cells (a : R) : a.cells.length = a.len := by cases a <;> simp [R.cells, R.len]
def segCells : List Seg → List S
  | [] => []
  | g :: l => g.r.cells ++ segCells l
def segLen : List Seg → Nat
  | [] => 0
  | g :: l => g.n + segLen l
def SegOK : List Seg → Prop
  | [] => True
  | g :: l => g.r.len = g.n ∧ SegOK l
theorem segLen_cells : ∀ {l : List Seg}, SegOK l → (segCells l).length = segLen l
  | [], _ => rfl
  | g :: l, ⟨h1, h2⟩ => by simp [segCells, segLen, segLen_cells h2, R.len_cells, h1]
def A.cells : A → List S
  | .s x => [x]
  | .a8 l => l.map .u8
  | .a32 l => l.map .u32
  | .a64 l => l.map .u64
  | .ai l => l.map .i
  | .ab l => l.map .b
  | .agg l => l
  | .st l => segCells l
def A.len : A → Nat
  | .s _ => 1
  | .a8 l => l.length
  | .a32 l => l.length
  | .a64 l => l.length
  | .ai l => l.length
  | .ab l => l.length
  | .agg l => l.length
  | .st l => segLen l
def A.OK : A → Prop
  | .st l => SegOK l
  | _ => True
theorem A.len_cells (a : A) (h : a.OK) : a.cells.length = a.len := by cases a <;> simp [A.cells, A.len]; exact segLen_cells h
theorem R.a_cells (r : R) : r.a.cells = r.cells := by cases r <;> rfl
theorem R.a_len (r : R) : r.a.len = r.len := by cases r <;> rfl
theorem R.a_OK (r : R) : r.a.OK := by cases r <;> trivial
/-- A plain row: typed cells in a row. -/
def A.isRow : A → Bool
  | .s _ => false
  | .st _ => false
  | _ => true
theorem A.row_OK {a : A} (h : a.isRow = true) : a.OK := by cases a <;> first | trivial | cases h
def A.get : A → Nat → S
  | .s x, _ => x
  | .a8 l, i => .u8 (l.getD i 0)
  | .a32 l, i => .u32 (l.getD i 0)
  | .a64 l, i => .u64 (l.getD i 0)
  | .ai l, i => .i (l.getD i 0)
  | .ab l, i => .b (l.getD i false)
  | .agg l, i => l.getD i .any
  | .st _, _ => .any
def A.noRec : A → Bool
  | .st _ => false
  | _ => true
theorem A.noRec_OK {a : A} (h : a.noRec = true) : a.OK := by cases a <;> first | trivial | cases h
theorem A.get_cells (a : A) (i : Nat) (hr : a.noRec = true) (h : i < a.len) : a.cells[i]? = some (a.get i) := by
  cases a <;> first | (cases hr; done) | (simp only [A.len] at h; simp [A.cells, A.get, List.getD, h])
def A.sub : A → Nat → Nat → A
  | .s x, _, _ => .s x
  | .a8 l, o, n => .a8 ((l.drop o).take n)
  | .a32 l, o, n => .a32 ((l.drop o).take n)
  | .a64 l, o, n => .a64 ((l.drop o).take n)
  | .ai l, o, n => .ai ((l.drop o).take n)
  | .ab l, o, n => .ab ((l.drop o).take n)
  | .agg l, o, n => .agg ((l.drop o).take n)
  | .st l, _, _ => .st l
theorem A.sub_cells (a : A) (o n : Nat) (h : a.isRow = true) : (a.sub o n).cells = (a.cells.drop o).take n := by
  cases a <;> simp [A.isRow] at h <;> simp [A.sub, A.cells]
theorem A.sub_row (a : A) (o n : Nat) : (a.sub o n).isRow = a.isRow := by cases a <;> rfl
/-- A cell written. -/
def A.set : A → Nat → S → Option A
  | .s _, _, x => some (.s x)
  | .a8 l, i, .u8 x => some (.a8 (l.set i x))
  | .a32 l, i, .u32 x => some (.a32 (l.set i x))
  | .a64 l, i, .u64 x => some (.a64 (l.set i x))
  | .ai l, i, .i x => some (.ai (l.set i x))
  | .ab l, i, .b x => some (.ab (l.set i x))
  | .agg l, i, x => some (.agg (l.set i x))
  | _, _, _ => none
theorem A.set_cells {a a' : A} {i : Nat} {x : S} (h : a.set i x = some a') (hi : i < a.len) : a'.cells = a.cells.set i x := by
  cases a <;> cases x <;> simp [A.set] at h <;> subst h <;> simp [A.cells, List.map_set] <;> simp only [A.len] at hi <;> (try (obtain rfl : i = 0 := by omega); simp)
theorem A.set_len {a a' : A} {i : Nat} {x : S} (h : a.set i x = some a') : a'.len = a.len ∧ a'.noRec = true ∧ a.noRec = true := by
  cases a <;> cases x <;> simp [A.set] at h <;> subst h <;> simp [A.len, A.noRec]
/-- A row written over a part of a row: the same kind of both. -/
def A.over : A → Nat → A → Option A
  | .a8 l, o, .a8 r => some (.a8 (l.take o ++ r ++ l.drop (o + r.length)))
  | .a32 l, o, .a32 r => some (.a32 (l.take o ++ r ++ l.drop (o + r.length)))
  | .a64 l, o, .a64 r => some (.a64 (l.take o ++ r ++ l.drop (o + r.length)))
  | .ai l, o, .ai r => some (.ai (l.take o ++ r ++ l.drop (o + r.length)))
  | .ab l, o, .ab r => some (.ab (l.take o ++ r ++ l.drop (o + r.length)))
  | .agg l, o, .agg r => some (.agg (l.take o ++ r ++ l.drop (o + r.length)))
  | _, _, _ => none
theorem A.over_cells {a a' r : A} {o : Nat} (h : a.over o r = some a') : a'.cells = a.cells.take o ++ r.cells ++ a.cells.drop (o + r.len) := by
  cases a <;> cases r <;> simp [A.over] at h <;> subst h <;> simp [A.cells, A.len]
theorem A.over_row {a a' r : A} {o : Nat} (h : a.over o r = some a') : a.isRow = true ∧ r.isRow = true ∧ a'.isRow = true := by
  cases a <;> cases r <;> simp [A.over] at h <;> subst h <;> simp [A.isRow]
/-- A row put behind a row. -/
def A.cat : A → A → Option A
  | .a8 l, .a8 r => some (.a8 (l ++ r))
  | .a32 l, .a32 r => some (.a32 (l ++ r))
  | .a64 l, .a64 r => some (.a64 (l ++ r))
  | .ai l, .ai r => some (.ai (l ++ r))
  | .ab l, .ab r => some (.ab (l ++ r))
  | .agg l, .agg r => some (.agg (l ++ r))
  | _, _ => none
theorem A.cat_cells {a a' r : A} (h : a.cat r = some a') : a'.cells = a.cells ++ r.cells := by
  cases a <;> cases r <;> simp [A.cat] at h <;> subst h <;> simp [A.cells]
theorem A.cat_row {a a' r : A} (h : a.cat r = some a') : a.isRow = true ∧ r.isRow = true ∧ a'.isRow = true ∧ a'.len = a.len + r.len := by
  cases a <;> cases r <;> simp [A.cat] at h <;> subst h <;> simp [A.isRow, A.len]

/-- The field that begins at a cell, and how many cells lie ahead of it. -/
def segAt : List Seg → Nat → Option R
  | [], _ => none
  | g :: l, b => if b = 0 then some g.r else if g.n ≤ b then segAt l (b - g.n) else none
theorem segAt_cells : ∀ {l : List Seg} {b : Nat} {r : R}, SegOK l → segAt l b = some r → ∃ pre post, segCells l = pre ++ r.cells ++ post ∧ pre.length = b
  | [], b, r, _, h => by simp [segAt] at h
  | g :: l, b, r, ⟨h1, h2⟩, h => by
    unfold segAt at h
    split at h
    · simp at h; subst h; exact ⟨[], segCells l, by simp [segCells], by simp [*]⟩
    · split at h
      · rename_i hb hle
        obtain ⟨pre, post, he, hl⟩ := segAt_cells h2 h
        exact ⟨g.r.cells ++ pre, post, by simp [segCells, he], by simp [R.len_cells, h1, hl]; omega⟩
      · cases h
/-- A field written. -/
def segPut : List Seg → Nat → R → Option (List Seg)
  | [], _, _ => none
  | g :: l, b, r => if b = 0 then some (⟨g.n, r⟩ :: l) else if g.n ≤ b then (segPut l (b - g.n) r).map (g :: ·) else none
theorem segPut_cells : ∀ {l l' : List Seg} {b : Nat} {r r0 : R}, SegOK l → segAt l b = some r0 → segPut l b r = some l' → r.len = r0.len →
    SegOK l' ∧ ∃ pre post, segCells l = pre ++ r0.cells ++ post ∧ segCells l' = pre ++ r.cells ++ post ∧ pre.length = b ∧ segLen l' = segLen l
  | [], l', b, r, r0, _, h, _, _ => by simp [segAt] at h
  | g :: l, l', b, r, r0, ⟨h1, h2⟩, h, hp, hl => by
    unfold segAt at h
    unfold segPut at hp
    split at h
    · rename_i hb
      rw [if_pos hb] at hp
      simp at h hp; subst h hp
      exact ⟨⟨by simpa [hl] using h1, h2⟩, [], segCells l, by simp [segCells], by simp [segCells], by simp [hb], by simp [segLen]⟩
    · rename_i hb
      rw [if_neg hb] at hp
      split at h
      · rename_i hle
        rw [if_pos hle, Option.map_eq_some_iff] at hp
        obtain ⟨l'', hp, rfl⟩ := hp
        obtain ⟨h3, pre, post, he, he', hl', hs⟩ := segPut_cells h2 h hp hl
        exact ⟨⟨h1, h3⟩, g.r.cells ++ pre, post, by simp [segCells, he], by simp [segCells, he'], by simp [R.len_cells, h1, hl']; omega, by simp [segLen, hs]⟩
      · cases h

def DenA (ℓ : Nat → Option Loc) : A → Value → Prop
  | .s x, v => DenS ℓ x v
  | a, v => a.OK ∧ ∃ vs : List Value, v = .agg vs.toArray ∧ DenL ℓ a.cells vs
theorem DenA.mono {ℓ ℓ' : Nat → Option Loc} (h : Le ℓ ℓ') {a : A} {v : Value} (hd : DenA ℓ a v) : DenA ℓ' a v := by
  cases a with
  | s x => exact DenS.mono h hd
  | _ => obtain ⟨h0, vs, h1, h2⟩ := hd; exact ⟨h0, vs, h1, h2.mono h⟩
/-- More cells than one: a row or a struct. -/
def A.isAgg : A → Bool
  | .s _ => false
  | _ => true
theorem A.row_agg {a : A} (h : a.isRow = true) : a.isAgg = true := by cases a <;> first | rfl | cases h
theorem DenA.agg {ℓ : Nat → Option Loc} {a : A} {v : Value} (hr : a.isAgg = true) : DenA ℓ a v ↔ a.OK ∧ ∃ vs : List Value, v = .agg vs.toArray ∧ DenL ℓ a.cells vs := by
  cases a <;> simp [A.isAgg] at hr <;> rfl
theorem DenA.row {ℓ : Nat → Option Loc} {a : A} {v : Value} (hr : a.isRow = true) : DenA ℓ a v ↔ ∃ vs : List Value, v = .agg vs.toArray ∧ DenL ℓ a.cells vs := by
  rw [DenA.agg (A.row_agg hr)]
  exact ⟨fun h => h.2, fun h => ⟨A.row_OK hr, h⟩⟩

/-- What a value of one cell that is known looks like: no row. -/
theorem DenS.oneCell {ℓ : Nat → Option Loc} {x : S} {v : Value} (h : DenS ℓ x v) (hx : x ≠ .any) (hr : ∀ r, x = .raw r → r.oneCell' = true) : v.oneCell' = true := by
  cases x with
  | any => exact absurd rfl hx
  | raw r => simp only [DenS] at h; subst h; exact hr _ rfl
  | str l => obtain ⟨s, rfl, _⟩ := h; rfl
  | ptr id base off => obtain ⟨L, _, rfl⟩ := h; rfl
  | sl id off len cap e => obtain ⟨L, _, _, h | h⟩ := h; · obtain ⟨_, _, rfl⟩ := h; rfl
                           · obtain ⟨_, rfl⟩ := h; rfl
  | slq id off len e => obtain ⟨L, _, _, _, h | h⟩ := h; · obtain ⟨_, _, rfl⟩ := h; rfl
                        · obtain ⟨_, rfl⟩ := h; rfl
  | fn f caps => obtain ⟨Ls, _, rfl⟩ := h; rfl
  | ifc t x => obtain ⟨u, rfl, _⟩ := h; rfl
  | ifa t x => obtain ⟨u, rfl, _⟩ := h; rfl
  | _ => simp only [DenS] at h; subst h; rfl

inductive SV where
  | one (a : A) | tup (l : List A)
def DenT (ℓ : Nat → Option Loc) : List A → List Value → Prop
  | [], [] => True
  | x :: xs, v :: vs => DenA ℓ x v ∧ DenT ℓ xs vs
  | _, _ => False
theorem DenT.mono {ℓ ℓ' : Nat → Option Loc} (h : Le ℓ ℓ') : ∀ {xs : List A} {vs : List Value}, DenT ℓ xs vs → DenT ℓ' xs vs
  | [], [], _ => trivial
  | _ :: _, _ :: _, ⟨h1, h2⟩ => ⟨h1.mono h, DenT.mono h h2⟩
def DenV (ℓ : Nat → Option Loc) : SV → Value → Prop
  | .one a, v => DenA ℓ a v
  | .tup l, v => ∃ vs : List Value, v = .tuple vs.toArray ∧ DenT ℓ l vs
theorem DenV.mono {ℓ ℓ' : Nat → Option Loc} (h : Le ℓ ℓ') {x : SV} {v : Value} (hd : DenV ℓ x v) : DenV ℓ' x v := by
  cases x with
  | one a => exact DenA.mono h hd
  | tup l => obtain ⟨vs, h1, h2⟩ := hd; exact ⟨vs, h1, h2.mono h⟩

/-- A block of memory that we know of: our own (we may write to it), or one that is only read; 'fix': how many cells are known of it, where that number is fixed. -/
structure Ent where
  own : Bool
  ty : TypeId
  fix : Option Nat
  c : A
/-- A place in the list of blocks: forgotten, not yet there, or known. -/
inductive Mk where
  | gone | hole | ent (e : Ent)
abbrev Mem := List Mk

def Thawed (n : Nat) (fr : Nat × Nat) : Prop := fr.2 ≤ fr.1 ∨ n ≤ fr.1

def EntOK (ℓ : Nat → Option Loc) (w : World) (L : Loc) (e : Ent) : Prop :=
  ((∀ n, e.fix = some n → e.c.len = n) ∧ e.c.OK) ∧
  if e.own = true then
    L.base = 0 ∧ e.c.len ≤ L.lim ∧ (0 < L.lim → ∃ cs fr vs rest, w.heap[L.blk]? = some (.cells cs e.ty fr) ∧ Thawed cs.size fr ∧ cs.size = L.lim ∧ cs.toList = vs ++ rest ∧ DenL ℓ e.c.cells vs)
  else
    ∃ vs, DenL ℓ e.c.cells vs ∧ ∀ (i : Nat) (v : Value), vs[i]? = some v → w.cell? ⟨L.blk, L.base + i, none⟩ = some v

/-- Does an entry speak of a block at all? (A slice without room has none.) -/
def Real (e : Ent) (L : Loc) : Prop := if e.own = true then 0 < L.lim else 0 < e.c.len

/-- The world from which we started, and the blocks of it that we may write to. -/
structure Env where
  w0 : World
  may : Nat → Prop
  anc : Nat → Option Loc

structure MH (E : Env) (ℓ : Nat → Option Loc) (m : Mem) (w : World) : Prop where
  os : w.os = E.w0.os
  tape : w.tape = E.w0.tape
  output : w.output = E.w0.output
  size : E.w0.heap.size ≤ w.heap.size
  keep : ∀ k, k < E.w0.heap.size → ¬ E.may k → w.heap[k]? = E.w0.heap[k]?
  anch : Le E.anc ℓ
  dom : ∀ i, (m.length ≤ i ∨ m[i]? = some .hole) → ℓ i = none
  ent : ∀ (id : Nat) (e : Ent), m[id]? = some (.ent e) → ∃ L, ℓ id = some L ∧ EntOK ℓ w L e ∧ (e.own = true → E.may L.blk ∨ E.w0.heap.size ≤ L.blk)
  apart : ∀ (i j : Nat) (ei ej : Ent) (Li Lj : Loc), m[i]? = some (.ent ei) → m[j]? = some (.ent ej) → ℓ i = some Li → ℓ j = some Lj → ei.own = true → 0 < Li.lim → i ≠ j → Real ej Lj → Li.blk ≠ Lj.blk

section
variable {E : Env} {ℓ : Nat → Option Loc} {m : Mem} {w : World}
theorem EntOK.ok {L : Loc} {e : Ent} (h : EntOK ℓ w L e) : e.c.OK := h.1.2
theorem EntOK.fixed {L : Loc} {e : Ent} (h : EntOK ℓ w L e) {n : Nat} (hn : e.fix = some n) : e.c.len = n := h.1.1 n hn
theorem EntOK.lt {L : Loc} {e : Ent} (h : EntOK ℓ w L e) (he : Real e L) : L.blk < w.heap.size := by
  obtain ⟨⟨_, hok⟩, h⟩ := h
  unfold Real at he
  split at h
  · rename_i ho
    rw [if_pos ho] at he
    obtain ⟨_, _, h⟩ := h
    obtain ⟨cs, fr, vs, rest, hh, _⟩ := h he
    exact (Array.getElem?_eq_some_iff.1 hh).1
  · rename_i ho
    rw [if_neg ho] at he
    obtain ⟨vs, hd, hc⟩ := h
    have hn : 0 < e.c.len := he
    have hl := hd.length
    rw [A.len_cells _ hok] at hl
    exact World.block_lt_of_cell? (a := ⟨L.blk, L.base + 0, none⟩) w (hc 0 (vs[0]'(by omega)) (by simp))

/-- The cells of an entry, all of them. -/
theorem EntOK.row {L : Loc} {e : Ent} (h : EntOK ℓ w L e) :
    ∃ vs, DenL ℓ e.c.cells vs ∧ ∀ (i : Nat) (v : Value), vs[i]? = some v → w.cell? ⟨L.blk, L.base + i, none⟩ = some v := by
  obtain ⟨⟨_, hok⟩, hE⟩ := h
  split at hE
  · obtain ⟨hb, hlim, hE⟩ := hE
    rcases Nat.eq_zero_or_pos L.lim with h0 | h0
    · refine ⟨[], ?_, by simp⟩
      have : e.c.cells = [] := List.eq_nil_of_length_eq_zero (by rw [A.len_cells _ hok]; omega)
      rw [this]; trivial
    obtain ⟨cs, fr, vs, rest, hh, _, _, hcs, hd⟩ := hE h0
    refine ⟨vs, hd, fun i v hv => ?_⟩
    rw [hb, Nat.zero_add, cell_of_row w L.blk i cs e.ty fr hh, ← Array.getElem?_toList, hcs, List.getElem?_append_left (by exact (List.getElem?_eq_some_iff.1 hv).1)]
    exact hv
  · exact hE
/-- One cell of an entry. -/
theorem EntOK.cell {L : Loc} {e : Ent} (h : EntOK ℓ w L e) (hr : e.c.noRec = true) {i : Nat} (hi : i < e.c.len) : ∃ v, w.cell? ⟨L.blk, L.base + i, none⟩ = some v ∧ DenS ℓ (e.c.get i) v := by
  obtain ⟨vs, hd, hc⟩ := h.row
  obtain ⟨v, hv, hdv⟩ := hd.get i _ (A.get_cells e.c i hr hi)
  exact ⟨v, hc i v hv, hdv⟩

theorem EntOK.mono {ℓ' : Nat → Option Loc} (hp : Le ℓ ℓ') {L : Loc} {e : Ent} (h : EntOK ℓ w L e) : EntOK ℓ' w L e := by
  obtain ⟨hf, h⟩ := h
  refine ⟨hf, ?_⟩
  split at h
  · rename_i ho
    obtain ⟨hb, hlim, h⟩ := h
    rw [if_pos ho]
    refine ⟨hb, hlim, fun h0 => ?_⟩
    obtain ⟨cs, fr, vs, rest, hh, h1, h2, hcs, hd⟩ := h h0
    exact ⟨cs, fr, vs, rest, hh, h1, h2, hcs, hd.mono hp⟩
  · rename_i ho
    obtain ⟨vs, hd, hc⟩ := h
    rw [if_neg ho]
    exact ⟨vs, hd.mono hp, hc⟩
/-- An entry stays where the world's block stays. -/
theorem EntOK.of_block {w' : World} {L : Loc} {e : Ent} (h : EntOK ℓ w L e) (hb : Real e L → w'.heap[L.blk]? = w.heap[L.blk]?) : EntOK ℓ w' L e := by
  obtain ⟨hf, h⟩ := h
  refine ⟨hf, ?_⟩
  unfold Real at hb
  split at h
  · rename_i ho
    rw [if_pos ho] at hb ⊢
    obtain ⟨h1, h2, h3⟩ := h
    exact ⟨h1, h2, fun h0 => by rw [hb h0]; exact h3 h0⟩
  · rename_i ho
    obtain ⟨vs, hd, hc⟩ := h
    rw [if_neg ho] at hb ⊢
    refine ⟨vs, hd, fun i v hv => ?_⟩
    have hn : 0 < e.c.len := by rw [← A.len_cells _ hf.2, hd.length]; have := (List.getElem?_eq_some_iff.1 hv).1; omega
    exact (World.cell?_of_block (w := w) (hb hn)).trans (hc i v hv)

/-- A world that differs in its draws alone. -/
theorem MH.of_heap (h : MH E ℓ m w) {w' : World} (hh : w'.heap = w.heap) (hos : w'.os = w.os) (htape : w'.tape = w.tape) (hout : w'.output = w.output) : MH E ℓ m w' :=
  { os := hos.trans h.os, tape := htape.trans h.tape, output := hout.trans h.output, size := by rw [hh]; exact h.size
    keep := fun k hk hm => by rw [hh]; exact h.keep k hk hm
    anch := h.anch
    dom := h.dom
    ent := fun id e hm => let ⟨L, h1, h2, h3⟩ := h.ent id e hm; ⟨L, h1, h2.of_block (fun _ => by rw [hh]), h3⟩
    apart := h.apart }
theorem MH.drew (h : MH E ℓ m w) : MH E ℓ m w.drew := h.of_heap rfl rfl rfl rfl

/-- The place for a new entry: behind the list, or a hole in it. -/
def Fresh (m : Mem) (n : Nat) : Prop := n = m.length ∨ m[n]? = some .hole
def fill (m : Mem) (n : Nat) (e : Ent) : Mem := if n < m.length then m.set n (.ent e) else m ++ [.ent e]
theorem fill_len (m : Mem) (e : Ent) : fill m m.length e = m ++ [.ent e] := by simp [fill]
theorem Fresh.lt {m : Mem} {n : Nat} (h : Fresh m n) : n ≤ m.length := by
  rcases h with h | h
  · omega
  · exact Nat.le_of_lt (List.getElem?_eq_some_iff.1 h).1
theorem fill_get {m : Mem} {n : Nat} (hf : Fresh m n) (e : Ent) (i : Nat) : (fill m n e)[i]? = if i = n then some (.ent e) else m[i]? := by
  unfold fill
  have := hf.lt
  by_cases hn : n < m.length
  · rw [if_pos hn, List.getElem?_set]
    by_cases hi : n = i
    · subst hi; simp [hn]
    · simp [hi, Ne.symm hi]
  · rw [if_neg hn]
    obtain rfl : n = m.length := by omega
    by_cases hi : i = m.length
    · subst hi; simp
    · rw [if_neg hi]
      rcases Nat.lt_or_ge i m.length with h | h
      · rw [List.getElem?_append_left h]
      · rw [List.getElem?_eq_none (by simp; omega), List.getElem?_eq_none (by omega)]
theorem fill_length {m : Mem} {n : Nat} (hf : Fresh m n) (e : Ent) : (fill m n e).length = max m.length (n + 1) := by
  unfold fill
  have := hf.lt
  split
  · simp; omega
  · simp; omega
def upd (ℓ : Nat → Option Loc) (n : Nat) (L : Loc) : Nat → Option Loc := fun i => if i = n then some L else ℓ i
theorem MH.fresh (h : MH E ℓ m w) {n : Nat} (hf : Fresh m n) : ℓ n = none := by
  rcases hf with rfl | hf
  · exact h.dom _ (.inl (Nat.le_refl _))
  · exact h.dom _ (.inr hf)
theorem MH.le_upd (h : MH E ℓ m w) {n : Nat} (hf : Fresh m n) (L : Loc) : Le ℓ (upd ℓ n L) := by
  intro i M hM
  unfold upd
  rw [if_neg (fun hi => by rw [hi, h.fresh hf] at hM; cases hM)]
  exact hM

/-- A new block; the world may have drawn besides. -/
theorem MH.alloc (h : MH E ℓ m w) {n : Nat} (hf : Fresh m n) {w' : World} {cs : Array Value} {ty : TypeId} {fr : Nat × Nat} {fix : Option Nat} {a : A} {vs rest : List Value}
    (hw : w'.heap = w.heap.push (.cells cs ty fr)) (hos : w'.os = w.os) (htape : w'.tape = w.tape) (hout : w'.output = w.output) (hth : Thawed cs.size fr)
    (hfix : ∀ k, fix = some k → a.len = k) (hok : a.OK) (hcs : cs.toList = vs ++ rest) (hd : DenL (upd ℓ n ⟨w.heap.size, 0, cs.size⟩) a.cells vs) :
    MH E (upd ℓ n ⟨w.heap.size, 0, cs.size⟩) (fill m n ⟨true, ty, fix, a⟩) w' := by
  have hold : ∀ k, k < w.heap.size → w'.heap[k]? = w.heap[k]? := fun k hk => by rw [hw, Array.getElem?_push, if_neg (Nat.ne_of_lt hk)]
  have hnew : w'.heap[w.heap.size]? = some (.cells cs ty fr) := by rw [hw]; simp
  have hle := h.le_upd hf ⟨w.heap.size, 0, cs.size⟩
  have hsplit : ∀ {id : Nat} {e : Ent}, (fill m n ⟨true, ty, fix, a⟩)[id]? = some (.ent e) → (id ≠ n ∧ m[id]? = some (.ent e)) ∨ (id = n ∧ e = ⟨true, ty, fix, a⟩) := by
    intro id e he
    rw [fill_get hf] at he
    split at he
    · rename_i hi; simp at he; exact .inr ⟨hi, he.symm⟩
    · rename_i hi; exact .inl ⟨hi, he⟩
  have hlt : ∀ (id : Nat) (e : Ent) (L : Loc), m[id]? = some (.ent e) → ℓ id = some L → Real e L → L.blk < w.heap.size := by
    intro id e L hm hL he
    obtain ⟨L', h1, h2, _⟩ := h.ent id e hm
    obtain rfl := Option.some.inj (h1.symm.trans hL)
    exact h2.lt he
  have hloc : ∀ {id : Nat} {L : Loc}, id ≠ n → (upd ℓ n ⟨w.heap.size, 0, cs.size⟩) id = some L → ℓ id = some L := by
    intro id L hi hL
    unfold upd at hL; rwa [if_neg hi] at hL
  have hlocn : ∀ {L : Loc}, (upd ℓ n ⟨w.heap.size, 0, cs.size⟩) n = some L → L = ⟨w.heap.size, 0, cs.size⟩ := by
    intro L hL
    simp [upd] at hL; exact hL.symm
  refine ⟨hos.trans h.os, htape.trans h.tape, hout.trans h.output, by rw [hw]; simp; exact Nat.le_succ_of_le h.size, fun k hk hm => ?_, h.anch.trans hle, ?_, ?_, ?_⟩
  · rw [hold k (Nat.lt_of_lt_of_le hk h.size)]; exact h.keep k hk hm
  · intro i hi
    rw [fill_length hf, fill_get hf] at hi
    have hin : i ≠ n := by
      rintro rfl
      rcases hi with hi | hi
      · omega
      · simp at hi
    rw [if_neg hin] at hi
    unfold upd; rw [if_neg hin]
    exact h.dom i (hi.imp (fun x => by omega) id)
  · intro id e hm
    rcases hsplit hm with ⟨hi, hm⟩ | ⟨rfl, rfl⟩
    · obtain ⟨L, h1, h2, h3⟩ := h.ent id e hm
      exact ⟨L, hle _ _ h1, (h2.mono hle).of_block (fun he => hold _ (h2.lt he)), h3⟩
    · refine ⟨⟨w.heap.size, 0, cs.size⟩, by simp [upd], ⟨⟨hfix, hok⟩, ?_⟩, fun _ => .inr h.size⟩
      rw [if_pos rfl]
      refine ⟨rfl, ?_, fun _ => ⟨cs, fr, vs, rest, hnew, hth, rfl, hcs, hd⟩⟩
      have h1 := hd.length
      rw [A.len_cells _ hok] at h1
      have h2 : cs.toList.length = cs.size := by simp
      rw [hcs, List.length_append] at h2
      show a.len ≤ cs.size
      omega
  · intro i j ei ej Li Lj hmi hmj hLi hLj ho h0 hne hj
    rcases hsplit hmi with ⟨hi, hmi'⟩ | ⟨hi, hei⟩
    · rcases hsplit hmj with ⟨hj', hmj'⟩ | ⟨hj', hej⟩
      · exact h.apart i j ei ej Li Lj hmi' hmj' (hloc hi hLi) (hloc hj' hLj) ho h0 hne hj
      · rw [hj'] at hLj
        obtain rfl := hlocn hLj
        have := hlt i ei Li hmi' (hloc hi hLi) (by unfold Real; rw [if_pos ho]; exact h0)
        simp; omega
    · rcases hsplit hmj with ⟨hj', hmj'⟩ | ⟨hj', hej⟩
      · rw [hi] at hLi
        obtain rfl := hlocn hLi
        have := hlt j ej Lj hmj' (hloc hj' hLj) hj
        simp; omega
      · exact absurd (hi.trans hj'.symm) hne

/-- An entry of our own, written: its block holds other cells now, all else is as it was. -/
theorem MH.write (h : MH E ℓ m w) {w' : World} {id : Nat} {e : Ent} {L : Loc} {a : A} (hm : m[id]? = some (.ent e)) (hL : ℓ id = some L) (ho : e.own = true)
    (hos : w'.os = w.os) (htape : w'.tape = w.tape) (hout : w'.output = w.output) (hsz : w'.heap.size = w.heap.size)
    (hoth : ∀ k, (0 < L.lim → k ≠ L.blk) → w'.heap[k]? = w.heap[k]?)
    (hE : EntOK ℓ w' L { e with c := a }) : MH E ℓ (m.set id (.ent { e with c := a })) w' := by
  obtain ⟨L', hL', hEold, hmay'⟩ := h.ent id e hm
  obtain rfl := Option.some.inj (hL'.symm.trans hL)
  have hmay := hmay' ho
  have hlt := (List.getElem?_eq_some_iff.1 hm).1
  have hsplit : ∀ {j : Nat} {x : Mk}, (m.set id (.ent { e with c := a }))[j]? = some x → (j ≠ id ∧ m[j]? = some x) ∨ (j = id ∧ x = .ent { e with c := a }) := by
    intro j e' hj
    by_cases hji : id = j
    · subst hji
      rw [List.getElem?_set_self hlt] at hj
      simp at hj
      exact .inr ⟨rfl, hj.symm⟩
    · rw [List.getElem?_set_ne hji] at hj
      exact .inl ⟨fun h => hji h.symm, hj⟩
  refine ⟨hos.trans h.os, htape.trans h.tape, hout.trans h.output, by rw [hsz]; exact h.size, fun k hk hn => ?_, h.anch, ?_, ?_, ?_⟩
  · have hne : k ≠ L'.blk := by rintro rfl; rcases hmay with hmay | hmay; · exact hn hmay
                                · omega
    exact (hoth k (fun _ => hne)).trans (h.keep k hk hn)
  · intro i hi
    refine h.dom i (hi.imp (fun x => by simpa using x) (fun x => ?_))
    rcases hsplit x with ⟨_, x⟩ | ⟨_, x⟩
    · exact x
    · cases x
  · intro j e' hj
    rcases hsplit hj with ⟨hne, hj⟩ | ⟨rfl, hx⟩
    · obtain ⟨Lj, h1, h2, h3⟩ := h.ent j e' hj
      exact ⟨Lj, h1, h2.of_block (fun he => hoth _ (fun h0 hh => h.apart id j e e' L' Lj hm hj hL h1 ho h0 (Ne.symm hne) he hh.symm)), h3⟩
    · cases hx; exact ⟨L', hL, hE, fun _ => hmay⟩
  · intro i j ei ej Li Lj hmi hmj hLi hLj hoi h0i hne hj
    rcases hsplit hmi with ⟨hi, hmi'⟩ | ⟨hi, hei⟩
    · rcases hsplit hmj with ⟨hj', hmj'⟩ | ⟨hj', hej⟩
      · exact h.apart i j ei ej Li Lj hmi' hmj' hLi hLj hoi h0i hne hj
      · exact h.apart i j ei e Li Lj hmi' (hj' ▸ hm) hLi hLj hoi h0i hne (by cases hej; unfold Real at hj ⊢; rw [if_pos ho] at hj ⊢; exact hj)
    · rcases hsplit hmj with ⟨hj', hmj'⟩ | ⟨hj', hej⟩
      · cases hei; exact h.apart i j e ej Li Lj (hi ▸ hm) hmj' hLi hLj ho h0i hne hj
      · exact absurd (hi.trans hj'.symm) hne
/-- Entries forgotten: what is left is among what was. -/
theorem MH.sub (h : MH E ℓ m w) {m' : Mem} (hl : m.length ≤ m'.length) (hs : ∀ (i : Nat) (x : Mk), m'[i]? = some x → x = .gone ∨ m[i]? = some x) : MH E ℓ m' w := by
  have he : ∀ {i : Nat} {e : Ent}, m'[i]? = some (.ent e) → m[i]? = some (.ent e) := fun hi => (hs _ _ hi).resolve_left (by simp)
  exact { h with
    dom := fun i hi => h.dom i (hi.elim (fun x => .inl (by omega)) (fun x => .inr ((hs _ _ x).resolve_left (by simp))))
    ent := fun id e hm => h.ent id e (he hm)
    apart := fun i j ei ej Li Lj hi hj => h.apart i j ei ej Li Lj (he hi) (he hj) }
end
end Go.V
