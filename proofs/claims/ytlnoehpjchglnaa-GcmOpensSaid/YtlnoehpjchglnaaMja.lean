/- Texts of the walks, put together: Va Vb Vc Vd Ve Vf Vg Vh Vi Vj. No condition. -/
import Derived.Orders
import Derived.Tactics
import Derived.Below
import Derived.Laws.Rows
import Derived.Laws.CopyRow
import Derived.Lib.FrozenHead
import Derived.Laws.Entries
import Derived.Laws.Strings
import Derived.IntWalk
import Derived.Laws.MakeOwn
import Derived.Laws.BytesString
import Derived.Deep.AppendSrc
import Derived.Laws.Slices
import Derived.Laws.IdiomCopy
import Derived.ChangeKeysEq
import Derived.Laws.StructEq
section
set_option linter.unusedSimpArgs false
set_option linter.unusedVariables false
namespace Go.V
open Go

/-- One cell's value. -/
inductive S where
  | any | i (n : Int) | b (c : Bool) | u8 (x : BitVec 8) | u16 (x : BitVec 16) | u32 (x : BitVec 32) | u64 (x : BitVec 64)
  | str (l : List (BitVec 8)) | nil | ptr (id base off : Nat) | snil | sl (id off len cap e : Nat) | slq (id off len e : Nat)
  | fn (f : FuncId) (caps : List Nat) | ifc (t : TypeId) (x : S) | ifa (t : TypeId) (x : S) | inil | raw (x : Value)

structure Loc where
  blk : Nat
  base : Nat
  lim : Nat

/-- Locations known stay known. -/
def Le (ℓ ℓ' : Nat → Option Loc) : Prop := ∀ (i : Nat) (L : Loc), ℓ i = some L → ℓ' i = some L
theorem Le.refl (ℓ : Nat → Option Loc) : Le ℓ ℓ := fun _ _ h => h
theorem Le.trans {a b c : Nat → Option Loc} (h : Le a b) (k : Le b c) : Le a c := fun i L x => k i L (h i L x)

def DenS (ℓ : Nat → Option Loc) : S → Value → Prop
  | .any, _ => True
  | .i n, v => v = .int .i64 n
  | .b c, v => v = .bool c
  | .u8 x, v => v = .int .u8 x.toNat
  | .u16 x, v => v = .int .u16 x.toNat
  | .u32 x, v => v = .int .u32 x.toNat
  | .u64 x, v => v = .int .u64 x.toNat
  | .str l, v => ∃ s : ByteArray, v = .string s ∧ s.data.toList.map UInt8.toBitVec = l
  | .nil, v => v = .pointer none
  | .ptr id base off, v => ∃ L, ℓ id = some L ∧ v = .pointer (some ⟨L.blk, L.base + (base + off), none⟩)
  | .snil, v => v = .slice none 0 0
  | .sl id off len cap e, v => ∃ L, ℓ id = some L ∧ len ≤ cap ∧ ((cap = 0 ∧ ∃ a, v = .slice a 0 0) ∨ (off + cap * e ≤ L.lim ∧ v = .slice (some ⟨L.blk, L.base + off, none⟩) len cap))
  | .slq id off len e, v => ∃ L, ℓ id = some L ∧ ∃ cap, len ≤ cap ∧ ((cap = 0 ∧ ∃ a, v = .slice a 0 0) ∨ (off + cap * e ≤ L.lim ∧ v = .slice (some ⟨L.blk, L.base + off, none⟩) len cap))
  | .fn f caps, v => ∃ Ls : List Loc, Ls.map some = caps.map ℓ ∧ v = .func (.func f) #[] (Ls.map (fun L => Value.pointer (some ⟨L.blk, L.base, none⟩))).toArray
  | .ifc t x, v => ∃ u, v = .iface t u ∧ DenS ℓ x u
  | .ifa t x, v => ∃ u, v = .iface t (.agg #[u]) ∧ DenS ℓ x u
  | .inil, v => v = .nilIface
  | .raw x, v => v = x

theorem DenS.mono {ℓ ℓ' : Nat → Option Loc} (h : Le ℓ ℓ') : ∀ {x : S} {v : Value}, DenS ℓ x v → DenS ℓ' x v := by
  intro x
  induction x with
  | ptr id base off => rintro v ⟨L, h1, h2⟩; exact ⟨L, h _ _ h1, h2⟩
  | sl id off len cap e => rintro v ⟨L, h1, h2⟩; exact ⟨L, h _ _ h1, h2⟩
  | slq id off len e => rintro v ⟨L, h1, h2⟩; exact ⟨L, h _ _ h1, h2⟩
  | fn f caps =>
    rintro v ⟨Ls, h1, h2⟩
    refine ⟨Ls, ?_, h2⟩
    clear h2
    induction caps generalizing Ls with
    | nil => simpa using h1
    | cons c cs ih =>
      cases Ls with
      | nil => simp at h1
      | cons L Ls =>
        simp only [List.map_cons, List.cons.injEq] at h1 ⊢
        exact ⟨(h _ _ h1.1.symm).symm, ih Ls h1.2⟩
  | ifc t x ih => rintro v ⟨u, h1, h2⟩; exact ⟨u, h1, ih h2⟩
  | ifa t x ih => rintro v ⟨u, h1, h2⟩; exact ⟨u, h1, ih h2⟩
  | any => intro v h; trivial
  | _ => intro v h; exact h

def DenL (ℓ : Nat → Option Loc) : List S → List Value → Prop
  | [], [] => True
  | x :: xs, v :: vs => DenS ℓ x v ∧ DenL ℓ xs vs
  | _, _ => False

section
variable {ℓ ℓ' : Nat → Option Loc}
theorem DenL.mono (h : Le ℓ ℓ') : ∀ {xs : List S} {vs : List Value}, DenL ℓ xs vs → DenL ℓ' xs vs
  | [], [], _ => trivial
  | _ :: _, _ :: _, ⟨h1, h2⟩ => ⟨h1.mono h, DenL.mono h h2⟩
theorem DenL.length : ∀ {xs : List S} {vs : List Value}, DenL ℓ xs vs → xs.length = vs.length
  | [], [], _ => rfl
  | _ :: xs, _ :: vs, ⟨_, h⟩ => by simp [DenL.length h]
theorem DenL.get : ∀ {xs : List S} {vs : List Value} (i : Nat) (x : S), DenL ℓ xs vs → xs[i]? = some x → ∃ v, vs[i]? = some v ∧ DenS ℓ x v
  | [], [], i, x, _, h => by simp at h
  | y :: xs, v :: vs, 0, x, ⟨h1, _⟩, h => by simp at h; subst h; exact ⟨v, rfl, h1⟩
  | y :: xs, v :: vs, i + 1, x, ⟨_, h2⟩, h => by simpa using DenL.get i x h2 (by simpa using h)
theorem DenL.getv : ∀ {xs : List S} {vs : List Value} (i : Nat) (v : Value), DenL ℓ xs vs → vs[i]? = some v → ∃ x, xs[i]? = some x ∧ DenS ℓ x v
  | [], [], i, x, _, h => by simp at h
  | y :: xs, v :: vs, 0, x, ⟨h1, _⟩, h => by simp at h; subst h; exact ⟨y, rfl, h1⟩
  | y :: xs, v :: vs, i + 1, x, ⟨_, h2⟩, h => by simpa using DenL.getv i x h2 (by simpa using h)
theorem DenL.set : ∀ {xs : List S} {vs : List Value} (i : Nat) (x : S) (v : Value), DenL ℓ xs vs → DenS ℓ x v → DenL ℓ (xs.set i x) (vs.set i v)
  | [], [], i, x, v, _, _ => trivial
  | y :: xs, u :: vs, 0, x, v, ⟨_, h2⟩, h => ⟨h, h2⟩
  | y :: xs, u :: vs, i + 1, x, v, ⟨h1, h2⟩, h => ⟨h1, DenL.set i x v h2 h⟩
theorem DenL.take : ∀ {xs : List S} {vs : List Value} (n : Nat), DenL ℓ xs vs → DenL ℓ (xs.take n) (vs.take n)
  | _, _, 0, _ => by simp [DenL]
  | [], [], n + 1, _ => trivial
  | y :: xs, v :: vs, n + 1, ⟨h1, h2⟩ => ⟨h1, DenL.take n h2⟩
theorem DenL.drop : ∀ {xs : List S} {vs : List Value} (n : Nat), DenL ℓ xs vs → DenL ℓ (xs.drop n) (vs.drop n)
  | _, _, 0, h => h
  | [], [], n + 1, _ => trivial
  | y :: xs, v :: vs, n + 1, ⟨h1, h2⟩ => DenL.drop n h2
theorem DenL.append : ∀ {xs : List S} {vs : List Value} {ys : List S} {us : List Value}, DenL ℓ xs vs → DenL ℓ ys us → DenL ℓ (xs ++ ys) (vs ++ us)
  | [], [], _, _, _, h => h
  | y :: xs, v :: vs, _, _, ⟨h1, h2⟩, h => ⟨h1, DenL.append h2 h⟩
theorem DenL.mk {xs : List S} {vs : List Value} (hl : xs.length = vs.length) (h : ∀ (i : Nat) (x : S) (v : Value), xs[i]? = some x → vs[i]? = some v → DenS ℓ x v) : DenL ℓ xs vs := by
  induction xs generalizing vs with
  | nil => cases vs with
    | nil => trivial
    | cons => simp at hl
  | cons y xs ih => cases vs with
    | nil => simp at hl
    | cons v vs => exact ⟨h 0 y v rfl rfl, ih (by simpa using hl) (fun i x v hx hv => h (i + 1) x v (by simpa using hx) (by simpa using hv))⟩
end

/-- A field of a struct: one cell, or a row of cells of one kind. -/
inductive R where
  | s (x : S) | a8 (l : List (BitVec 8)) | a32 (l : List (BitVec 32)) | a64 (l : List (BitVec 64)) | ai (l : List Int) | ab (l : List Bool) | agg (l : List S)
structure Seg where
  n : Nat
  r : R
/-- A slot's value or a block's content: one cell, a row of cells (typed where all its cells are of one kind), or a struct, field by field. -/
inductive A where
  | s (x : S) | a8 (l : List (BitVec 8)) | a32 (l : List (BitVec 32)) | a64 (l : List (BitVec 64)) | ai (l : List Int) | ab (l : List Bool) | agg (l : List S) | st (l : List Seg)

def R.a : R → A
  | .s x => .s x | .a8 l => .a8 l | .a32 l => .a32 l | .a64 l => .a64 l | .ai l => .ai l | .ab l => .ab l | .agg l => .agg l
def A.r : A → Option R
  | .s x => some (.s x) | .a8 l => some (.a8 l) | .a32 l => some (.a32 l) | .a64 l => some (.a64 l) | .ai l => some (.ai l) | .ab l => some (.ab l) | .agg l => some (.agg l) | .st _ => none
theorem A.r_a {a : A} {r : R} (h : a.r = some r) : r.a = a := by cases a <;> simp [A.r] at h <;> subst h <;> rfl
def R.cells : R → List S
  | .s x => [x]
  | .a8 l => l.map .u8
  | .a32 l => l.map .u32
  | .a64 l => l.map .u64
  | .ai l => l.map .i
  | .ab l => l.map .b
  | .agg l => l
def R.len : R → Nat
  | .s _ => 1
  | .a8 l => l.length
  | .a32 l => l.length
  | .a64 l => l.length
  | .ai l => l.length
  | .ab l => l.length
  | .agg l => l.length
theorem R.len_cells (a : R) : a.cells.length = a.len := by cases a <;> simp [R.cells, R.len]
def segCells : List Seg → List S
  | [] => []
  | g :: l => g.r.cells ++ segCells l
def segLen : List Seg → Nat
  | [] => 0
  | g :: l => g.n + segLen l
def SegOK : List Seg → Prop
  | [] => True
  | g :: l => g.r.len = g.n ∧ SegOK l
theorem segLen_cells : ∀ {l : List Seg}, SegOK l → (segCells l).length = segLen l
  | [], _ => rfl
  | g :: l, ⟨h1, h2⟩ => by simp [segCells, segLen, segLen_cells h2, R.len_cells, h1]
def A.cells : A → List S
  | .s x => [x]
  | .a8 l => l.map .u8
  | .a32 l => l.map .u32
  | .a64 l => l.map .u64
  | .ai l => l.map .i
  | .ab l => l.map .b
  | .agg l => l
  | .st l => segCells l
def A.len : A → Nat
  | .s _ => 1
  | .a8 l => l.length
  | .a32 l => l.length
  | .a64 l => l.length
  | .ai l => l.length
  | .ab l => l.length
  | .agg l => l.length
  | .st l => segLen l
def A.OK : A → Prop
  | .st l => SegOK l
  | _ => True
theorem A.len_cells (a : A) (h : a.OK) : a.cells.length = a.len := by cases a <;> simp [A.cells, A.len]; exact segLen_cells h
theorem R.a_cells (r : R) : r.a.cells = r.cells := by cases r <;> rfl
theorem R.a_len (r : R) : r.a.len = r.len := by cases r <;> rfl
theorem R.a_OK (r : R) : r.a.OK := by cases r <;> trivial
/-- A plain row: typed cells in a row. -/
def A.isRow : A → Bool
  | .s _ => false
  | .st _ => false
  | _ => true
theorem A.row_OK {a : A} (h : a.isRow = true) : a.OK := by cases a <;> first | trivial | cases h
def A.get : A → Nat → S
  | .s x, _ => x
  | .a8 l, i => .u8 (l.getD i 0)
  | .a32 l, i => .u32 (l.getD i 0)
  | .a64 l, i => .u64 (l.getD i 0)
  | .ai l, i => .i (l.getD i 0)
  | .ab l, i => .b (l.getD i false)
  | .agg l, i => l.getD i .any
  | .st _, _ => .any
def A.noRec : A → Bool
  | .st _ => false
  | _ => true
theorem A.noRec_OK {a : A} (h : a.noRec = true) : a.OK := by cases a <;> first | trivial | cases h
theorem A.get_cells (a : A) (i : Nat) (hr : a.noRec = true) (h : i < a.len) : a.cells[i]? = some (a.get i) := by
  cases a <;> first | (cases hr; done) | (simp only [A.len] at h; simp [A.cells, A.get, List.getD, h])
def A.sub : A → Nat → Nat → A
  | .s x, _, _ => .s x
  | .a8 l, o, n => .a8 ((l.drop o).take n)
  | .a32 l, o, n => .a32 ((l.drop o).take n)
  | .a64 l, o, n => .a64 ((l.drop o).take n)
  | .ai l, o, n => .ai ((l.drop o).take n)
  | .ab l, o, n => .ab ((l.drop o).take n)
  | .agg l, o, n => .agg ((l.drop o).take n)
  | .st l, _, _ => .st l
theorem A.sub_cells (a : A) (o n : Nat) (h : a.isRow = true) : (a.sub o n).cells = (a.cells.drop o).take n := by
  cases a <;> simp [A.isRow] at h <;> simp [A.sub, A.cells]
theorem A.sub_row (a : A) (o n : Nat) : (a.sub o n).isRow = a.isRow := by cases a <;> rfl
/-- A cell written. -/
def A.set : A → Nat → S → Option A
  | .s _, _, x => some (.s x)
  | .a8 l, i, .u8 x => some (.a8 (l.set i x))
  | .a32 l, i, .u32 x => some (.a32 (l.set i x))
  | .a64 l, i, .u64 x => some (.a64 (l.set i x))
  | .ai l, i, .i x => some (.ai (l.set i x))
  | .ab l, i, .b x => some (.ab (l.set i x))
  | .agg l, i, x => some (.agg (l.set i x))
  | _, _, _ => none
theorem A.set_cells {a a' : A} {i : Nat} {x : S} (h : a.set i x = some a') (hi : i < a.len) : a'.cells = a.cells.set i x := by
  cases a <;> cases x <;> simp [A.set] at h <;> subst h <;> simp [A.cells, List.map_set] <;> simp only [A.len] at hi <;> (try (obtain rfl : i = 0 := by omega); simp)
theorem A.set_len {a a' : A} {i : Nat} {x : S} (h : a.set i x = some a') : a'.len = a.len ∧ a'.noRec = true ∧ a.noRec = true := by
  cases a <;> cases x <;> simp [A.set] at h <;> subst h <;> simp [A.len, A.noRec]
/-- A row written over a part of a row: the same kind of both. -/
def A.over : A → Nat → A → Option A
  | .a8 l, o, .a8 r => some (.a8 (l.take o ++ r ++ l.drop (o + r.length)))
  | .a32 l, o, .a32 r => some (.a32 (l.take o ++ r ++ l.drop (o + r.length)))
  | .a64 l, o, .a64 r => some (.a64 (l.take o ++ r ++ l.drop (o + r.length)))
  | .ai l, o, .ai r => some (.ai (l.take o ++ r ++ l.drop (o + r.length)))
  | .ab l, o, .ab r => some (.ab (l.take o ++ r ++ l.drop (o + r.length)))
  | .agg l, o, .agg r => some (.agg (l.take o ++ r ++ l.drop (o + r.length)))
  | _, _, _ => none
theorem A.over_cells {a a' r : A} {o : Nat} (h : a.over o r = some a') : a'.cells = a.cells.take o ++ r.cells ++ a.cells.drop (o + r.len) := by
  cases a <;> cases r <;> simp [A.over] at h <;> subst h <;> simp [A.cells, A.len]
theorem A.over_row {a a' r : A} {o : Nat} (h : a.over o r = some a') : a.isRow = true ∧ r.isRow = true ∧ a'.isRow = true := by
  cases a <;> cases r <;> simp [A.over] at h <;> subst h <;> simp [A.isRow]
/-- A row put behind a row. -/
def A.cat : A → A → Option A
  | .a8 l, .a8 r => some (.a8 (l ++ r))
  | .a32 l, .a32 r => some (.a32 (l ++ r))
  | .a64 l, .a64 r => some (.a64 (l ++ r))
  | .ai l, .ai r => some (.ai (l ++ r))
  | .ab l, .ab r => some (.ab (l ++ r))
  | .agg l, .agg r => some (.agg (l ++ r))
  | _, _ => none
theorem A.cat_cells {a a' r : A} (h : a.cat r = some a') : a'.cells = a.cells ++ r.cells := by
  cases a <;> cases r <;> simp [A.cat] at h <;> subst h <;> simp [A.cells]
theorem A.cat_row {a a' r : A} (h : a.cat r = some a') : a.isRow = true ∧ r.isRow = true ∧ a'.isRow = true ∧ a'.len = a.len + r.len := by
  cases a <;> cases r <;> simp [A.cat] at h <;> subst h <;> simp [A.isRow, A.len]

/-- The field that begins at a cell, and how many cells lie ahead of it. -/
def segAt : List Seg → Nat → Option R
  | [], _ => none
  | g :: l, b => if b = 0 then some g.r else if g.n ≤ b then segAt l (b - g.n) else none
theorem segAt_cells : ∀ {l : List Seg} {b : Nat} {r : R}, SegOK l → segAt l b = some r → ∃ pre post, segCells l = pre ++ r.cells ++ post ∧ pre.length = b
  | [], b, r, _, h => by simp [segAt] at h
  | g :: l, b, r, ⟨h1, h2⟩, h => by
    unfold segAt at h
    split at h
    · simp at h; subst h; exact ⟨[], segCells l, by simp [segCells], by simp [*]⟩
    · split at h
      · rename_i hb hle
        obtain ⟨pre, post, he, hl⟩ := segAt_cells h2 h
        exact ⟨g.r.cells ++ pre, post, by simp [segCells, he], by simp [R.len_cells, h1, hl]; omega⟩
      · cases h
/-- A field written. -/
def segPut : List Seg → Nat → R → Option (List Seg)
  | [], _, _ => none
  | g :: l, b, r => if b = 0 then some (⟨g.n, r⟩ :: l) else if g.n ≤ b then (segPut l (b - g.n) r).map (g :: ·) else none
theorem segPut_cells : ∀ {l l' : List Seg} {b : Nat} {r r0 : R}, SegOK l → segAt l b = some r0 → segPut l b r = some l' → r.len = r0.len →
    SegOK l' ∧ ∃ pre post, segCells l = pre ++ r0.cells ++ post ∧ segCells l' = pre ++ r.cells ++ post ∧ pre.length = b ∧ segLen l' = segLen l
  | [], l', b, r, r0, _, h, _, _ => by simp [segAt] at h
  | g :: l, l', b, r, r0, ⟨h1, h2⟩, h, hp, hl => by
    unfold segAt at h
    unfold segPut at hp
    split at h
    · rename_i hb
      rw [if_pos hb] at hp
      simp at h hp; subst h hp
      exact ⟨⟨by simpa [hl] using h1, h2⟩, [], segCells l, by simp [segCells], by simp [segCells], by simp [hb], by simp [segLen]⟩
    · rename_i hb
      rw [if_neg hb] at hp
      split at h
      · rename_i hle
        rw [if_pos hle, Option.map_eq_some_iff] at hp
        obtain ⟨l'', hp, rfl⟩ := hp
        obtain ⟨h3, pre, post, he, he', hl', hs⟩ := segPut_cells h2 h hp hl
        exact ⟨⟨h1, h3⟩, g.r.cells ++ pre, post, by simp [segCells, he], by simp [segCells, he'], by simp [R.len_cells, h1, hl']; omega, by simp [segLen, hs]⟩
      · cases h

def DenA (ℓ : Nat → Option Loc) : A → Value → Prop
  | .s x, v => DenS ℓ x v
  | a, v => a.OK ∧ ∃ vs : List Value, v = .agg vs.toArray ∧ DenL ℓ a.cells vs
theorem DenA.mono {ℓ ℓ' : Nat → Option Loc} (h : Le ℓ ℓ') {a : A} {v : Value} (hd : DenA ℓ a v) : DenA ℓ' a v := by
  cases a with
  | s x => exact DenS.mono h hd
  | _ => obtain ⟨h0, vs, h1, h2⟩ := hd; exact ⟨h0, vs, h1, h2.mono h⟩
/-- More cells than one: a row or a struct. -/
def A.isAgg : A → Bool
  | .s _ => false
  | _ => true
theorem A.row_agg {a : A} (h : a.isRow = true) : a.isAgg = true := by cases a <;> first | rfl | cases h
theorem DenA.agg {ℓ : Nat → Option Loc} {a : A} {v : Value} (hr : a.isAgg = true) : DenA ℓ a v ↔ a.OK ∧ ∃ vs : List Value, v = .agg vs.toArray ∧ DenL ℓ a.cells vs := by
  cases a <;> simp [A.isAgg] at hr <;> rfl
theorem DenA.row {ℓ : Nat → Option Loc} {a : A} {v : Value} (hr : a.isRow = true) : DenA ℓ a v ↔ ∃ vs : List Value, v = .agg vs.toArray ∧ DenL ℓ a.cells vs := by
  rw [DenA.agg (A.row_agg hr)]
  exact ⟨fun h => h.2, fun h => ⟨A.row_OK hr, h⟩⟩

/-- What a value of one cell that is known looks like: no row. -/
theorem DenS.oneCell {ℓ : Nat → Option Loc} {x : S} {v : Value} (h : DenS ℓ x v) (hx : x ≠ .any) (hr : ∀ r, x = .raw r → r.oneCell' = true) : v.oneCell' = true := by
  cases x with
  | any => exact absurd rfl hx
  | raw r => simp only [DenS] at h; subst h; exact hr _ rfl
  | str l => obtain ⟨s, rfl, _⟩ := h; rfl
  | ptr id base off => obtain ⟨L, _, rfl⟩ := h; rfl
  | sl id off len cap e => obtain ⟨L, _, _, h | h⟩ := h; · obtain ⟨_, _, rfl⟩ := h; rfl
                           · obtain ⟨_, rfl⟩ := h; rfl
  | slq id off len e => obtain ⟨L, _, _, _, h | h⟩ := h; · obtain ⟨_, _, rfl⟩ := h; rfl
                        · obtain ⟨_, rfl⟩ := h; rfl
  | fn f caps => obtain ⟨Ls, _, rfl⟩ := h; rfl
  | ifc t x => obtain ⟨u, rfl, _⟩ := h; rfl
  | ifa t x => obtain ⟨u, rfl, _⟩ := h; rfl
  | _ => simp only [DenS] at h; subst h; rfl

inductive SV where
  | one (a : A) | tup (l : List A)
def DenT (ℓ : Nat → Option Loc) : List A → List Value → Prop
  | [], [] => True
  | x :: xs, v :: vs => DenA ℓ x v ∧ DenT ℓ xs vs
  | _, _ => False
theorem DenT.mono {ℓ ℓ' : Nat → Option Loc} (h : Le ℓ ℓ') : ∀ {xs : List A} {vs : List Value}, DenT ℓ xs vs → DenT ℓ' xs vs
  | [], [], _ => trivial
  | _ :: _, _ :: _, ⟨h1, h2⟩ => ⟨h1.mono h, DenT.mono h h2⟩
def DenV (ℓ : Nat → Option Loc) : SV → Value → Prop
  | .one a, v => DenA ℓ a v
  | .tup l, v => ∃ vs : List Value, v = .tuple vs.toArray ∧ DenT ℓ l vs
theorem DenV.mono {ℓ ℓ' : Nat → Option Loc} (h : Le ℓ ℓ') {x : SV} {v : Value} (hd : DenV ℓ x v) : DenV ℓ' x v := by
  cases x with
  | one a => exact DenA.mono h hd
  | tup l => obtain ⟨vs, h1, h2⟩ := hd; exact ⟨vs, h1, h2.mono h⟩

/-- A block of memory that we know of: our own (we may write to it), or one that is only read; 'fix': how many cells are known of it, where that number is fixed. -/
structure Ent where
  own : Bool
  ty : TypeId
  fix : Option Nat
  c : A
/-- A place in the list of blocks: forgotten, not yet there, or known. -/
inductive Mk where
  | gone | hole | ent (e : Ent)
abbrev Mem := List Mk

def Thawed (n : Nat) (fr : Nat × Nat) : Prop := fr.2 ≤ fr.1 ∨ n ≤ fr.1

def EntOK (ℓ : Nat → Option Loc) (w : World) (L : Loc) (e : Ent) : Prop :=
  ((∀ n, e.fix = some n → e.c.len = n) ∧ e.c.OK) ∧
  if e.own = true then
    L.base = 0 ∧ e.c.len ≤ L.lim ∧ (0 < L.lim → ∃ cs fr vs rest, w.heap[L.blk]? = some (.cells cs e.ty fr) ∧ Thawed cs.size fr ∧ cs.size = L.lim ∧ cs.toList = vs ++ rest ∧ DenL ℓ e.c.cells vs)
  else
    ∃ vs, DenL ℓ e.c.cells vs ∧ ∀ (i : Nat) (v : Value), vs[i]? = some v → w.cell? ⟨L.blk, L.base + i, none⟩ = some v

/-- Does an entry speak of a block at all? (A slice without room has none.) -/
def Real (e : Ent) (L : Loc) : Prop := if e.own = true then 0 < L.lim else 0 < e.c.len

/-- The world from which we started, and the blocks of it that we may write to. -/
structure Env where
  w0 : World
  may : Nat → Prop
  anc : Nat → Option Loc

structure MH (E : Env) (ℓ : Nat → Option Loc) (m : Mem) (w : World) : Prop where
  os : w.os = E.w0.os
  tape : w.tape = E.w0.tape
  output : w.output = E.w0.output
  size : E.w0.heap.size ≤ w.heap.size
  keep : ∀ k, k < E.w0.heap.size → ¬ E.may k → w.heap[k]? = E.w0.heap[k]?
  anch : Le E.anc ℓ
  dom : ∀ i, (m.length ≤ i ∨ m[i]? = some .hole) → ℓ i = none
  ent : ∀ (id : Nat) (e : Ent), m[id]? = some (.ent e) → ∃ L, ℓ id = some L ∧ EntOK ℓ w L e ∧ (e.own = true → E.may L.blk ∨ E.w0.heap.size ≤ L.blk)
  apart : ∀ (i j : Nat) (ei ej : Ent) (Li Lj : Loc), m[i]? = some (.ent ei) → m[j]? = some (.ent ej) → ℓ i = some Li → ℓ j = some Lj → ei.own = true → 0 < Li.lim → i ≠ j → Real ej Lj → Li.blk ≠ Lj.blk

section
variable {E : Env} {ℓ : Nat → Option Loc} {m : Mem} {w : World}
theorem EntOK.ok {L : Loc} {e : Ent} (h : EntOK ℓ w L e) : e.c.OK := h.1.2
theorem EntOK.fixed {L : Loc} {e : Ent} (h : EntOK ℓ w L e) {n : Nat} (hn : e.fix = some n) : e.c.len = n := h.1.1 n hn
theorem EntOK.lt {L : Loc} {e : Ent} (h : EntOK ℓ w L e) (he : Real e L) : L.blk < w.heap.size := by
  obtain ⟨⟨_, hok⟩, h⟩ := h
  unfold Real at he
  split at h
  · rename_i ho
    rw [if_pos ho] at he
    obtain ⟨_, _, h⟩ := h
    obtain ⟨cs, fr, vs, rest, hh, _⟩ := h he
    exact (Array.getElem?_eq_some_iff.1 hh).1
  · rename_i ho
    rw [if_neg ho] at he
    obtain ⟨vs, hd, hc⟩ := h
    have hn : 0 < e.c.len := he
    have hl := hd.length
    rw [A.len_cells _ hok] at hl
    exact World.block_lt_of_cell? (a := ⟨L.blk, L.base + 0, none⟩) w (hc 0 (vs[0]'(by omega)) (by simp))

/-- The cells of an entry, all of them. -/
theorem EntOK.row {L : Loc} {e : Ent} (h : EntOK ℓ w L e) :
    ∃ vs, DenL ℓ e.c.cells vs ∧ ∀ (i : Nat) (v : Value), vs[i]? = some v → w.cell? ⟨L.blk, L.base + i, none⟩ = some v := by
  obtain ⟨⟨_, hok⟩, hE⟩ := h
  split at hE
  · obtain ⟨hb, hlim, hE⟩ := hE
    rcases Nat.eq_zero_or_pos L.lim with h0 | h0
    · refine ⟨[], ?_, by simp⟩
      have : e.c.cells = [] := List.eq_nil_of_length_eq_zero (by rw [A.len_cells _ hok]; omega)
      rw [this]; trivial
    obtain ⟨cs, fr, vs, rest, hh, _, _, hcs, hd⟩ := hE h0
    refine ⟨vs, hd, fun i v hv => ?_⟩
    rw [hb, Nat.zero_add, cell_of_row w L.blk i cs e.ty fr hh, ← Array.getElem?_toList, hcs, List.getElem?_append_left (by exact (List.getElem?_eq_some_iff.1 hv).1)]
    exact hv
  · exact hE
/-- One cell of an entry. -/
theorem EntOK.cell {L : Loc} {e : Ent} (h : EntOK ℓ w L e) (hr : e.c.noRec = true) {i : Nat} (hi : i < e.c.len) : ∃ v, w.cell? ⟨L.blk, L.base + i, none⟩ = some v ∧ DenS ℓ (e.c.get i) v := by
  obtain ⟨vs, hd, hc⟩ := h.row
  obtain ⟨v, hv, hdv⟩ := hd.get i _ (A.get_cells e.c i hr hi)
  exact ⟨v, hc i v hv, hdv⟩

theorem EntOK.mono {ℓ' : Nat → Option Loc} (hp : Le ℓ ℓ') {L : Loc} {e : Ent} (h : EntOK ℓ w L e) : EntOK ℓ' w L e := by
  obtain ⟨hf, h⟩ := h
  refine ⟨hf, ?_⟩
  split at h
  · rename_i ho
    obtain ⟨hb, hlim, h⟩ := h
    rw [if_pos ho]
    refine ⟨hb, hlim, fun h0 => ?_⟩
    obtain ⟨cs, fr, vs, rest, hh, h1, h2, hcs, hd⟩ := h h0
    exact ⟨cs, fr, vs, rest, hh, h1, h2, hcs, hd.mono hp⟩
  · rename_i ho
    obtain ⟨vs, hd, hc⟩ := h
    rw [if_neg ho]
    exact ⟨vs, hd.mono hp, hc⟩
/-- An entry stays where the world's block stays. -/
theorem EntOK.of_block {w' : World} {L : Loc} {e : Ent} (h : EntOK ℓ w L e) (hb : Real e L → w'.heap[L.blk]? = w.heap[L.blk]?) : EntOK ℓ w' L e := by
  obtain ⟨hf, h⟩ := h
  refine ⟨hf, ?_⟩
  unfold Real at hb
  split at h
  · rename_i ho
    rw [if_pos ho] at hb ⊢
    obtain ⟨h1, h2, h3⟩ := h
    exact ⟨h1, h2, fun h0 => by rw [hb h0]; exact h3 h0⟩
  · rename_i ho
    obtain ⟨vs, hd, hc⟩ := h
    rw [if_neg ho] at hb ⊢
    refine ⟨vs, hd, fun i v hv => ?_⟩
    have hn : 0 < e.c.len := by rw [← A.len_cells _ hf.2, hd.length]; have := (List.getElem?_eq_some_iff.1 hv).1; omega
    exact (World.cell?_of_block (w := w) (hb hn)).trans (hc i v hv)

/-- A world that differs in its draws alone. -/
theorem MH.of_heap (h : MH E ℓ m w) {w' : World} (hh : w'.heap = w.heap) (hos : w'.os = w.os) (htape : w'.tape = w.tape) (hout : w'.output = w.output) : MH E ℓ m w' :=
  { os := hos.trans h.os, tape := htape.trans h.tape, output := hout.trans h.output, size := by rw [hh]; exact h.size
    keep := fun k hk hm => by rw [hh]; exact h.keep k hk hm
    anch := h.anch
    dom := h.dom
    ent := fun id e hm => let ⟨L, h1, h2, h3⟩ := h.ent id e hm; ⟨L, h1, h2.of_block (fun _ => by rw [hh]), h3⟩
    apart := h.apart }
theorem MH.drew (h : MH E ℓ m w) : MH E ℓ m w.drew := h.of_heap rfl rfl rfl rfl

/-- The place for a new entry: behind the list, or a hole in it. -/
def Fresh (m : Mem) (n : Nat) : Prop := n = m.length ∨ m[n]? = some .hole
def fill (m : Mem) (n : Nat) (e : Ent) : Mem := if n < m.length then m.set n (.ent e) else m ++ [.ent e]
theorem fill_len (m : Mem) (e : Ent) : fill m m.length e = m ++ [.ent e] := by simp [fill]
theorem Fresh.lt {m : Mem} {n : Nat} (h : Fresh m n) : n ≤ m.length := by
  rcases h with h | h
  · omega
  · exact Nat.le_of_lt (List.getElem?_eq_some_iff.1 h).1
theorem fill_get {m : Mem} {n : Nat} (hf : Fresh m n) (e : Ent) (i : Nat) : (fill m n e)[i]? = if i = n then some (.ent e) else m[i]? := by
  unfold fill
  have := hf.lt
  by_cases hn : n < m.length
  · rw [if_pos hn, List.getElem?_set]
    by_cases hi : n = i
    · subst hi; simp [hn]
    · simp [hi, Ne.symm hi]
  · rw [if_neg hn]
    obtain rfl : n = m.length := by omega
    by_cases hi : i = m.length
    · subst hi; simp
    · rw [if_neg hi]
      rcases Nat.lt_or_ge i m.length with h | h
      · rw [List.getElem?_append_left h]
      · rw [List.getElem?_eq_none (by simp; omega), List.getElem?_eq_none (by omega)]
theorem fill_length {m : Mem} {n : Nat} (hf : Fresh m n) (e : Ent) : (fill m n e).length = max m.length (n + 1) := by
  unfold fill
  have := hf.lt
  split
  · simp; omega
  · simp; omega
def upd (ℓ : Nat → Option Loc) (n : Nat) (L : Loc) : Nat → Option Loc := fun i => if i = n then some L else ℓ i
theorem MH.fresh (h : MH E ℓ m w) {n : Nat} (hf : Fresh m n) : ℓ n = none := by
  rcases hf with rfl | hf
  · exact h.dom _ (.inl (Nat.le_refl _))
  · exact h.dom _ (.inr hf)
theorem MH.le_upd (h : MH E ℓ m w) {n : Nat} (hf : Fresh m n) (L : Loc) : Le ℓ (upd ℓ n L) := by
  intro i M hM
  unfold upd
  rw [if_neg (fun hi => by rw [hi, h.fresh hf] at hM; cases hM)]
  exact hM

/-- A new block; the world may have drawn besides. -/
theorem MH.alloc (h : MH E ℓ m w) {n : Nat} (hf : Fresh m n) {w' : World} {cs : Array Value} {ty : TypeId} {fr : Nat × Nat} {fix : Option Nat} {a : A} {vs rest : List Value}
    (hw : w'.heap = w.heap.push (.cells cs ty fr)) (hos : w'.os = w.os) (htape : w'.tape = w.tape) (hout : w'.output = w.output) (hth : Thawed cs.size fr)
    (hfix : ∀ k, fix = some k → a.len = k) (hok : a.OK) (hcs : cs.toList = vs ++ rest) (hd : DenL (upd ℓ n ⟨w.heap.size, 0, cs.size⟩) a.cells vs) :
    MH E (upd ℓ n ⟨w.heap.size, 0, cs.size⟩) (fill m n ⟨true, ty, fix, a⟩) w' := by
  have hold : ∀ k, k < w.heap.size → w'.heap[k]? = w.heap[k]? := fun k hk => by rw [hw, Array.getElem?_push, if_neg (Nat.ne_of_lt hk)]
  have hnew : w'.heap[w.heap.size]? = some (.cells cs ty fr) := by rw [hw]; simp
  have hle := h.le_upd hf ⟨w.heap.size, 0, cs.size⟩
  have hsplit : ∀ {id : Nat} {e : Ent}, (fill m n ⟨true, ty, fix, a⟩)[id]? = some (.ent e) → (id ≠ n ∧ m[id]? = some (.ent e)) ∨ (id = n ∧ e = ⟨true, ty, fix, a⟩) := by
    intro id e he
    rw [fill_get hf] at he
    split at he
    · rename_i hi; simp at he; exact .inr ⟨hi, he.symm⟩
    · rename_i hi; exact .inl ⟨hi, he⟩
  have hlt : ∀ (id : Nat) (e : Ent) (L : Loc), m[id]? = some (.ent e) → ℓ id = some L → Real e L → L.blk < w.heap.size := by
    intro id e L hm hL he
    obtain ⟨L', h1, h2, _⟩ := h.ent id e hm
    obtain rfl := Option.some.inj (h1.symm.trans hL)
    exact h2.lt he
  have hloc : ∀ {id : Nat} {L : Loc}, id ≠ n → (upd ℓ n ⟨w.heap.size, 0, cs.size⟩) id = some L → ℓ id = some L := by
    intro id L hi hL
    unfold upd at hL; rwa [if_neg hi] at hL
  have hlocn : ∀ {L : Loc}, (upd ℓ n ⟨w.heap.size, 0, cs.size⟩) n = some L → L = ⟨w.heap.size, 0, cs.size⟩ := by
    intro L hL
    simp [upd] at hL; exact hL.symm
  refine ⟨hos.trans h.os, htape.trans h.tape, hout.trans h.output, by rw [hw]; simp; exact Nat.le_succ_of_le h.size, fun k hk hm => ?_, h.anch.trans hle, ?_, ?_, ?_⟩
  · rw [hold k (Nat.lt_of_lt_of_le hk h.size)]; exact h.keep k hk hm
  · intro i hi
    rw [fill_length hf, fill_get hf] at hi
    have hin : i ≠ n := by
      rintro rfl
      rcases hi with hi | hi
      · omega
      · simp at hi
    rw [if_neg hin] at hi
    unfold upd; rw [if_neg hin]
    exact h.dom i (hi.imp (fun x => by omega) id)
  · intro id e hm
    rcases hsplit hm with ⟨hi, hm⟩ | ⟨rfl, rfl⟩
    · obtain ⟨L, h1, h2, h3⟩ := h.ent id e hm
      exact ⟨L, hle _ _ h1, (h2.mono hle).of_block (fun he => hold _ (h2.lt he)), h3⟩
    · refine ⟨⟨w.heap.size, 0, cs.size⟩, by simp [upd], ⟨⟨hfix, hok⟩, ?_⟩, fun _ => .inr h.size⟩
      rw [if_pos rfl]
      refine ⟨rfl, ?_, fun _ => ⟨cs, fr, vs, rest, hnew, hth, rfl, hcs, hd⟩⟩
      have h1 := hd.length
      rw [A.len_cells _ hok] at h1
      have h2 : cs.toList.length = cs.size := by simp
      rw [hcs, List.length_append] at h2
      show a.len ≤ cs.size
      omega
  · intro i j ei ej Li Lj hmi hmj hLi hLj ho h0 hne hj
    rcases hsplit hmi with ⟨hi, hmi'⟩ | ⟨hi, hei⟩
    · rcases hsplit hmj with ⟨hj', hmj'⟩ | ⟨hj', hej⟩
      · exact h.apart i j ei ej Li Lj hmi' hmj' (hloc hi hLi) (hloc hj' hLj) ho h0 hne hj
      · rw [hj'] at hLj
        obtain rfl := hlocn hLj
        have := hlt i ei Li hmi' (hloc hi hLi) (by unfold Real; rw [if_pos ho]; exact h0)
        simp; omega
    · rcases hsplit hmj with ⟨hj', hmj'⟩ | ⟨hj', hej⟩
      · rw [hi] at hLi
        obtain rfl := hlocn hLi
        have := hlt j ej Lj hmj' (hloc hj' hLj) hj
        simp; omega
      · exact absurd (hi.trans hj'.symm) hne

/-- An entry of our own, written: its block holds other cells now, all else is as it was. -/
theorem MH.write (h : MH E ℓ m w) {w' : World} {id : Nat} {e : Ent} {L : Loc} {a : A} (hm : m[id]? = some (.ent e)) (hL : ℓ id = some L) (ho : e.own = true)
    (hos : w'.os = w.os) (htape : w'.tape = w.tape) (hout : w'.output = w.output) (hsz : w'.heap.size = w.heap.size)
    (hoth : ∀ k, (0 < L.lim → k ≠ L.blk) → w'.heap[k]? = w.heap[k]?)
    (hE : EntOK ℓ w' L { e with c := a }) : MH E ℓ (m.set id (.ent { e with c := a })) w' := by
  obtain ⟨L', hL', hEold, hmay'⟩ := h.ent id e hm
  obtain rfl := Option.some.inj (hL'.symm.trans hL)
  have hmay := hmay' ho
  have hlt := (List.getElem?_eq_some_iff.1 hm).1
  have hsplit : ∀ {j : Nat} {x : Mk}, (m.set id (.ent { e with c := a }))[j]? = some x → (j ≠ id ∧ m[j]? = some x) ∨ (j = id ∧ x = .ent { e with c := a }) := by
    intro j e' hj
    by_cases hji : id = j
    · subst hji
      rw [List.getElem?_set_self hlt] at hj
      simp at hj
      exact .inr ⟨rfl, hj.symm⟩
    · rw [List.getElem?_set_ne hji] at hj
      exact .inl ⟨fun h => hji h.symm, hj⟩
  refine ⟨hos.trans h.os, htape.trans h.tape, hout.trans h.output, by rw [hsz]; exact h.size, fun k hk hn => ?_, h.anch, ?_, ?_, ?_⟩
  · have hne : k ≠ L'.blk := by rintro rfl; rcases hmay with hmay | hmay; · exact hn hmay
                                · omega
    exact (hoth k (fun _ => hne)).trans (h.keep k hk hn)
  · intro i hi
    refine h.dom i (hi.imp (fun x => by simpa using x) (fun x => ?_))
    rcases hsplit x with ⟨_, x⟩ | ⟨_, x⟩
    · exact x
    · cases x
  · intro j e' hj
    rcases hsplit hj with ⟨hne, hj⟩ | ⟨rfl, hx⟩
    · obtain ⟨Lj, h1, h2, h3⟩ := h.ent j e' hj
      exact ⟨Lj, h1, h2.of_block (fun he => hoth _ (fun h0 hh => h.apart id j e e' L' Lj hm hj hL h1 ho h0 (Ne.symm hne) he hh.symm)), h3⟩
    · cases hx; exact ⟨L', hL, hE, fun _ => hmay⟩
  · intro i j ei ej Li Lj hmi hmj hLi hLj hoi h0i hne hj
    rcases hsplit hmi with ⟨hi, hmi'⟩ | ⟨hi, hei⟩
    · rcases hsplit hmj with ⟨hj', hmj'⟩ | ⟨hj', hej⟩
      · exact h.apart i j ei ej Li Lj hmi' hmj' hLi hLj hoi h0i hne hj
      · exact h.apart i j ei e Li Lj hmi' (hj' ▸ hm) hLi hLj hoi h0i hne (by cases hej; unfold Real at hj ⊢; rw [if_pos ho] at hj ⊢; exact hj)
    · rcases hsplit hmj with ⟨hj', hmj'⟩ | ⟨hj', hej⟩
      · cases hei; exact h.apart i j e ej Li Lj (hi ▸ hm) hmj' hLi hLj ho h0i hne hj
      · exact absurd (hi.trans hj'.symm) hne
/-- Entries forgotten: what is left is among what was. -/
theorem MH.sub (h : MH E ℓ m w) {m' : Mem} (hl : m.length ≤ m'.length) (hs : ∀ (i : Nat) (x : Mk), m'[i]? = some x → x = .gone ∨ m[i]? = some x) : MH E ℓ m' w := by
  have he : ∀ {i : Nat} {e : Ent}, m'[i]? = some (.ent e) → m[i]? = some (.ent e) := fun hi => (hs _ _ hi).resolve_left (by simp)
  exact { h with
    dom := fun i hi => h.dom i (hi.elim (fun x => .inl (by omega)) (fun x => .inr ((hs _ _ x).resolve_left (by simp))))
    ent := fun id e hm => h.ent id e (he hm)
    apart := fun i j ei ej Li Lj hi hj => h.apart i j ei ej Li Lj (he hi) (he hj) }
end
end Go.V
end
section
set_option linter.unusedSimpArgs false
set_option linter.unusedVariables false
namespace Go.V
open Go

inductive Kind where
  | bool | int (k : IntKind) | str | ptr (e : TypeId) | sl (e : TypeId) | arr (n : Nat) (e : TypeId) | struct (fs : List (Nat × TypeId)) | iface | func | other
structure Ty where
  kind : Kind
  size : Nat
  bytes : Nat
  zero : A

def S.val : S → Option Value
  | .i n => some (.int .i64 n)
  | .b c => some (.bool c)
  | .u8 x => some (.int .u8 x.toNat)
  | .u16 x => some (.int .u16 x.toNat)
  | .u32 x => some (.int .u32 x.toNat)
  | .u64 x => some (.int .u64 x.toNat)
  | .str [] => some (.string .empty)
  | .nil => some (.pointer none)
  | .snil => some (.slice none 0 0)
  | .inil => some .nilIface
  | .raw x => some x
  | _ => none
theorem S.val_den {x : S} {v : Value} (h : x.val = some v) (ℓ : Nat → Option Loc) : DenS ℓ x v := by
  cases x with
  | str l => cases l with
    | nil => simp [S.val] at h; subst h; exact ⟨.empty, rfl, rfl⟩
    | cons => simp [S.val] at h
  | _ => simp [S.val] at h <;> subst h <;> simp [DenS]
def valL : List S → Option (List Value)
  | [] => some []
  | x :: xs => match x.val, valL xs with
    | some v, some vs => some (v :: vs)
    | _, _ => none
theorem valL_den : ∀ {xs : List S} {vs : List Value}, valL xs = some vs → ∀ ℓ, DenL ℓ xs vs
  | [], vs, h, ℓ => by simp [valL] at h; subst h; trivial
  | x :: xs, vs, h, ℓ => by
    unfold valL at h
    split at h
    · rename_i v us hv hus
      simp at h; subst h
      exact ⟨S.val_den hv ℓ, valL_den hus ℓ⟩
    · cases h
def A.val : A → Option Value
  | .s x => x.val
  | a => (valL a.cells).map (fun vs => .agg vs.toArray)
theorem A.val_den {a : A} {v : Value} (h : a.val = some v) (hok : a.OK) (ℓ : Nat → Option Loc) : DenA ℓ a v := by
  cases a with
  | s x => exact S.val_den h ℓ
  | _ =>
    simp only [A.val, Option.map_eq_some_iff] at h
    obtain ⟨vs, h1, h2⟩ := h
    exact ⟨hok, vs, h2.symm, valL_den h1 ℓ⟩

def KindOK (P : Program) (t : TypeId) : Kind → Prop
  | .bool => P.underlying t = some .bool
  | .int k => P.underlying t = some (.int k)
  | .str => P.underlying t = some .string
  | .ptr e => P.underlying t = some (.pointer e)
  | .sl e => P.underlying t = some (.slice e)
  | .arr n e => P.underlying t = some (.array n e)
  | .struct fs => ∃ f : Array Field, P.underlying t = some (.struct f) ∧ f.toList.map (fun x => (x.offset, x.type)) = fs ∧ f.toList.all (fun x => (P.info? x.type).isSome) = true
  | .iface => ∃ ms, P.underlying t = some (.interface ms)
  | .func => ∃ a b c, P.underlying t = some (.func a b c)
  | .other => True
structure TyOK (P : Program) (t : TypeId) (ty : Ty) : Prop where
  info : (P.info? t).map (fun i => (i.size, i.bytes, i.zero)) = some (ty.size, ty.bytes, ty.zero.val)
  len : ty.zero.len = ty.size
  zero : ty.zero.val.isSome = true
  ok : ty.zero.OK
  kind : KindOK P t ty.kind
abbrev Tab := TypeId → Option Ty
def TabOK (P : Program) (T : Tab) : Prop := ∀ t ty, T t = some ty → TyOK P t ty

theorem TyOK.parts {P : Program} {t : TypeId} {ty : Ty} (h : TyOK P t ty) : ∃ i z, P.info? t = some i ∧ i.size = ty.size ∧ i.bytes = ty.bytes ∧ i.zero = some z ∧ ty.zero.val = some z := by
  have hi := h.info
  cases hq : P.info? t with
  | none => rw [hq] at hi; cases hi
  | some i =>
    rw [hq] at hi
    simp only [Option.map_some, Option.some.injEq, Prod.mk.injEq] at hi
    obtain ⟨z, hz⟩ := Option.isSome_iff_exists.1 h.zero
    exact ⟨i, z, rfl, hi.1, hi.2.1, hi.2.2.trans hz, hz⟩

def Kind.isAgg : Kind → Bool
  | .arr _ _ | .struct _ => true
  | _ => false
theorem TyOK.isAgg {P : Program} {t : TypeId} {ty : Ty} (h : TyOK P t ty) (hk : ty.kind ≠ .other) (w : World) : (isAgg t).run P w = .ok ty.kind.isAgg w := by
  have hk' := h.kind
  unfold Go.isAgg
  rw [Sem.run_bind]
  cases hq : ty.kind <;> rw [hq] at hk' <;> simp only [KindOK] at hk' <;> (try (exact absurd hq hk))
  case struct fs => obtain ⟨f, hf, _⟩ := hk'; rw [run_underlying hf w]; rfl
  case iface => obtain ⟨f, hf⟩ := hk'; rw [run_underlying hf w]; rfl
  case func => obtain ⟨f, g, c, hf⟩ := hk'; rw [run_underlying hf w]; rfl
  all_goals (rw [run_underlying hk' w]; rfl)
theorem TyOK.size {P : Program} {t : TypeId} {ty : Ty} (h : TyOK P t ty) (w : World) : (sizeOf t).run P w = .ok ty.size w := by
  obtain ⟨i, z, h1, h2, _⟩ := h.parts
  simp [sizeOf, typeInfo, h1, h2]
theorem TyOK.zv {P : Program} {t : TypeId} {ty : Ty} (h : TyOK P t ty) (w : World) : ∃ z, (zeroValue t).run P w = .ok z w ∧ ty.zero.val = some z := by
  obtain ⟨i, z, h1, h2, h3, h4, h5⟩ := h.parts
  exact ⟨z, by simp [zeroValue, typeInfo, h1, h4], h5⟩

/-! ints -/
def inI (n : Int) : Prop := -9223372036854775808 ≤ n ∧ n ≤ 9223372036854775807
theorem wrap_in {n : Int} (h : inI n) : IntKind.wrap .i64 n = n := IntWalk.i64_in n h
theorem wrap_u {k : IntKind} (h : k.signed = false) (n : Int) : k.wrap n = n % (2 ^ k.bits : Int) := by simp [IntKind.wrap, h]
theorem emod_natCast_pow (n : Int) (a w : Nat) (h : n % ((2 ^ w : Nat) : Int) = (a : Int)) : n % (2 ^ w : Int) = a := by rw [← h]; simp
section
variable {k : IntKind} (hk : k.signed = false)
include hk
theorem wrap_toNat (x : BitVec k.bits) : k.wrap x.toNat = x.toNat := by
  rw [wrap_u hk]
  refine emod_natCast_pow _ _ _ ?_
  rw [← Int.natCast_emod, Nat.mod_eq_of_lt x.isLt]
theorem wrap_add (x y : BitVec k.bits) : k.wrap ((x.toNat : Int) + y.toNat) = (x + y).toNat := by
  rw [wrap_u hk]
  refine emod_natCast_pow _ _ _ ?_
  rw [BitVec.toNat_add, ← Int.natCast_add, ← Int.natCast_emod]
theorem wrap_mul (x y : BitVec k.bits) : k.wrap ((x.toNat : Int) * y.toNat) = (x * y).toNat := by
  rw [wrap_u hk]
  refine emod_natCast_pow _ _ _ ?_
  rw [BitVec.toNat_mul, ← Int.natCast_mul, ← Int.natCast_emod]
theorem wrap_sub (x y : BitVec k.bits) : k.wrap ((x.toNat : Int) - y.toNat) = (x - y).toNat := by
  rw [wrap_u hk]
  refine emod_natCast_pow _ _ _ ?_
  rw [BitVec.toNat_sub, Int.natCast_emod, Int.natCast_add, Int.natCast_sub (Nat.le_of_lt y.isLt)]
  generalize ((2 ^ k.bits : Nat) : Int) = M
  rw [show M - (y.toNat : Int) + x.toNat = ((x.toNat : Int) - y.toNat) + M * 1 by omega, Int.add_mul_emod_self_left]
theorem wrap_shl (x : BitVec k.bits) (n : Nat) : k.wrap ((x.toNat : Int) * 2 ^ n) = (x <<< n).toNat := by
  rw [wrap_u hk]
  refine emod_natCast_pow _ _ _ ?_
  rw [BitVec.toNat_shiftLeft, Nat.shiftLeft_eq, Int.natCast_emod, Int.natCast_mul, Int.natCast_pow]
  rfl
end
theorem ofInt_toNat {n : Nat} (x : BitVec n) : BitVec.ofInt n (x.toNat : Int) = x := by
  rw [BitVec.ofInt_natCast, BitVec.ofNat_toNat, BitVec.setWidth_eq]
theorem fdiv_pow (a : Int) (n : Nat) : a.fdiv (2 ^ n) = a / 2 ^ n := Int.fdiv_eq_ediv_of_nonneg _ (Int.pow_nonneg (by decide))

/-! operators -/
def binI (op : BinOp) (a b : Int) (K : S → Prop) : Prop :=
  match op with
  | .add => inI (a + b) ∧ K (.i (a + b))
  | .sub => inI (a - b) ∧ K (.i (a - b))
  | .mul => inI (a * b) ∧ K (.i (a * b))
  | .quo => b ≠ 0 ∧ inI (a.tdiv b) ∧ K (.i (a.tdiv b))
  | .rem => b ≠ 0 ∧ K (.i (a.tmod b))
  | .and => (0 ≤ a ∧ inI a ∧ 0 ≤ b ∧ inI b) ∧ K (.i ((a.toNat &&& b.toNat : Nat) : Int))
  | .or => (0 ≤ a ∧ inI a ∧ 0 ≤ b ∧ inI b) ∧ K (.i ((a.toNat ||| b.toNat : Nat) : Int))
  | .xor => (0 ≤ a ∧ inI a ∧ 0 ≤ b ∧ inI b) ∧ K (.i ((a.toNat ^^^ b.toNat : Nat) : Int))
  | .eql => K (.b (decide (a = b)))
  | .neq => K (.b (!decide (a = b)))
  | .lss => K (.b (decide (a < b)))
  | .leq => K (.b (decide (a ≤ b)))
  | .gtr => K (.b (decide (b < a)))
  | .geq => K (.b (decide (b ≤ a)))
  | _ => False
def binB {n : Nat} (mk : BitVec n → S) (op : BinOp) (a b : BitVec n) (K : S → Prop) : Prop :=
  match op with
  | .add => K (mk (a + b))
  | .sub => K (mk (a - b))
  | .mul => K (mk (a * b))
  | .quo => b ≠ 0#n ∧ K (mk (a / b))
  | .rem => b ≠ 0#n ∧ K (mk (a % b))
  | .and => K (mk (a &&& b))
  | .or => K (mk (a ||| b))
  | .xor => K (mk (a ^^^ b))
  | .andNot => K (mk (a &&& ~~~b))
  | .eql => K (.b (decide (a = b)))
  | .neq => K (.b (!decide (a = b)))
  | .lss => K (.b (decide (a.toNat < b.toNat)))
  | .leq => K (.b (decide (a.toNat ≤ b.toNat)))
  | .gtr => K (.b (decide (b.toNat < a.toNat)))
  | .geq => K (.b (decide (b.toNat ≤ a.toNat)))
  | _ => False
/-- A number that an index, a bound or a shift is given by. -/
def S.num : S → Option Int
  | .i n => some n
  | .u8 x => some x.toNat
  | .u16 x => some x.toNat
  | .u32 x => some x.toNat
  | .u64 x => some x.toNat
  | _ => none
def shB {n : Nat} (mk : BitVec n → S) (left : Bool) (a : BitVec n) (s : Int) (K : S → Prop) : Prop :=
  0 ≤ s ∧ (if left then K (mk (a <<< s.toNat)) else K (mk (a >>> s.toNat)))
def shS (left : Bool) (x : S) (s : Int) (K : S → Prop) : Prop :=
  match x with
  | .i a => (0 ≤ s ∧ s ≤ 63) ∧ (if left then inI (a * 2 ^ s.toNat) ∧ K (.i (a * 2 ^ s.toNat)) else K (.i (a / 2 ^ s.toNat)))
  | .u8 a => shB .u8 left a s K
  | .u16 a => shB .u16 left a s K
  | .u32 a => shB .u32 left a s K
  | .u64 a => shB .u64 left a s K
  | _ => False
def binS (op : BinOp) (k : Kind) (x y : S) (K : S → Prop) : Prop :=
  match x, y with
  | .i a, .i b => binI op a b K
  | .u8 a, .u8 b => binB .u8 op a b K
  | .u16 a, .u16 b => binB .u16 op a b K
  | .u32 a, .u32 b => binB .u32 op a b K
  | .u64 a, .u64 b => binB .u64 op a b K
  | .b a, .b b => match op, k with
    | .eql, .bool => K (.b (a == b))
    | .neq, .bool => K (.b (a != b))
    | _, _ => False
  | .str a, .str b => match op with
    | .eql => K (.b (decide (a = b)))
    | .neq => K (.b (!decide (a = b)))
    | _ => False
  | .nil, .nil => match op, k with
    | .eql, .ptr _ => K (.b true)
    | .neq, .ptr _ => K (.b false)
    | _, _ => False
  | .nil, .ptr _ _ _ => match op, k with
    | .eql, .ptr _ => K (.b false)
    | .neq, .ptr _ => K (.b true)
    | _, _ => False
  | .ptr _ _ _, .nil => match op, k with
    | .eql, .ptr _ => K (.b false)
    | .neq, .ptr _ => K (.b true)
    | _, _ => False
  | _, _ => False
def bin (op : BinOp) (k : Kind) (x y : S) (K : S → Prop) : Prop :=
  match op with
  | .shl => match y.num with | some s => shS true x s K | none => False
  | .shr => match y.num with | some s => shS false x s K | none => False
  | _ => binS op k x y K

section
variable {P : Program} {ℓ : Nat → Option Loc} {K : S → Prop}
/-- What an operator on two values of one cell comes to. -/
def Comes1 (P : Program) (ℓ : Nat → Option Loc) (K : S → Prop) (s : Sem Value) : Prop := ∃ x v, (∀ w, s.run P w = .ok v w) ∧ DenS ℓ x v ∧ K x
theorem binI_ok {op : BinOp} {t : TypeId} {a b : Int} (h : binI op a b K) : Comes1 P ℓ K (binOp op t (.int .i64 a) (.int .i64 b)) := by
  have key : ∀ {c : Int}, inI c → 0 ≤ c → BitVec.ofInt 64 c = BitVec.ofNat 64 c.toNat := by
    intro c _ h0
    obtain ⟨n, rfl⟩ := Int.eq_ofNat_of_zero_le h0
    rw [BitVec.ofInt_natCast]; simp
  have bits : ∀ {a b : Int} (f : Nat → Nat → Nat) (g : BitVec 64 → BitVec 64 → BitVec 64), (∀ x y : BitVec 64, (g x y).toNat = f x.toNat y.toNat) → (∀ x y, x < 2 ^ 63 → y < 2 ^ 63 → f x y < 2 ^ 63) →
      (0 ≤ a ∧ inI a ∧ 0 ≤ b ∧ inI b) → IntKind.wrap .i64 (g (BitVec.ofInt 64 a) (BitVec.ofInt 64 b)).toNat = ((f a.toNat b.toNat : Nat) : Int) := by
    intro a b f g hg hf ⟨h1, h2, h3, h4⟩
    rw [key h2 h1, key h4 h3, hg]
    unfold inI at h2 h4
    have ea : (BitVec.ofNat 64 a.toNat).toNat = a.toNat := by rw [BitVec.toNat_ofNat]; exact Nat.mod_eq_of_lt (by omega)
    have eb : (BitVec.ofNat 64 b.toNat).toNat = b.toNat := by rw [BitVec.toNat_ofNat]; exact Nat.mod_eq_of_lt (by omega)
    rw [ea, eb]
    have := hf a.toNat b.toNat (by omega) (by omega)
    exact wrap_in (by unfold inI; omega)
  cases op <;> simp only [binI] at h <;> (try exact h.elim)
  case add => exact ⟨_, _, fun w => rfl, by simp [DenS, wrap_in h.1], h.2⟩
  case sub => exact ⟨_, _, fun w => rfl, by simp [DenS, wrap_in h.1], h.2⟩
  case mul => exact ⟨_, _, fun w => rfl, by simp [DenS, wrap_in h.1], h.2⟩
  case quo => exact ⟨_, _, fun w => by simp [binOp, Op.intDiv, h.1]; rfl, by simp [DenS, wrap_in h.2.1], h.2.2⟩
  case rem => exact ⟨_, _, fun w => by simp [binOp, Op.intDiv, h.1]; rfl, by simp [DenS], h.2⟩
  case and => exact ⟨_, _, fun w => rfl, by simp only [DenS, Value.int.injEq, true_and]; exact bits (· &&& ·) (· &&& ·) (fun x y => BitVec.toNat_and x y) (fun x y hx _ => Nat.and_lt_two_pow x (by omega)) h.1, h.2⟩
  case or => exact ⟨_, _, fun w => rfl, by simp only [DenS, Value.int.injEq, true_and]; exact bits (· ||| ·) (· ||| ·) (fun x y => BitVec.toNat_or x y) (fun x y hx hy => Nat.or_lt_two_pow hx hy) h.1, h.2⟩
  case xor => exact ⟨_, _, fun w => rfl, by simp only [DenS, Value.int.injEq, true_and]; exact bits (· ^^^ ·) (· ^^^ ·) (fun x y => BitVec.toNat_xor x y) (fun x y hx hy => Nat.xor_lt_two_pow hx hy) h.1, h.2⟩
  case eql => exact ⟨_, _, fun w => rfl, by simp only [DenS, Value.bool.injEq]; rw [Bool.eq_iff_iff]; simp, h⟩
  case neq => exact ⟨_, _, fun w => rfl, by simp only [DenS, Value.bool.injEq]; rw [Bool.eq_iff_iff]; simp, h⟩
  all_goals exact ⟨_, _, fun w => rfl, by simp [DenS], h⟩

theorem binB_ok {k : IntKind} (hk : k.signed = false) {mk : BitVec k.bits → S} (hmk : ∀ x v, DenS ℓ (mk x) v ↔ v = .int k x.toNat) {op : BinOp} {t : TypeId} {a b : BitVec k.bits}
    (h : binB mk op a b K) : Comes1 P ℓ K (binOp op t (.int k a.toNat) (.int k b.toNat)) := by
  cases op <;> simp only [binB] at h <;> (try exact h.elim)
  case add => exact ⟨_, _, fun w => by simp [binOp, Op.intArith]; rfl, (hmk _ _).2 (by rw [wrap_add hk]), h⟩
  case sub => exact ⟨_, _, fun w => by simp [binOp, Op.intArith]; rfl, (hmk _ _).2 (by rw [wrap_sub hk]), h⟩
  case mul => exact ⟨_, _, fun w => by simp [binOp, Op.intArith]; rfl, (hmk _ _).2 (by rw [wrap_mul hk]), h⟩
  case quo =>
    have hb : ¬ ((b.toNat : Int) = 0) := fun e => h.1 (BitVec.eq_of_toNat_eq (by simpa using e))
    refine ⟨_, _, fun w => by simp only [binOp, Op.intDiv, if_neg hb, ne_eq, not_true, if_false]; rfl, (hmk (a / b) _).2 ?_, h.2⟩
    rw [← Int.ofNat_tdiv, wrap_u hk, BitVec.toNat_udiv]
    congr 1
    refine emod_natCast_pow _ _ _ ?_
    rw [← Int.natCast_emod, Nat.mod_eq_of_lt (Nat.lt_of_le_of_lt (Nat.div_le_self _ _) a.isLt)]
  case rem =>
    have hb : ¬ ((b.toNat : Int) = 0) := fun e => h.1 (BitVec.eq_of_toNat_eq (by simpa using e))
    refine ⟨_, _, fun w => by simp only [binOp, Op.intDiv, if_neg hb, ne_eq, not_true, if_false]; rfl, (hmk (a % b) _).2 ?_, h.2⟩
    rw [← Int.ofNat_tmod, BitVec.toNat_umod]
  case and => exact ⟨_, _, fun w => by simp only [binOp, Op.intBits, ofInt_toNat, ne_eq, not_true, if_false]; rfl, (hmk _ _).2 (by rw [wrap_toNat hk]), h⟩
  case or => exact ⟨_, _, fun w => by simp only [binOp, Op.intBits, ofInt_toNat, ne_eq, not_true, if_false]; rfl, (hmk _ _).2 (by rw [wrap_toNat hk]), h⟩
  case xor => exact ⟨_, _, fun w => by simp only [binOp, Op.intBits, ofInt_toNat, ne_eq, not_true, if_false]; rfl, (hmk _ _).2 (by rw [wrap_toNat hk]), h⟩
  case andNot => exact ⟨_, _, fun w => by simp only [binOp, Op.intBits, ofInt_toNat, ne_eq, not_true, if_false]; rfl, (hmk _ _).2 (by rw [wrap_toNat hk]), h⟩
  case eql => exact ⟨_, _, fun w => by simp only [binOp, Op.intCmp, ne_eq, not_true, if_false]; rfl, by simp only [DenS, Value.bool.injEq]; rw [Bool.eq_iff_iff]; simp [← BitVec.toNat_inj]; omega, h⟩
  case neq => exact ⟨_, _, fun w => by simp only [binOp, Op.intCmp, ne_eq, not_true, if_false]; rfl, by simp only [DenS, Value.bool.injEq]; rw [Bool.eq_iff_iff]; simp [← BitVec.toNat_inj]; omega, h⟩
  all_goals exact ⟨_, _, fun w => by simp only [binOp, Op.intCmp, ne_eq, not_true, if_false]; rfl, by simp [DenS], h⟩

theorem shB_ok {k : IntKind} (hk : k.signed = false) {mk : BitVec k.bits → S} (hmk : ∀ x v, DenS ℓ (mk x) v ↔ v = .int k x.toNat) {left : Bool} {t : TypeId} {a : BitVec k.bits} {s : Int} {yk : IntKind}
    (h : shB mk left a s K) : Comes1 P ℓ K (binOp (if left then .shl else .shr) t (.int k a.toNat) (.int yk s)) := by
  obtain ⟨h0, h⟩ := h
  have hn : ¬ s < 0 := by omega
  cases left
  · simp only [Bool.false_eq_true, if_false] at h ⊢
    refine ⟨_, _, fun w => by simp only [binOp, Op.shift, if_neg hn]; rfl, (hmk (a >>> s.toNat) _).2 ?_, h⟩
    congr 1
    rw [fdiv_pow, BitVec.toNat_ushiftRight, Nat.shiftRight_eq_div_pow]
    rcases Nat.le_total s.toNat k.bits with hle | hle
    · rw [Nat.min_eq_left hle]; simp
    · rw [Nat.min_eq_right hle, Nat.div_eq_of_lt (Nat.lt_of_lt_of_le a.isLt (Nat.pow_le_pow_right (by decide) hle))]
      rw [show ((a.toNat : Int) / 2 ^ k.bits) = ((a.toNat / 2 ^ k.bits : Nat) : Int) by simp, Nat.div_eq_of_lt a.isLt]
  · simp only [if_true] at h ⊢
    refine ⟨_, _, fun w => by simp only [binOp, Op.shift, if_neg hn]; rfl, (hmk (a <<< s.toNat) _).2 ?_, h⟩
    congr 1
    rcases Nat.le_total s.toNat k.bits with hle | hle
    · rw [Nat.min_eq_left hle, wrap_shl hk]
    · rw [Nat.min_eq_right hle, wrap_shl hk, BitVec.shiftLeft_eq_zero (Nat.le_refl _), BitVec.shiftLeft_eq_zero hle]

theorem num_den {y : S} {v : Value} {s : Int} (hy : DenS ℓ y v) (h : y.num = some s) : ∃ k, v = .int k s := by
  cases y <;> simp [S.num] at h <;> subst h <;> exact ⟨_, hy⟩

theorem bytes_beq {a b : ByteArray} {x y : List (BitVec 8)} (ha : a.data.toList.map UInt8.toBitVec = x) (hb : b.data.toList.map UInt8.toBitVec = y) : (a.toList == b.toList) = decide (x = y) := by
  have inj : ∀ {l l' : List UInt8}, l.map UInt8.toBitVec = l'.map UInt8.toBitVec ↔ l = l' := by
    intro l l'
    refine ⟨fun h => ?_, fun h => by rw [h]⟩
    induction l generalizing l' with
    | nil => cases l' <;> simp at h ⊢
    | cons c l ih => cases l' with
      | nil => simp at h
      | cons d l' =>
        simp only [List.map_cons, List.cons.injEq] at h
        rw [UInt8.toBitVec_inj.1 h.1, ih h.2]
  have e : ∀ (c : ByteArray), c.toList = c.data.toList := fun c => ByteArray.toList_eq c
  rw [e, e, ← ha, ← hb, Bool.eq_iff_iff, beq_iff_eq, decide_eq_true_eq, inj]

theorem equal_run {t : TypeId} {x y : Value} {w : World} {r : Result Bool} (h : ∀ d, (Op.equalIn (d + 1) t x y).run P w = r) : (Op.equal t x y).run P w = r := h 9999
theorem eql_run {t : TypeId} {x y : Value} {c : Bool} (h : ∀ w, (Op.equal t x y).run P w = .ok c w) (w : World) : (do pure (Value.bool (← Op.equal t x y)) : Sem Value).run P w = .ok (.bool c) w := by
  simp only [Sem.run_bind, h w, Result.andThen_ok, Sem.run_pure]
theorem neq_run {t : TypeId} {x y : Value} {c : Bool} (h : ∀ w, (Op.equal t x y).run P w = .ok c w) (w : World) : (do pure (Value.bool (!(← Op.equal t x y))) : Sem Value).run P w = .ok (.bool (!c)) w := by
  simp only [Sem.run_bind, h w, Result.andThen_ok, Sem.run_pure]
theorem bin_ok {op : BinOp} {t : TypeId} {ty : Ty} (hT : TyOK P t ty) {x y : S} {vx vy : Value} {ox oy : Operand} (hx : DenS ℓ x vx) (hy : DenS ℓ y vy) (h : bin op ty.kind x y K) :
    Comes1 P ℓ K (do eqGuard op t ox oy vx vy; binOp op t vx vy) := by
  have guard : ∀ {vx vy : Value}, (∀ a b, vx = .agg a → vy = .agg b → False) → (vx = .nilIface → vy = .nilIface → False) → ∀ w, (eqGuard op t ox oy vx vy).run P w = .ok () w := by
    intro vx vy h1 h2 w
    unfold eqGuard
    cases op <;> simp <;> (split <;> first | rfl | exact (h2 rfl rfl).elim | exact (h1 _ _ rfl rfl).elim)
  have lift : ∀ {vx vy : Value}, (∀ a b, vx = .agg a → vy = .agg b → False) → (vx = .nilIface → vy = .nilIface → False) → Comes1 P ℓ K (binOp op t vx vy) → Comes1 P ℓ K (do eqGuard op t ox oy vx vy; binOp op t vx vy) := by
    intro vx vy h1 h2 ⟨s, v, hr, hd, hk⟩
    exact ⟨s, v, fun w => by simp [guard h1 h2 w, hr w], hd, hk⟩
  have gen : ∀ (h : binS op ty.kind x y K), Comes1 P ℓ K (do eqGuard op t ox oy vx vy; binOp op t vx vy) := by
    intro h
    unfold binS at h
    split at h
    · simp only [DenS] at hx hy; subst hx hy; exact lift (by simp) (by simp) (binI_ok h)
    · simp only [DenS] at hx hy; subst hx hy; exact lift (by simp) (by simp) (binB_ok (k := .u8) rfl (fun _ _ => Iff.rfl) h)
    · simp only [DenS] at hx hy; subst hx hy; exact lift (by simp) (by simp) (binB_ok (k := .u16) rfl (fun _ _ => Iff.rfl) h)
    · simp only [DenS] at hx hy; subst hx hy; exact lift (by simp) (by simp) (binB_ok (k := .u32) rfl (fun _ _ => Iff.rfl) h)
    · simp only [DenS] at hx hy; subst hx hy; exact lift (by simp) (by simp) (binB_ok (k := .u64) rfl (fun _ _ => Iff.rfl) h)
    · rename_i a b
      simp only [DenS] at hx hy; subst hx hy
      refine lift (by simp) (by simp) ?_
      split at h
      · rename_i hk
        have hu : P.underlying t = some .bool := by have := hT.kind; rw [hk] at this; exact this
        exact ⟨_, _, eql_run (fun w => equal_run (fun d => by rw [Op.equalIn]; simp only [Sem.run_bind, run_underlying hu, Result.andThen_ok]; rfl)), by simp [DenS], h⟩
      · rename_i hk
        have hu : P.underlying t = some .bool := by have := hT.kind; rw [hk] at this; exact this
        exact ⟨_, _, neq_run (fun w => equal_run (fun d => by rw [Op.equalIn]; simp only [Sem.run_bind, run_underlying hu, Result.andThen_ok]; rfl)), by simp [DenS, bne], h⟩
      · exact h.elim
    · obtain ⟨sa, rfl, ha⟩ := hx
      obtain ⟨sb, rfl, hb⟩ := hy
      refine lift (by simp) (by simp) ?_
      split at h
      · exact ⟨_, _, fun w => by simp only [binOp, Op.stringOp]; rfl, by simp [DenS, bytes_beq ha hb], h⟩
      · exact ⟨_, _, fun w => by simp only [binOp, Op.stringOp]; rfl, by simp [DenS, bytes_beq ha hb], h⟩
      · exact h.elim
    · simp only [DenS] at hx hy; subst hx hy
      refine lift (by simp) (by simp) ?_
      split at h
      · obtain ⟨e, hk⟩ : ∃ e, ty.kind = .ptr e := ⟨_, by assumption⟩
        have hu := hT.kind; rw [hk] at hu; simp only [KindOK] at hu
        exact ⟨_, _, eql_run (fun w => equal_run (fun d => by rw [Op.equalIn]; simp only [Sem.run_bind, run_underlying hu, Result.andThen_ok]; rfl)), by simp [DenS], h⟩
      · obtain ⟨e, hk⟩ : ∃ e, ty.kind = .ptr e := ⟨_, by assumption⟩
        have hu := hT.kind; rw [hk] at hu; simp only [KindOK] at hu
        exact ⟨_, _, neq_run (fun w => equal_run (fun d => by rw [Op.equalIn]; simp only [Sem.run_bind, run_underlying hu, Result.andThen_ok]; rfl)), by simp [DenS], h⟩
      · exact h.elim
    · obtain ⟨L, _, rfl⟩ := hy
      simp only [DenS] at hx; subst hx
      refine lift (by simp) (by simp) ?_
      split at h
      · obtain ⟨e, hk⟩ : ∃ e, ty.kind = .ptr e := ⟨_, by assumption⟩
        have hu := hT.kind; rw [hk] at hu; simp only [KindOK] at hu
        exact ⟨_, _, eql_run (fun w => equal_run (fun d => by rw [Op.equalIn]; simp only [Sem.run_bind, run_underlying hu, Result.andThen_ok]; rfl)), by simp [DenS], h⟩
      · obtain ⟨e, hk⟩ : ∃ e, ty.kind = .ptr e := ⟨_, by assumption⟩
        have hu := hT.kind; rw [hk] at hu; simp only [KindOK] at hu
        exact ⟨_, _, neq_run (fun w => equal_run (fun d => by rw [Op.equalIn]; simp only [Sem.run_bind, run_underlying hu, Result.andThen_ok]; rfl)), by simp [DenS], h⟩
      · exact h.elim
    · obtain ⟨L, _, rfl⟩ := hx
      simp only [DenS] at hy; subst hy
      refine lift (by simp) (by simp) ?_
      split at h
      · obtain ⟨e, hk⟩ : ∃ e, ty.kind = .ptr e := ⟨_, by assumption⟩
        have hu := hT.kind; rw [hk] at hu; simp only [KindOK] at hu
        exact ⟨_, _, eql_run (fun w => equal_run (fun d => by rw [Op.equalIn]; simp only [Sem.run_bind, run_underlying hu, Result.andThen_ok]; rfl)), by simp [DenS], h⟩
      · obtain ⟨e, hk⟩ : ∃ e, ty.kind = .ptr e := ⟨_, by assumption⟩
        have hu := hT.kind; rw [hk] at hu; simp only [KindOK] at hu
        exact ⟨_, _, neq_run (fun w => equal_run (fun d => by rw [Op.equalIn]; simp only [Sem.run_bind, run_underlying hu, Result.andThen_ok]; rfl)), by simp [DenS], h⟩
      · exact h.elim
    · exact h.elim
  have sh : ∀ (left : Bool), op = (if left then .shl else .shr) → ∀ s, y.num = some s → shS left x s K → Comes1 P ℓ K (do eqGuard op t ox oy vx vy; binOp op t vx vy) := by
    intro left hop s hs hq
    obtain ⟨yk, rfl⟩ := num_den hy hs
    unfold shS at hq
    split at hq
    · rename_i a
      simp only [DenS] at hx; subst hx
      refine lift (by simp) (by simp) ?_
      have hn : ¬ s < 0 := by omega
      have hm : min s.toNat IntKind.i64.bits = s.toNat := by simp only [IntKind.bits]; omega
      subst hop
      cases left
      · simp only [Bool.false_eq_true, if_false] at hq ⊢
        exact ⟨_, _, fun w => by simp only [binOp, Op.shift, if_neg hn, hm]; rfl, by simp only [DenS]; rw [fdiv_pow], hq.2⟩
      · simp only [if_true] at hq ⊢
        exact ⟨_, _, fun w => by simp only [binOp, Op.shift, if_neg hn, hm]; rfl, by simp only [DenS]; rw [wrap_in hq.2.1], hq.2.2⟩
    · simp only [DenS] at hx; subst hx; subst hop; exact lift (by simp) (by simp) (shB_ok (k := .u8) rfl (fun _ _ => Iff.rfl) hq)
    · simp only [DenS] at hx; subst hx; subst hop; exact lift (by simp) (by simp) (shB_ok (k := .u16) rfl (fun _ _ => Iff.rfl) hq)
    · simp only [DenS] at hx; subst hx; subst hop; exact lift (by simp) (by simp) (shB_ok (k := .u32) rfl (fun _ _ => Iff.rfl) hq)
    · simp only [DenS] at hx; subst hx; subst hop; exact lift (by simp) (by simp) (shB_ok (k := .u64) rfl (fun _ _ => Iff.rfl) hq)
    · exact hq.elim
  unfold bin at h
  split at h
  · split at h
    · rename_i s hs; exact sh true rfl s hs h
    · exact h.elim
  · split at h
    · rename_i s hs; exact sh false rfl s hs h
    · exact h.elim
  · exact gen h
end
end Go.V
end
section
set_option linter.unusedSimpArgs false
set_option linter.unusedVariables false
namespace Go.V
open Go

def S.known : S → Bool
  | .any => false
  | .raw x => x.oneCell'
  | _ => true
def R.solid : R → Bool
  | .s x => x.known
  | .agg l => l.all S.known
  | _ => true
def A.solid : A → Bool
  | .s x => x.known
  | .agg l => l.all S.known
  | .st l => l.all (fun g => g.r.solid)
  | _ => true
theorem R.solid_cells {r : R} (h : r.solid = true) : r.cells.all S.known = true := by
  cases r with
  | s x => simp only [R.cells, List.all_cons, List.all_nil, Bool.and_true]; exact h
  | agg l => exact h
  | _ => simp [R.cells, S.known]
theorem seg_solid : ∀ {l : List Seg}, l.all (fun g => g.r.solid) = true → (segCells l).all S.known = true
  | [], _ => rfl
  | g :: l, h => by
    simp only [List.all_cons, Bool.and_eq_true] at h
    simp only [segCells, List.all_append, Bool.and_eq_true]
    exact ⟨R.solid_cells h.1, seg_solid h.2⟩
theorem known_oneCell {ℓ : Nat → Option Loc} {x : S} {v : Value} (hk : x.known = true) (h : DenS ℓ x v) : v.oneCell' = true :=
  h.oneCell (fun e => by rw [e] at hk; cases hk) (fun r e => by rw [e] at hk; exact hk)
theorem solid_cells {ℓ : Nat → Option Loc} {a : A} {v : Value} (hk : a.solid = true) (h : DenA ℓ a v) : a.OK ∧ ∃ vs : List Value, v.cells = vs.toArray ∧ DenL ℓ a.cells vs ∧ ∀ u ∈ vs, u.oneCell' = true := by
  have all : ∀ {xs : List S} {vs : List Value}, xs.all S.known = true → DenL ℓ xs vs → ∀ u ∈ vs, u.oneCell' = true := by
    intro xs
    induction xs with
    | nil => intro vs _ hd u hu; cases vs with
      | nil => cases hu
      | cons => exact hd.elim
    | cons x xs ih => intro vs ha hd u hu; cases vs with
      | nil => exact hd.elim
      | cons v vs =>
        simp only [List.all_cons, Bool.and_eq_true] at ha
        cases hu with
        | head => exact known_oneCell ha.1 hd.1
        | tail _ hu => exact ih ha.2 hd.2 u hu
  have row : a.cells.all S.known = true → (a.OK ∧ ∃ vs : List Value, v = .agg vs.toArray ∧ DenL ℓ a.cells vs) → a.OK ∧ ∃ vs : List Value, v.cells = vs.toArray ∧ DenL ℓ a.cells vs ∧ ∀ u ∈ vs, u.oneCell' = true := by
    rintro ha ⟨hok, vs, rfl, hd⟩
    exact ⟨hok, vs, rfl, hd, all ha hd⟩
  cases a with
  | s x =>
    have h1 := known_oneCell hk h
    refine ⟨trivial, [v], ?_, ⟨h, trivial⟩, by simpa using h1⟩
    cases v <;> first | rfl | cases h1
  | agg l => exact row hk h
  | st l => exact row (seg_solid hk) h
  | a8 l => exact row (by simp [A.cells, S.known]) h
  | a32 l => exact row (by simp [A.cells, S.known]) h
  | a64 l => exact row (by simp [A.cells, S.known]) h
  | ai l => exact row (by simp [A.cells, S.known]) h
  | ab l => exact row (by simp [A.cells, S.known]) h

def Ent.bound (e : Ent) : Nat := match e.fix with | some n => n | none => e.c.len
theorem EntOK.bound {ℓ : Nat → Option Loc} {w : World} {L : Loc} {e : Ent} (h : EntOK ℓ w L e) : e.bound = e.c.len := by
  unfold Ent.bound
  split
  · rename_i n hn; exact (h.fixed hn).symm
  · rfl

def one (x : S) : SV := .one (.s x)
def addE (m : Mem) (n : Nat) : Option Ent → Mem
  | none => m
  | some e => fill m n e

/-- What an operation comes to that writes to nothing that was there. -/
def Comes (P : Program) (E : Env) (ℓ : Nat → Option Loc) (m : Mem) (nid : Nat) (K : SV → Option Ent → Prop) (s : Sem Next) (w : World) : Prop :=
  ∃ sv eo v w' ℓ', s.run P w = .ok (.value v) w' ∧ K sv eo ∧ Le ℓ ℓ' ∧ MH E ℓ' (addE m nid eo) w' ∧ DenV ℓ' sv v

section
variable {P : Program} {E : Env} {ℓ : Nat → Option Loc} {m : Mem} {nid : Nat} {K : SV → Option Ent → Prop} {w : World}
theorem comes_pure (hm : MH E ℓ m w) {s : Sem Next} {v : Value} {sv : SV} (hr : s.run P w = .ok (.value v) w) (hd : DenV ℓ sv v) (hK : K sv none) : Comes P E ℓ m nid K s w :=
  ⟨sv, none, v, w, ℓ, hr, hK, Le.refl ℓ, hm, hd⟩
theorem comes_value (hm : MH E ℓ m w) {s : Sem Value} {v : Value} {sv : SV} (hr : s.run P w = .ok v w) (hd : DenV ℓ sv v) (hK : K sv none) :
    Comes P E ℓ m nid K (do pure (.value (← s))) w := comes_pure hm (by simp [hr]) hd hK
theorem comes1 (hm : MH E ℓ m w) {s : Sem Value} {K1 : S → Prop} (h : Comes1 P ℓ K1 s) (hK : ∀ x, K1 x → K (one x) none) : Comes P E ℓ m nid K (do pure (.value (← s))) w := by
  obtain ⟨x, v, hr, hd, hk⟩ := h
  exact comes_value hm (hr w) (sv := one x) hd (hK x hk)
/-- A new row of cells. -/
theorem comes_new (hm : MH E ℓ m w) (hf : Fresh m nid) {s : Sem Value} {cs : Array Value} {t : TypeId} {fix : Option Nat} {a : A} {vs rest : List Value} {mk : Addr → Value} {sv : SV}
    (hr : s.run P w = .ok (mk ⟨w.heap.size, 0, none⟩) (w.alloc (.cells cs t)))
    (hfix : ∀ k, fix = some k → a.len = k) (hok : a.OK) (hcs : cs.toList = vs ++ rest) (hd : DenL ℓ a.cells vs)
    (hv : DenV (upd ℓ nid ⟨w.heap.size, 0, cs.size⟩) sv (mk ⟨w.heap.size, 0, none⟩)) (hK : K sv (some ⟨true, t, fix, a⟩)) : Comes P E ℓ m nid K (do pure (.value (← s))) w := by
  have hle := hm.le_upd hf ⟨w.heap.size, 0, cs.size⟩
  exact ⟨sv, _, _, _, _, by simp only [Sem.run_bind, hr, Result.andThen_ok]; rfl, hK, hle, hm.alloc hf (w' := w.alloc (.cells cs t)) rfl rfl rfl rfl (.inl (Nat.le_refl _)) hfix hok hcs (hd.mono hle), hv⟩

theorem Addr.add_off (b o n : Nat) : (⟨b, o, none⟩ : Addr).add n = ⟨b, o + n, none⟩ := by
  unfold Addr.add; split
  · simp_all
  · rfl

/-! load -/
/-- A part of a variable, of a type, at a place of a row. -/
def stAt (ty : Ty) (c : A) (off n : Nat) (K : SV → Prop) : Prop :=
  match ty.kind with
  | .arr _ _ | .struct _ => if n = ty.size then (off = 0 ∧ c.isAgg = true) ∧ K (.one c) else (off + ty.size ≤ n ∧ c.isRow = true) ∧ K (.one (c.sub off ty.size))
  | .other => False
  | _ => (off < n ∧ c.noRec = true) ∧ K (one (c.get off))
theorem stAt_ok {t : TypeId} {ty : Ty} (hty : TyOK P t ty) {c : A} {off n : Nat} {K : SV → Prop} {vs : List Value} {a : Addr} (hok : c.OK) (hn : c.len = n) (hd : DenL ℓ c.cells vs)
    (hc : ∀ (i : Nat) (v : Value), vs[i]? = some v → w.cell? (a.add i) = some v) (ha : ∀ i j, (a.add i).add j = a.add (i + j)) (h : stAt ty c off n K) :
    ∃ sv v, (loadVar t (a.add off)).run P w = .ok v w ∧ DenV ℓ sv v ∧ K sv := by
  have hlen := hd.length
  rw [A.len_cells _ hok] at hlen
  unfold stAt at h
  have agg : ty.kind ≠ .other → ty.kind.isAgg = true → (if n = ty.size then (off = 0 ∧ c.isAgg = true) ∧ K (.one c) else (off + ty.size ≤ n ∧ c.isRow = true) ∧ K (.one (c.sub off ty.size))) →
      ∃ sv v, (loadVar t (a.add off)).run P w = .ok v w ∧ DenV ℓ sv v ∧ K sv := by
    intro hko hka h
    have run : off + ty.size ≤ vs.length → (loadVar t (a.add off)).run P w = .ok (.agg ((vs.drop off).take ty.size).toArray) w := by
      intro hle
      have hl := run_loadCells_list (P := P) w (a.add off) ((vs.drop off).take ty.size) (fun j u hu => by
        rw [ha]
        refine hc (off + j) u ?_
        rw [List.getElem?_take] at hu
        split at hu
        · rwa [List.getElem?_drop] at hu
        · cases hu)
      rw [show ((vs.drop off).take ty.size).length = ty.size by simp; omega] at hl
      simp [loadVar, hty.isAgg hko w, hka, hty.size w, hl]
    split at h
    · rename_i hfx
      obtain ⟨⟨rfl, hagg⟩, hK⟩ := h
      refine ⟨.one c, _, run (by omega), (DenA.agg hagg).2 ⟨hok, _, rfl, ?_⟩, hK⟩
      rw [List.drop_zero, List.take_of_length_le (by omega)]
      exact hd
    · obtain ⟨⟨hle, hrow⟩, hK⟩ := h
      refine ⟨.one (c.sub off ty.size), _, run (by omega), (DenA.row (by rw [A.sub_row]; exact hrow)).2 ⟨_, rfl, ?_⟩, hK⟩
      rw [A.sub_cells _ _ _ hrow]
      exact (hd.drop off).take ty.size
  split at h
  · rename_i hk; exact agg (by rw [hk]; simp) (by rw [hk]; rfl) h
  · rename_i hk; exact agg (by rw [hk]; simp) (by rw [hk]; rfl) h
  · exact h.elim
  · rename_i h1 h2 h3
    obtain ⟨⟨hlt, hnr⟩, hK⟩ := h
    obtain ⟨u, hu, hdu⟩ := hd.get off _ (A.get_cells c off hnr (by omega))
    have hag : ty.kind.isAgg = false := by
      cases hq : ty.kind <;> first | rfl | exact absurd hq (h1 _ _) | exact absurd hq (h2 _)
    exact ⟨one (c.get off), u, by simp [loadVar, hty.isAgg h3 w, hag, hc off u hu], hdu, hK⟩
def Kind.isStruct : Kind → Bool
  | .struct _ => true
  | _ => false
def stLoad (T : Tab) (m : Mem) (t : TypeId) (x : SV) (K : SV → Prop) : Prop :=
  match x, T t with
  | .one (.s (.ptr id base off)), some ty =>
    match m[id]? with
    | some (.ent e) =>
      match e.c with
      | .st l =>
        if ty.kind.isStruct = true then (base = 0 ∧ off = 0) ∧ segLen l = ty.size ∧ K (.one (.st l)) else
        match segAt l base with
        | some r => stAt ty r.a off r.len K
        | none => False
      | c => stAt ty c (base + off) e.bound K
    | _ => False
  | _, _ => False
theorem stLoad_run {T : Tab} (hT : TabOK P T) (hm : MH E ℓ m w) {t : TypeId} {x : SV} {v : Value} (hx : DenV ℓ x v) {K : SV → Prop} (h : stLoad T m t x K) :
    ∃ sv u, (Instr.loadAt t v).run P w = .ok u w ∧ DenV ℓ sv u ∧ K sv := by
  unfold stLoad at h
  split at h
  · rename_i id base off ty hty
    have hty := hT t ty hty
    obtain ⟨L, hL, rfl⟩ := hx
    split at h
    · rename_i e hme
      obtain ⟨L', hL', hE, _⟩ := hm.ent id e hme
      obtain rfl := Option.some.inj (hL'.symm.trans hL)
      obtain ⟨vs, hd, hc⟩ := hE.row
      have hok := hE.ok
      have hb := hE.bound
      split at h
      · rename_i l hl
        rw [hl] at hd hok
        split at h
        · rename_i hks
          obtain ⟨⟨rfl, rfl⟩, hsz, hK⟩ := h
          obtain ⟨sv, u, hr, hdu, hk⟩ := stAt_ok (w := w) (ty := ty) hty (c := .st l) (off := 0) (n := ty.size) (K := K) (a := ⟨L'.blk, L'.base, none⟩) hok hsz hd
            (fun i v hv => by rw [Addr.add_off]; exact hc i v hv) (fun i j => by simp only [Addr.add_off, Nat.add_assoc])
            (by unfold stAt; cases hq : ty.kind <;> rw [hq] at hks <;> first | (cases hks; done) | exact (by rw [if_pos rfl]; exact ⟨⟨rfl, rfl⟩, hK⟩))
          exact ⟨sv, u, by simpa [Instr.loadAt, Instr.sureAddr, Addr.add_off] using hr, hdu, hk⟩
        · split at h
          · rename_i r hr
            obtain ⟨pre, post, hcs, hpl⟩ := segAt_cells hok hr
            have hd' : DenL ℓ r.a.cells ((vs.drop base).take r.len) := by
              rw [R.a_cells]
              have h1 := (hd.drop base).take r.len
              rw [show (A.st l).cells = segCells l from rfl, hcs, List.append_assoc, List.drop_append_of_le_length (by omega), ← hpl, List.drop_length, List.nil_append, ← R.len_cells, List.take_left] at h1
              rw [← hpl, ← R.len_cells]; exact h1
            obtain ⟨sv, u, hr, hdu, hk⟩ := stAt_ok (w := w) hty (a := ⟨L'.blk, L'.base + base, none⟩) (R.a_OK r) (R.a_len r) hd'
              (fun i v hv => by
                rw [Addr.add_off, Nat.add_assoc]
                refine hc (base + i) v ?_
                rw [List.getElem?_take] at hv
                split at hv
                · rwa [List.getElem?_drop] at hv
                · cases hv) (fun i j => by simp only [Addr.add_off, Nat.add_assoc]) h
            exact ⟨sv, u, by simpa [Instr.loadAt, Instr.sureAddr, Addr.add_off, Nat.add_assoc] using hr, hdu, hk⟩
          · exact h.elim
      · obtain ⟨sv, u, hr, hdu, hk⟩ := stAt_ok (w := w) hty (a := ⟨L'.blk, L'.base, none⟩) hok hb.symm hd
          (fun i v hv => by rw [Addr.add_off]; exact hc i v hv) (fun i j => by simp only [Addr.add_off, Nat.add_assoc]) h
        exact ⟨sv, u, by simpa [Instr.loadAt, Instr.sureAddr, Addr.add_off] using hr, hdu, hk⟩
    · exact h.elim
  · exact h.elim
theorem stLoad_ok {T : Tab} (hT : TabOK P T) (hm : MH E ℓ m w) {t : TypeId} {x : SV} {v : Value} (hx : DenV ℓ x v) (h : stLoad T m t x (fun r => K r none)) :
    Comes P E ℓ m nid K (do pure (.value (← Instr.loadAt t v))) w := by
  obtain ⟨sv, u, hr, hdu, hk⟩ := stLoad_run hT hm hx h
  exact comes_value hm hr hdu hk

/-! new variables -/
def stBox (T : Tab) (nid : Nat) (t : TypeId) (x : SV) (K : SV → Option Ent → Prop) : Prop :=
  match x, T t with
  | .one a, some ty => (a.len = ty.size ∧ a.solid = true) ∧ K (one (.ptr nid 0 0)) (some ⟨true, t, some ty.size, a⟩)
  | _, _ => False
theorem stBox_ok {T : Tab} (hm : MH E ℓ m w) (hf : Fresh m nid) {t : TypeId} {x : SV} {v : Value} (hx : DenV ℓ x v) (h : stBox T nid t x K) :
    Comes P E ℓ m nid K (do pure (.value (← Instr.box t v))) w := by
  unfold stBox at h
  split at h
  · rename_i a ty hty
    obtain ⟨⟨hl, hs⟩, hK⟩ := h
    obtain ⟨hok, vs, hc, hd, _⟩ := solid_cells hs hx
    refine comes_new hm hf (cs := vs.toArray) (rest := []) (mk := fun a => .pointer (some a)) ?_ ?_ hok (by simp) hd ?_ hK
    · simp [Instr.box, newVar, newRow, hc]
    · intro k hk; cases hk; exact hl
    · exact ⟨⟨w.heap.size, 0, vs.toArray.size⟩, by simp [upd], rfl⟩
  · exact h.elim
def stAlloc (T : Tab) (nid : Nat) (t : TypeId) (K : SV → Option Ent → Prop) : Prop :=
  match T t with
  | some ty => ty.zero.solid = true ∧ K (one (.ptr nid 0 0)) (some ⟨true, t, some ty.size, ty.zero⟩)
  | _ => False
theorem stAlloc_ok {T : Tab} (hT : TabOK P T) (hm : MH E ℓ m w) (hf : Fresh m nid) {t : TypeId} (h : stAlloc T nid t K) :
    Comes P E ℓ m nid K (do pure (.value (← Instr.alloc t true (.tuple #[])))) w := by
  unfold stAlloc at h
  split at h
  · rename_i ty hty
    obtain ⟨hs, hK⟩ := h
    have hty := hT t ty hty
    obtain ⟨z, hz, hzv⟩ := hty.zv w
    obtain ⟨hok, vs, hc, hd, _⟩ := solid_cells hs (A.val_den hzv hty.ok ℓ)
    refine comes_new hm hf (cs := vs.toArray) (rest := []) (mk := fun a => .pointer (some a)) ?_ ?_ hok (by simp) hd ?_ hK
    · simp [Instr.alloc, hz, newVar, newRow, hc]
    · intro k hk; cases hk; exact hty.len
    · exact ⟨⟨w.heap.size, 0, vs.toArray.size⟩, by simp [upd], rfl⟩
  · exact h.elim

/-! addresses -/
def stField (T : Tab) (t : TypeId) (x : SV) (f : Nat) (K : SV → Prop) : Prop :=
  match x, T t with
  | .one (.s (.ptr id base off)), some ty =>
    match ty.kind with
    | .struct fs => match fs[f]? with
      | some (o, ft) => match T ft with
        | some fty => fty.size ≠ 0 ∧ K (one (.ptr id (base + off + o) 0))
        | none => False
      | none => False
    | _ => False
  | _, _ => False
theorem stField_ok {T : Tab} (hT : TabOK P T) (hm : MH E ℓ m w) {t : TypeId} {x : SV} {f : Nat} {v : Value} (hx : DenV ℓ x v) (h : stField T t x f (fun r => K r none)) :
    Comes P E ℓ m nid K (do pure (.value (← Instr.fieldAt t v f))) w := by
  unfold stField at h
  split at h
  · rename_i id base off ty hty
    obtain ⟨L, hL, rfl⟩ := hx
    have hty := hT t ty hty
    split at h
    · rename_i fs hk
      have hkk := hty.kind
      rw [hk] at hkk
      obtain ⟨F, hF, hmap, _⟩ := hkk
      split at h
      · rename_i o ft hfs
        split at h
        · rename_i fty hfty
          obtain ⟨hne, hK⟩ := h
          have hsz := (hT ft fty hfty).size w
          rw [← hmap, List.getElem?_map] at hfs
          cases hq : F.toList[f]? with
          | none => rw [hq] at hfs; cases hfs
          | some fld =>
            rw [hq] at hfs
            simp only [Option.map_some, Option.some.injEq, Prod.mk.injEq] at hfs
            have hq' : F[f]? = some fld := by rw [← Array.getElem?_toList]; exact hq
            refine comes_value hm (v := .pointer (some ⟨L.blk, L.base + (base + off) + o, none⟩)) (sv := one (.ptr id (base + off + o) 0)) ?_ ⟨L, hL, by simp only [Nat.add_assoc, Nat.add_zero]⟩ hK
            simp [Instr.fieldAt, Instr.sureAddr, run_underlying hF, hq', fieldPlace, hfs.2, hsz, hne, hfs.1, Addr.add_off]
        · exact h.elim
      · exact h.elim
    · exact h.elim
  · exact h.elim

def SV.num : SV → Option Int
  | .one (.s x) => x.num
  | _ => none
def stIndexAddr (T : Tab) (t : TypeId) (x i : SV) (K : SV → Prop) : Prop :=
  match i.num, T t with
  | some n, some ty =>
    match ty.kind, x with
    | .arr len e, .one (.s (.ptr id base off)) => match T e with
      | some ety => (0 ≤ n ∧ n < len) ∧ K (one (.ptr id base (off + n.toNat * ety.size)))
      | none => False
    | .sl e, .one (.s (.sl id off len cap es)) => match T e with
      | some ety => (0 ≤ n ∧ n < len) ∧ es = ety.size ∧ K (one (.ptr id 0 (off + n.toNat * ety.size)))
      | none => False
    | _, _ => False
  | _, _ => False
theorem stIndexAddr_ok {T : Tab} (hT : TabOK P T) (hm : MH E ℓ m w) {t : TypeId} {x i : SV} {vx vi : Value} (hx : DenV ℓ x vx) (hi : DenV ℓ i vi) (h : stIndexAddr T t x i (fun r => K r none)) :
    Comes P E ℓ m nid K (do pure (.value (← Instr.indexAt t vx vi))) w := by
  unfold stIndexAddr at h
  split at h
  · rename_i n ty hn hty
    have hty := hT t ty hty
    obtain ⟨k, rfl⟩ : ∃ k, vi = .int k n := by
      unfold SV.num at hn
      split at hn
      · exact num_den hi hn
      · cases hn
    split at h
    · rename_i len e id base off hk
      obtain ⟨L, hL, rfl⟩ := hx
      have hu := hty.kind
      rw [hk] at hu
      split at h
      · rename_i ety hety
        obtain ⟨hb, hK⟩ := h
        have hsz := (hT e ety hety).size w
        refine comes_value hm (v := .pointer (some ⟨L.blk, L.base + (base + off) + n.toNat * ety.size, none⟩)) (sv := one (.ptr id base (off + n.toNat * ety.size))) ?_ ⟨L, hL, by rw [Nat.add_assoc, Nat.add_assoc]⟩ hK
        simp [Instr.indexAt, asIntOf, run_underlying hu, Instr.sureAddr, hb.1, hb.2, hsz, Addr.add_off]
      · exact h.elim
    · rename_i e id off len cap es hk
      obtain ⟨L, hL, hlc, hv⟩ := hx
      have hu := hty.kind
      rw [hk] at hu
      split at h
      · rename_i ety hety
        obtain ⟨hb, hes, hK⟩ := h
        have hsz := (hT e ety hety).size w
        rcases hv with ⟨hc0, _⟩ | ⟨_, rfl⟩
        · omega
        refine comes_value hm (v := .pointer (some ⟨L.blk, L.base + off + n.toNat * ety.size, none⟩)) (sv := one (.ptr id 0 (off + n.toNat * ety.size))) ?_ ⟨L, hL, by rw [Nat.zero_add, Nat.add_assoc]⟩ hK
        simp [Instr.indexAt, asIntOf, run_underlying hu, Instr.sureAddr, hb.1, hb.2, hsz, Addr.add_off]
      · exact h.elim
    · exact h.elim
  · exact h.elim

/-! parts of values -/
def stPartRow (ty : Ty) (a : A) (off : Nat) (K : SV → Prop) : Prop :=
  match ty.kind with
  | .arr _ _ | .struct _ => a.isRow = true ∧ K (.one (a.sub off ty.size))
  | .other => False
  | _ => (off < a.len ∧ a.isRow = true) ∧ K (one (a.get off))
def stPart (T : Tab) (t : TypeId) (a : A) (off : Nat) (K : SV → Prop) : Prop :=
  match T t with
  | some ty =>
    match a with
    | .st l => match segAt l off with
      | some (.s x) => (ty.kind ≠ .other ∧ ty.kind.isAgg = false) ∧ K (one x)
      | some r => (ty.kind ≠ .other ∧ ty.kind.isAgg = true ∧ r.len = ty.size) ∧ K (.one r.a)
      | none => False
    | a => stPartRow ty a off K
  | none => False
theorem A.row_noRec {a : A} (h : a.isRow = true) : a.noRec = true := by cases a <;> first | rfl | cases h
theorem stPart_ok {T : Tab} (hT : TabOK P T) {K : SV → Prop} {t : TypeId} {a : A} {off : Nat} {cs : Array Value} (hag : a.isAgg = true) (hx : DenA ℓ a (.agg cs)) (h : stPart T t a off K) :
    ∃ sv v, (part t cs off).run P w = .ok v w ∧ DenV ℓ sv v ∧ K sv := by
  unfold stPart at h
  obtain ⟨hok, vs, hvs, hd⟩ := (DenA.agg hag).1 hx
  simp only [Value.agg.injEq] at hvs
  subst hvs
  split at h
  · rename_i ty hty
    have hty := hT t ty hty
    have runA : ty.kind ≠ .other → ty.kind.isAgg = true → (part t vs.toArray off).run P w = .ok (.agg ((vs.drop off).take ty.size).toArray) w := by
      intro hko hka
      simp only [part, Sem.run_bind, hty.isAgg hko w, hka, if_true, hty.size w, Result.andThen_ok, Sem.run_pure]
      congr 2
      apply Array.ext'
      simp [Array.toList_extract]
    have runS : ∀ {u : Value}, ty.kind ≠ .other → ty.kind.isAgg = false → vs[off]? = some u → (part t vs.toArray off).run P w = .ok u w := by
      intro u hko hka hu
      simp [part, hty.isAgg hko w, hka, hu]
    split at h
    · rename_i l
      have scal : ∀ {x : S}, segAt l off = some (.s x) → (ty.kind ≠ .other ∧ ty.kind.isAgg = false) ∧ K (one x) → ∃ sv v, (part t vs.toArray off).run P w = .ok v w ∧ DenV ℓ sv v ∧ K sv := by
        rintro x hx ⟨⟨h1, h2⟩, hK⟩
        obtain ⟨pre, post, hcs, hpl⟩ := segAt_cells hok hx
        have h3 : (segCells l)[off]? = some x := by rw [hcs, ← hpl]; simp [R.cells]
        obtain ⟨u, hu, hdu⟩ := hd.get off x h3
        exact ⟨one x, u, runS h1 h2 hu, hdu, hK⟩
      have rowr : ∀ {r : R}, segAt l off = some r → r.a.isAgg = true → (ty.kind ≠ .other ∧ ty.kind.isAgg = true ∧ r.len = ty.size) ∧ K (.one r.a) → ∃ sv v, (part t vs.toArray off).run P w = .ok v w ∧ DenV ℓ sv v ∧ K sv := by
        rintro r hr hra ⟨⟨h1, h2, h3⟩, hK⟩
        obtain ⟨pre, post, hcs, hpl⟩ := segAt_cells hok hr
        refine ⟨.one r.a, _, runA h1 h2, (DenA.agg hra).2 ⟨R.a_OK r, _, rfl, ?_⟩, hK⟩
        have h4 := (hd.drop off).take r.len
        rw [show (A.st l).cells = segCells l from rfl, hcs, List.append_assoc, List.drop_append_of_le_length (by omega), ← hpl, List.drop_length, List.nil_append, ← R.len_cells, List.take_left] at h4
        rw [R.a_cells, ← hpl, ← h3, ← R.len_cells]; exact h4
      split at h
      · rename_i x hx; exact scal hx h
      · rename_i r hns hr
        refine rowr hr ?_ h
        cases r <;> first | rfl | exact absurd rfl (hns _)
      · exact h.elim
    · unfold stPartRow at h
      have agg : ty.kind ≠ .other → ty.kind.isAgg = true → (a.isRow = true ∧ K (.one (a.sub off ty.size))) → ∃ sv v, (part t vs.toArray off).run P w = .ok v w ∧ DenV ℓ sv v ∧ K sv := by
        rintro hko hka ⟨hrow, hK⟩
        exact ⟨.one (a.sub off ty.size), _, runA hko hka, (DenA.row (by rw [A.sub_row]; exact hrow)).2 ⟨_, rfl, by rw [A.sub_cells _ _ _ hrow]; exact (hd.drop off).take ty.size⟩, hK⟩
      split at h
      · rename_i hk; exact agg (by rw [hk]; simp) (by rw [hk]; rfl) h
      · rename_i hk; exact agg (by rw [hk]; simp) (by rw [hk]; rfl) h
      · exact h.elim
      · rename_i h1 h2 h3
        obtain ⟨⟨hlt, hrow⟩, hK⟩ := h
        obtain ⟨u, hu, hdu⟩ := hd.get off _ (A.get_cells a off (A.row_noRec hrow) hlt)
        have ha : ty.kind.isAgg = false := by
          cases hq : ty.kind <;> first | rfl | exact absurd hq (h1 _ _) | exact absurd hq (h2 _)
        exact ⟨one (a.get off), u, runS h3 ha hu, hdu, hK⟩
  · exact h.elim
def stIndex (T : Tab) (t : TypeId) (x i : SV) (K : SV → Prop) : Prop :=
  match i.num, T t with
  | some n, some ty =>
    match ty.kind, x with
    | .arr len e, .one a => match T e with
      | some ety => (0 ≤ n ∧ n < len) ∧ a.isAgg = true ∧ stPart T e a (n.toNat * ety.size) K
      | none => False
    | .str, .one (.s (.str l)) => (0 ≤ n ∧ n < l.length) ∧ K (one (.u8 (l.getD n.toNat 0)))
    | _, _ => False
  | _, _ => False
theorem stIndex_ok {T : Tab} (hT : TabOK P T) (hm : MH E ℓ m w) {t : TypeId} {x i : SV} {vx vi : Value} (hx : DenV ℓ x vx) (hi : DenV ℓ i vi) (h : stIndex T t x i (fun r => K r none)) :
    Comes P E ℓ m nid K (do pure (.value (← Instr.index t vx vi))) w := by
  unfold stIndex at h
  split at h
  · rename_i n ty hn hty
    have hty := hT t ty hty
    obtain ⟨k, rfl⟩ : ∃ k, vi = .int k n := by
      unfold SV.num at hn
      split at hn
      · exact num_den hi hn
      · cases hn
    split at h
    · rename_i len e a hk
      have hu := hty.kind
      rw [hk] at hu
      split at h
      · rename_i ety hety
        obtain ⟨hb, hrow, hp⟩ := h
        have hsz := (hT e ety hety).size w
        obtain ⟨hok, vs, rfl, hd⟩ := (DenA.agg hrow).1 hx
        obtain ⟨sv, v, hr, hdv, hK⟩ := stPart_ok (w := w) hT hrow ((DenA.agg hrow).2 ⟨hok, vs, rfl, hd⟩) hp
        refine comes_value hm (v := v) (sv := sv) ?_ hdv hK
        simp [Instr.index, asIntOf, run_underlying hu, hb.1, hb.2, hsz, hr]
      · exact h.elim
    · rename_i l hk
      have hu := hty.kind
      rw [hk] at hu
      obtain ⟨hb, hK⟩ := h
      obtain ⟨s, rfl, hs⟩ := hx
      subst hs
      have hlt : n.toNat < s.size := by have h2 := hb.2; rw [List.length_map, Array.length_toList] at h2; show n.toNat < s.data.size; omega
      refine comes_value hm (v := .int .u8 (s[n.toNat]'hlt).toNat) (sv := one (.u8 _)) ?_ ?_ hK
      · simp [Instr.index, asIntOf, run_underlying hu, hb.1, hlt, getElem?_pos]
      · simp only [one, DenV, DenA, DenS, Value.int.injEq, true_and]
        have : (s.data.toList.map UInt8.toBitVec).getD n.toNat 0 = (s[n.toNat]'hlt).toBitVec := by
          simp [List.getD, ByteArray.getElem_eq_getElem_data]
          rw [Array.getElem?_eq_getElem hlt]; rfl
        rw [this]; rfl
    · exact h.elim
  · exact h.elim
def stFieldV (T : Tab) (t : TypeId) (x : SV) (f : Nat) (K : SV → Prop) : Prop :=
  match x, T t with
  | .one a, some ty =>
    match ty.kind with
    | .struct fs => match fs[f]? with
      | some (o, ft) => a.isAgg = true ∧ stPart T ft a o K
      | none => False
    | _ => False
  | _, _ => False
theorem stFieldV_ok {T : Tab} (hT : TabOK P T) (hm : MH E ℓ m w) {t : TypeId} {x : SV} {f : Nat} {v : Value} (hx : DenV ℓ x v) (h : stFieldV T t x f (fun r => K r none)) :
    Comes P E ℓ m nid K (do pure (.value (← Instr.field t v f))) w := by
  unfold stFieldV at h
  split at h
  · rename_i a ty hty
    have hty := hT t ty hty
    split at h
    · rename_i fs hk
      have hkk := hty.kind
      rw [hk] at hkk
      obtain ⟨F, hF, hmap, _⟩ := hkk
      split at h
      · rename_i o ft hfs
        obtain ⟨hrow, hp⟩ := h
        obtain ⟨hok, vs, rfl, hd⟩ := (DenA.agg hrow).1 hx
        obtain ⟨sv, v, hr, hdv, hK⟩ := stPart_ok (w := w) hT hrow ((DenA.agg hrow).2 ⟨hok, vs, rfl, hd⟩) hp
        rw [← hmap, List.getElem?_map] at hfs
        cases hq : F.toList[f]? with
        | none => rw [hq] at hfs; cases hfs
        | some fld =>
          rw [hq] at hfs
          simp only [Option.map_some, Option.some.injEq, Prod.mk.injEq] at hfs
          have hq' : F[f]? = some fld := by rw [← Array.getElem?_toList]; exact hq
          refine comes_value hm (v := v) (sv := sv) ?_ hdv hK
          simp [Instr.field, run_underlying hF, hq', asAgg, hfs.1, hfs.2, hr]
      · exact h.elim
    · exact h.elim
  · exact h.elim
end
end Go.V
end
section
set_option linter.unusedSimpArgs false
set_option linter.unusedVariables false
namespace Go.V
open Go

section
variable {P : Program} {E : Env} {ℓ : Nat → Option Loc} {m : Mem} {nid : Nat} {K : SV → Option Ent → Prop} {w : World}

def stUn (op : UnOp) (x : SV) (K : SV → Prop) : Prop :=
  match op, x with
  | .neg, .one (.s (.i a)) => inI (-a) ∧ K (one (.i (-a)))
  | .neg, .one (.s (.u8 a)) => K (one (.u8 (-a)))
  | .neg, .one (.s (.u16 a)) => K (one (.u16 (-a)))
  | .neg, .one (.s (.u32 a)) => K (one (.u32 (-a)))
  | .neg, .one (.s (.u64 a)) => K (one (.u64 (-a)))
  | .xor, .one (.s (.u8 a)) => K (one (.u8 (~~~a)))
  | .xor, .one (.s (.u32 a)) => K (one (.u32 (~~~a)))
  | .xor, .one (.s (.u64 a)) => K (one (.u64 (~~~a)))
  | .not, .one (.s (.b c)) => K (one (.b (!c)))
  | _, _ => False
theorem neg_u {k : IntKind} (hk : k.signed = false) (a : BitVec k.bits) : k.wrap (0 - (a.toNat : Int)) = (-a).toNat := by
  have h := wrap_sub hk (0#k.bits) a
  simp only [BitVec.toNat_ofNat, Nat.zero_mod, Int.natCast_zero, BitVec.zero_sub] at h
  exact h
theorem not_u {k : IntKind} (hk : k.signed = false) (a : BitVec k.bits) : k.wrap ((BitVec.ofInt k.bits (if k.signed then -1 else k.max) ^^^ BitVec.ofInt k.bits a.toNat : BitVec k.bits).toNat : Int) = (~~~a).toNat := by
  have e : BitVec.ofInt k.bits (if k.signed then -1 else k.max) = BitVec.allOnes k.bits := by
    rw [hk]
    simp only [Bool.false_eq_true, if_false, IntKind.max, hk]
    have : ((2 : Int) ^ k.bits - 1) = ((2 ^ k.bits - 1 : Nat) : Int) := by
      rw [Int.natCast_sub (Nat.one_le_two_pow)]; simp
    rw [this, BitVec.ofInt_natCast]
    apply BitVec.eq_of_toNat_eq
    rw [BitVec.toNat_ofNat, BitVec.toNat_allOnes, Nat.mod_eq_of_lt]
    have := Nat.two_pow_pos k.bits; omega
  rw [e, ofInt_toNat, BitVec.allOnes_xor, wrap_toNat hk]
theorem stUn_ok (hm : MH E ℓ m w) {op : UnOp} {x : SV} {v : Value} (hx : DenV ℓ x v) (h : stUn op x (fun r => K r none)) : Comes P E ℓ m nid K (do pure (.value (← Op.unary op v))) w := by
  unfold stUn at h
  split at h
  · obtain ⟨h1, hK⟩ := h
    rename_i a
    simp only [DenV, DenA, DenS] at hx; subst hx
    exact comes_value hm (v := .int .i64 (-a)) (sv := one (.i (-a))) (by simp [Op.unary, Op.intArith]; exact wrap_in h1) rfl hK
  · simp only [DenV, DenA, DenS] at hx; subst hx
    exact comes_value hm (sv := one _) (by simp only [Op.unary, Op.intArith]; rfl) (by simp only [one, DenV, DenA, DenS]; exact congrArg _ (neg_u (k := .u8) rfl _)) h
  · simp only [DenV, DenA, DenS] at hx; subst hx
    exact comes_value hm (sv := one _) (by simp only [Op.unary, Op.intArith]; rfl) (by simp only [one, DenV, DenA, DenS]; exact congrArg _ (neg_u (k := .u16) rfl _)) h
  · simp only [DenV, DenA, DenS] at hx; subst hx
    exact comes_value hm (sv := one _) (by simp only [Op.unary, Op.intArith]; rfl) (by simp only [one, DenV, DenA, DenS]; exact congrArg _ (neg_u (k := .u32) rfl _)) h
  · simp only [DenV, DenA, DenS] at hx; subst hx
    exact comes_value hm (sv := one _) (by simp only [Op.unary, Op.intArith]; rfl) (by simp only [one, DenV, DenA, DenS]; exact congrArg _ (neg_u (k := .u64) rfl _)) h
  · simp only [DenV, DenA, DenS] at hx; subst hx
    exact comes_value hm (sv := one _) (by simp only [Op.unary, Op.intBits]; rfl) (by simp only [one, DenV, DenA, DenS]; exact congrArg _ (not_u (k := .u8) rfl _)) h
  · simp only [DenV, DenA, DenS] at hx; subst hx
    exact comes_value hm (sv := one _) (by simp only [Op.unary, Op.intBits]; rfl) (by simp only [one, DenV, DenA, DenS]; exact congrArg _ (not_u (k := .u32) rfl _)) h
  · simp only [DenV, DenA, DenS] at hx; subst hx
    exact comes_value hm (sv := one _) (by simp only [Op.unary, Op.intBits]; rfl) (by simp only [one, DenV, DenA, DenS]; exact congrArg _ (not_u (k := .u64) rfl _)) h
  · simp only [DenV, DenA, DenS] at hx; subst hx
    rename_i c
    exact comes_value hm (sv := one (.b (!c))) (v := .bool (!c)) (by simp [Op.unary]) rfl h
  · exact h.elim

/-! conversions -/
def cvB (k : IntKind) {n : Nat} (x : BitVec n) (K : SV → Prop) : Prop :=
  match k with
  | .i64 => if n ≤ 32 then K (one (.i x.toNat)) else K (one (.i x.toInt))
  | .u8 => K (one (.u8 (x.setWidth 8)))
  | .u16 => K (one (.u16 (x.setWidth 16)))
  | .u32 => K (one (.u32 (x.setWidth 32)))
  | .u64 => K (one (.u64 (x.setWidth 64)))
  | _ => False
def cvI (k : IntKind) (n : Int) (K : SV → Prop) : Prop :=
  match k with
  | .i64 => inI n ∧ K (one (.i n))
  | .u8 => K (one (.u8 (BitVec.ofInt 8 n)))
  | .u16 => K (one (.u16 (BitVec.ofInt 16 n)))
  | .u32 => K (one (.u32 (BitVec.ofInt 32 n)))
  | .u64 => K (one (.u64 (BitVec.ofInt 64 n)))
  | _ => False
def cvS (k : IntKind) (x : S) (K : SV → Prop) : Prop :=
  match x with
  | .i n => cvI k n K
  | .u8 a => cvB k a K
  | .u16 a => cvB k a K
  | .u32 a => cvB k a K
  | .u64 a => cvB k a K
  | _ => False
def stConv (T : Tab) (m : Mem) (nid : Nat) (src dst : TypeId) (x : SV) (K : SV → Option Ent → Prop) : Prop :=
  match T src, T dst, x with
  | some s, some d, .one (.s x) =>
    match s.kind, d.kind with
    | .int _, .int k => cvS k x (fun r => K r none)
    | .str, .str => match x with
      | .str l => K (one (.str l)) none
      | _ => False
    | .str, .sl e => match x, T e with
      | .str l, some ety => match ety.kind with
        | .int .u8 => ∀ cap, l.length ≤ cap → K (one (.sl nid 0 l.length cap 1)) (some ⟨true, e, none, .a8 l⟩)
        | _ => False
      | _, _ => False
    | .sl e, .str => match x, T e with
      | .sl id off len cap es, some ety => match ety.kind, m[id]? with
        | .int .u8, some (.ent en) => match en.c with
          | .a8 l => (es = 1 ∧ off + len ≤ l.length) ∧ K (one (.str ((l.drop off).take len))) none
          | _ => False
        | _, _ => False
      | .slq id off len es, some ety => match ety.kind, m[id]? with
        | .int .u8, some (.ent en) => match en.c with
          | .a8 l => (es = 1 ∧ off + len ≤ l.length) ∧ K (one (.str ((l.drop off).take len))) none
          | _ => False
        | _, _ => False
      | .snil, some ety => match ety.kind with
        | .int .u8 => K (one (.str [])) none
        | _ => False
      | _, _ => False
    | _, _ => False
  | _, _, _ => False
theorem wrap_setWidth {k : IntKind} (hk : k.signed = false) {n : Nat} (x : BitVec n) : k.wrap x.toNat = (x.setWidth k.bits).toNat := by
  rw [wrap_u hk]
  refine emod_natCast_pow _ _ _ ?_
  rw [BitVec.toNat_setWidth, ← Int.natCast_emod]
theorem wrap_ofInt {k : IntKind} (hk : k.signed = false) (n : Int) : k.wrap n = (BitVec.ofInt k.bits n).toNat := by
  rw [wrap_u hk]
  refine emod_natCast_pow _ _ _ ?_
  rw [BitVec.toNat_ofInt]
  rw [Int.toNat_of_nonneg (Int.emod_nonneg _ (by have := Nat.two_pow_pos k.bits; omega))]
theorem cv_run {src dst : TypeId} {k0 k : IntKind} (hs : P.underlying src = some (.int k0)) (hd : P.underlying dst = some (.int k)) (j : IntKind) (n : Int) : (convert src dst (.int j n)).run P w = .ok (.int k (k.wrap n)) w := by
  simp [convert, run_underlying hs, run_underlying hd, Conv.intToInt]
theorem toInt_wrap (x : BitVec 64) : IntKind.i64.wrap x.toNat = x.toInt := by
  rw [BitVec.toInt_eq_toNat_cond, IntKind.wrap_i64]
  have := x.isLt
  split <;> omega
theorem cvS_ok (hm : MH E ℓ m w) {src dst : TypeId} {k0 k : IntKind} (hs : P.underlying src = some (.int k0)) (hd : P.underlying dst = some (.int k)) {x : S} {v : Value} (hx : DenS ℓ x v) (h : cvS k x (fun r => K r none)) :
    Comes P E ℓ m nid K (do pure (.value (← convert src dst v))) w := by
  have hB : ∀ {j : IntKind} {n : Nat} (x : BitVec n), n ≤ 32 ∨ n = 64 → cvB k x (fun r => K r none) → Comes P E ℓ m nid K (do pure (.value (← convert src dst (.int j x.toNat)))) w := by
    intro j n x hn h
    cases k <;> simp only [cvB] at h <;> (try exact h.elim)
    · rcases hn with hn | rfl
      · rw [if_pos hn] at h
        refine comes_value hm (cv_run hs hd j _) (sv := one _) ?_ h
        simp only [one, DenV, DenA, DenS]
        rw [wrap_in]
        have := x.isLt
        have h2 : (2 : Nat) ^ n ≤ 2 ^ 32 := Nat.pow_le_pow_right (by decide) hn
        unfold inI; omega
      · rw [if_neg (by omega)] at h
        exact comes_value hm (cv_run hs hd j _) (sv := one _) (by simp only [one, DenV, DenA, DenS]; rw [toInt_wrap]) h
    · exact comes_value hm (cv_run hs hd j _) (sv := one _) (by simp only [one, DenV, DenA, DenS]; rw [wrap_setWidth (k := .u8) rfl]; rfl) h
    · exact comes_value hm (cv_run hs hd j _) (sv := one _) (by simp only [one, DenV, DenA, DenS]; rw [wrap_setWidth (k := .u16) rfl]; rfl) h
    · exact comes_value hm (cv_run hs hd j _) (sv := one _) (by simp only [one, DenV, DenA, DenS]; rw [wrap_setWidth (k := .u32) rfl]; rfl) h
    · exact comes_value hm (cv_run hs hd j _) (sv := one _) (by simp only [one, DenV, DenA, DenS]; rw [wrap_setWidth (k := .u64) rfl]; rfl) h
  unfold cvS at h
  split at h
  · rename_i n
    simp only [DenS] at hx; subst hx
    cases k <;> simp only [cvI] at h <;> (try exact h.elim)
    · exact comes_value hm (cv_run hs hd _ _) (sv := one _) (by simp only [one, DenV, DenA, DenS]; rw [wrap_in h.1]) h.2
    · exact comes_value hm (cv_run hs hd _ _) (sv := one _) (by simp only [one, DenV, DenA, DenS]; rw [wrap_ofInt (k := .u8) rfl]; rfl) h
    · exact comes_value hm (cv_run hs hd _ _) (sv := one _) (by simp only [one, DenV, DenA, DenS]; rw [wrap_ofInt (k := .u16) rfl]; rfl) h
    · exact comes_value hm (cv_run hs hd _ _) (sv := one _) (by simp only [one, DenV, DenA, DenS]; rw [wrap_ofInt (k := .u32) rfl]; rfl) h
    · exact comes_value hm (cv_run hs hd _ _) (sv := one _) (by simp only [one, DenV, DenA, DenS]; rw [wrap_ofInt (k := .u64) rfl]; rfl) h
  · simp only [DenS] at hx; subst hx; exact hB _ (by decide) h
  · simp only [DenS] at hx; subst hx; exact hB _ (by decide) h
  · simp only [DenS] at hx; subst hx; exact hB _ (by decide) h
  · simp only [DenS] at hx; subst hx; exact hB _ (by decide) h
  · exact h.elim

/-- A row's bytes, read off its cells. -/
theorem bytes_of_cells : ∀ {l : List (BitVec 8)} {vs : List Value}, DenL ℓ (l.map .u8) vs → vs = (l.map fun b => (b.toNat : Int)).map (Value.int .u8)
  | [], [], _ => rfl
  | b :: l, v :: vs, ⟨h1, h2⟩ => by simp only [DenS] at h1; subst h1; rw [bytes_of_cells h2]; rfl
  | [], _ :: _, h => h.elim
  | _ :: _, [], h => h.elim
theorem push_bytes : ∀ (l : List (BitVec 8)) (s : ByteArray), ((l.map fun b => (b.toNat : Int)).foldl (fun r n => r.push (UInt8.ofNat n.toNat)) s).data.toList.map UInt8.toBitVec = s.data.toList.map UInt8.toBitVec ++ l
  | [], s => by simp
  | b :: l, s => by
    simp only [List.map_cons, List.foldl_cons]
    rw [push_bytes l]
    have : (UInt8.ofNat b.toNat).toBitVec = b := by
      apply BitVec.eq_of_toNat_eq
      simp
    simp [ByteArray.push, this]
theorem bytes_cells (l : List UInt8) : DenL ℓ ((l.map UInt8.toBitVec).map .u8) (l.map fun b => Value.int .u8 b.toNat) := by
  induction l with
  | nil => trivial
  | cons b l ih => exact ⟨rfl, ih⟩

theorem stConv_ok {T : Tab} (hT : TabOK P T) (hm : MH E ℓ m w) (hf : Fresh m nid) {src dst : TypeId} {x : SV} {v : Value} (hx : DenV ℓ x v) (h : stConv T m nid src dst x K) :
    Comes P E ℓ m nid K (do pure (.value (← convert src dst v))) w := by
  unfold stConv at h
  split at h
  · rename_i s d x hs hd
    have hks := (hT src s hs).kind
    have hkd := (hT dst d hd).kind
    split at h
    · rename_i k0 k h1 h2
      rw [h1] at hks; rw [h2] at hkd
      exact cvS_ok hm hks hkd hx h
    · rename_i h1 h2
      rw [h1] at hks; rw [h2] at hkd
      split at h
      · rename_i l
        have hx' := hx
        obtain ⟨s, rfl, _⟩ := hx
        exact comes_value hm (sv := one (.str l)) (v := .string s) (by simp [convert, run_underlying hks, run_underlying hkd]) hx' h
      · exact h.elim
    · rename_i e h1 h2
      rw [h1] at hks; rw [h2] at hkd
      split at h
      · rename_i l ety hety
        have hke := (hT e ety hety).kind
        split at h
        · rename_i h3
          rw [h3] at hke
          simp only [KindOK] at hke hks hkd
          obtain ⟨s, rfl, hs⟩ := hx
          subst hs
          have hsz : (s.data.toList.map UInt8.toBitVec).length = s.size := by simp
          let cap := (Question.appendCap s.size 0 e).cut (w.tape w.drawn (.appendCap s.size 0 e))
          have hcap : s.size ≤ cap := by simp [cap, Question.cut]
          let cs : Array Value := (s.data.map fun b => Value.int .u8 b.toNat) ++ Array.replicate (cap - s.size) (.int .u8 0)
          have hcs : cs.size = cap := by simp [cs]; show s.data.size + (cap - s.size) = cap; have : s.data.size = s.size := rfl; omega
          have hle := hm.le_upd hf ⟨w.heap.size, 0, cs.size⟩
          have hd : DenL (upd ℓ nid ⟨w.heap.size, 0, cs.size⟩) (A.a8 (s.data.toList.map UInt8.toBitVec)).cells (s.data.toList.map fun b => Value.int .u8 b.toNat) := bytes_cells _
          have hal := hm.alloc hf (w' := { w with heap := w.heap.push (.cells cs e (cs.size, cs.size + 1)), drawn := w.drawn + 1 }) (cs := cs) (ty := e) (fr := (cs.size, cs.size + 1)) (fix := none) (a := .a8 (s.data.toList.map UInt8.toBitVec))
            (vs := s.data.toList.map fun b => Value.int .u8 b.toNat) (rest := List.replicate (cap - s.size) (.int .u8 0)) rfl rfl rfl rfl (.inr (Nat.le_refl _)) (by simp) trivial (by simp [cs]) hd
          refine ⟨one (.sl nid 0 (s.data.toList.map UInt8.toBitVec).length cap 1), _, .slice (some ⟨w.heap.size, 0, none⟩) s.size cap, _, _, ?_, h cap (by rw [hsz]; exact hcap), hle, hal, ?_⟩
          · simp only [convert, Sem.run_bind, run_underlying hks, run_underlying hkd, run_underlying hke, Result.andThen_ok, Conv.stringToBytes, run_choose, Question.forced, Bool.false_eq_true, if_false]
            have hsh : ({ w with heap := w.heap.push (.cells cs e (0, 0)), drawn := w.drawn + 1 } : World).shape? w.heap.size = some (e, cs.size) := by simp [World.shape?]
            have hfz : ({ w with heap := w.heap.push (.cells cs e (0, 0)), drawn := w.drawn + 1 } : World).freeze { block := w.heap.size, off := cs.size } 1 = { w with heap := w.heap.push (.cells cs e (cs.size, cs.size + 1)), drawn := w.drawn + 1 } := by
              simp only [World.freeze, Nat.one_ne_zero, if_false]
              congr 1
              apply Array.ext
              · simp
              · intro i h1 h2
                simp only [Array.getElem_modify, Array.getElem_push]
                split
                · rename_i hi; subst hi; simp
                · rename_i hi
                  have : i < w.heap.size := by simp at h2; omega
                  simp [this]
            simp only [newRow, Sem.run_bind, run_newObj, Result.andThen_ok, Sem.run_pure, markStringish, run_shape]
            show ((Sem.run P (match ({ w with heap := w.heap.push (.cells cs e (0, 0)), drawn := w.drawn + 1 } : World).shape? w.heap.size with
              | some (_, n) => freeze { block := w.heap.size, off := n } 1
              | _ => pure ()) ({ w with heap := w.heap.push (.cells cs e (0, 0)), drawn := w.drawn + 1 } : World)).andThen _).andThen _ = _
            rw [hsh]
            simp only [run_freeze, Result.andThen_ok, hfz, Sem.run_pure]
            rfl
          · rw [hsz]
            exact ⟨⟨w.heap.size, 0, cs.size⟩, by simp [upd], hcap, .inr ⟨by show 0 + cap * 1 ≤ cs.size; omega, rfl⟩⟩
        · exact h.elim
      · exact h.elim
    · rename_i e h1 h2
      rw [h1] at hks; rw [h2] at hkd
      split at h
      · rename_i id off len cap es ety hety
        have hke := (hT e ety hety).kind
        split at h
        · rename_i en h3 h4
          rw [h3] at hke
          simp only [KindOK] at hke hks hkd
          split at h
          · rename_i l hl
            obtain ⟨⟨rfl, hle⟩, hK⟩ := h
            obtain ⟨L, hL, hlc, hv⟩ := hx
            rcases hv with ⟨hc0, a, rfl⟩ | ⟨hlim, rfl⟩
            · obtain rfl : len = 0 := by omega
              refine comes_value hm (sv := one (.str _)) (v := .string .empty) ?_ ⟨.empty, rfl, by simp⟩ hK
              rw [run_convert_bytes_string w src dst e a 0 0 hks hke hkd]
              cases a with
              | none => simp [Conv.bytesToString]
              | some a => simpa using run_bytesToString (P := P) w a 0 0 [] (by simp [loadCells, loadCellsFrom])
            · obtain ⟨L', hL', hE, _⟩ := hm.ent id en h4
              obtain rfl := Option.some.inj (hL'.symm.trans hL)
              obtain ⟨vs, hd, hc⟩ := hE.row
              rw [hl] at hd
              have hd2 := (hd.drop off).take len
              have hlen := hd.length
              simp only [A.cells, List.length_map] at hlen
              simp only [A.cells, ← List.map_drop, ← List.map_take] at hd2
              have hvs := bytes_of_cells hd2
              have hrun := run_loadCells_list (P := P) w ⟨L'.blk, L'.base + off, none⟩ ((vs.drop off).take len) (fun j u hu => by
                rw [Addr.add_off, Nat.add_assoc]
                refine hc (off + j) u ?_
                rw [List.getElem?_take] at hu
                split at hu
                · rwa [List.getElem?_drop] at hu
                · cases hu)
              rw [show ((vs.drop off).take len).length = len by simp; omega] at hrun
              rw [hvs] at hrun
              have hb := run_bytesToString (P := P) w _ len cap _ hrun
              exact comes_value hm (sv := one (.str _)) ((run_convert_bytes_string w src dst e _ len cap hks hke hkd).trans hb) ⟨_, rfl, by rw [push_bytes]; simp⟩ hK
          · exact h.elim
        · exact h.elim
      · rename_i id off len es ety hety
        have hke := (hT e ety hety).kind
        split at h
        · rename_i en h3 h4
          rw [h3] at hke
          simp only [KindOK] at hke hks hkd
          split at h
          · rename_i l hl
            obtain ⟨⟨rfl, hle⟩, hK⟩ := h
            obtain ⟨L, hL, cap, hlc, hv⟩ := hx
            rcases hv with ⟨hc0, a, rfl⟩ | ⟨hlim, rfl⟩
            · obtain rfl : len = 0 := by omega
              refine comes_value hm (sv := one (.str _)) (v := .string .empty) ?_ ⟨.empty, rfl, by simp⟩ hK
              rw [run_convert_bytes_string w src dst e a 0 0 hks hke hkd]
              cases a with
              | none => simp [Conv.bytesToString]
              | some a => simpa using run_bytesToString (P := P) w a 0 0 [] (by simp [loadCells, loadCellsFrom])
            · obtain ⟨L', hL', hE, _⟩ := hm.ent id en h4
              obtain rfl := Option.some.inj (hL'.symm.trans hL)
              obtain ⟨vs, hd, hc⟩ := hE.row
              rw [hl] at hd
              have hd2 := (hd.drop off).take len
              have hlen := hd.length
              simp only [A.cells, List.length_map] at hlen
              simp only [A.cells, ← List.map_drop, ← List.map_take] at hd2
              have hvs := bytes_of_cells hd2
              have hrun := run_loadCells_list (P := P) w ⟨L'.blk, L'.base + off, none⟩ ((vs.drop off).take len) (fun j u hu => by
                rw [Addr.add_off, Nat.add_assoc]
                refine hc (off + j) u ?_
                rw [List.getElem?_take] at hu
                split at hu
                · rwa [List.getElem?_drop] at hu
                · cases hu)
              rw [show ((vs.drop off).take len).length = len by simp; omega] at hrun
              rw [hvs] at hrun
              have hb := run_bytesToString (P := P) w _ len cap _ hrun
              exact comes_value hm (sv := one (.str _)) ((run_convert_bytes_string w src dst e _ len cap hks hke hkd).trans hb) ⟨_, rfl, by rw [push_bytes]; simp⟩ hK
          · exact h.elim
        · exact h.elim
      · rename_i ety hety
        have hke := (hT e ety hety).kind
        split at h
        · rename_i h3
          rw [h3] at hke
          simp only [KindOK] at hke hks hkd
          simp only [DenV, DenA, DenS] at hx; subst hx
          refine comes_value hm (sv := one (.str [])) (v := .string .empty) ?_ ⟨.empty, rfl, by simp⟩ h
          rw [run_convert_bytes_string w src dst e none 0 0 hks hke hkd]
          simp [Conv.bytesToString]
        · exact h.elim
      · exact h.elim
    · exact h.elim
  · exact h.elim
end
end Go.V
end
section
set_option linter.unusedSimpArgs false
set_option linter.unusedVariables false
namespace Go.V
open Go

section
variable {P : Program} {E : Env} {ℓ : Nat → Option Loc} {m : Mem} {nid : Nat} {K : SV → Option Ent → Prop} {w : World}

theorem sv_num {i : SV} {v : Value} {n : Int} (hi : DenV ℓ i v) (hn : i.num = some n) : ∃ k, v = .int k n := by
  unfold SV.num at hn
  split at hn
  · exact num_den hi hn
  · cases hn

/-! slices -/
def optN (o : Option SV) (d : Int) : Option Int :=
  match o with
  | none => some d
  | some v => v.num
def noMax (hi mx : Option SV) : Bool := match hi, mx with | none, some _ => false | _, _ => true
def stSlice (T : Tab) (m : Mem) (t : TypeId) (x : SV) (lo hi mx : Option SV) (K : SV → Prop) : Prop :=
  match T t with
  | none => False
  | some ty =>
    match ty.kind, x with
    | .sl e, .one (.s (.sl id off len cap es)) =>
      match optN lo 0, optN hi len, optN mx cap, T e with
      | some l, some h, some x, some ety => (0 ≤ l ∧ l ≤ h ∧ h ≤ x ∧ x ≤ cap) ∧ (es = ety.size ∧ noMax hi mx = true) ∧ K (one (.sl id (off + l.toNat * es) (h - l).toNat (x - l).toNat es))
      | _, _, _, _ => False
    | .sl e, .one (.s .snil) =>
      match optN lo 0, optN hi 0, optN mx 0, T e with
      | some l, some h, some x, some ety => (0 ≤ l ∧ l ≤ h ∧ h ≤ x ∧ x ≤ 0) ∧ noMax hi mx = true ∧ K (one .snil)
      | _, _, _, _ => False
    | .arr n e, .one (.s (.ptr id base off)) =>
      match optN lo 0, optN hi n, optN mx n, T e, m[id]? with
      | some l, some h, some x, some ety, some (.ent en) =>
        (0 ≤ l ∧ l ≤ h ∧ h ≤ x ∧ x ≤ n) ∧ (en.own = true ∧ base + off + n * ety.size ≤ en.bound ∧ noMax hi mx = true) ∧ K (one (.sl id (base + off + l.toNat * ety.size) (h - l).toNat (x - l).toNat ety.size))
      | _, _, _, _, _ => False
    | .str, .one (.s (.str s)) =>
      match optN lo 0, optN hi s.length, mx with
      | some l, some h, none => (0 ≤ l ∧ l ≤ h ∧ h ≤ s.length) ∧ K (one (.str ((s.drop l.toNat).take (h - l).toNat)))
      | _, _, _ => False
    | _, _ => False

def DenO (ℓ : Nat → Option Loc) : Option SV → Option Value → Prop
  | none, none => True
  | some x, some v => DenV ℓ x v
  | _, _ => False
theorem bounds_run {sl : Bool} {len cap : Nat} {lo hi mx : Option SV} {vlo vhi vmx : Option Value} (hlo : DenO ℓ lo vlo) (hhi : DenO ℓ hi vhi) (hmx : DenO ℓ mx vmx) {l h x : Int}
    (h1 : optN lo 0 = some l) (h2 : optN hi len = some h) (h3 : optN mx cap = some x) (hn : noMax hi mx = true) (hb : 0 ≤ l ∧ l ≤ h ∧ h ≤ x ∧ x ≤ cap) :
    (Instr.sliceBounds sl len cap vlo vhi vmx).run P w = .ok (l.toNat, h.toNat, x.toNat) w := by
  have sb : ∀ (k : IntKind) (i : Int) (y : Nat) (code : BoundsCode), 0 ≤ i → i ≤ y → (Instr.sliceBound (.int k i) y code).run P w = .ok i.toNat w := fun k i y code a b => by
    simp [Instr.sliceBound, asIntOf, a, b]
  have ex : ∀ {o : Option SV} {v : Value} {d n : Int}, DenO ℓ o (some v) → optN o d = some n → ∃ k, v = .int k n := by
    intro o v d n ho hn
    cases o with
    | none => exact ho.elim
    | some s => exact sv_num ho hn
  have e1 : ((x.toNat : Nat) : Int) = x := by omega
  have e2 : ((h.toNat : Nat) : Int) = h := by omega
  unfold Instr.sliceBounds
  cases vmx with
  | none =>
    obtain rfl : x = cap := by cases mx with
      | none => simp [optN] at h3; exact h3.symm
      | some _ => exact hmx.elim
    cases vhi with
    | none =>
      obtain rfl : h = len := by cases hi with
        | none => simp [optN] at h2; exact h2.symm
        | some _ => exact hhi.elim
      cases vlo with
      | none =>
        obtain rfl : l = 0 := by cases lo with
          | none => simp [optN] at h1; exact h1.symm
          | some _ => exact hlo.elim
        simp
      | some v =>
        obtain ⟨k, rfl⟩ := ex hlo h1
        simp [sb k l len .sliceB hb.1 (by omega)]
    | some v =>
      obtain ⟨kh, rfl⟩ := ex hhi h2
      have s1 := sb kh h cap (if sl then BoundsCode.sliceAcap else BoundsCode.sliceAlen) (by omega) (by omega)
      cases vlo with
      | none =>
        obtain rfl : l = 0 := by cases lo with
          | none => simp [optN] at h1; exact h1.symm
          | some _ => exact hlo.elim
        simp [s1]
      | some v =>
        obtain ⟨k, rfl⟩ := ex hlo h1
        simp [s1, sb k l h.toNat .sliceB hb.1 (by omega)]
  | some vm =>
    obtain ⟨km, rfl⟩ := ex hmx h3
    have s0 := sb km x cap (if sl then BoundsCode.slice3Acap else BoundsCode.slice3Alen) (by omega) (by omega)
    cases vhi with
    | none =>
      cases hi with
      | none => cases mx with
        | none => exact hmx.elim
        | some _ => cases hn
      | some _ => exact hhi.elim
    | some v =>
      obtain ⟨kh, rfl⟩ := ex hhi h2
      have s1 := sb kh h x.toNat .slice3B (by omega) (by omega)
      cases vlo with
      | none =>
        obtain rfl : l = 0 := by cases lo with
          | none => simp [optN] at h1; exact h1.symm
          | some _ => exact hlo.elim
        simp [s0, s1]
      | some v =>
        obtain ⟨k, rfl⟩ := ex hlo h1
        simp [s0, s1, sb k l h.toNat .slice3C hb.1 (by omega)]
theorem extract_bits (s : ByteArray) (a b : Nat) (h : b ≤ s.size) : (s.extract a b).data.toList.map UInt8.toBitVec = ((s.data.toList.map UInt8.toBitVec).drop a).take (b - a) := by
  rw [ByteArray.data_extract, Array.toList_extract, List.extract, List.map_take, List.map_drop]
theorem stSlice_ok {T : Tab} (hT : TabOK P T) (hm : MH E ℓ m w) {t : TypeId} {x : SV} {lo hi mx : Option SV} {vx : Value} {vlo vhi vmx : Option Value} (hx : DenV ℓ x vx) (hlo : DenO ℓ lo vlo) (hhi : DenO ℓ hi vhi) (hmx : DenO ℓ mx vmx)
    (h : stSlice T m t x lo hi mx (fun r => K r none)) : Comes P E ℓ m nid K (do pure (.value (← Instr.sliceAt t vx vlo vhi vmx))) w := by
  unfold stSlice at h
  split at h
  · exact h.elim
  · rename_i ty hty
    have hty := hT t ty hty
    have hk := hty.kind
    split at h
    · rename_i e id off len cap es hkk
      rw [hkk] at hk
      simp only [KindOK] at hk
      split at h
      · rename_i l h' x ety h1 h2 h3 h4
        obtain ⟨hb, ⟨hes, hn⟩, hK⟩ := h
        have hsz := (hT e ety h4).size w
        obtain ⟨L, hL, hlc, hv⟩ := hx
        have hbr := fun (c : Nat) (a : Option Addr) => bounds_run (P := P) (w := w) (sl := true) hlo hhi hmx h1 h2 h3 hn hb
        rcases hv with ⟨hc0, a, rfl⟩ | ⟨hlim, rfl⟩
        · subst hc0
          obtain rfl : len = 0 := by omega
          have hbr := bounds_run (P := P) (w := w) (sl := true) hlo hhi hmx h1 h2 h3 hn hb
          obtain ⟨rfl, rfl, rfl⟩ : l = 0 ∧ h' = 0 ∧ x = 0 := by omega
          refine comes_value hm (v := .slice a 0 0) (sv := one (.sl id _ _ _ es)) ?_ ⟨L, hL, by simp, .inl ⟨by simp, a, by simp⟩⟩ hK
          simp [Instr.sliceAt, run_underlying hk, Instr.slice, hbr, hsz]
        · have hbr := bounds_run (P := P) (w := w) (sl := true) hlo hhi hmx h1 h2 h3 hn hb
          by_cases hxl : x = l
          · obtain rfl : h' = l := by omega
            subst hxl
            refine comes_value hm (v := .slice (some ⟨L.blk, L.base + off, none⟩) 0 0) (sv := one (.sl id _ _ _ es)) ?_ ⟨L, hL, by simp, .inl ⟨by simp, some ⟨L.blk, L.base + off, none⟩, by simp⟩⟩ hK
            simp [Instr.sliceAt, run_underlying hk, Instr.slice, hbr, hsz]
          · have hne : ¬ (x.toNat = l.toNat) := by omega
            refine comes_value hm (v := .slice (some ⟨L.blk, L.base + off + l.toNat * es, none⟩) (h' - l).toNat (x - l).toNat) (sv := one (.sl id _ _ _ es)) ?_ ⟨L, hL, by omega, .inr ⟨?_, by rw [Nat.add_assoc]⟩⟩ hK
            · simp [Instr.sliceAt, run_underlying hk, Instr.slice, hbr, hsz, hne, Addr.add_off, hes]
              omega
            · have : l.toNat + (x - l).toNat ≤ cap := by omega
              have := Nat.mul_le_mul_right es this
              rw [Nat.add_mul] at this
              omega
      · exact h.elim
    · rename_i e hkk
      rw [hkk] at hk
      simp only [KindOK] at hk
      split at h
      · rename_i l h' x ety h1 h2 h3 h4
        obtain ⟨hb, hn, hK⟩ := h
        have hsz := (hT e ety h4).size w
        simp only [DenV, DenA, DenS] at hx; subst hx
        have hbr := bounds_run (P := P) (w := w) (sl := true) (len := 0) (cap := 0) hlo hhi hmx h1 h2 h3 hn hb
        obtain ⟨rfl, rfl, rfl⟩ : l = 0 ∧ h' = 0 ∧ x = 0 := by omega
        refine comes_value hm (v := .slice none 0 0) (sv := one .snil) ?_ rfl hK
        simp [Instr.sliceAt, run_underlying hk, Instr.slice, hbr, hsz]
      · exact h.elim
    · rename_i n e id base off hkk
      rw [hkk] at hk
      simp only [KindOK] at hk
      split at h
      · rename_i l h' x ety en h1 h2 h3 h4 h5
        obtain ⟨hb, ⟨ho, hle, hn⟩, hK⟩ := h
        have hsz := (hT e ety h4).size w
        obtain ⟨L, hL, rfl⟩ := hx
        obtain ⟨L', hL', hE, _⟩ := hm.ent id en h5
        obtain rfl := Option.some.inj (hL'.symm.trans hL)
        have hbd := hE.bound
        have hlim : en.c.len ≤ L'.lim := by
          have h6 := hE.2
          rw [if_pos ho] at h6
          exact h6.2.1
        have hbr := bounds_run (P := P) (w := w) (sl := false) hlo hhi hmx h1 h2 h3 hn hb
        by_cases hxl : x = l
        · obtain rfl : h' = l := by omega
          subst hxl
          refine comes_value hm (v := .slice (some ⟨L'.blk, L'.base + (base + off), none⟩) 0 0) (sv := one (.sl id _ _ _ ety.size)) ?_ ⟨L', hL, by simp, .inl ⟨by simp, some ⟨L'.blk, L'.base + (base + off), none⟩, by simp⟩⟩ hK
          simp [Instr.sliceAt, run_underlying hk, Instr.sureAddr, hbr, hsz]
        · have hne : ¬ (x.toNat = l.toNat) := by omega
          refine comes_value hm (v := .slice (some ⟨L'.blk, L'.base + (base + off) + l.toNat * ety.size, none⟩) (h' - l).toNat (x - l).toNat) (sv := one (.sl id _ _ _ ety.size)) ?_ ⟨L', hL, by omega, .inr ⟨?_, by simp only [Nat.add_assoc]⟩⟩ hK
          · simp [Instr.sliceAt, run_underlying hk, Instr.sureAddr, hbr, hsz, hne, Addr.add_off]
            omega
          · have : l.toNat + (x - l).toNat ≤ n := by omega
            have := Nat.mul_le_mul_right ety.size this
            rw [Nat.add_mul] at this
            omega
      · exact h.elim
    · rename_i s hkk
      rw [hkk] at hk
      simp only [KindOK] at hk
      split at h
      · rename_i l h' h1 h2
        obtain ⟨hb, hK⟩ := h
        obtain ⟨b, rfl, hs⟩ := hx
        have hsz : s.length = b.size := by rw [← hs]; simp
        obtain rfl : vmx = none := by cases vmx with
          | none => rfl
          | some _ => exact hmx.elim
        have hbr := bounds_run (P := P) (w := w) (sl := false) (len := b.size) (cap := b.size) (mx := none) (vmx := none) (x := b.size) hlo hhi trivial h1 (by rw [← hsz]; exact h2) rfl (by cases hi <;> rfl) (by omega)
        refine comes_value hm (v := .string (b.extract l.toNat h'.toNat)) (sv := one (.str _)) ?_ ⟨_, rfl, ?_⟩ hK
        · simp [Instr.sliceAt, run_underlying hk, Instr.slice, hbr]
        · rw [extract_bits _ _ _ (by omega), hs]
          congr 1
          omega
      · exact h.elim
    · exact h.elim
def stArrPtr (T : Tab) (t : TypeId) (x : SV) (K : SV → Prop) : Prop :=
  match T t, x with
  | some ty, .one (.s (.sl id off len cap es)) => match ty.kind with
    | .arr n e => (0 < n ∧ n ≤ len) ∧ K (one (.ptr id 0 off))
    | _ => False
  | _, _ => False
theorem stArrPtr_ok {T : Tab} (hT : TabOK P T) (hm : MH E ℓ m w) {t : TypeId} {x : SV} {v : Value} (hx : DenV ℓ x v) (h : stArrPtr T t x (fun r => K r none)) :
    Comes P E ℓ m nid K (do pure (.value (← Instr.arrayAt t v))) w := by
  unfold stArrPtr at h
  split at h
  · rename_i ty id off len cap es hty
    have hk := (hT t ty hty).kind
    split at h
    · rename_i n e hkk
      rw [hkk] at hk
      simp only [KindOK] at hk
      obtain ⟨hb, hK⟩ := h
      obtain ⟨L, hL, hlc, hv⟩ := hx
      rcases hv with ⟨hc0, a, rfl⟩ | ⟨hlim, rfl⟩
      · omega
      · refine comes_value hm (v := .pointer (some ⟨L.blk, L.base + off, none⟩)) (sv := one (.ptr id 0 off)) ?_ ⟨L, hL, by rw [Nat.zero_add]⟩ hK
        have hn : ¬ len < n := by omega
        simp [Instr.arrayAt, run_underlying hk, hn]
    · exact h.elim
  · exact h.elim

/-! tuples -/
def stExtract (x : SV) (i : Nat) (K : SV → Prop) : Prop :=
  match x with
  | .tup l => match l[i]? with
    | some a => K (.one a)
    | none => False
  | _ => False
theorem DenT.get : ∀ {l : List A} {vs : List Value} {i : Nat} {a : A}, DenT ℓ l vs → l[i]? = some a → ∃ v, vs[i]? = some v ∧ DenA ℓ a v
  | [], [], i, a, _, h => by simp at h
  | b :: l, v :: vs, 0, a, ⟨h1, _⟩, h => by simp at h; subst h; exact ⟨v, rfl, h1⟩
  | b :: l, v :: vs, i + 1, a, ⟨_, h2⟩, h => by simpa using DenT.get h2 (by simpa using h)
theorem stExtract_ok (hm : MH E ℓ m w) {x : SV} {i : Nat} {v : Value} (hx : DenV ℓ x v) (h : stExtract x i (fun r => K r none)) :
    Comes P E ℓ m nid K (do pure (.value (← Instr.extract v i))) w := by
  unfold stExtract at h
  split at h
  · split at h
    · rename_i a ha
      obtain ⟨vs, rfl, hd⟩ := hx
      obtain ⟨u, hu, hdu⟩ := hd.get ha
      exact comes_value hm (v := u) (sv := .one a) (by simp [Instr.extract, hu]) hdu h
    · exact h.elim
  · exact h.elim

/-! interface and function values -/
def stIface (T : Tab) (t : TypeId) (x : SV) (K : SV → Prop) : Prop :=
  match T t, x with
  | some ty, .one (.s s) => (match ty.kind with | .iface => False | .other => False | _ => True) ∧ K (one (.ifc t s))
  | some ty, .one (.st [⟨1, .s s⟩]) => (match ty.kind with | .iface => False | .other => False | _ => True) ∧ K (one (.ifa t s))
  | _, _ => False
theorem stIface_ok {T : Tab} (hT : TabOK P T) (hm : MH E ℓ m w) {t : TypeId} {x : SV} {v : Value} (hx : DenV ℓ x v) (h : stIface T t x (fun r => K r none)) :
    Comes P E ℓ m nid K (do pure (.value (← Instr.makeInterface t v))) w := by
  have run : ∀ {ty : Ty}, T t = some ty → (match ty.kind with | .iface => False | .other => False | _ => True) → (Instr.makeInterface t v).run P w = .ok (.iface t v) w := by
    intro ty hty hk
    have hkk := (hT t ty hty).kind
    cases hq : ty.kind <;> rw [hq] at hkk hk <;> simp only [KindOK] at hkk <;> (try exact hk.elim)
    case struct fs => obtain ⟨f, hf, _⟩ := hkk; simp [Instr.makeInterface, run_underlying hf]
    case func => obtain ⟨a, b, c, hf⟩ := hkk; simp [Instr.makeInterface, run_underlying hf]
    all_goals simp [Instr.makeInterface, run_underlying hkk]
  unfold stIface at h
  split at h
  · rename_i ty s hty
    exact comes_value hm (run hty h.1) (sv := one (.ifc t s)) ⟨v, rfl, hx⟩ h.2
  · rename_i ty s hty
    obtain ⟨_, vs, rfl, hd⟩ := hx
    cases vs with
    | nil => exact hd.elim
    | cons u us => cases us with
      | nil => exact comes_value hm (run hty h.1) (sv := one (.ifa t s)) ⟨u, rfl, hd.1⟩ h.2
      | cons => exact hd.2.elim
  · exact h.elim
def ptrIds : List SV → Option (List Nat)
  | [] => some []
  | .one (.s (.ptr id 0 0)) :: l => (ptrIds l).map (id :: ·)
  | _ :: _ => none
def stFunc (fn : Fn) (first captured : List SV) (K : SV → Prop) : Prop :=
  match fn, first, ptrIds captured with
  | .func f, [], some ids => K (one (.fn f ids))
  | _, _, _ => False
def DenVs (ℓ : Nat → Option Loc) : List SV → List Value → Prop
  | [], [] => True
  | x :: xs, v :: vs => DenV ℓ x v ∧ DenVs ℓ xs vs
  | _, _ => False
theorem ptrIds_den {l : List SV} : ∀ {vs : List Value} {ids : List Nat}, DenVs ℓ l vs → ptrIds l = some ids → ∃ Ls : List Loc, Ls.map some = ids.map ℓ ∧ vs = Ls.map (fun L => Value.pointer (some ⟨L.blk, L.base, none⟩)) := by
  induction l with
  | nil => intro vs ids hd h; cases vs with
    | nil => simp [ptrIds] at h; subst h; exact ⟨[], rfl, rfl⟩
    | cons => exact hd.elim
  | cons x l ih => intro vs ids hd h; cases vs with
    | nil => exact hd.elim
    | cons v vs =>
      obtain ⟨h1, h2⟩ := hd
      unfold ptrIds at h
      split at h
      · rename_i heq; cases heq
      · rename_i id l' heq
        cases heq
        simp only [Option.map_eq_some_iff] at h
        obtain ⟨ids', h3, rfl⟩ := h
        obtain ⟨L, hL, rfl⟩ := h1
        obtain ⟨Ls, h4, rfl⟩ := ih h2 h3
        exact ⟨L :: Ls, by simp [h4, hL], by simp⟩
      · cases h
theorem stFunc_ok (hm : MH E ℓ m w) {fn : Fn} {first captured : List SV} {vf vc : List Value} (hf : DenVs ℓ first vf) (hc : DenVs ℓ captured vc) (h : stFunc fn first captured (fun r => K r none)) :
    Comes P E ℓ m nid K (do pure (.value (← Instr.makeFunc fn vf.toArray vc.toArray))) w := by
  unfold stFunc at h
  split at h
  · rename_i f ids hids
    cases vf with
    | cons => exact hf.elim
    | nil =>
      obtain ⟨Ls, h1, rfl⟩ := ptrIds_den hc hids
      exact comes_value hm (v := .func (.func f) #[] _) (sv := one (.fn f ids)) rfl ⟨Ls, h1, rfl⟩ h
  · exact h.elim

/-! builtins that only compute -/
def stLen (T : Tab) (t : TypeId) (x : SV) (K : SV → Prop) : Prop :=
  match T t with
  | some ty => match ty.kind, x with
    | .arr n _, _ => K (one (.i n))
    | .sl _, .one (.s (.sl _ _ len _ _)) => K (one (.i len))
    | .sl _, .one (.s (.slq _ _ len _)) => K (one (.i len))
    | .sl _, .one (.s .snil) => K (one (.i 0))
    | .str, .one (.s (.str l)) => K (one (.i l.length))
    | _, _ => False
  | none => False
theorem stLen_ok {T : Tab} (hT : TabOK P T) (hm : MH E ℓ m w) {t ty0 : TypeId} {x : SV} {v : Value} (hx : DenV ℓ x v) (h : stLen T t x (fun r => K r none)) :
    Comes P E ℓ m nid K (do pure (.value (← Builtin.len_ #[t] ty0 #[v]))) w := by
  unfold stLen at h
  split at h
  · rename_i ty hty
    have hk := (hT t ty hty).kind
    split at h
    · rename_i n e hkk
      rw [hkk] at hk; simp only [KindOK] at hk
      exact comes_value hm (v := goInt n) (sv := one (.i n)) (by simp [Builtin.len_, run_underlying hk]) rfl h
    · rename_i e id off len cap es hkk
      rw [hkk] at hk; simp only [KindOK] at hk
      obtain ⟨L, hL, hlc, hv⟩ := hx
      rcases hv with ⟨hc0, a, rfl⟩ | ⟨_, rfl⟩
      · obtain rfl : len = 0 := by omega
        exact comes_value hm (v := goInt (0 : Nat)) (sv := one (.i (0 : Nat))) (by simp [Builtin.len_, run_underlying hk]) rfl h
      · exact comes_value hm (v := goInt len) (sv := one (.i len)) (by simp [Builtin.len_, run_underlying hk]) rfl h
    · rename_i e id off len es hkk
      rw [hkk] at hk; simp only [KindOK] at hk
      obtain ⟨L, hL, cap, hlc, hv⟩ := hx
      rcases hv with ⟨hc0, a, rfl⟩ | ⟨_, rfl⟩
      · obtain rfl : len = 0 := by omega
        exact comes_value hm (v := goInt (0 : Nat)) (sv := one (.i (0 : Nat))) (by simp [Builtin.len_, run_underlying hk]) rfl h
      · exact comes_value hm (v := goInt len) (sv := one (.i len)) (by simp [Builtin.len_, run_underlying hk]) rfl h
    · rename_i e hkk
      rw [hkk] at hk; simp only [KindOK] at hk
      simp only [DenV, DenA, DenS] at hx; subst hx
      exact comes_value hm (v := goInt (0 : Nat)) (sv := one (.i 0)) (by simp [Builtin.len_, run_underlying hk]) rfl h
    · rename_i l hkk
      rw [hkk] at hk; simp only [KindOK] at hk
      obtain ⟨s, rfl, hs⟩ := hx
      have : l.length = s.size := by rw [← hs]; simp
      exact comes_value hm (v := goInt s.size) (sv := one (.i l.length)) (by simp [Builtin.len_, run_underlying hk]) (by rw [this]; rfl) h
    · exact h.elim
  · exact h.elim
/-- min, max of ints. -/
def stMin (mx : Bool) (l : List SV) (K : SV → Prop) : Prop :=
  match l with
  | [.one (.s (.i a)), .one (.s (.i b))] => (match mx with | true => K (one (.i (if b > a then b else a))) | false => K (one (.i (if b < a then b else a))))
  | [.one (.s (.i a)), .one (.s (.i b)), .one (.s (.i c))] => match mx with
    | false => K (one (.i (if c < (if b < a then b else a) then c else (if b < a then b else a))))
    | true => False
  | _ => False
theorem stMin_ok (hm : MH E ℓ m w) {ts : Array TypeId} {t : TypeId} {l : List SV} {vs : List Value} (hx : DenVs ℓ l vs) {mx : Bool} (h : stMin mx l (fun r => K r none)) :
    Comes P E ℓ m nid K (do pure (.value (← if mx then Builtin.max_ ts t vs.toArray else Builtin.min_ ts t vs.toArray))) w := by
  unfold stMin at h
  split at h
  · rename_i a b
    match vs, hx with
    | [u, v], ⟨h1, h2, _⟩ =>
      simp only [DenV, DenA, DenS] at h1 h2; subst h1 h2
      cases mx
      · exact comes_value hm (v := .int .i64 (if b < a then b else a)) (sv := one (.i (if b < a then b else a))) (by simp [Builtin.min_, Builtin.min2]) rfl h
      · exact comes_value hm (v := .int .i64 (if b > a then b else a)) (sv := one (.i (if b > a then b else a))) (by simp [Builtin.max_, Builtin.max2]) rfl h
  · rename_i a b c
    match vs, hx with
    | [u, v, x], ⟨h1, h2, h3, _⟩ =>
      simp only [DenV, DenA, DenS] at h1 h2 h3; subst h1 h2 h3
      cases mx
      · exact comes_value hm (v := .int .i64 (if c < (if b < a then b else a) then c else (if b < a then b else a))) (sv := one (.i (if c < (if b < a then b else a) then c else (if b < a then b else a)))) (by simp [Builtin.min_, Builtin.min2]) rfl h
      · exact h.elim
  · exact h.elim
end
end Go.V
end
section
set_option linter.unusedSimpArgs false
set_option linter.unusedVariables false
namespace Go.V
open Go

section
variable {P : Program} {E : Env} {ℓ : Nat → Option Loc} {m : Mem} {nid : Nat} {K : SV → Option Ent → Prop} {w : World}

/-! a row written over a part of a row -/
def overL {α : Type} (zs : List α) (o : Nat) (us : List α) : List α := zs.take o ++ us ++ zs.drop (o + us.length)
theorem overL_length {α : Type} {zs us : List α} {o : Nat} (h : o + us.length ≤ zs.length) : (overL zs o us).length = zs.length := by
  simp [overL]; omega
theorem overL_nil {α : Type} (zs : List α) (o : Nat) : overL zs o [] = zs := by simp [overL]
theorem overL_cons (zs : List Value) (o : Nat) (u : Value) (us : List Value) (h : o + (us.length + 1) ≤ zs.length) : overL (zs.set o u) (o + 1) us = overL zs o (u :: us) := by
  unfold overL
  exact list_seg_step zs o u us h
theorem overL_mid {α : Type} (pre mid mid' post : List α) (h : mid.length = mid'.length) : overL (pre ++ mid ++ post) pre.length mid' = pre ++ mid' ++ post := by
  unfold overL
  have h1 : (pre ++ mid ++ post).take pre.length = pre := by rw [List.append_assoc]; exact List.take_left
  have h2 : (pre ++ mid ++ post).drop (pre.length + mid'.length) = post := by
    rw [show pre.length + mid'.length = (pre ++ mid).length by simp [h]]
    exact List.drop_left
  rw [h1, h2]
theorem overL_append {α : Type} (vs rest us : List α) (o : Nat) (h : o + us.length ≤ vs.length) : overL (vs ++ rest) o us = overL vs o us ++ rest := by
  unfold overL
  rw [List.take_append_of_le_length (by omega), List.drop_append_of_le_length (by omega)]
  simp
theorem DenL.over {xs ys : List S} {vs us : List Value} (o : Nat) (h1 : DenL ℓ xs vs) (h2 : DenL ℓ ys us) : DenL ℓ (overL xs o ys) (overL vs o us) := by
  unfold overL
  rw [h2.length]
  exact ((h1.take o).append h2).append (h1.drop _)
theorem heap_setCells (b : Nat) (ty : TypeId) (fr : Nat × Nat) : ∀ (us : List Value) (o : Nat) (cs : Array Value) (w : World), w.heap[b]? = some (.cells cs ty fr) → o + us.length ≤ cs.size →
    (w.setCells b o us).heap[b]? = some (.cells (overL cs.toList o us).toArray ty fr)
  | [], o, cs, w, h, _ => by simp [World.setCells, overL_nil, h]
  | u :: us, o, cs, w, h, hl => by
    simp only [List.length_cons] at hl
    have h1 : (w.setCell ⟨b, o, none⟩ u).heap[b]? = some (.cells (cs.setIfInBounds o u) ty fr) := by
      simp only [World.setCell, Array.getElem?_modify, if_true, h, Option.map_some]
      simp
    have := heap_setCells b ty fr us (o + 1) _ _ h1 (by simp; omega)
    simp only [World.setCells]
    rw [this]
    congr 2
    rw [← overL_cons _ _ _ _ (by simp; omega)]
    congr 1
    rw [Array.toList_setIfInBounds]
theorem setCells_frame (b : Nat) : ∀ (us : List Value) (o : Nat) (w : World), (w.setCells b o us).os = w.os ∧ (w.setCells b o us).tape = w.tape ∧ (w.setCells b o us).output = w.output ∧ (w.setCells b o us).heap.size = w.heap.size ∧ ∀ k, k ≠ b → (w.setCells b o us).heap[k]? = w.heap[k]?
  | [], o, w => ⟨rfl, rfl, rfl, rfl, fun _ _ => rfl⟩
  | u :: us, o, w => by
    obtain ⟨h1, h2, h3, h4, h5⟩ := setCells_frame b us (o + 1) (w.setCell ⟨b, o, none⟩ u)
    exact ⟨h1, h2, h3, h4.trans (by simp [World.setCell]), fun k hk => (h5 k hk).trans (heap_setCell_other w ⟨b, o, none⟩ k u hk)⟩
theorem foldl_over (us : List Value) (o : Nat) : ∀ (k : Nat) (cs : Array Value), o + k + us.length ≤ cs.size → (us.zipIdx k).foldl (fun cs p => cs.setIfInBounds (o + p.2) p.1) cs = (overL cs.toList (o + k) us).toArray := by
  induction us with
  | nil => intro k cs _; simp [overL_nil]
  | cons u us ih =>
    intro k cs h
    simp only [List.length_cons] at h
    simp only [List.zipIdx_cons, List.foldl_cons]
    rw [ih (k + 1) _ (by simp; omega), ← overL_cons _ _ _ _ (by simp; omega), Array.toList_setIfInBounds, Nat.add_assoc]
theorem fill_step {place : Nat → Option (Nat × Nat)} {cs : Array Value} {i o sz : Nat} {v : Value} {us : List Value} {rest : List (Nat × Value)} (hp : place i = some (o, sz)) (hv : v.cells = us.toArray) (hl : us.length = sz) (hb : o + sz ≤ cs.size) :
    Instr.fill place cs ((i, v) :: rest) = Instr.fill place (overL cs.toList o us).toArray rest := by
  have hf := foldl_over us o 0 cs (by omega)
  rw [Nat.add_zero] at hf
  conv => lhs; unfold Instr.fill
  simp only [hp, hv]
  have h1 : ¬ (us.toArray.size ≠ sz) := by simp [hl]
  have h2 : ¬ (o + us.toArray.size > cs.size) := by simp [hl]; omega
  rw [if_neg (by simp [hl]; omega)]
  congr 1
  rw [← Array.foldl_toList, Array.toList_zipIdx]
  exact hf

/-! composite literals -/
def DenP (ℓ : Nat → Option Loc) : List (Nat × SV) → List (Nat × Value) → Prop
  | [], [] => True
  | (i, x) :: xs, (j, v) :: vs => i = j ∧ DenV ℓ x v ∧ DenP ℓ xs vs
  | _, _ => False
/-- One part written into a row of elements of so many cells. -/
def putP (a : A) (sz i : Nat) (x : SV) (K : A → Prop) : Prop :=
  match x with
  | .one (.s x) => (sz = 1 ∧ i < a.len ∧ x.known = true) ∧ (match a.set i x with
    | some a' => K a'
    | none => False)
  | .one b => (b.len = sz ∧ i * sz + sz ≤ a.len ∧ b.solid = true) ∧ (match a.over (i * sz) b with
    | some a' => K a'
    | none => False)
  | _ => False
def fillA : A → Nat → List (Nat × SV) → (A → Prop) → Prop
  | a, _, [], K => K a
  | a, sz, (i, x) :: r, K => putP a sz i x (fun a' => fillA a' sz r K)
theorem A.set_row {a a' : A} {i : Nat} {x : S} (h : a.set i x = some a') (hr : a.isRow = true) : a'.isRow = true := by
  cases a <;> first | (cases hr; done) | (cases x <;> simp [A.set] at h <;> subst h <;> rfl)
theorem putP_ok {sz i : Nat} {a : A} {x : SV} {v : Value} {zs : List Value} {K : A → Prop} (hv : DenV ℓ x v) (hr : a.isRow = true) (hd : DenL ℓ a.cells zs) (h : putP a sz i x K) :
    ∃ a' zs', (∀ rest, Instr.fill (fun i => some (i * sz, sz)) zs.toArray ((i, v) :: rest) = Instr.fill (fun i => some (i * sz, sz)) zs'.toArray rest) ∧ a'.isRow = true ∧ a'.len = a.len ∧ DenL ℓ a'.cells zs' ∧ K a' := by
  have hlen := hd.length
  rw [A.len_cells _ (A.row_OK hr)] at hlen
  unfold putP at h
  split at h
  · rename_i x1
    obtain ⟨⟨hsz, hi, hk⟩, h⟩ := h
    subst hsz
    split at h
    · rename_i a' ha'
      have h1 := known_oneCell hk hv
      have hvc : v.cells = [v].toArray := by cases v <;> first | rfl | cases h1
      have hd' : DenL ℓ a'.cells (overL zs i [v]) := by
        rw [A.set_cells ha' hi]
        have : overL zs i [v] = zs.set i v := by
          rw [← overL_cons zs i v [] (by simp; omega), overL_nil]
        rw [this]
        exact hd.set i x1 v hv
      exact ⟨a', overL zs i [v], fun rest => by rw [fill_step (o := i * 1) (sz := 1) rfl hvc rfl (by simp; omega), Nat.mul_one], A.set_row ha' hr, (A.set_len ha').1, hd', h⟩
    · exact h.elim
  · rename_i b _
    obtain ⟨⟨hbl, hi, hs⟩, h⟩ := h
    split at h
    · rename_i a' ha'
      obtain ⟨hok, us, hvc, hdu, _⟩ := solid_cells hs hv
      have hul := hdu.length
      rw [A.len_cells _ hok] at hul
      have hrow := A.over_row ha'
      have hd' : DenL ℓ a'.cells (overL zs (i * sz) us) := by
        rw [A.over_cells ha', ← A.len_cells _ hok]
        exact hd.over (i * sz) hdu
      have hl' : a'.len = a.len := by
        have h1 := hd'.length
        rw [A.len_cells _ (A.row_OK hrow.2.2), overL_length (by omega)] at h1
        omega
      exact ⟨a', overL zs (i * sz) us, fun rest => by rw [fill_step (o := i * sz) (sz := sz) rfl hvc (by omega) (by simp; omega)], hrow.2.2, hl', hd', h⟩
    · exact h.elim
  · exact h.elim
theorem fillA_ok {sz : Nat} {ps : List (Nat × SV)} : ∀ {a : A} {vs : List (Nat × Value)} {zs : List Value} {K : A → Prop}, DenP ℓ ps vs → a.isRow = true → DenL ℓ a.cells zs → fillA a sz ps K →
    ∃ a' zs', Instr.fill (fun i => some (i * sz, sz)) zs.toArray vs = some zs'.toArray ∧ a'.isRow = true ∧ a'.len = a.len ∧ DenL ℓ a'.cells zs' ∧ K a' := by
  induction ps with
  | nil => intro a vs zs K hp hr hd h; cases vs with
    | nil => exact ⟨a, zs, rfl, hr, rfl, hd, h⟩
    | cons => exact hp.elim
  | cons p ps ih =>
    intro a vs zs K hp hr hd h
    obtain ⟨i, x⟩ := p
    cases vs with
    | nil => exact hp.elim
    | cons q vs =>
      obtain ⟨j, v⟩ := q
      obtain ⟨rfl, hv, hp⟩ := hp
      obtain ⟨a1, zs1, e1, e2, e3, e4, e5⟩ := putP_ok hv hr hd h
      obtain ⟨a2, zs2, f1, f2, f3, f4, f5⟩ := ih hp e2 e4 e5
      exact ⟨a2, zs2, (e1 vs).trans f1, f2, f3.trans e3, f4, f5⟩
/-- Fields written into a struct. -/
def putS (T : Tab) (fs : List (Nat × TypeId)) (l : List Seg) (i : Nat) (x : SV) (K : List Seg → Prop) : Prop :=
  match x with
  | .one a => match fs[i]?, a.r with
    | some (o, ft), some rr => match T ft, segAt l o, segPut l o rr with
      | some fty, some r0, some l' => (rr.len = fty.size ∧ r0.len = fty.size ∧ a.solid = true) ∧ K l'
      | _, _, _ => False
    | _, _ => False
  | _ => False
def fillS (T : Tab) (fs : List (Nat × TypeId)) : List Seg → List (Nat × SV) → (List Seg → Prop) → Prop
  | l, [], K => K l
  | l, (i, x) :: r, K => putS T fs l i x (fun l' => fillS T fs l' r K)
theorem fillS_ok {T : Tab} (hT : TabOK P T) {F : Array Field} {fs : List (Nat × TypeId)} (hmap : F.toList.map (fun x => (x.offset, x.type)) = fs) {place : Nat → Option (Nat × Nat)}
    (hplace : ∀ i f i', F[i]? = some f → P.info? f.type = some i' → place i = some (f.offset, i'.size)) {ps : List (Nat × SV)} :
    ∀ {l : List Seg} {vs : List (Nat × Value)} {zs : List Value} {K : List Seg → Prop}, DenP ℓ ps vs → SegOK l → DenL ℓ (segCells l) zs → fillS T fs l ps K →
    ∃ l' zs', Instr.fill place zs.toArray vs = some zs'.toArray ∧ SegOK l' ∧ DenL ℓ (segCells l') zs' ∧ K l' := by
  induction ps with
  | nil => intro l vs zs K hp hr hd h; cases vs with
    | nil => exact ⟨l, zs, rfl, hr, hd, h⟩
    | cons => exact hp.elim
  | cons p ps ih =>
    intro l vs zs K hp hr hd h
    obtain ⟨i, x⟩ := p
    cases vs with
    | nil => exact hp.elim
    | cons q vs =>
      obtain ⟨j, v⟩ := q
      obtain ⟨rfl, hv, hp⟩ := hp
      unfold fillS putS at h
      split at h
      · rename_i a
        split at h
        · rename_i o ft rr hfs hrr
          split at h
          · rename_i fty r0 l' hft hat hput
            obtain ⟨⟨h1, h2, h3⟩, h⟩ := h
            obtain ⟨hok, us, hvc, hdu, _⟩ := solid_cells h3 hv
            have hul := hdu.length
            rw [A.len_cells _ hok] at hul
            have ha := A.r_a hrr
            obtain ⟨hok', pre, post, e1, e2, e3, e4⟩ := segPut_cells hr hat hput (by omega)
            rw [← hmap, List.getElem?_map] at hfs
            cases hq : F.toList[i]? with
            | none => rw [hq] at hfs; cases hfs
            | some fld =>
              rw [hq] at hfs
              simp only [Option.map_some, Option.some.injEq, Prod.mk.injEq] at hfs
              have hq' : F[i]? = some fld := by rw [← Array.getElem?_toList]; exact hq
              obtain ⟨i', z, hi1, hi2, _⟩ := (hT ft fty hft).parts
              have hpl := hplace i fld i' hq' (by rw [hfs.2]; exact hi1)
              rw [hfs.1, hi2] at hpl
              have hzl := hd.length
              rw [e1] at hzl
              simp only [List.length_append, R.len_cells, e3] at hzl
              have hal : rr.len = us.length := by rw [← hul, ← ha, R.a_len]
              have hd' : DenL ℓ (segCells l') (overL zs o us) := by
                have h5 := hd.over o hdu
                have : overL (segCells l) o a.cells = segCells l' := by
                  rw [e1, e2]
                  rw [← ha, R.a_cells, ← e3]
                  exact overL_mid _ _ _ _ (by rw [R.len_cells, R.len_cells]; omega)
                rw [this] at h5
                exact h5
              obtain ⟨l2, zs2, f1, f2, f3, f4⟩ := ih hp hok' hd' h
              refine ⟨l2, zs2, ?_, f2, f3, f4⟩
              rw [fill_step (o := o) (sz := fty.size) hpl hvc (by omega) (by simp; omega)]
              exact f1
          · exact h.elim
        · exact h.elim
      · exact h.elim
theorem run_listMapM {α β : Type} (f : α → Sem β) (g : α → β) : ∀ (l : List α), (∀ x ∈ l, (f x).run P w = .ok (g x) w) → (l.mapM f).run P w = .ok (l.map g) w
  | [], _ => by simp
  | x :: l, h => by
    simp only [List.mapM_cons, Sem.run_bind, h x (by simp), Result.andThen_ok, run_listMapM f g l (fun y hy => h y (by simp [hy])), Sem.run_pure, List.map_cons]
def stBuild (T : Tab) (t : TypeId) (ps : List (Nat × SV)) (K : SV → Prop) : Prop :=
  match T t with
  | some ty => match ty.kind, ty.zero with
    | .struct fs, .st l => fillS T fs l ps (fun l' => K (.one (.st l')))
    | .arr _ e, z => match T e with
      | some ety => z.isRow = true ∧ fillA z ety.size ps (fun a => K (.one a))
      | none => False
    | _, _ => False
  | none => False
theorem stBuild_ok {T : Tab} (hT : TabOK P T) (hm : MH E ℓ m w) {t : TypeId} {ps : List (Nat × SV)} {vs : List (Nat × Value)} (hp : DenP ℓ ps vs) (h : stBuild T t ps (fun r => K r none)) :
    Comes P E ℓ m nid K (do pure (.value (← Instr.build t vs.toArray))) w := by
  unfold stBuild at h
  split at h
  · rename_i ty hty
    have hty := hT t ty hty
    obtain ⟨z, hz, hzv⟩ := hty.zv w
    have hk := hty.kind
    have hzd := A.val_den hzv hty.ok ℓ
    split at h
    · rename_i fs l hkk hzz
      rw [hkk] at hk
      obtain ⟨F, hF, hmap, hall⟩ := hk
      rw [hzz] at hzd
      obtain ⟨hok, zs, rfl, hd⟩ := hzd
      have hinfo : ∀ f ∈ F.toList, ∃ i, P.info? f.type = some i := fun f hf => Option.isSome_iff_exists.1 (List.all_eq_true.1 hall f hf)
      let g : Field → Nat × Nat := fun f => (f.offset, ((P.info? f.type).map (·.size)).getD 0)
      have hmm : (F.mapM (m := Sem) fun f => do pure (f.offset, ← sizeOf f.type)).run P w = .ok (F.map g) w := by
        rw [Array.mapM_eq_mapM_toList, Sem.run_map, run_listMapM _ g F.toList (fun f hf => by
          obtain ⟨i, hi⟩ := hinfo f hf
          simp [sizeOf, typeInfo, hi, g])]
        simp only [Result.andThen_ok]
        congr 1
        apply Array.ext'; simp
      obtain ⟨l', zs', e1, e2, e3, e4⟩ := fillS_ok hT hmap (place := fun i => (F.map g)[i]?) (fun i f i' hf hi => by simp [hf, g, hi]) hp hok hd h
      refine comes_value hm (v := .agg zs'.toArray) (sv := .one (.st l')) ?_ ⟨e2, zs', rfl, e3⟩ e4
      have hmm' : (F.mapM (m := Sem) fun f => do let __do_lift ← sizeOf f.type; pure (f.offset, __do_lift)).run P w = .ok (F.map g) w := hmm
      simp only [Instr.build, Sem.run_bind, hz, Result.andThen_ok, run_underlying hF, hmm']
      show Sem.run P (match Instr.fill (fun x => (F.map g)[x]?) zs.toArray vs with | some cells => _ | _ => _) w = _
      rw [e1]
      rfl
    · rename_i n e hkk
      rw [hkk] at hk; simp only [KindOK] at hk
      split at h
      · rename_i ety hety
        obtain ⟨hrow, h⟩ := h
        have hsz := (hT e ety hety).size w
        obtain ⟨zs, rfl, hd⟩ := (DenA.row hrow).1 hzd
        obtain ⟨a', zs', e1, e2, e3, e4, e5⟩ := fillA_ok hp hrow hd h
        refine comes_value hm (v := .agg zs'.toArray) (sv := .one a') ?_ ((DenA.row e2).2 ⟨zs', rfl, e4⟩) e5
        simp only [Instr.build, Sem.run_bind, hz, Result.andThen_ok, run_underlying hk, hsz]
        show Sem.run P (match Instr.fill (fun i => some (i * ety.size, ety.size)) zs.toArray vs with | some cells => _ | _ => _) w = _
        rw [e1]
        rfl
      · exact h.elim
    · exact h.elim
  · exact h.elim
end
end Go.V
end
section
set_option linter.unusedSimpArgs false
set_option linter.unusedVariables false
namespace Go.V
open Go

section
variable {P : Program} {E : Env} {ℓ : Nat → Option Loc} {m : Mem} {nid : Nat} {K : SV → Option Ent → Prop} {w : World}

/-! slices made -/
def rep1 : S → Nat → A
  | .u8 x, n => .a8 (List.replicate n x)
  | .u32 x, n => .a32 (List.replicate n x)
  | .u64 x, n => .a64 (List.replicate n x)
  | .i x, n => .ai (List.replicate n x)
  | .b x, n => .ab (List.replicate n x)
  | x, n => .agg (List.replicate n x)
theorem rep1_cells (x : S) (n : Nat) : (rep1 x n).cells = List.replicate n x ∧ (rep1 x n).isRow = true ∧ (rep1 x n).len = n := by
  cases x <;> simp [rep1, A.cells, A.isRow, A.len]
theorem den_replicate {x : S} {v : Value} (h : DenS ℓ x v) : ∀ n, DenL ℓ (List.replicate n x) (List.replicate n v)
  | 0 => trivial
  | n + 1 => ⟨h, den_replicate h n⟩
def catN {α : Type} : Nat → List α → List α
  | 0, _ => []
  | n + 1, l => l ++ catN n l
def repA : A → Nat → Option A
  | .s x, n => some (rep1 x n)
  | .a8 l, n => some (.a8 (catN n l))
  | .a32 l, n => some (.a32 (catN n l))
  | .a64 l, n => some (.a64 (catN n l))
  | .ai l, n => some (.ai (catN n l))
  | .ab l, n => some (.ab (catN n l))
  | .agg l, n => some (.agg (catN n l))
  | _, _ => none
theorem catN_map {α β : Type} (f : α → β) (l : List α) : ∀ n, (catN n l).map f = catN n (l.map f)
  | 0 => rfl
  | n + 1 => by simp [catN, catN_map f l n]
theorem catN_length {α : Type} (l : List α) : ∀ n, (catN n l).length = n * l.length
  | 0 => by simp [catN]
  | n + 1 => by simp [catN, catN_length l n, Nat.add_mul]; omega
theorem catN_one {α : Type} (x : α) : ∀ n, catN n [x] = List.replicate n x
  | 0 => rfl
  | n + 1 => by simp [catN, catN_one x n, List.replicate_succ]
theorem den_catN {xs : List S} {vs : List Value} (h : DenL ℓ xs vs) : ∀ n, DenL ℓ (catN n xs) (catN n vs)
  | 0 => trivial
  | n + 1 => h.append (den_catN h n)
theorem repA_cells {a a' : A} {n : Nat} (h : repA a n = some a') : a'.cells = catN n a.cells ∧ a'.isRow = true := by
  cases a with
  | s x => simp only [repA, Option.some.injEq] at h; subst h; exact ⟨by rw [(rep1_cells x n).1]; simp [A.cells, catN_one], (rep1_cells x n).2.1⟩
  | st l => simp [repA] at h
  | _ => simp [repA] at h; subst h; simp [A.cells, A.isRow, catN_map]
theorem madeCells_catN {zs : List Value} (hz : 0 < zs.length) (n : Nat) : madeCells zs.toArray (n * zs.length) = (catN n zs).toArray := by
  unfold madeCells
  apply Array.ext'
  simp only [Array.toList_map, Array.toList_range]
  apply List.ext_getElem?
  intro i
  have key : ∀ n i, i < n * zs.length → (catN n zs)[i]? = zs[i % zs.length]? := by
    intro n
    induction n with
    | zero => intro i h; omega
    | succ n ih =>
      intro i h
      simp only [catN]
      rw [Nat.add_mul, Nat.one_mul] at h
      by_cases hi : i < zs.length
      · rw [List.getElem?_append_left hi, Nat.mod_eq_of_lt hi]
      · rw [List.getElem?_append_right (by omega), ih _ (by omega)]
        rw [Nat.mod_eq_sub_mod (by omega : zs.length ≤ i)]
  rcases Nat.lt_or_ge i (n * zs.length) with hi | hi
  · rw [key n i hi, List.getElem?_map, List.getElem?_range hi]
    have hm : i % zs.length < zs.length := Nat.mod_lt _ hz
    simp [hm]
  · rw [List.getElem?_eq_none (by simp; omega), List.getElem?_eq_none (by rw [catN_length]; omega)]
def stMake (T : Tab) (nid : Nat) (t : TypeId) (l c : SV) (K : SV → Option Ent → Prop) : Prop :=
  match T t, l.num, c.num with
  | some ty, some l, some c => match ty.kind with
    | .sl e => match T e with
      | some ety => match ety.zero with
        | .s z => (0 ≤ l ∧ l ≤ c ∧ ety.bytes * c ≤ 281474976710656 ∧ c ≤ 9223372036854775807) ∧ z.known = true ∧ K (one (.sl nid 0 l.toNat c.toNat 1)) (some ⟨true, e, none, rep1 z c.toNat⟩)
        | _ => False
      | none => False
    | _ => False
  | _, _, _ => False
theorem stMake_ok {T : Tab} (hT : TabOK P T) (hm : MH E ℓ m w) (hf : Fresh m nid) {t : TypeId} {l c : SV} {vl vc : Value} (hl : DenV ℓ l vl) (hc : DenV ℓ c vc) (h : stMake T nid t l c K) :
    Comes P E ℓ m nid K (do pure (.value (← Instr.makeSlice t vl vc))) w := by
  unfold stMake at h
  split at h
  · rename_i ty l' c' hty h1 h2
    obtain ⟨k1, rfl⟩ := sv_num hl h1
    obtain ⟨k2, rfl⟩ := sv_num hc h2
    have hk := (hT t ty hty).kind
    split at h
    · rename_i e hkk
      rw [hkk] at hk; simp only [KindOK] at hk
      split at h
      · rename_i ety hety
        have hE := hT e ety hety
        obtain ⟨i, z, hi1, hi2, hi3, hi4, hi5⟩ := hE.parts
        split at h
        · rename_i zs hz
          obtain ⟨hb, hkn, hK⟩ := h
          rw [hz] at hi5
          have hd := S.val_den hi5 ℓ
          have h1c := known_oneCell hkn hd
          have hcells : z.cells = [z].toArray := by cases z <;> first | rfl | cases h1c
          have hsz : ety.size = 1 := by rw [← hE.len, hz]; rfl
          have hmk := run_make (P := P) w t e i z hk hi1 hi4 k1 k2 l' c' hb.1 hb.2.1 (by rw [hi3]; omega) hb.2.2.2
          rw [hi2, hsz, hcells, show c'.toNat * 1 = c'.toNat * [z].length from rfl, madeCells_catN (by simp), catN_one] at hmk
          have hlen : (List.replicate c'.toNat z).toArray.size = c'.toNat := by simp
          refine comes_new hm hf (cs := (List.replicate c'.toNat z).toArray) (vs := List.replicate c'.toNat z) (rest := []) (mk := fun a => .slice (some a) l'.toNat c'.toNat) hmk (by simp) (A.row_OK (rep1_cells zs c'.toNat).2.1) (by simp) ?_ ?_ hK
          · rw [(rep1_cells zs c'.toNat).1]; exact den_replicate hd _
          · exact ⟨⟨w.heap.size, 0, _⟩, by simp only [upd, if_true]; rfl, by omega, .inr ⟨by show 0 + c'.toNat * 1 ≤ (List.replicate c'.toNat z).toArray.size; rw [hlen]; omega, rfl⟩⟩
        · exact h.elim
      · exact h.elim
    · exact h.elim
  · exact h.elim
def sing : S → A
  | .u8 x => .a8 [x]
  | .u32 x => .a32 [x]
  | .u64 x => .a64 [x]
  | .i x => .ai [x]
  | .b x => .ab [x]
  | x => .agg [x]
theorem sing_cells (x : S) : (sing x).cells = [x] ∧ (sing x).isRow = true := by cases x <;> simp [sing, A.cells, A.isRow]
/-- The content of a slice literal. -/
def litA (z : A) (len sz : Nat) (ps : List (Nat × SV)) (K : A → Prop) : Prop :=
  match len, ps with
  | 1, [(0, .one (.s x))] => (sz = 1 ∧ x.known = true) ∧ K (sing x)
  | 1, [(0, .one b)] => (b.len = sz ∧ b.isRow = true ∧ b.solid = true) ∧ K b
  | len, ps => match repA z len with
    | some a => fillA a sz ps K
    | none => False
theorem litA_ok {z : A} {len sz : Nat} {ps : List (Nat × SV)} {vs : List (Nat × Value)} {zs : List Value} {K : A → Prop} (hp : DenP ℓ ps vs) (hz : DenL ℓ z.cells zs) (hzl : zs.length = sz) (h : litA z len sz ps K) :
    ∃ a' zs', Instr.fill (fun i => some (i * sz, sz)) (catN len zs).toArray vs = some zs'.toArray ∧ a'.isRow = true ∧ zs'.length = len * sz ∧ DenL ℓ a'.cells zs' ∧ K a' := by
  have one1 : ∀ {x : SV} {v : Value} {us : List Value} {a' : A}, DenP ℓ [(0, x)] vs → len = 1 → (∀ v, DenV ℓ x v → ∃ us : List Value, v.cells = us.toArray ∧ us.length = sz ∧ DenL ℓ a'.cells us) → a'.isRow = true → K a' →
      ∃ a' zs', Instr.fill (fun i => some (i * sz, sz)) (catN len zs).toArray vs = some zs'.toArray ∧ a'.isRow = true ∧ zs'.length = len * sz ∧ DenL ℓ a'.cells zs' ∧ K a' := by
    intro x v us a' hp hl hx hr hK
    subst hl
    match vs, hp with
    | [(0, v)], ⟨rfl, hv, _⟩ =>
      obtain ⟨us, h1, h2, h3⟩ := hx v hv
      refine ⟨a', us, ?_, hr, by omega, h3, hK⟩
      rw [fill_step (o := 0 * sz) (sz := sz) rfl h1 h2 (by simp [catN]; omega)]
      simp only [Instr.fill, catN, List.append_nil, Nat.zero_mul]
      congr 2
      unfold overL
      simp only [List.take_zero, List.nil_append, Nat.zero_add]
      rw [List.drop_of_length_le (by omega), List.append_nil]
  have gen : (match repA z len with | some a => fillA a sz ps K | none => False) → ∃ a' zs', Instr.fill (fun i => some (i * sz, sz)) (catN len zs).toArray vs = some zs'.toArray ∧ a'.isRow = true ∧ zs'.length = len * sz ∧ DenL ℓ a'.cells zs' ∧ K a' := by
    intro h
    split at h
    · rename_i a ha
      obtain ⟨h1, h2⟩ := repA_cells ha
      have hd : DenL ℓ a.cells (catN len zs) := by rw [h1]; exact den_catN hz len
      obtain ⟨a', zs', e1, e2, e3, e4, e5⟩ := fillA_ok hp h2 hd h
      refine ⟨a', zs', e1, e2, ?_, e4, e5⟩
      have l1 := e4.length
      have l2 := hd.length
      rw [A.len_cells _ (A.row_OK e2)] at l1
      rw [A.len_cells _ (A.row_OK h2), catN_length] at l2
      rw [← l1, e3, l2, hzl]
    · exact h.elim
  unfold litA at h
  split at h
  · rename_i x
    obtain ⟨⟨h1, h2⟩, hK⟩ := h
    exact one1 (v := .nilIface) (us := []) (a' := sing x) hp rfl (fun v hv => by
      have h1c := known_oneCell h2 hv
      exact ⟨[v], (by cases v <;> first | rfl | cases h1c), by simp [h1], by rw [(sing_cells x).1]; exact ⟨hv, trivial⟩⟩) (sing_cells x).2 hK
  · rename_i b _
    obtain ⟨⟨h1, h2, h3⟩, hK⟩ := h
    exact one1 (v := .nilIface) (us := []) (a' := b) hp rfl (fun v hv => by
      obtain ⟨hok, us, e1, e2, _⟩ := solid_cells h3 hv
      have := e2.length
      rw [A.len_cells _ hok] at this
      exact ⟨us, e1, by omega, e2⟩) h2 hK
  · exact gen h
def stBuildSlice (T : Tab) (nid : Nat) (t : TypeId) (len : Nat) (ps : List (Nat × SV)) (K : SV → Option Ent → Prop) : Prop :=
  match T t with
  | some ty => match ty.kind with
    | .sl e => match T e with
      | some ety => (0 < ety.size ∧ len * ety.size ≤ 16777216) ∧ ety.zero.solid = true ∧ litA ety.zero len ety.size ps (fun a => K (one (.sl nid 0 len len ety.size)) (some ⟨true, e, none, a⟩))
      | none => False
    | _ => False
  | none => False
theorem stBuildSlice_ok {T : Tab} (hT : TabOK P T) (hm : MH E ℓ m w) (hf : Fresh m nid) {t : TypeId} {len : Nat} {ps : List (Nat × SV)} {vs : List (Nat × Value)} (hp : DenP ℓ ps vs) (h : stBuildSlice T nid t len ps K) :
    Comes P E ℓ m nid K (do pure (.value (← Instr.buildSlice t len vs.toArray))) w := by
  unfold stBuildSlice at h
  split at h
  · rename_i ty hty
    have hk := (hT t ty hty).kind
    split at h
    · rename_i e hkk
      rw [hkk] at hk; simp only [KindOK] at hk
      split at h
      · rename_i ety hety
        obtain ⟨⟨hpos, hmax⟩, hsol, h⟩ := h
        have hE := hT e ety hety
        obtain ⟨z, hz, hzv⟩ := hE.zv w
        obtain ⟨hok, zs, hzc, hzd, _⟩ := solid_cells hsol (A.val_den hzv hE.ok ℓ)
        have hzl := hzd.length
        rw [A.len_cells _ hok, hE.len] at hzl
        obtain ⟨a', zs', e1, e2, e3, e4, e5⟩ := litA_ok hp hzd hzl.symm h
        refine comes_new hm hf (cs := zs'.toArray) (rest := []) (mk := fun a => .slice (some a) len len) ?_ (by simp) (A.row_OK e2) (by simp) e4 ?_ e5
        · have hmade := madeCells_catN (zs := zs) (by omega) len
          unfold madeCells at hmade
          rw [← hzl] at hmade
          have hmm : ¬ (len * ety.size > 2 ^ 24) := by simp; omega
          simp only [Instr.buildSlice, Sem.run_bind, run_underlying hk, Result.andThen_ok, hE.size w]
          by_cases hl0 : len * ety.size = 0
          · have hl : len = 0 := by
              rcases Nat.mul_eq_zero.1 hl0 with h | h
              · exact h
              · omega
            subst hl
            simp only [Nat.zero_mul, gt_iff_lt, Nat.not_lt_zero, if_false, if_true, Sem.run_bind, Sem.run_pure, Result.andThen_ok]
            have e1' : Instr.fill (fun i => some (i * ety.size, ety.size)) #[] vs = some zs'.toArray := e1
            show Sem.run P (match Instr.fill (fun i => some (i * ety.size, ety.size)) ((Array.range 0).map _) vs with | some cells => _ | _ => _) w = _
            rw [show ((Array.range 0).map fun x => (#[] : Array Value)[x % (#[] : Array Value).size]!) = #[] by simp [Array.range_zero'], e1']
            simp [newRow]
          · simp only [hmm, if_false, hl0, Sem.run_bind, hz, Sem.run_pure, Result.andThen_ok, hzc]
            show Sem.run P (match Instr.fill (fun i => some (i * ety.size, ety.size)) ((Array.range (len * ety.size)).map _) vs with | some cells => _ | _ => _) w = _
            rw [hmade, e1]
            simp [newRow]
        · have hs : zs'.toArray.size = len * ety.size := by simpa using e3
          exact ⟨⟨w.heap.size, 0, _⟩, by simp only [upd, if_true]; rfl, by omega, .inr ⟨by show 0 + len * ety.size ≤ zs'.toArray.size; omega, rfl⟩⟩
      · exact h.elim
    · exact h.elim
  · exact h.elim
end
end Go.V
end
section
set_option linter.unusedSimpArgs false
set_option linter.unusedVariables false
namespace Go.V
open Go

section
variable {P : Program} {E : Env} {ℓ : Nat → Option Loc} {m : Mem} {nid : Nat} {K : SV → Option Ent → Prop} {w : World}

/-! arrays compared -/
theorem den_map {α : Type} {g : α → S} {f : α → Value} (h : ∀ a v, DenS ℓ (g a) v → v = f a) : ∀ {l : List α} {vs : List Value}, DenL ℓ (l.map g) vs → vs = l.map f
  | [], [], _ => rfl
  | a :: l, v :: vs, ⟨h1, h2⟩ => by rw [h a v h1, den_map h h2]; rfl
  | [], _ :: _, h => h.elim
  | _ :: _, [], h => h.elim
theorem eqItems_run {d c : Nat} {e : TypeId} {xs ys : Array Value} (q : Nat → Bool) : ∀ (is : List Nat), (∀ i ∈ is, ∃ a b, (part e xs (i * c)).run P w = .ok a w ∧ (part e ys (i * c)).run P w = .ok b w ∧ (Op.equalIn d e a b).run P w = .ok (q i) w) →
    (Op.eqItems d e c xs ys is).run P w = .ok (is.all q) w
  | [], _ => by simp [Op.eqItems]
  | i :: is, h => by
    obtain ⟨a, b, h1, h2, h3⟩ := h i (by simp)
    simp only [Op.eqItems, Sem.run_bind, h1, h2, h3, Result.andThen_ok, List.all_cons]
    have ih := eqItems_run q is (fun j hj => h j (by simp [hj]))
    cases q i
    · simp
    · simpa using ih
theorem eq_rows {α : Type} [DecidableEq α] {f : α → Value} {d n : Nat} {t e : TypeId} {ety : Ty} (hu : P.underlying t = some (.array n e)) (hE : TyOK P e ety) (hks : ety.kind ≠ .other ∧ ety.kind.isAgg = false) (hs1 : ety.size = 1)
    (hf : ∀ a b, (Op.equalIn d e (f a) (f b)).run P w = .ok (decide (a = b)) w) {l r : List α} (hl : l.length = n) (hr : r.length = n) :
    (Op.equalIn (d + 1) t (.agg (l.map f).toArray) (.agg (r.map f).toArray)).run P w = .ok (decide (l = r)) w := by
  obtain ⟨i, z, h1, h2, _⟩ := hE.parts
  have hc : P.cellsOf e = 1 := by simp [Program.cellsOf, h1, h2, hs1]
  rw [run_equalIn_array (P := P) w d _ _ hu h1, hc, eqItems_run (fun i => decide (l[i]? = r[i]?))]
  · congr 1
    rw [Bool.eq_iff_iff]
    simp only [List.all_eq_true, List.mem_range, decide_eq_true_eq]
    refine ⟨fun h => List.ext_getElem? fun i => ?_, fun h i _ => by rw [h]⟩
    rcases Nat.lt_or_ge i n with hi | hi
    · exact h i hi
    · rw [List.getElem?_eq_none (by omega), List.getElem?_eq_none (by omega)]
  · intro i hi
    have hi : i < n := by simpa using hi
    have g : ∀ {l : List α}, l.length = n → ∃ a, l[i]? = some a ∧ (part e (l.map f).toArray (i * 1)).run P w = .ok (f a) w := by
      intro l hl
      refine ⟨l[i]'(by omega), List.getElem?_eq_getElem _, ?_⟩
      have hlt : i < l.length := by omega
      simp [part, hE.isAgg hks.1 w, hks.2, hlt]
    obtain ⟨a, ha, hpa⟩ := g hl
    obtain ⟨b, hb, hpb⟩ := g hr
    refine ⟨f a, f b, hpa, hpb, ?_⟩
    rw [hf a b, ha, hb]
    simp
def rowEq : A → A → Option (Nat × Nat × Bool)
  | .a8 l, .a8 r => some (l.length, r.length, decide (l = r))
  | .a32 l, .a32 r => some (l.length, r.length, decide (l = r))
  | .a64 l, .a64 r => some (l.length, r.length, decide (l = r))
  | .ai l, .ai r => some (l.length, r.length, decide (l = r))
  | _, _ => none
def Kind.isScal : Kind → Bool
  | .int _ => true
  | _ => false
def stEqA (T : Tab) (op : BinOp) (t : TypeId) (a b : A) (K : SV → Prop) : Prop :=
  match T t, rowEq a b with
  | some ty, some (n1, n2, c) => match ty.kind with
    | .arr n e => match T e with
      | some ety => (n1 = n ∧ n2 = n) ∧ (ety.kind.isScal = true ∧ ety.size = 1) ∧ (match op with
        | .eql => K (one (.b c))
        | .neq => K (one (.b (!c)))
        | _ => False)
      | none => False
    | _ => False
  | _, _ => False
theorem stEqA_ok {T : Tab} (hT : TabOK P T) (hm : MH E ℓ m w) {op : BinOp} {t : TypeId} {a b : A} {va vb : Value} {ox oy : Operand} (ha : DenA ℓ a va) (hb : DenA ℓ b vb) (h : stEqA T op t a b (fun r => K r none)) :
    Comes P E ℓ m nid K (do pure (.value (← (do eqGuard op t ox oy va vb; binOp op t va vb)))) w := by
  unfold stEqA at h
  split at h
  · rename_i ty n1 n2 c hty hq
    have hk := (hT t ty hty).kind
    split at h
    · rename_i n e hkk
      rw [hkk] at hk; simp only [KindOK] at hk
      split at h
      · rename_i ety hety
        obtain ⟨⟨rfl, hn2⟩, ⟨hsc, hs1⟩, h⟩ := h
        have hE := hT e ety hety
        have hke := hE.kind
        have hks : ety.kind ≠ .other ∧ ety.kind.isAgg = false := by cases hq : ety.kind <;> rw [hq] at hsc <;> first | (cases hsc; done) | exact ⟨by simp, rfl⟩
        have hgd : P.eqGuardType P.depth t = false := by
          have : ∃ k, P.depth = k + 1 + 1 := ⟨2 * (P.types.size + Made.depth), rfl⟩
          obtain ⟨k, hk2⟩ := this
          rw [hk2]
          simp only [Program.eqGuardType, hk]
          cases hq : ety.kind <;> rw [hq] at hsc hke <;> simp only [KindOK] at hke <;> first | (cases hsc; done) | simp [hke]
        have fin : ∀ (u v : List Value), va = .agg u.toArray → vb = .agg v.toArray → (Op.equalIn 10000 t (.agg u.toArray) (.agg v.toArray)).run P w = .ok c w →
            Comes P E ℓ m nid K (do pure (.value (← (do eqGuard op t ox oy va vb; binOp op t va vb)))) w := by
          rintro u v rfl rfl he
          split at h
          · refine comes_value hm (v := .bool c) (sv := one (.b c)) ?_ rfl h
            simp only [Sem.run_bind, run_eqGuard_agg (P := P) w _ t ox oy _ _ hgd, Result.andThen_ok, run_eql_struct, he]
          · refine comes_value hm (v := .bool (!c)) (sv := one (.b (!c))) ?_ rfl h
            simp only [Sem.run_bind, run_eqGuard_agg (P := P) w _ t ox oy _ _ hgd, Result.andThen_ok, run_neq_struct, he]
          · exact h.elim
        have gen : ∀ {α : Type} [DecidableEq α] {g : α → S} {f : α → Value} {l r : List α}, (∀ a v, DenS ℓ (g a) v → v = f a) → (∀ a b, (Op.equalIn (9998 + 1) e (f a) (f b)).run P w = .ok (decide (a = b)) w) →
            l.length = n1 → r.length = n1 → c = decide (l = r) → (∃ vs : List Value, va = .agg vs.toArray ∧ DenL ℓ (l.map g) vs) → (∃ vs : List Value, vb = .agg vs.toArray ∧ DenL ℓ (r.map g) vs) →
            Comes P E ℓ m nid K (do pure (.value (← (do eqGuard op t ox oy va vb; binOp op t va vb)))) w := by
          rintro α _ g f l r hg hf hl hr rfl ⟨u, hu, hdu⟩ ⟨v, hv, hdv⟩
          rw [den_map hg hdu] at hu
          rw [den_map hg hdv] at hv
          exact fin _ _ hu hv (eq_rows (d := 9998 + 1) hk hE hks hs1 hf hl hr)
        have ints : ∀ {k : IntKind}, P.underlying e = some (.int k) → ∀ {j : IntKind} (a b : Int), (Op.equalIn (9998 + 1) e (.int j a) (.int j b)).run P w = .ok (decide (a = b)) w := by
          intro k hu j a b
          rw [run_equalIn_int (P := P) w 9998 e j k a b hu]
          exact congrArg (fun c => Result.ok c w) (by rw [Bool.eq_iff_iff]; simp)
        have bvs : ∀ {k : IntKind}, P.underlying e = some (.int k) → ∀ {j : IntKind} {n : Nat} (a b : BitVec n), (Op.equalIn (9998 + 1) e (.int j a.toNat) (.int j b.toNat)).run P w = .ok (decide (a = b)) w := by
          intro k hu j n a b
          rw [ints hu]
          exact congrArg (fun c => Result.ok c w) (by rw [Bool.eq_iff_iff]; simp only [decide_eq_true_eq, ← BitVec.toNat_inj]; omega)
        cases hq2 : ety.kind with
        | int k =>
          rw [hq2] at hke; simp only [KindOK] at hke
          cases a <;> cases b <;> simp only [rowEq, Option.some.injEq, Prod.mk.injEq, reduceCtorEq] at hq
          · exact gen (g := S.u8) (f := fun x => .int .u8 x.toNat) (fun _ _ h => h) (fun a b => bvs hke a b) hq.1 (hq.2.1.trans hn2) hq.2.2.symm ha.2 hb.2
          · exact gen (g := S.u32) (f := fun x => .int .u32 x.toNat) (fun _ _ h => h) (fun a b => bvs hke a b) hq.1 (hq.2.1.trans hn2) hq.2.2.symm ha.2 hb.2
          · exact gen (g := S.u64) (f := fun x => .int .u64 x.toNat) (fun _ _ h => h) (fun a b => bvs hke a b) hq.1 (hq.2.1.trans hn2) hq.2.2.symm ha.2 hb.2
          · exact gen (g := S.i) (f := fun x => .int .i64 x) (fun _ _ h => h) (fun a b => ints hke a b) hq.1 (hq.2.1.trans hn2) hq.2.2.symm ha.2 hb.2
        | _ => rw [hq2] at hsc; cases hsc
      · exact h.elim
    · exact h.elim
  · exact h.elim

/-! stores -/
theorem overL_pre {α : Type} (a m us : List α) (off : Nat) : overL (a ++ m) (a.length + off) us = a ++ overL m off us := by
  unfold overL
  rw [List.take_length_add_append, show a.length + off + us.length = a.length + (off + us.length) by omega, List.drop_length_add_append]
  simp
theorem overL_in {α : Type} (vs us : List α) (base off k : Nat) (h1 : off + us.length ≤ k) (h2 : base + k ≤ vs.length) : overL vs (base + off) us = vs.take base ++ overL ((vs.drop base).take k) off us ++ vs.drop (base + k) := by
  have e : vs = (vs.take base ++ (vs.drop base).take k) ++ vs.drop (base + k) := by
    rw [List.append_assoc, ← List.drop_drop, List.take_append_drop, List.take_append_drop]
  have hl : (vs.take base).length = base := by simp; omega
  conv => lhs; rw [e]
  rw [overL_append _ _ _ _ (by simp; omega)]
  congr 1
  have := overL_pre (vs.take base) ((vs.drop base).take k) us off
  rw [hl] at this
  exact this
/-- Cells of an entry of our own written. -/
theorem write_core (hm : MH E ℓ m w) {id : Nat} {e : Ent} {L : Loc} (hme : m[id]? = some (.ent e)) (hL : ℓ id = some L) (ho : e.own = true) {us : List Value} (h1 : ∀ u ∈ us, u.oneCell' = true) {p : Nat} (hb : p + us.length ≤ e.c.len)
    {a : A} (hok : a.OK) (hlen : a.len = e.c.len) (hd : ∀ vs, DenL ℓ e.c.cells vs → DenL ℓ a.cells (overL vs p us)) :
    (storeCells ⟨L.blk, L.base + p, none⟩ us).run P w = .ok () (w.setCells L.blk p us) ∧ MH E ℓ (m.set id (.ent { e with c := a })) (w.setCells L.blk p us) := by
  obtain ⟨L', hL', hE, hmay⟩ := hm.ent id e hme
  obtain rfl := Option.some.inj (hL'.symm.trans hL)
  have hE2 := hE.2
  rw [if_pos ho] at hE2
  obtain ⟨hbase, hlim, hE2⟩ := hE2
  rw [hbase, Nat.zero_add]
  obtain ⟨f1, f2, f3, f4, f5⟩ := setCells_frame L'.blk us p w
  rcases Nat.eq_zero_or_pos L'.lim with h0 | h0
  · have hc0 : e.c.len = 0 := by omega
    obtain rfl : us = [] := List.eq_nil_of_length_eq_zero (by omega)
    refine ⟨rfl, hm.write hme hL ho rfl rfl rfl rfl (fun _ _ => rfl) ⟨⟨fun n hn => hlen.trans (hE.fixed hn), hok⟩, ?_⟩⟩
    rw [if_pos ho]
    exact ⟨hbase, by show a.len ≤ L'.lim; omega, fun h => by omega⟩
  · obtain ⟨cs, fr, vs, rest, hh, hth, hcl, hcs, hdv⟩ := hE2 h0
    have hvl := hdv.length
    rw [A.len_cells _ hE.ok] at hvl
    have hsz : cs.size = vs.length + rest.length := by rw [← Array.length_toList, hcs, List.length_append]
    refine ⟨?_, hm.write hme hL ho f1 f2 f3 f4 (fun k hk => f5 k (hk h0)) ⟨⟨fun n hn => hlen.trans (hE.fixed hn), hok⟩, ?_⟩⟩
    · have hr := run_storeCells_cells (P := P) L'.blk p us 0 w (fun j hj => by
        rw [Nat.add_zero, cell_of_row w L'.blk (p + j) cs e.ty fr hh]
        simp; omega) (fun j hj => by
        simp only [World.frozen?, hh]
        rcases hth with h | h
        · simp; omega
        · simp; omega) h1
      rw [Nat.add_zero] at hr
      exact hr
    · rw [if_pos ho]
      refine ⟨hbase, by show a.len ≤ L'.lim; omega, fun _ => ⟨_, fr, overL vs p us, rest, heap_setCells _ _ _ us p cs w hh (by omega), ?_, ?_, ?_, hd vs hdv⟩⟩
      · have : (overL cs.toList p us).toArray.size = cs.size := by simp; rw [overL_length (by simp; omega)]; simp
        rw [this]; exact hth
      · have : (overL cs.toList p us).toArray.size = cs.size := by simp; rw [overL_length (by simp; omega)]; simp
        rw [this]; exact hcl
      · simp only []
        rw [hcs, overL_append _ _ _ _ (by omega)]

/-- A value written at a place of a row. -/
def wrAt (ty : Ty) (c : A) (off n : Nat) (a : A) (K : A → Prop) : Prop :=
  match a with
  | .s x => (off < n ∧ x.known = true ∧ ty.size = 1) ∧ (match c.set off x with
    | some c' => K c'
    | none => False)
  | .st l => (off = 0 ∧ segLen l = n ∧ n = ty.size ∧ (A.st l).solid = true) ∧ K (.st l)
  | a => if n = ty.size then (off = 0 ∧ a.len = n ∧ a.solid = true) ∧ K a else (off + ty.size ≤ n ∧ a.len = ty.size ∧ a.solid = true) ∧ (match c.over off a with
    | some c' => K c'
    | none => False)
theorem A.set_noRec {a a' : A} {i : Nat} {x : S} (h : a.set i x = some a') : a'.OK ∧ a.OK := by
  have := A.set_len h
  exact ⟨A.noRec_OK this.2.1, A.noRec_OK this.2.2⟩
theorem wrAt_ok {ty : Ty} {c a : A} {off n : Nat} {v : Value} {K : A → Prop} (hn : c.len = n) (hv : DenA ℓ a v) (h : wrAt ty c off n a K) :
    ∃ us a', v.cells = us.toArray ∧ us.length = ty.size ∧ (∀ u ∈ us, u.oneCell' = true) ∧ off + us.length ≤ n ∧ a'.OK ∧ a'.len = n ∧ (∀ vs, c.OK → DenL ℓ c.cells vs → DenL ℓ a'.cells (overL vs off us)) ∧ K a' := by
  have whole : off = 0 ∧ a.len = n ∧ n = ty.size ∧ a.solid = true → K a → ∃ us a', v.cells = us.toArray ∧ us.length = ty.size ∧ (∀ u ∈ us, u.oneCell' = true) ∧ off + us.length ≤ n ∧ a'.OK ∧ a'.len = n ∧ (∀ vs, c.OK → DenL ℓ c.cells vs → DenL ℓ a'.cells (overL vs off us)) ∧ K a' := by
    rintro ⟨rfl, h1, h2, h3⟩ hK
    obtain ⟨hok, us, e1, e2, e3⟩ := solid_cells h3 hv
    have hul := e2.length
    rw [A.len_cells _ hok] at hul
    refine ⟨us, a, e1, by omega, e3, by omega, hok, h1, fun vs hcok hdv => ?_, hK⟩
    have hvl := hdv.length
    rw [A.len_cells _ hcok] at hvl
    unfold overL
    simp only [List.take_zero, List.nil_append, Nat.zero_add]
    rw [List.drop_of_length_le (by omega), List.append_nil]
    exact e2
  unfold wrAt at h
  split at h
  · rename_i x
    obtain ⟨⟨h1, h2, h3⟩, h⟩ := h
    split at h
    · rename_i c' hc'
      have h1c := known_oneCell h2 hv
      refine ⟨[v], c', (by cases v <;> first | rfl | cases h1c), by simp [h3], by simpa using h1c, by simp; omega, (A.set_noRec hc').1, (A.set_len hc').1.trans hn, fun vs hcok hdv => ?_, h⟩
      have hvl := hdv.length
      rw [A.len_cells _ hcok] at hvl
      rw [A.set_cells hc' (by omega), ← overL_cons vs off v [] (by simp; omega), overL_nil]
      exact hdv.set off x v hv
    · exact h.elim
  · rename_i l
    exact whole ⟨h.1.1, h.1.2.1, h.1.2.2.1, h.1.2.2.2⟩ h.2
  · split at h
    · rename_i hnt
      exact whole ⟨h.1.1, h.1.2.1, hnt, h.1.2.2⟩ h.2
    · obtain ⟨⟨h1, h2, h3⟩, h⟩ := h
      split at h
      · rename_i c' hc'
        obtain ⟨hok, us, e1, e2, e3⟩ := solid_cells h3 hv
        have hul := e2.length
        rw [A.len_cells _ hok] at hul
        have hrow := A.over_row hc'
        have key : ∀ vs, c.OK → DenL ℓ c.cells vs → DenL ℓ c'.cells (overL vs off us) := by
          intro vs hcok hdv
          rw [A.over_cells hc', ← A.len_cells _ hok]
          exact hdv.over off e2
        refine ⟨us, c', e1, by omega, e3, by omega, A.row_OK hrow.2.2, ?_, key, h⟩
        have hcl := A.len_cells c (A.row_OK hrow.1)
        have := congrArg List.length (A.over_cells hc')
        rw [A.len_cells _ (A.row_OK hrow.2.2)] at this
        rw [this]
        simp only [List.length_append, List.length_take, List.length_drop, hcl, A.len_cells _ hok]
        omega
      · exact h.elim
def stStore (T : Tab) (m : Mem) (t : TypeId) (x y : SV) (K : Mem → Prop) : Prop :=
  match x, y, T t with
  | .one (.s (.ptr id base off)), .one a, some ty =>
    match m[id]? with
    | some (.ent e) => e.own = true ∧ (match e.c with
      | .st l =>
        if ty.kind.isStruct = true then (base = 0 ∧ off = 0) ∧ wrAt ty (.st l) 0 (segLen l) a (fun c' => K (m.set id (.ent { e with c := c' }))) else
        match segAt l base with
        | some r => wrAt ty r.a off r.len a (fun c' => match c'.r with
          | some r' => (match segPut l base r' with
            | some l' => K (m.set id (.ent { e with c := .st l' }))
            | none => False)
          | none => False)
        | none => False
      | c => wrAt ty c (base + off) e.bound a (fun c' => K (m.set id (.ent { e with c := c' }))))
    | _ => False
  | _, _, _ => False
theorem stStore_ok {T : Tab} (hT : TabOK P T) (hm : MH E ℓ m w) {t : TypeId} {x y : SV} {vx vy : Value} {K : Mem → Prop} (hx : DenV ℓ x vx) (hy : DenV ℓ y vy) (h : stStore T m t x y K) :
    ∃ m' w', (Instr.storeAt t vx vy).run P w = .ok () w' ∧ MH E ℓ m' w' ∧ K m' := by
  unfold stStore at h
  split at h
  · rename_i id base off a ty hty
    have hty := hT t ty hty
    obtain ⟨L, hL, rfl⟩ := hx
    have run : ∀ {p : Nat} {us : List Value} {w' : World}, vy.cells = us.toArray → us.length = ty.size → L.base + p = L.base + (base + off) → (storeCells ⟨L.blk, L.base + p, none⟩ us).run P w = .ok () w' → (Instr.storeAt t (.pointer (some ⟨L.blk, L.base + (base + off), none⟩)) vy).run P w = .ok () w' := by
      intro p us w' h1 h2 h3 h4
      rw [h3] at h4
      simp [Instr.storeAt, Instr.sureAddr, storeVar, h1, h2, hty.size w, h4]
    split at h
    · rename_i e hme
      obtain ⟨ho, h⟩ := h
      obtain ⟨L', hL', hE, _⟩ := hm.ent id e hme
      obtain rfl := Option.some.inj (hL'.symm.trans hL)
      have hok := hE.ok
      split at h
      · rename_i l hl
        split at h
        · obtain ⟨⟨rfl, rfl⟩, h⟩ := h
          obtain ⟨us, a', e1, e2, e3, e4, e5, e6, e7, hK⟩ := wrAt_ok (c := .st l) rfl hy h
          have hwc := write_core (P := P) hm hme hL ho e3 (p := 0) (a := a') (by rw [hl]; exact e4) e5 (by rw [hl]; exact e6) (by rw [hl]; exact fun vs hd => e7 vs (by rw [hl] at hok; exact hok) hd)
          exact ⟨_, _, run (p := 0) e1 e2 rfl hwc.1, hwc.2, hK⟩
        · split at h
          · rename_i r hr
            obtain ⟨us, c', e1, e2, e3, e4, e5, e6, e7, hK⟩ := wrAt_ok (R.a_len r) hy h
            rw [hl] at hok
            split at hK
            · rename_i r' hr'
              split at hK
              · rename_i l' hl'
                have hca := A.r_a hr'
                have hrl : r'.len = r.len := by rw [← R.a_len, hca]; exact e6
                obtain ⟨hok', pre, post, f1, f2, f3, f4⟩ := segPut_cells hok hr hl' hrl
                have hcl := congrArg List.length f1
                simp only [List.length_append, R.len_cells] at hcl
                rw [segLen_cells hok] at hcl
                have hwc := write_core (P := P) hm hme hL ho e3 (p := base + off) (a := .st l') (by rw [hl]; show base + off + us.length ≤ segLen l; omega) hok' (by rw [hl]; exact f4) (fun vs hd => by
                  rw [hl] at hd
                  have hvl := hd.length
                  rw [A.len_cells _ (by exact hok)] at hvl
                  have hd1 : DenL ℓ (segCells l) vs := hd
                  have hdr : DenL ℓ r.a.cells ((vs.drop base).take r.len) := by
                    rw [R.a_cells]
                    have h1 := (hd1.drop base).take r.len
                    rw [f1, List.append_assoc, List.drop_append_of_le_length (by omega), ← f3, List.drop_length, List.nil_append, ← R.len_cells, List.take_left] at h1
                    rw [← f3, ← R.len_cells]; exact h1
                  have h2 := e7 _ (R.a_OK r) hdr
                  rw [← hca, R.a_cells] at h2
                  show DenL ℓ (segCells l') (overL vs (base + off) us)
                  rw [f2]
                  have hl2 : vs.length = segLen l := hvl.symm
                  have : overL vs (base + off) us = vs.take base ++ overL ((vs.drop base).take r.len) off us ++ vs.drop (base + r.len) := overL_in vs us base off r.len (by omega) (by omega)
                  rw [this]
                  have hpre : DenL ℓ pre (vs.take base) := by
                    have h3 := hd1.take base
                    rw [f1, List.append_assoc, ← f3, List.take_left] at h3
                    rw [← f3]; exact h3
                  have hpost : DenL ℓ post (vs.drop (base + r.len)) := by
                    have h3 := hd1.drop (base + r.len)
                    rw [f1, show base + r.len = (pre ++ r.cells).length by simp [R.len_cells]; omega, List.drop_left] at h3
                    rw [show base + r.len = (pre ++ r.cells).length by simp [R.len_cells]; omega]; exact h3
                  exact (hpre.append h2).append hpost)
                exact ⟨_, _, run (p := base + off) e1 e2 rfl hwc.1, hwc.2, hK⟩
              · exact hK.elim
            · exact hK.elim
          · exact h.elim
      · obtain ⟨us, a', e1, e2, e3, e4, e5, e6, e7, hK⟩ := wrAt_ok hE.bound.symm hy h
        rw [hE.bound] at e4 e6
        have hwc := write_core (P := P) hm hme hL ho e3 (p := base + off) (a := a') e4 e5 e6 (fun vs hd => e7 vs hok hd)
        exact ⟨_, _, run (p := base + off) e1 e2 rfl hwc.1, hwc.2, hK⟩
    · exact h.elim
  · exact h.elim
end
end Go.V
end
section
set_option linter.unusedSimpArgs false
set_option linter.unusedVariables false
namespace Go.V
open Go

/-! what is said of a block is dropped -/
def killS (id : Nat) : S → S
  | .ptr i b o => if i = id then .any else .ptr i b o
  | .sl i o l c e => if i = id then .any else .sl i o l c e
  | .slq i o l e => if i = id then .any else .slq i o l e
  | .fn f caps => if id ∈ caps then .any else .fn f caps
  | .ifc t x => .ifc t (killS id x)
  | .ifa t x => .ifa t (killS id x)
  | x => x
def killR (id : Nat) : R → R
  | .s x => .s (killS id x)
  | .agg l => .agg (l.map (killS id))
  | r => r
def killSeg (id : Nat) (g : Seg) : Seg := ⟨g.n, killR id g.r⟩
def killA (id : Nat) : A → A
  | .s x => .s (killS id x)
  | .agg l => .agg (l.map (killS id))
  | .st l => .st (l.map (killSeg id))
  | a => a
def killV (id : Nat) : SV → SV
  | .one a => .one (killA id a)
  | .tup l => .tup (l.map (killA id))
def killE (id : Nat) : Mk → Mk
  | .ent e => .ent { e with c := killA id e.c }
  | x => x
section
variable {ℓ : Nat → Option Loc}
/-- Two assignments of places that agree but for one id. -/
def But (id : Nat) (ℓ ℓ' : Nat → Option Loc) : Prop := ∀ (i : Nat) (L : Loc), i ≠ id → ℓ i = some L → ℓ' i = some L
theorem Le.but {ℓ ℓ' : Nat → Option Loc} (h : Le ℓ ℓ') (id : Nat) : But id ℓ ℓ' := fun i L _ hl => h i L hl
theorem upd_but (ℓ : Nat → Option Loc) (id : Nat) (L : Loc) : But id ℓ (upd ℓ id L) := fun i M hi hM => by unfold upd; rw [if_neg hi]; exact hM
theorem killS_den {ℓ' : Nat → Option Loc} {id : Nat} (hb : But id ℓ ℓ') : ∀ {x : S} {v : Value}, DenS ℓ x v → DenS ℓ' (killS id x) v := by
  intro x
  induction x with
  | ptr i b o =>
    rintro v ⟨L, h1, h2⟩
    unfold killS
    split
    · trivial
    · rename_i hi; exact ⟨L, hb _ _ hi h1, h2⟩
  | sl i o l c e =>
    rintro v ⟨L, h1, h2⟩
    unfold killS
    split
    · trivial
    · rename_i hi; exact ⟨L, hb _ _ hi h1, h2⟩
  | slq i o l e =>
    rintro v ⟨L, h1, h2⟩
    unfold killS
    split
    · trivial
    · rename_i hi; exact ⟨L, hb _ _ hi h1, h2⟩
  | fn f caps =>
    rintro v ⟨Ls, h1, h2⟩
    unfold killS
    split
    · trivial
    · rename_i hi
      refine ⟨Ls, ?_, h2⟩
      clear h2
      induction caps generalizing Ls with
      | nil => simpa using h1
      | cons c cs ih =>
        cases Ls with
        | nil => simp at h1
        | cons L Ls =>
          simp only [List.map_cons, List.cons.injEq, List.mem_cons, not_or] at h1 hi ⊢
          exact ⟨(hb _ _ (fun e => hi.1 e.symm) h1.1.symm).symm, ih Ls h1.2 hi.2⟩
  | ifc t x ih => rintro v ⟨u, h1, h2⟩; exact ⟨u, h1, ih h2⟩
  | ifa t x ih => rintro v ⟨u, h1, h2⟩; exact ⟨u, h1, ih h2⟩
  | any => intro v h; trivial
  | _ => intro v h; exact h
theorem killL_den {ℓ' : Nat → Option Loc} {id : Nat} (hb : But id ℓ ℓ') : ∀ {xs : List S} {vs : List Value}, DenL ℓ xs vs → DenL ℓ' (xs.map (killS id)) vs
  | [], [], _ => trivial
  | _ :: _, _ :: _, ⟨h1, h2⟩ => ⟨killS_den hb h1, killL_den hb h2⟩
theorem killR_cells (id : Nat) (r : R) : (killR id r).cells = r.cells.map (killS id) ∧ (killR id r).len = r.len := by
  cases r with
  | s x => exact ⟨rfl, rfl⟩
  | agg l => exact ⟨rfl, by simp [killR, R.len]⟩
  | _ => exact ⟨by simp only [killR, R.cells]; rw [List.map_map]; rfl, rfl⟩
theorem killSeg_cells (id : Nat) : ∀ (l : List Seg), segCells (l.map (killSeg id)) = (segCells l).map (killS id) ∧ segLen (l.map (killSeg id)) = segLen l ∧ (SegOK l → SegOK (l.map (killSeg id)))
  | [] => ⟨rfl, rfl, fun h => h⟩
  | g :: l => by
    obtain ⟨h1, h2, h3⟩ := killSeg_cells id l
    refine ⟨?_, ?_, fun h => ⟨?_, h3 h.2⟩⟩
    · simp [segCells, h1, killSeg, (killR_cells id g.r).1]
    · simp [segLen, h2, killSeg]
    · simpa [killSeg, (killR_cells id g.r).2] using h.1
theorem killA_cells (id : Nat) (a : A) : (killA id a).cells = a.cells.map (killS id) ∧ (killA id a).len = a.len ∧ (a.OK → (killA id a).OK) := by
  cases a with
  | st l => exact killSeg_cells id l
  | s x => exact ⟨rfl, rfl, fun _ => trivial⟩
  | agg l => exact ⟨rfl, by simp [killA, A.len], fun _ => trivial⟩
  | _ => exact ⟨by simp only [killA, A.cells]; rw [List.map_map]; rfl, rfl, fun _ => trivial⟩
theorem killA_den {ℓ' : Nat → Option Loc} {id : Nat} (hb : But id ℓ ℓ') {a : A} {v : Value} (h : DenA ℓ a v) : DenA ℓ' (killA id a) v := by
  cases a with
  | s x => exact killS_den hb h
  | _ =>
    obtain ⟨hok, vs, h1, h2⟩ := h
    exact ⟨(killA_cells id _).2.2 hok, vs, h1, by rw [(killA_cells id _).1]; exact killL_den hb h2⟩
theorem killT_den {ℓ' : Nat → Option Loc} {id : Nat} (hb : But id ℓ ℓ') : ∀ {xs : List A} {vs : List Value}, DenT ℓ xs vs → DenT ℓ' (xs.map (killA id)) vs
  | [], [], _ => trivial
  | _ :: _, _ :: _, ⟨h1, h2⟩ => ⟨killA_den hb h1, killT_den hb h2⟩
theorem killV_den {ℓ' : Nat → Option Loc} {id : Nat} (hb : But id ℓ ℓ') {x : SV} {v : Value} (h : DenV ℓ x v) : DenV ℓ' (killV id x) v := by
  cases x with
  | one a => exact killA_den hb h
  | tup l => obtain ⟨vs, h1, h2⟩ := h; exact ⟨vs, h1, killT_den hb h2⟩
theorem killE_ok {ℓ' : Nat → Option Loc} {id : Nat} (hb : But id ℓ ℓ') {w : World} {L : Loc} {e : Ent} (h : EntOK ℓ w L e) : EntOK ℓ' w L { e with c := killA id e.c } := by
  obtain ⟨⟨hf, hok⟩, h⟩ := h
  obtain ⟨k1, k2, k3⟩ := killA_cells id e.c
  refine ⟨⟨fun n hn => k2.trans (hf n hn), k3 hok⟩, ?_⟩
  split at h
  · rename_i ho
    rw [if_pos ho]
    obtain ⟨a, b, c⟩ := h
    refine ⟨a, by show (killA id e.c).len ≤ L.lim; rw [k2]; exact b, fun h0 => ?_⟩
    obtain ⟨cs, fr, vs, rest, c1, c2, c3, c4, c5⟩ := c h0
    exact ⟨cs, fr, vs, rest, c1, c2, c3, c4, by show DenL ℓ' (killA id e.c).cells vs; rw [k1]; exact killL_den hb c5⟩
  · rename_i ho
    rw [if_neg ho]
    obtain ⟨vs, a, b⟩ := h
    exact ⟨vs, by show DenL ℓ' (killA id e.c).cells vs; rw [k1]; exact killL_den hb a, b⟩
theorem killE_real {id : Nat} {e : Ent} {L : Loc} : Real { e with c := killA id e.c } L ↔ Real e L := by
  unfold Real
  rw [(killA_cells id e.c).2.1]
end

section
variable {P : Program} {E : Env} {ℓ : Nat → Option Loc} {m : Mem} {nid : Nat} {w : World}
theorem map_kill_ent {id i : Nat} {e : Ent} (h : (m.map (killE id))[i]? = some (.ent e)) : ∃ e0, m[i]? = some (.ent e0) ∧ e = { e0 with c := killA id e0.c } := by
  rw [List.getElem?_map] at h
  cases hq : m[i]? with
  | none => rw [hq] at h; cases h
  | some x =>
    rw [hq] at h
    cases x <;> simp [killE] at h
    rename_i e0
    exact ⟨e0, rfl, h.symm⟩
/-- A block of our own put anew: at the same place or at a new one. All else that spoke of it is dropped. -/
theorem MH.renew (h : MH E ℓ m w) {w' : World} {id : Nat} (hfree : E.anc id = none) {e : Ent} {L L' : Loc} {a : A} (hm : m[id]? = some (.ent e)) (hL : ℓ id = some L) (ho : e.own = true)
    (hos : w'.os = w.os) (htape : w'.tape = w.tape) (hout : w'.output = w.output) (hsz : w.heap.size ≤ w'.heap.size)
    (hoth : ∀ k, k < w.heap.size → (0 < L.lim → k ≠ L.blk) → w'.heap[k]? = w.heap[k]?)
    (hL' : (L' = L) ∨ w.heap.size ≤ L'.blk) (hok : a.OK) (hE : ∀ ℓ', But id ℓ ℓ' → EntOK ℓ' w' L' ⟨true, e.ty, none, killA id a⟩) :
    MH E (upd ℓ id L') ((m.map (killE id)).set id (.ent ⟨true, e.ty, none, killA id a⟩)) w' := by
  obtain ⟨L0, hL0, hEold, hmay'⟩ := h.ent id e hm
  obtain rfl := Option.some.inj (hL0.symm.trans hL)
  have hmay := hmay' ho
  have hlt := (List.getElem?_eq_some_iff.1 hm).1
  have hb := upd_but ℓ id L'
  have hself : (upd ℓ id L') id = some L' := by simp [upd]
  have hother : ∀ {j : Nat}, j ≠ id → (upd ℓ id L') j = ℓ j := fun hj => by unfold upd; rw [if_neg hj]
  have hsplit : ∀ {j : Nat} {x : Mk}, ((m.map (killE id)).set id (.ent ⟨true, e.ty, none, killA id a⟩))[j]? = some x → (j ≠ id ∧ (m.map (killE id))[j]? = some x) ∨ (j = id ∧ x = .ent ⟨true, e.ty, none, killA id a⟩) := by
    intro j x hj
    by_cases hji : id = j
    · subst hji
      rw [List.getElem?_set_self (by simpa using hlt)] at hj
      simp only [Option.some.injEq] at hj
      exact .inr ⟨rfl, hj.symm⟩
    · rw [List.getElem?_set_ne hji] at hj
      exact .inl ⟨fun h => hji h.symm, hj⟩
  have hblk : ∀ {j : Nat} {e0 : Ent} {Lj : Loc}, j ≠ id → m[j]? = some (.ent e0) → ℓ j = some Lj → Real e0 Lj → Lj.blk < w.heap.size ∧ (0 < L0.lim → Lj.blk ≠ L0.blk) := by
    intro j e0 Lj hj hmj hLj hr
    obtain ⟨L1, g1, g2, _⟩ := h.ent j e0 hmj
    obtain rfl := Option.some.inj (g1.symm.trans hLj)
    exact ⟨g2.lt hr, fun h0 hh => h.apart id j e e0 L0 L1 hm hmj hL hLj ho h0 (Ne.symm hj) hr hh.symm⟩
  refine ⟨hos.trans h.os, htape.trans h.tape, hout.trans h.output, Nat.le_trans h.size hsz, fun k hk hn => ?_, fun i M hM => hb i M (fun hi => by rw [hi, hfree] at hM; cases hM) (h.anch i M hM), ?_, ?_, ?_⟩
  · have hne : k ≠ L0.blk := by rintro rfl; rcases hmay with hmay | hmay; · exact hn hmay
                                · omega
    exact (hoth k (Nat.lt_of_lt_of_le hk h.size) (fun _ => hne)).trans (h.keep k hk hn)
  · intro i hi
    have hne : i ≠ id := by
      rintro rfl
      rcases hi with hi | hi
      · simp at hi; omega
      · rcases hsplit hi with ⟨hh, _⟩ | ⟨_, hh⟩
        · exact hh rfl
        · cases hh
    rw [hother hne]
    refine h.dom i (hi.imp (fun x => by simpa using x) (fun x => ?_))
    rcases hsplit x with ⟨_, x⟩ | ⟨hh, _⟩
    · rw [List.getElem?_map] at x
      cases hq : m[i]? with
      | none => rw [hq] at x; cases x
      | some y => rw [hq] at x; cases y <;> simp [killE] at x; rfl
    · exact absurd hh hne
  · intro j e' hj
    rcases hsplit hj with ⟨hne, hj⟩ | ⟨rfl, hx⟩
    · obtain ⟨e0, hm0, rfl⟩ := map_kill_ent hj
      obtain ⟨Lj, h1, h2, h3⟩ := h.ent j e0 hm0
      refine ⟨Lj, by rw [hother hne]; exact h1, ?_, h3⟩
      refine (killE_ok hb (h2.of_block (w' := w') (fun he => ?_)))
      obtain ⟨g1, g2⟩ := hblk hne hm0 h1 he
      exact hoth _ g1 (fun h0 => g2 h0)
    · cases hx
      refine ⟨L', hself, hE _ hb, fun _ => ?_⟩
      rcases hL' with rfl | hh
      · exact hmay
      · exact .inr (Nat.le_trans h.size hh)
  · intro i j ei ej Li Lj hmi hmj hLi hLj hoi h0i hne hj
    rcases hsplit hmi with ⟨hi, hmi'⟩ | ⟨hi, hei⟩
    · obtain ⟨e1, hm1, rfl⟩ := map_kill_ent hmi'
      rw [hother hi] at hLi
      rcases hsplit hmj with ⟨hj', hmj'⟩ | ⟨hj', hej⟩
      · obtain ⟨e2, hm2, rfl⟩ := map_kill_ent hmj'
        rw [hother hj'] at hLj
        exact h.apart i j e1 e2 Li Lj hm1 hm2 hLi hLj hoi h0i hne (killE_real.1 hj)
      · subst hj'
        rw [hself] at hLj
        obtain rfl := Option.some.inj hLj
        have hr : Real e1 Li := by unfold Real; rw [if_pos hoi]; exact h0i
        obtain ⟨g1, g2⟩ := hblk hi hm1 hLi hr
        rcases hL' with rfl | hh
        · exact g2 (by cases hej; unfold Real at hj; simpa using hj)
        · omega
    · subst hi
      rw [hself] at hLi
      obtain rfl := Option.some.inj hLi
      rcases hsplit hmj with ⟨hj', hmj'⟩ | ⟨hj', hej⟩
      · obtain ⟨e2, hm2, rfl⟩ := map_kill_ent hmj'
        rw [hother hj'] at hLj
        obtain ⟨g1, g2⟩ := hblk hj' hm2 hLj (killE_real.1 hj)
        rcases hL' with rfl | hh
        · exact fun hh => g2 h0i hh.symm
        · omega
      · exact absurd hj'.symm hne

/-- What an operation comes to that may write. -/
def WComes (P : Program) (E : Env) (ℓ : Nat → Option Loc) (K : SV → Option Nat → Mem → Prop) (s : Sem Value) (w : World) : Prop :=
  ∃ sv ko m' v w' ℓ', s.run P w = .ok v w' ∧ K sv ko m' ∧ MH E ℓ' m' w' ∧ DenV ℓ' sv v ∧ (match ko with | none => Le ℓ ℓ' | some id => But id ℓ ℓ')

/-- Where the elements come from that are appended or copied. -/
def srcRow (T : Tab) (m : Mem) (z : A) (es : Nat) (x : SV) (K : A → Nat → Prop) : Prop :=
  match x with
  | .one (.s (.sl id off n cap es2)) => match m[id]? with
    | some (.ent e) => (es2 = es ∧ e.c.isRow = true ∧ off + n * es ≤ e.bound ∧ (e.c.sub off (n * es)).solid = true) ∧ K (e.c.sub off (n * es)) n
    | _ => False
  | .one (.s .snil) => (match repA z 0 with | some r => K r 0 | none => False)
  | .one (.s (.str l)) => es = 1 ∧ K (.a8 l) l.length
  | _ => False
theorem cells_one {a : A} (hs : a.solid = true) (hr : a.isRow = true) {vs : List Value} (hd : DenL ℓ a.cells vs) : ∀ u ∈ vs, u.oneCell' = true := by
  obtain ⟨_, us, e1, e2, e3⟩ := solid_cells (ℓ := ℓ) (v := .agg vs.toArray) hs ((DenA.row hr).2 ⟨vs, rfl, hd⟩)
  simp [Value.cells] at e1
  subst e1
  exact e3
def SrcTy (T : Tab) (tx : TypeId) (x : SV) : Prop :=
  match T tx, x with
  | some ty, .one (.s (.str _)) => ty.kind = .str
  | some ty, _ => (match ty.kind with | .sl _ => True | _ => False)
  | none, _ => False
theorem srcRow_ok {T : Tab} (hT : TabOK P T) (hm : MH E ℓ m w) {z : A} {es : Nat} {tx : TypeId} {x : SV} (hty : SrcTy T tx x) {v : Value} {K : A → Nat → Prop} (hx : DenV ℓ x v) (h : srcRow T m z es x K) :
    ∃ r n news, Src P es tx v n news w ∧ DenL ℓ r.cells news ∧ r.isRow = true ∧ r.len = n * es ∧ K r n := by
  unfold srcRow at h
  unfold SrcTy at hty
  split at h
  · rename_i id off n cap es2
    split at h
    · rename_i e hme
      obtain ⟨⟨rfl, hrow, hb, hs⟩, hK⟩ := h
      obtain ⟨L, hL, hlc, hv⟩ := hx
      obtain ⟨L', hL', hE, _⟩ := hm.ent id e hme
      obtain rfl := Option.some.inj (hL'.symm.trans hL)
      obtain ⟨vs, hd, hc⟩ := hE.row
      have hvl := hd.length
      rw [A.len_cells _ hE.ok] at hvl
      rw [hE.bound] at hb
      have hd2 : DenL ℓ (e.c.sub off (n * es2)).cells ((vs.drop off).take (n * es2)) := by rw [A.sub_cells _ _ _ hrow]; exact (hd.drop off).take _
      have hr2 : (e.c.sub off (n * es2)).isRow = true := by rw [A.sub_row]; exact hrow
      have hone := cells_one hs hr2 hd2
      have hll : ((vs.drop off).take (n * es2)).length = n * es2 := by simp; omega
      have hk : ∃ e', P.underlying tx = some (.slice e') := by
        split at hty
        · rename_i heq; cases heq
        · rename_i ty hT' _
          have hk := (hT tx ty hT').kind
          split at hty
          · rename_i e' hkk; rw [hkk] at hk; exact ⟨e', hk⟩
          · exact hty.elim
        · exact hty.elim
      obtain ⟨e', hk⟩ := hk
      refine ⟨_, n, _, ?_, hd2, hr2, ?_, hK⟩
      · rcases hv with ⟨hc0, a, rfl⟩ | ⟨hlim, rfl⟩
        · obtain rfl : n = 0 := by omega
          simp only [Nat.zero_mul, List.take_zero]
          cases a with
          | none => exact Src.ofNil w hk 0
          | some a => exact Src.ofSlice w hk a 0 0 [] (by simp) (by simp) (by simp)
        · refine Src.ofSlice w hk _ n cap _ hll (fun j u hu => ?_) hone
          rw [Addr.add_off, Nat.add_assoc]
          refine hc (off + j) u ?_
          rw [List.getElem?_take] at hu
          split at hu
          · rwa [List.getElem?_drop] at hu
          · cases hu
      · have := hd2.length
        rw [A.len_cells _ (A.row_OK hr2)] at this
        omega
    · exact h.elim
  · split at h
    · rename_i r hr
      obtain ⟨h1, h2⟩ := repA_cells hr
      simp only [DenV, DenA, DenS] at hx; subst hx
      have hk : ∃ e', P.underlying tx = some (.slice e') := by
        split at hty
        · rename_i heq; cases heq
        · rename_i ty hT' _
          have hk := (hT tx ty hT').kind
          split at hty
          · rename_i e' hkk; rw [hkk] at hk; exact ⟨e', hk⟩
          · exact hty.elim
        · exact hty.elim
      obtain ⟨e', hk⟩ := hk
      refine ⟨r, 0, [], Src.ofNil w hk 0, by rw [h1]; trivial, h2, ?_, h⟩
      rw [← A.len_cells _ (A.row_OK h2), h1]; simp [catN]
    · exact h.elim
  · rename_i l
    obtain ⟨rfl, hK⟩ := h
    obtain ⟨s, rfl, hs⟩ := hx
    have hk : P.underlying tx = some .string := by
      cases hq : T tx with
      | none => rw [hq] at hty; exact hty.elim
      | some ty =>
        rw [hq] at hty
        have hk := (hT tx ty hq).kind
        rw [show ty.kind = .str from hty] at hk
        exact hk
    have hl : l.length = s.size := by rw [← hs]; simp
    refine ⟨.a8 l, l.length, byteCells s, by rw [hl]; exact Src.ofString w hk s, ?_, rfl, by simp [A.len], hK⟩
    rw [← hs]; exact bytes_cells _
  · exact h.elim

/-! append -/
def stAppend (T : Tab) (fr : Nat → Bool) (m : Mem) (nid : Nat) (ts tx : TypeId) (s x : SV) (K : SV → Option Nat → Mem → Prop) : Prop :=
  match T ts with
  | none => False
  | some ty => match ty.kind with
    | .sl e => match T e with
      | none => False
      | some ety => SrcTy T tx x ∧ (0 < ety.size ∧ ety.zero.solid = true) ∧
        srcRow T m ety.zero ety.size x (fun r n => match s with
          | .one (.s .snil) => n * ety.bytes ≤ 140737488355328 ∧ n ≤ 9223372036854775807 ∧ ∀ cap, n ≤ cap → K (one (.sl nid 0 n cap ety.size)) none (fill m nid ⟨true, e, none, r⟩)
          | .one (.s (.sl id off len cap es)) => (es = ety.size ∧ (len + n) * ety.bytes ≤ 140737488355328 ∧ len + n ≤ 9223372036854775807) ∧
            (match m[id]? with
            | some (.ent en) =>
              if en.own = true then
                (fr id = true ∧ off = 0 ∧ en.fix = none ∧ en.ty = e ∧ en.c.len = len * es) ∧
                (match en.c.cat r with
                | some c' => ∀ cap', len + n ≤ cap' → K (one (.sl id 0 (len + n) cap' es)) (some id) ((m.map (killE id)).set id (.ent ⟨true, e, none, killA id c'⟩))
                | none => False)
              else
                (cap = len ∧ 0 < n ∧ off + len * es ≤ en.bound) ∧
                (match (en.c.sub off (len * es)).cat r with
                | some c' => ∀ cap', len + n ≤ cap' → K (one (.sl nid 0 (len + n) cap' es)) none (fill m nid ⟨true, e, none, c'⟩)
                | none => False)
            | _ => False)
          | _ => False)
    | _ => False
theorem grown_fits {need cap bytes : Nat} (h : cap < need) (hb : need * bytes ≤ 140737488355328) : Builtin.nextslicecap need cap * bytes ≤ 281474976710656 := growslice_fits h hb
theorem den_kill_row {id : Nat} {ℓ' : Nat → Option Loc} (hb : But id ℓ ℓ') {a : A} {vs : List Value} (h : DenL ℓ a.cells vs) : DenL ℓ' (killA id a).cells vs := by
  rw [(killA_cells id a).1]; exact killL_den hb h
/-- A slice without room: an entry of our own without a block. -/
theorem MH.blank (h : MH E ℓ m w) {n : Nat} (hf : Fresh m n) {ty : TypeId} {a : A} (hl : a.len = 0) (hok : a.OK) : MH E (upd ℓ n ⟨E.w0.heap.size, 0, 0⟩) (fill m n ⟨true, ty, none, a⟩) w := by
  have hle := h.le_upd hf ⟨E.w0.heap.size, 0, 0⟩
  have hsplit : ∀ {id : Nat} {e : Ent}, (fill m n ⟨true, ty, none, a⟩)[id]? = some (.ent e) → (id ≠ n ∧ m[id]? = some (.ent e)) ∨ (id = n ∧ e = ⟨true, ty, none, a⟩) := by
    intro id e he
    rw [fill_get hf] at he
    split at he
    · rename_i hi; simp at he; exact .inr ⟨hi, he.symm⟩
    · rename_i hi; exact .inl ⟨hi, he⟩
  have hloc : ∀ {id : Nat} {L : Loc}, id ≠ n → (upd ℓ n ⟨E.w0.heap.size, 0, 0⟩) id = some L → ℓ id = some L := by
    intro id L hi hL
    unfold upd at hL; rwa [if_neg hi] at hL
  have hlocn : ∀ {L : Loc}, (upd ℓ n ⟨E.w0.heap.size, 0, 0⟩) n = some L → L = ⟨E.w0.heap.size, 0, 0⟩ := by
    intro L hL
    simp [upd] at hL; exact hL.symm
  refine ⟨h.os, h.tape, h.output, h.size, h.keep, h.anch.trans hle, ?_, ?_, ?_⟩
  · intro i hi
    rw [fill_length hf, fill_get hf] at hi
    have hin : i ≠ n := by
      rintro rfl
      rcases hi with hi | hi
      · omega
      · simp at hi
    rw [if_neg hin] at hi
    unfold upd; rw [if_neg hin]
    exact h.dom i (hi.imp (fun x => by omega) id)
  · intro id e hm
    rcases hsplit hm with ⟨hi, hm⟩ | ⟨rfl, rfl⟩
    · obtain ⟨L, h1, h2, h3⟩ := h.ent id e hm
      exact ⟨L, hle _ _ h1, h2.mono hle, h3⟩
    · refine ⟨⟨E.w0.heap.size, 0, 0⟩, by simp [upd], ⟨⟨by simp, hok⟩, ?_⟩, fun _ => .inr (Nat.le_refl _)⟩
      rw [if_pos rfl]
      exact ⟨rfl, by show a.len ≤ 0; omega, fun h => absurd h (Nat.lt_irrefl 0)⟩
  · intro i j ei ej Li Lj hmi hmj hLi hLj ho h0 hne hj
    rcases hsplit hmi with ⟨hi, hmi'⟩ | ⟨hi, hei⟩
    · rcases hsplit hmj with ⟨hj', hmj'⟩ | ⟨hj', hej⟩
      · exact h.apart i j ei ej Li Lj hmi' hmj' (hloc hi hLi) (hloc hj' hLj) ho h0 hne hj
      · rw [hj'] at hLj
        obtain rfl := hlocn hLj
        subst hej
        exact absurd hj (by simp [Real])
    · rw [hi] at hLi
      obtain rfl := hlocn hLi
      exact absurd h0 (Nat.lt_irrefl 0)
/-- What a growing append makes. -/
theorem grow_run {ts tx ty0 e : TypeId} {i : TypeInfo} {z : Value} (hk : P.underlying ts = some (.slice e)) (hi1 : P.info? e = some i) (hi4 : i.zero = some z) (hzc : z.cells.size = i.size) {base : Option Addr} {len cap n : Nat} {olds news : List Value} {vx : Value}
    (hold : (Builtin.firstCells i.size len (.slice base len cap)).run P w.drew = .ok olds.toArray w.drew) (hol : olds.length = len * i.size) (hs : Src P i.size tx vx n news w) (hg : cap < len + n) (h63 : len + n ≤ 9223372036854775807) (hb : (len + n) * i.bytes ≤ 140737488355328) :
    ∃ cap' cs rest, len + n ≤ cap' ∧ (Builtin.append_ #[ts, tx] ty0 #[.slice base len cap, vx]).run P w = .ok (.slice (some ⟨w.heap.size, 0, none⟩) (len + n) cap') (w.drew.alloc (.cells cs e)) ∧ cs.toList = (olds ++ news) ++ rest ∧ cs.size = cap' * i.size := by
  have hr := run_append_grow_src w ts tx ty0 e i z hk hi1 hi4 base len cap olds hold vx n news hs hg (by omega) (growslice_fits hg hb)
  refine ⟨grownCap w (len + n) cap e, _, (Builtin.zeroCells z.cells (grownCap w (len + n) cap e - (len + n))).toList, grownCap_ge w (len + n) cap e, hr, by simp, ?_⟩
  have hge := grownCap_ge w (len + n) cap e
  simp only [Array.size_append, List.size_toArray, List.length_append, size_zeroCells, hzc, hol, hs.newsLen, ← Nat.add_mul]
  congr 1
  omega
theorem stAppend_ok {T : Tab} {fr : Nat → Bool} (hT : TabOK P T) (hfr : ∀ id, fr id = true → E.anc id = none) (hm : MH E ℓ m w) (hf : Fresh m nid) {ts tx ty0 : TypeId} {s x : SV} {vs vx : Value} {K : SV → Option Nat → Mem → Prop} (hs : DenV ℓ s vs) (hx : DenV ℓ x vx) (h : stAppend T fr m nid ts tx s x K) :
    WComes P E ℓ K (Builtin.append_ #[ts, tx] ty0 #[vs, vx]) w := by
  unfold stAppend at h
  split at h
  · exact h.elim
  · rename_i ty hty
    have hk := (hT ts ty hty).kind
    split at h
    · rename_i e hkk
      rw [hkk] at hk; simp only [KindOK] at hk
      split at h
      · exact h.elim
      · rename_i ety hety
        obtain ⟨hsty, ⟨hpos, hsol⟩, h⟩ := h
        have hE := hT e ety hety
        obtain ⟨i, z, hi1, hi2, hi3, hi4, hi5⟩ := hE.parts
        obtain ⟨r, n, news, hsrc, hd, hrow, hrl, h⟩ := srcRow_ok hT hm hsty hx h
        rw [← hi2] at hsrc
        have hnl := hd.length
        rw [A.len_cells _ (A.row_OK hrow), hrl] at hnl
        have hzc : z.cells.size = i.size := by
          obtain ⟨hok, zs, h1, h2, _⟩ := solid_cells hsol (A.val_den hi5 hE.ok ℓ)
          have h3 := h2.length
          rw [A.len_cells _ hok, hE.len] at h3
          rw [h1, hi2]; simp; omega
        have fc0 : ∀ (a : Option Addr) (c : Nat) (w' : World), (Builtin.firstCells i.size 0 (.slice a 0 c)).run P w' = .ok #[] w' := by
          intro a c w'
          cases a with
          | none => exact run_firstCells_none w' i.size 0 0 c
          | some a => exact run_firstCells_some w' i.size 0 a 0 c [] (by simp) (by simp)
        have zero : ∀ (a : Option Addr), n = 0 → (Builtin.append_ #[ts, tx] ty0 #[.slice a 0 0, vx]).run P w = .ok (.slice a 0 0) w := by
          rintro a rfl
          have hn0 : news = [] := List.eq_nil_of_length_eq_zero (by omega)
          subst hn0
          rcases hsrc.kind with ⟨e', hke⟩ | hke <;> cases a <;> simp [Builtin.append_, run_underlying hk, run_underlying hke, sizeOf, typeInfo, hi1, hsrc.len, hsrc.cells, storeCells]
        have grow : ∀ {base : Option Addr} {len cap : Nat} {olds : List Value}, (Builtin.firstCells i.size len (.slice base len cap)).run P w.drew = .ok olds.toArray w.drew → olds.length = len * i.size → cap < len + n → (len + n) * ety.bytes ≤ 140737488355328 → len + n ≤ 9223372036854775807 →
            ∃ cap' cs rest, len + n ≤ cap' ∧ (Builtin.append_ #[ts, tx] ty0 #[.slice base len cap, vx]).run P w = .ok (.slice (some ⟨w.heap.size, 0, none⟩) (len + n) cap') (w.drew.alloc (.cells cs e)) ∧ cs.toList = (olds ++ news) ++ rest ∧ cs.size = cap' * i.size :=
          fun h1 h2 h3 h4 h5 => grow_run hk hi1 hi4 hzc h1 h2 hsrc h3 h5 (by rw [hi3]; exact h4)
        -- a new block
        have fresh : ∀ {base : Option Addr} {len cap : Nat} {olds : List Value} {c' : A}, (Builtin.firstCells i.size len (.slice base len cap)).run P w.drew = .ok olds.toArray w.drew → olds.length = len * i.size → cap < len + n → (len + n) * ety.bytes ≤ 140737488355328 → len + n ≤ 9223372036854775807 →
            c'.OK → DenL ℓ c'.cells (olds ++ news) → (∀ cap', len + n ≤ cap' → K (one (.sl nid 0 (len + n) cap' ety.size)) none (fill m nid ⟨true, e, none, c'⟩)) → WComes P E ℓ K (Builtin.append_ #[ts, tx] ty0 #[.slice base len cap, vx]) w := by
          intro base len cap olds c' h1 h2 h3 h4 h5 hok hdc hK
          obtain ⟨cap', cs, rest, g1, g2, g3, g4⟩ := grow h1 h2 h3 h4 h5
          have hle := hm.le_upd hf ⟨w.heap.size, 0, cs.size⟩
          have hal := hm.alloc hf (w' := w.drew.alloc (.cells cs e)) (cs := cs) (ty := e) (fr := (0, 0)) (fix := none) (a := c') (vs := olds ++ news) (rest := rest) rfl rfl rfl rfl (.inl (Nat.le_refl _)) (by simp) hok g3 (hdc.mono hle)
          exact ⟨_, none, _, _, _, _, g2, hK cap' g1, hal, ⟨⟨w.heap.size, 0, cs.size⟩, by simp [upd], g1, .inr ⟨by show 0 + cap' * ety.size ≤ cs.size; rw [g4, hi2]; omega, rfl⟩⟩, hle⟩
        split at h
        · -- onto nil
          obtain ⟨hby, h63, hK⟩ := h
          simp only [DenV, DenA, DenS] at hs; subst hs
          rcases Nat.eq_zero_or_pos n with rfl | hn
          · have hcl : r.len = 0 := by omega
            exact ⟨_, none, _, _, _, _, zero none rfl, hK 0 (Nat.le_refl _), hm.blank hf (ty := e) hcl (A.row_OK hrow), ⟨⟨E.w0.heap.size, 0, 0⟩, by simp [upd], Nat.le_refl _, .inl ⟨rfl, none, rfl⟩⟩, hm.le_upd hf _⟩
          · have := fresh (base := none) (len := 0) (cap := 0) (olds := []) (c' := r) (fc0 none 0 w.drew) (by simp) (by omega) (by simpa using hby) (by omega) (A.row_OK hrow) (by simpa using hd) (by simpa using hK)
            exact this
        · -- onto a slice
          rename_i id off len cap es _hold
          obtain ⟨⟨rfl, hby, h63⟩, h⟩ := h
          split at h
          · rename_i en hme
            obtain ⟨L, hL, hE2, hmay⟩ := hm.ent id en hme
            obtain ⟨L', hL', hlc, hv⟩ := hs
            obtain rfl := Option.some.inj (hL.symm.trans hL')
            have hok := hE2.ok
            split at h
            · -- our own
              rename_i ho
              obtain ⟨⟨hfree', rfl, hfx, rfl, hcl⟩, h⟩ := h
              have hfree := hfr id hfree'
              split at h
              · rename_i c' hc'
                have hrows := A.cat_row hc'
                have hoks : c'.OK := A.row_OK hrows.2.2.1
                obtain ⟨vs0, hd0, hc0⟩ := hE2.row
                have hvl := hd0.length
                rw [A.len_cells _ hok, hcl] at hvl
                have hdc : DenL ℓ c'.cells (vs0 ++ news) := by rw [A.cat_cells hc']; exact hd0.append hd
                have renewed : ∀ {cap' : Nat} {cs : Array Value} {rest : List Value}, len + n ≤ cap' → cs.toList = (vs0 ++ news) ++ rest → cs.size = cap' * i.size →
                    (Builtin.append_ #[ts, tx] ty0 #[vs, vx]).run P w = .ok (.slice (some ⟨w.heap.size, 0, none⟩) (len + n) cap') (w.drew.alloc (.cells cs en.ty)) → WComes P E ℓ K (Builtin.append_ #[ts, tx] ty0 #[vs, vx]) w := by
                  intro cap' cs rest g1 g3 g4 g2
                  have hren := hm.renew (w' := w.drew.alloc (.cells cs en.ty)) (id := id) hfree (L' := ⟨w.heap.size, 0, cs.size⟩) (a := c') hme hL ho rfl rfl rfl (by simp)
                    (fun k hk _ => heap_alloc_old w.drew _ k hk) (.inr (Nat.le_refl _)) hoks (fun ℓ' hb => by
                      refine ⟨⟨by simp, (killA_cells id c').2.2 hoks⟩, ?_⟩
                      rw [if_pos rfl]
                      refine ⟨rfl, ?_, fun _ => ⟨cs, (0, 0), vs0 ++ news, rest, heap_alloc_new w.drew _, .inl (Nat.le_refl _), rfl, g3, den_kill_row hb hdc⟩⟩
                      show (killA id c').len ≤ cs.size
                      rw [(killA_cells id c').2.1, ← A.len_cells _ hoks, hdc.length]
                      have : cs.toList.length = cs.size := by simp
                      rw [g3, List.length_append] at this
                      omega)
                  exact ⟨_, some id, _, _, _, _, g2, h cap' g1, hren, ⟨⟨w.heap.size, 0, cs.size⟩, by simp [upd], g1, .inr ⟨by show 0 + cap' * ety.size ≤ cs.size; rw [g4, hi2]; omega, rfl⟩⟩, upd_but ℓ id _⟩
                rcases hv with ⟨hc0', a, rfl⟩ | ⟨hlim, rfl⟩
                · subst hc0'
                  obtain rfl : len = 0 := by omega
                  have hv0 : vs0 = [] := List.eq_nil_of_length_eq_zero (by omega)
                  rcases Nat.eq_zero_or_pos n with rfl | hn
                  · have hn0 : news = [] := List.eq_nil_of_length_eq_zero (by omega)
                    have hc'l : c'.len = 0 := by rw [hrows.2.2.2, hcl, hrl]; omega
                    have hcc : c'.cells = [] := List.eq_nil_of_length_eq_zero (by rw [A.len_cells _ hoks]; exact hc'l)
                    have hren := hm.renew (w' := w) (id := id) hfree (L' := L) (a := c') hme hL ho rfl rfl rfl (Nat.le_refl _) (fun k _ _ => rfl) (.inl rfl) hoks (fun ℓ' hb => by
                      refine ⟨⟨by simp, (killA_cells id c').2.2 hoks⟩, ?_⟩
                      rw [if_pos rfl]
                      have h2 := hE2.2
                      rw [if_pos ho] at h2
                      obtain ⟨q1, q2, q3⟩ := h2
                      refine ⟨q1, by show (killA id c').len ≤ L.lim; rw [(killA_cells id c').2.1]; omega, fun h0 => ?_⟩
                      obtain ⟨cs, fr, v1, rest, p1, p2, p3, p4, p5⟩ := q3 h0
                      exact ⟨cs, fr, [], cs.toList, p1, p2, p3, by simp, by show DenL ℓ' (killA id c').cells []; rw [(killA_cells id c').1, hcc]; trivial⟩)
                    exact ⟨_, some id, _, _, _, _, zero a rfl, h 0 (by omega), hren, ⟨L, by simp [upd], Nat.le_refl _, .inl ⟨rfl, a, rfl⟩⟩, upd_but ℓ id _⟩
                  · obtain ⟨cap', cs, rest, g1, g2, g3, g4⟩ := grow (base := a) (len := 0) (cap := 0) (olds := []) (fc0 a 0 w.drew) (by simp) (by omega) hby h63
                    exact renewed g1 (by rw [hv0]; exact g3) g4 g2
                · have h2 := hE2.2
                  rw [if_pos ho] at h2
                  obtain ⟨q1, q2, q3⟩ := h2
                  rw [Nat.add_zero]
                  by_cases hroom : len + n ≤ cap
                  · -- in place
                    have hmul : len * ety.size + n * ety.size ≤ cap * ety.size := by rw [← Nat.add_mul]; exact Nat.mul_le_mul_right _ hroom
                    rcases Nat.eq_zero_or_pos L.lim with hl0 | hl0
                    · have hcap0 : cap = 0 := by
                        rcases Nat.eq_zero_or_pos cap with hh | hh
                        · exact hh
                        · have := Nat.mul_pos hh hpos; omega
                      subst hcap0
                      obtain ⟨rfl, rfl⟩ : len = 0 ∧ n = 0 := by omega
                      have hc'l : c'.len = 0 := by rw [hrows.2.2.2, hcl, hrl]; omega
                      have hren := hm.renew (w' := w) (id := id) hfree (L' := L) (a := c') hme hL ho rfl rfl rfl (Nat.le_refl _) (fun k _ _ => rfl) (.inl rfl) hoks (fun ℓ' hb => by
                        refine ⟨⟨by simp, (killA_cells id c').2.2 hoks⟩, ?_⟩
                        rw [if_pos rfl]
                        exact ⟨q1, by show (killA id c').len ≤ L.lim; rw [(killA_cells id c').2.1]; omega, fun h0 => by omega⟩)
                      exact ⟨_, some id, _, _, _, _, zero _ rfl, h 0 (by omega), hren, ⟨L, by simp [upd], Nat.le_refl _, .inl ⟨rfl, _, rfl⟩⟩, upd_but ℓ id _⟩
                    · obtain ⟨cs, fr, v1, rest, p1, p2, p3, p4, p5⟩ := q3 hl0
                      have hv1 := p5.length
                      rw [A.len_cells _ hok, hcl] at hv1
                      have hcsz : cs.size = v1.length + rest.length := by rw [← Array.length_toList, p4, List.length_append]
                      have hrr := run_append_room_src (P := P) w ts tx ty0 en.ty i hk hi1 L.blk L.base len cap vx n news hsrc hroom
                        (fun j hj => by
                          rw [q1, Nat.zero_add, hi2, cell_of_row w L.blk _ cs en.ty fr p1]
                          simp; omega)
                        (fun j hj => by
                          rw [q1, Nat.zero_add, hi2]
                          simp only [World.frozen?, p1]
                          rcases p2 with h | h
                          · simp; omega
                          · simp; omega)
                      rw [q1, Nat.zero_add, hi2] at hrr
                      obtain ⟨f1, f2, f3, f4, f5⟩ := setCells_frame L.blk news (len * ety.size) w
                      have hren := hm.renew (w' := w.setCells L.blk (len * ety.size) news) (id := id) hfree (L' := L) (a := c') hme hL ho f1 f2 f3 (by rw [f4]; exact Nat.le_refl _) (fun k _ hk => f5 k (hk hl0)) (.inl rfl) hoks (fun ℓ' hb => by
                        refine ⟨⟨by simp, (killA_cells id c').2.2 hoks⟩, ?_⟩
                        rw [if_pos rfl]
                        have hov : (overL cs.toList (len * ety.size) news).length = cs.toList.length := overL_length (by simp; omega)
                        refine ⟨q1, ?_, fun _ => ⟨_, fr, v1 ++ news, rest.drop news.length, heap_setCells _ _ _ news _ cs w p1 (by omega), ?_, ?_, ?_, ?_⟩⟩
                        · show (killA id c').len ≤ L.lim
                          rw [(killA_cells id c').2.1, hrows.2.2.2, hcl, hrl]; omega
                        · have : (overL cs.toList (len * ety.size) news).toArray.size = cs.size := by simp [hov]
                          rw [this]; exact p2
                        · have : (overL cs.toList (len * ety.size) news).toArray.size = cs.size := by simp [hov]
                          rw [this]; exact p3
                        · show overL cs.toList (len * ety.size) news = _
                          rw [p4]
                          unfold overL
                          rw [hv1, List.take_left, show v1.length + news.length = v1.length + (news.length) from rfl, List.drop_length_add_append]
                        · refine den_kill_row hb ?_
                          rw [A.cat_cells hc']; exact p5.append hd)
                      refine ⟨_, some id, _, _, _, _, (by rw [q1]; exact hrr), h cap hroom, hren, ⟨L, by simp [upd], hroom, .inr ⟨hlim, by rw [q1]⟩⟩, upd_but ℓ id _⟩
                  · have hfc : (Builtin.firstCells i.size len (.slice (some ⟨L.blk, L.base, none⟩) len cap)).run P w.drew = .ok vs0.toArray w.drew :=
                      run_firstCells_some w.drew i.size len ⟨L.blk, L.base, none⟩ len cap vs0 (by rw [hi2]; omega) (fun j v hv => by
                        rw [Addr.add_off]
                        exact hc0 j v hv)
                    obtain ⟨cap', cs, rest, g1, g2, g3, g4⟩ := grow hfc (by rw [hi2]; omega) (by omega) hby h63
                    exact renewed g1 g3 g4 (by rw [Nat.add_zero]; exact g2)
              · exact h.elim
            · -- one that is only read, without room
              obtain ⟨⟨rfl, hn, hb⟩, h⟩ := h
              split at h
              · rename_i c' hc'
                have hrows := A.cat_row hc'
                rw [A.sub_row] at hrows
                obtain ⟨vs0, hd0, hc0⟩ := hE2.row
                have hvl := hd0.length
                rw [A.len_cells _ hok] at hvl
                rw [hE2.bound] at hb
                have hdo : DenL ℓ (en.c.sub off (cap * ety.size)).cells ((vs0.drop off).take (cap * ety.size)) := by rw [A.sub_cells _ _ _ hrows.1]; exact (hd0.drop off).take _
                have hdc : DenL ℓ c'.cells ((vs0.drop off).take (cap * ety.size) ++ news) := by rw [A.cat_cells hc']; exact hdo.append hd
                have hll : ((vs0.drop off).take (cap * ety.size)).length = cap * i.size := by rw [hi2]; simp; omega
                rcases hv with ⟨rfl, a, rfl⟩ | ⟨hlim, rfl⟩
                · have hll' : (vs0.drop off).take (0 * ety.size) = [] := by simp
                  rw [hll'] at hdc
                  exact fresh (fc0 a 0 w.drew) (by simp) (by omega) hby h63 (A.row_OK hrows.2.2.1) hdc h
                · refine fresh (run_firstCells_some w.drew i.size cap _ cap cap _ hll (fun j v hv => ?_)) hll (by omega) hby h63 (A.row_OK hrows.2.2.1) hdc h
                  rw [Addr.add_off, Nat.add_assoc]
                  refine hc0 (off + j) v ?_
                  rw [List.getElem?_take] at hv
                  split at hv
                  · rwa [List.getElem?_drop] at hv
                  · cases hv
              · exact h.elim
          · exact h.elim
        · exact h.elim
    · exact h.elim
end
end Go.V
end
section
set_option linter.unusedSimpArgs false
set_option linter.unusedVariables false
namespace Go.V
open Go

section
variable {P : Program} {E : Env} {ℓ : Nat → Option Loc} {m : Mem} {nid : Nat} {w : World}

/-! copy -/
def stCopy (T : Tab) (m : Mem) (td : TypeId) (dst src : SV) (K : SV → Mem → Prop) : Prop :=
  match T td, dst with
  | some ty, .one (.s (.sl id off len cap es)) => match ty.kind with
    | .sl e => match T e, m[id]? with
      | some ety, some (.ent en) => (ety.size = 1 ∧ es = 1 ∧ en.own = true) ∧ (match src with
        | .one (.s .snil) => K (one (.i 0)) m
        | .one (.s (.sl id2 off2 n2 cap2 es2)) => (match m[id2]? with
          | some (.ent e2) => (es2 = 1 ∧ e2.c.isRow = true ∧ off2 + n2 ≤ e2.bound ∧ off + len ≤ en.bound ∧ (e2.c.sub off2 (min n2 len)).solid = true) ∧
            (match en.c.over off (e2.c.sub off2 (min n2 len)) with
            | some c' => K (one (.i (min n2 len : Nat))) (m.set id (.ent { en with c := c' }))
            | none => False)
          | _ => False)
        | _ => False)
      | _, _ => False
    | _ => False
  | _, _ => False
theorem stCopy_ok {T : Tab} (hT : TabOK P T) (hm : MH E ℓ m w) {td ts ty0 : TypeId} {dst src : SV} {vd vs : Value} {K : SV → Mem → Prop} (hd : DenV ℓ dst vd) (hs : DenV ℓ src vs) (h : stCopy T m td dst src K) :
    ∃ sv m' v w', (Builtin.copy_ #[td, ts] ty0 #[vd, vs]).run P w = .ok v w' ∧ K sv m' ∧ MH E ℓ m' w' ∧ DenV ℓ sv v := by
  unfold stCopy at h
  split at h
  · rename_i ty id off len cap es hty
    have hk := (hT td ty hty).kind
    split at h
    · rename_i e hkk
      rw [hkk] at hk; simp only [KindOK] at hk
      split at h
      · rename_i ety en hety hme
        obtain ⟨⟨hs1, rfl, ho⟩, h⟩ := h
        obtain ⟨i, z, hi1, hi2, _⟩ := (hT e ety hety).parts
        have hmap : (P.info? e).map (·.size) = some 1 := by rw [hi1]; simp [hi2, hs1]
        obtain ⟨L, hL, hE, hmay⟩ := hm.ent id en hme
        obtain ⟨L', hL', hlc, hv⟩ := hd
        obtain rfl := Option.some.inj (hL.symm.trans hL')
        obtain ⟨d, hvd⟩ : ∃ d, vd = .slice d len cap := by
          rcases hv with ⟨rfl, a, rfl⟩ | ⟨_, rfl⟩
          · obtain rfl : len = 0 := by omega
            exact ⟨a, rfl⟩
          · exact ⟨_, rfl⟩
        split at h
        · simp only [DenV, DenA, DenS] at hs; subst hs
          subst hvd
          refine ⟨_, m, goInt 0, w, run_copy_none w td ts ty0 e d none len cap 0 0 hk hmap (by simp), h, hm, rfl⟩
        · rename_i id2 off2 n2 cap2 es2
          split at h
          · rename_i e2 hme2
            obtain ⟨⟨rfl, hrow, hb2, hb, hsol⟩, h⟩ := h
            split at h
            · rename_i c' hc'
              obtain ⟨L2, hL2, hE2, _⟩ := hm.ent id2 e2 hme2
              obtain ⟨L2', hL2', hlc2, hv2⟩ := hs
              obtain rfl := Option.some.inj (hL2.symm.trans hL2')
              obtain ⟨vs2, hd2, hc2⟩ := hE2.row
              have hvl2 := hd2.length
              rw [A.len_cells _ hE2.ok] at hvl2
              rw [hE2.bound] at hb2
              rw [hE.bound] at hb
              have hsub : DenL ℓ (e2.c.sub off2 (min n2 len)).cells ((vs2.drop off2).take (min n2 len)) := by rw [A.sub_cells _ _ _ hrow]; exact (hd2.drop off2).take _
              have hr2 : (e2.c.sub off2 (min n2 len)).isRow = true := by rw [A.sub_row]; exact hrow
              have hone := cells_one hsol hr2 hsub
              have hul : ((vs2.drop off2).take (min n2 len)).length = min n2 len := by simp; omega
              have hrows := A.over_row hc'
              have hok1 := A.row_OK hr2
              have hsl : (e2.c.sub off2 (min n2 len)).len = min n2 len := by rw [← A.len_cells _ hok1, hsub.length, hul]
              have hcl : c'.len = en.c.len := by
                have h1 := congrArg List.length (A.over_cells hc')
                rw [A.len_cells _ (A.row_OK hrows.2.2)] at h1
                simp only [List.length_append, List.length_take, List.length_drop, A.len_cells _ hE.ok, A.len_cells _ hok1, hsl] at h1
                rw [h1]; omega
              have hwc := write_core (P := P) hm hme hL ho hone (p := off) (a := c') (by rw [hul]; omega) (A.row_OK hrows.2.2) hcl (fun us hus => by
                rw [A.over_cells hc', ← A.len_cells _ hok1]
                exact hus.over off hsub)
              have hbase : L.base = 0 := by
                have h2 := hE.2
                rw [if_pos ho] at h2
                exact h2.1
              have hmin : min n2 len = Nat.min n2 len := rfl
              by_cases hz : min n2 len = 0
              · obtain ⟨s2, hvs⟩ : ∃ s, vs = .slice s n2 cap2 := by
                  rcases hv2 with ⟨rfl, a, rfl⟩ | ⟨_, rfl⟩
                  · obtain rfl : n2 = 0 := by omega
                    exact ⟨a, rfl⟩
                  · exact ⟨_, rfl⟩
                subst hvd hvs
                have hnil : (vs2.drop off2).take (min n2 len) = [] := by rw [hz]; simp
                rw [hnil] at hwc
                refine ⟨_, _, goInt 0, w, run_copy_none w td ts ty0 e d s2 len cap n2 cap2 hk hmap hz, h, hwc.2, ?_⟩
                show Value.int .i64 0 = .int .i64 (min n2 len : Nat)
                rw [hz]; rfl
              · rcases hv with ⟨rfl, a, rfl⟩ | ⟨hlim, rfl⟩
                · exfalso; omega
                · rcases hv2 with ⟨rfl, a, rfl⟩ | ⟨hlim2, rfl⟩
                  · exfalso; omega
                  · obtain ⟨vs1, hd1, hc1⟩ := hE.row
                    have hvl1 := hd1.length
                    rw [A.len_cells _ hE.ok] at hvl1
                    have hst := hwc.1
                    have hl := run_loadCells_list (P := P) w ⟨L2.blk, L2.base + off2, none⟩ ((vs2.drop off2).take (min n2 len)) (fun j u hu => by
                      rw [Addr.add_off, Nat.add_assoc]
                      refine hc2 (off2 + j) u ?_
                      rw [List.getElem?_take] at hu
                      split at hu
                      · rwa [List.getElem?_drop] at hu
                      · cases hu)
                    rw [hul] at hl
                    refine ⟨_, _, goInt (min n2 len : Nat), _, ?_, h, hwc.2, rfl⟩
                    have hsz : (sizeOf e).run P w = .ok 1 w := by simp [sizeOf, typeInfo, hi1, hi2, hs1]
                    rw [hmin] at hl hst
                    simp [Builtin.copy_, run_underlying hk, Builtin.lenOf, hsz, Builtin.firstCells, hl, hst]
            · exact h.elim
          · exact h.elim
        · exact h.elim
      · exact h.elim
    · exact h.elim
  · exact h.elim

/-! all operations that write to nothing that was there -/
/-- What an operation does: it puts a value and goes on. -/
def Does (P : Program) (o : Oper) (a : Act) (w : World) (R : Value → World → Prop) : Prop :=
  ∀ (next : Act → World → Prop) (Q : Exit → Act → World → Prop), (∀ v w', R v w' → next (a.put o.dst v) w') → o.wp P a w next Q
theorem does_value {o : Oper} {a : Act} {R : Value → World → Prop} {v : Value} {w' : World} (hr : (execOp a.eval o).run P w = .ok (.value v) w') (h : R v w') : Does P o a w R := by
  intro next Q hn
  unfold Oper.wp
  rw [hr]
  exact hn v w' h

/-- Calls that write to no memory that we know of and hand back what a plain function says (of the arguments, and of what the memory holds). -/
abbrev Pure := Mem → FuncId → List SV → Option SV
structure Ext (w w' : World) : Prop where
  os : w'.os = w.os
  tape : w'.tape = w.tape
  output : w'.output = w.output
  size : w.heap.size ≤ w'.heap.size
  block : ∀ k, k < w.heap.size → w'.heap[k]? = w.heap[k]?
theorem MH.ext (h : MH E ℓ m w) {w' : World} (x : Ext w w') : MH E ℓ m w' :=
  { os := x.os.trans h.os, tape := x.tape.trans h.tape, output := x.output.trans h.output, size := Nat.le_trans h.size x.size
    keep := fun k hk hm => (x.block k (Nat.lt_of_lt_of_le hk h.size)).trans (h.keep k hk hm)
    anch := h.anch
    dom := h.dom
    ent := fun id e hm => let ⟨L, h1, h2, h3⟩ := h.ent id e hm; ⟨L, h1, h2.of_block (fun hr => x.block _ (h2.lt hr)), h3⟩
    apart := h.apart }
/-- A function with a body. -/
def Callable (P : Program) (f : FuncId) : Prop := ∃ fn, P.funcs[f]? = some fn ∧ fn.body ≠ none ∧ fn.name ≠ "runtime.NumGoroutine"
theorem enter_run {f : FuncId} (hc : Callable P f) {a : Act} {args : Array Operand} {ts : Array TypeId} {dst : Option Tmp} {type : TypeId} {pos : String} {after : Array Edge} {guard : Option (Nat × Bool)} :
    (execOp a.eval ⟨dst, .call ⟨.value (.func f), args, ts⟩, type, pos, after, guard⟩).run P w = .ok (.enter f (args.toList.map a.eval).toArray) w := by
  obtain ⟨fn, hfn, hbody, hname⟩ := hc
  have hargs : args.map a.eval = (args.toList.map a.eval).toArray := by apply Array.ext'; simp
  simp only [execOp, resolve, Act.eval, Deferred.ofValue]
  simp [invoke, callFunc, hfn, hname, hbody, ← hargs]
def PureOK (P : Program) (pu : Pure) : Prop := ∀ m f svs sv, pu m f svs = some sv → ∀ (E : Env) (w : World) ℓ vs, MH E ℓ m w → DenVs ℓ svs vs →
  Callable P f ∧ Calls P f vs.toArray w (fun e w' => ∃ v, e = .returned v ∧ DenV ℓ sv v ∧ Ext w w')

def stNil (x : SV) (K : SV → Prop) : Prop :=
  match x with
  | .one (.s (.ptr id b o)) => K x
  | .one (.s (.fn f c)) => K x
  | .one (.s (.ifc t s)) => K x
  | .one (.s (.ifa t s)) => K x
  | _ => False
def stBin (T : Tab) (op : BinOp) (t : TypeId) (x y : SV) (K : SV → Prop) : Prop :=
  match x, y, T t with
  | .one (.s a), .one (.s b), some ty => bin op ty.kind a b (fun r => K (one r))
  | .one a, .one b, _ => stEqA T op t a b K
  | _, _, _ => False
def constS (v : Value) : SV :=
  match v with
  | .int .i64 n => one (.i n)
  | .int .u8 n => if 0 ≤ n ∧ n < 256 then one (.u8 (BitVec.ofInt 8 n)) else one .any
  | .int .u16 n => if 0 ≤ n ∧ n < 65536 then one (.u16 (BitVec.ofInt 16 n)) else one .any
  | .int .u32 n => if 0 ≤ n ∧ n < 4294967296 then one (.u32 (BitVec.ofInt 32 n)) else one .any
  | .int .u64 n => if 0 ≤ n ∧ n < 18446744073709551616 then one (.u64 (BitVec.ofInt 64 n)) else one .any
  | .bool b => one (.b b)
  | .string s => one (.str (s.data.toList.map UInt8.toBitVec))
  | .pointer none => one .nil
  | .slice none 0 0 => one .snil
  | .nilIface => one .inil
  | .nilFunc => one (.raw .nilFunc)
  | _ => one .any
theorem ofInt_den {n : Int} {k : Nat} (h : 0 ≤ n ∧ n < 2 ^ k) : n = (BitVec.ofInt k n).toNat := by
  obtain ⟨j, rfl⟩ := Int.eq_ofNat_of_zero_le h.1
  rw [BitVec.ofInt_natCast, BitVec.toNat_ofNat, Nat.mod_eq_of_lt]
  have := h.2
  exact_mod_cast this
theorem constS_den (ℓ : Nat → Option Loc) (v : Value) : DenV ℓ (constS v) v := by
  unfold constS
  split <;> (try split) <;> (try (first | rfl | trivial | exact ⟨_, rfl, rfl⟩))
  · rename_i h; exact congrArg _ (ofInt_den (k := 8) h)
  · rename_i h; exact congrArg _ (ofInt_den (k := 16) h)
  · rename_i h; exact congrArg _ (ofInt_den (k := 32) h)
  · rename_i h; exact congrArg _ (ofInt_den (k := 64) h)

def est (T : Tab) (pu : Pure) (m : Mem) (nid : Nat) (g : Operand → SV) (o : Oper) (K : SV → Option Ent → Prop) : Prop :=
  match o.op with
  | .move x => K (g x) none
  | .assign x => K (g x) none
  | .pick c a b => (match g c with
    | .one (.s (.b c)) => (c = true → K (g a) none) ∧ (c = false → K (g b) none)
    | _ => False)
  | .alloc t => stAlloc T nid t K
  | .box t x => stBox T nid t (g x) K
  | .build t ps => stBuild T t (ps.toList.map fun p => (p.1, g p.2)) (fun r => K r none)
  | .buildSlice t n ps => stBuildSlice T nid t n (ps.toList.map fun p => (p.1, g p.2)) K
  | .load t x => stLoad T m t (g x) (fun r => K r none)
  | .nilCheck x => stNil (g x) (fun r => K r none)
  | .binOp op t x y _ => stBin T op t (g x) (g y) (fun r => K r none)
  | .unOp op _ x => stUn op (g x) (fun r => K r none)
  | .convert s d x => stConv T m nid s d (g x) K
  | .sliceToArrayPointer t x => stArrPtr T t (g x) (fun r => K r none)
  | .makeInterface t x => stIface T t (g x) (fun r => K r none)
  | .makeFunc fn f c => stFunc fn (f.toList.map g) (c.toList.map g) (fun r => K r none)
  | .makeSlice t l c => stMake T nid t (g l) (g c) K
  | .slice t x lo hi mx => stSlice T m t (g x) (lo.map g) (hi.map g) (mx.map g) (fun r => K r none)
  | .fieldAddr t x f => stField T t (g x) f (fun r => K r none)
  | .field t x f => stFieldV T t (g x) f (fun r => K r none)
  | .indexAddr t x i => stIndexAddr T t (g x) (g i) (fun r => K r none)
  | .index t x i => stIndex T t (g x) (g i) (fun r => K r none)
  | .extract x i => stExtract (g x) i (fun r => K r none)
  | .call c => (match c.callee with
    | .builtin .len => (match c.args.toList, c.argTypes.toList with
      | [x], [t] => stLen T t (g x) (fun r => K r none)
      | _, _ => False)
    | .builtin .min => stMin false (c.args.toList.map g) (fun r => K r none)
    | .builtin .max => stMin true (c.args.toList.map g) (fun r => K r none)
    | .value (.func f) => (match pu m f (c.args.toList.map g) with
      | some v => K v none
      | none => False)
    | _ => False)
  | _ => False

theorem denVs_map {g : Operand → SV} {ρ : Operand → Value} (h : ∀ x, DenV ℓ (g x) (ρ x)) : ∀ (l : List Operand), DenVs ℓ (l.map g) (l.map ρ)
  | [] => trivial
  | x :: l => ⟨h x, denVs_map h l⟩
theorem denP_map {g : Operand → SV} {ρ : Operand → Value} (h : ∀ x, DenV ℓ (g x) (ρ x)) : ∀ (l : List (Nat × Operand)), DenP ℓ (l.map fun p => (p.1, g p.2)) (l.map fun p => (p.1, ρ p.2))
  | [] => trivial
  | p :: l => ⟨rfl, h p.2, denP_map h l⟩
theorem denO_map {g : Operand → SV} {ρ : Operand → Value} (h : ∀ x, DenV ℓ (g x) (ρ x)) : ∀ (o : Option Operand), DenO ℓ (o.map g) (o.map ρ)
  | none => trivial
  | some x => h x
/-- What an operation of this kind comes to, in the abstract. -/
def EDoes (P : Program) (E : Env) (ℓ : Nat → Option Loc) (m : Mem) (nid : Nat) (K : SV → Option Ent → Prop) (o : Oper) (a : Act) (w : World) : Prop :=
  Does P o a w (fun v w' => ∃ sv eo ℓ', K sv eo ∧ Le ℓ ℓ' ∧ MH E ℓ' (addE m nid eo) w' ∧ DenV ℓ' sv v)
theorem edoes {o : Oper} {a : Act} {K : SV → Option Ent → Prop} {s : Sem Next} (he : execOp a.eval o = s) (h : Comes P E ℓ m nid K s w) : EDoes P E ℓ m nid K o a w := by
  obtain ⟨sv, eo, v, w', ℓ', hr, hK, hle, hmh, hd⟩ := h
  exact does_value (by rw [he]; exact hr) ⟨sv, eo, ℓ', hK, hle, hmh, hd⟩
theorem stBin_ok {T : Tab} (hT : TabOK P T) (hm : MH E ℓ m w) {K : SV → Option Ent → Prop} {op : BinOp} {t : TypeId} {x y : SV} {vx vy : Value} {ox oy : Operand} (hx : DenV ℓ x vx) (hy : DenV ℓ y vy) (h : stBin T op t x y (fun r => K r none)) :
    Comes P E ℓ m nid K (do pure (.value (← (do eqGuard op t ox oy vx vy; binOp op t vx vy)))) w := by
  unfold stBin at h
  split at h
  · rename_i a b ty hty
    exact comes1 hm (bin_ok (hT t ty hty) hx hy h) (fun x hx => hx)
  · exact stEqA_ok hT hm hx hy h
  · exact h.elim
theorem est_ok {T : Tab} {pu : Pure} (hT : TabOK P T) (hpu : PureOK P pu) (hm : MH E ℓ m w) (hf : Fresh m nid) {a : Act} {g : Operand → SV} (hg : ∀ x, DenV ℓ (g x) (a.eval x)) {o : Oper} {K : SV → Option Ent → Prop} (h : est T pu m nid g o K) :
    EDoes P E ℓ m nid K o a w := by
  obtain ⟨dst, op, type, pos, after, guard⟩ := o
  unfold est at h
  simp only at h
  cases op <;> simp only at h <;> (try exact h.elim)
  case move x => exact edoes rfl (comes_pure hm rfl (hg x) h)
  case assign x => exact edoes rfl (comes_pure hm rfl (hg x) h)
  case pick c x y =>
    split at h
    · rename_i b hb
      have hc := hg c
      rw [hb] at hc
      have hc' : a.eval c = .bool b := hc
      cases b
      · exact edoes (s := execOp a.eval ⟨dst, .pick c x y, type, pos, after, guard⟩) rfl (comes_pure hm (by simp [execOp, hc', asBool]) (hg y) (h.2 rfl))
      · exact edoes (s := execOp a.eval ⟨dst, .pick c x y, type, pos, after, guard⟩) rfl (comes_pure hm (by simp [execOp, hc', asBool]) (hg x) (h.1 rfl))
    · exact h.elim
  case alloc t => exact edoes rfl (stAlloc_ok hT hm hf h)
  case box t x => exact edoes rfl (stBox_ok hm hf (hg x) h)
  case build t ps =>
    refine edoes (s := do pure (.value (← Instr.build t (ps.toList.map fun p => (p.1, a.eval p.2)).toArray))) ?_ (stBuild_ok hT hm (denP_map hg ps.toList) h)
    simp only [execOp]
    congr 2
    apply Array.ext'; simp
  case buildSlice t n ps =>
    refine edoes (s := do pure (.value (← Instr.buildSlice t n (ps.toList.map fun p => (p.1, a.eval p.2)).toArray))) ?_ (stBuildSlice_ok hT hm hf (denP_map hg ps.toList) h)
    simp only [execOp]
    congr 2
    apply Array.ext'; simp
  case load t x => exact edoes rfl (stLoad_ok hT hm (hg x) h)
  case nilCheck x =>
    have hx := hg x
    unfold stNil at h
    split at h
    · rename_i id b o' heq
      rw [heq] at hx
      obtain ⟨L, hL, hv⟩ := hx
      exact edoes (s := execOp a.eval ⟨dst, .nilCheck x, type, pos, after, guard⟩) rfl (comes_pure hm (v := a.eval x) (sv := g x) (by simp only [execOp]; rw [hv]; rfl) (hg x) (by rw [heq] at h ⊢; exact h))
    · rename_i f c heq
      rw [heq] at hx
      obtain ⟨Ls, hL, hv⟩ := hx
      exact edoes (s := execOp a.eval ⟨dst, .nilCheck x, type, pos, after, guard⟩) rfl (comes_pure hm (v := a.eval x) (sv := g x) (by simp only [execOp]; rw [hv]; rfl) (hg x) (by rw [heq] at h ⊢; exact h))
    · rename_i t s heq
      rw [heq] at hx
      obtain ⟨u, hv, _⟩ := hx
      exact edoes (s := execOp a.eval ⟨dst, .nilCheck x, type, pos, after, guard⟩) rfl (comes_pure hm (v := a.eval x) (sv := g x) (by simp only [execOp]; rw [hv]; rfl) (hg x) (by rw [heq] at h ⊢; exact h))
    · rename_i t s heq
      rw [heq] at hx
      obtain ⟨u, hv, _⟩ := hx
      exact edoes (s := execOp a.eval ⟨dst, .nilCheck x, type, pos, after, guard⟩) rfl (comes_pure hm (v := a.eval x) (sv := g x) (by simp only [execOp]; rw [hv]; rfl) (hg x) (by rw [heq] at h ⊢; exact h))
    · exact h.elim
  case binOp op t x y yt => exact edoes rfl (stBin_ok hT hm (hg x) (hg y) h)
  case unOp op t x => exact edoes rfl (stUn_ok hm (hg x) h)
  case convert s d x => exact edoes rfl (stConv_ok hT hm hf (hg x) h)
  case sliceToArrayPointer t x => exact edoes rfl (stArrPtr_ok hT hm (hg x) h)
  case makeInterface t x => exact edoes rfl (stIface_ok hT hm (hg x) h)
  case makeFunc fn f c =>
    refine edoes (s := do pure (.value (← Instr.makeFunc fn (f.toList.map a.eval).toArray (c.toList.map a.eval).toArray))) ?_ (stFunc_ok hm (denVs_map hg f.toList) (denVs_map hg c.toList) h)
    simp only [execOp]
    congr 2 <;> (apply Array.ext'; simp)
  case makeSlice t l c => exact edoes rfl (stMake_ok hT hm hf (hg l) (hg c) h)
  case slice t x lo hi mx => exact edoes rfl (stSlice_ok hT hm (hg x) (denO_map hg lo) (denO_map hg hi) (denO_map hg mx) h)
  case fieldAddr t x f => exact edoes rfl (stField_ok hT hm (hg x) h)
  case field t x f => exact edoes rfl (stFieldV_ok hT hm (hg x) h)
  case indexAddr t x i => exact edoes rfl (stIndexAddr_ok hT hm (hg x) (hg i) h)
  case index t x i => exact edoes rfl (stIndex_ok hT hm (hg x) (hg i) h)
  case extract x i => exact edoes rfl (stExtract_ok hm (hg x) h)
  case call c =>
    obtain ⟨callee, args, argTypes⟩ := c
    simp only at h
    split at h
    · split at h
      · rename_i x t hx ht
        have hx' : args = #[x] := by apply Array.ext'; simpa using hx
        have ht' : argTypes = #[t] := by apply Array.ext'; simpa using ht
        subst hx' ht'
        exact edoes (s := do pure (.value (← Builtin.len_ #[t] type #[a.eval x]))) (by simp [execOp, resolve, invoke, builtin]) (stLen_ok hT hm (hg x) h)
      · exact h.elim
    · refine edoes (s := do pure (.value (← if false then Builtin.max_ argTypes type (args.toList.map a.eval).toArray else Builtin.min_ argTypes type (args.toList.map a.eval).toArray))) ?_ (stMin_ok hm (denVs_map hg args.toList) h)
      have : args.map a.eval = (args.toList.map a.eval).toArray := by apply Array.ext'; simp
      simp [execOp, resolve, invoke, builtin, this]
    · refine edoes (s := do pure (.value (← if true then Builtin.max_ argTypes type (args.toList.map a.eval).toArray else Builtin.min_ argTypes type (args.toList.map a.eval).toArray))) ?_ (stMin_ok hm (denVs_map hg args.toList) h)
      have : args.map a.eval = (args.toList.map a.eval).toArray := by apply Array.ext'; simp
      simp [execOp, resolve, invoke, builtin, this]
    · rename_i f
      split at h
      · rename_i sv hsv
        obtain ⟨hc, hcall⟩ := hpu m f _ sv hsv E w ℓ _ hm (denVs_map hg args.toList)
        intro next Q hn
        unfold Oper.wp
        rw [enter_run hc]
        simp only [Oper.upon]
        refine hcall.mono ?_
        rintro e w' ⟨v, rfl, hd, hx⟩
        exact hn v w' ⟨sv, none, ℓ, h, Le.refl ℓ, hm.ext hx, hd⟩
      · exact h.elim
    · exact h.elim
end
end Go.V
end
