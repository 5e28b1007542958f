/- A small verifier of our own, part 2: types, arithmetic, comparisons, conversions on abstract values. No condition. -/
import Derived.Test.YtlnoehpjchglnaaVa
import Derived.Laws.Entries
import Derived.Laws.Strings
import Derived.IntWalk
set_option linter.unusedSimpArgs false
set_option linter.unusedVariables false
namespace Go.V
open Go

inductive Kind where
  | bool | int (k : IntKind) | str | ptr (e : TypeId) | sl (e : TypeId) | arr (n : Nat) (e : TypeId) | struct (fs : List (Nat × TypeId)) | iface | func | other
structure Ty where
  kind : Kind
  size : Nat
  bytes : Nat
  zero : A

def S.val : S → Option Value
  | .i n => some (.int .i64 n)
  | .b c => some (.bool c)
  | .u8 x => some (.int .u8 x.toNat)
  | .u16 x => some (.int .u16 x.toNat)
  | .u32 x => some (.int .u32 x.toNat)
  | .u64 x => some (.int .u64 x.toNat)
  | .str [] => some (.string .empty)
  | .nil => some (.pointer none)
  | .snil => some (.slice none 0 0)
  | .inil => some .nilIface
  | .raw x => some x
  | _ => none
theorem S.val_den {x : S} {v : Value} (h : x.val = some v) (ℓ : Nat → Option Loc) : DenS ℓ x v := by
  cases x with
  | str l => cases l with
    | nil => simp [S.val] at h; subst h; exact ⟨.empty, rfl, rfl⟩
    | cons => simp [S.val] at h
  | _ => simp [S.val] at h <;> subst h <;> simp [DenS]
def valL : List S → Option (List Value)
  | [] => some []
  | x :: xs => match x.val, valL xs with
    | some v, some vs => some (v :: vs)
    | _, _ => none
theorem valL_den : ∀ {xs : List S} {vs : List Value}, valL xs = some vs → ∀ ℓ, DenL ℓ xs vs
  | [], vs, h, ℓ => by simp [valL] at h; subst h; trivial
  | x :: xs, vs, h, ℓ => by
    unfold valL at h
    split at h
    · rename_i v us hv hus
      simp at h; subst h
      exact ⟨S.val_den hv ℓ, valL_den hus ℓ⟩
    · cases h
def A.val : A → Option Value
  | .s x => x.val
  | a => (valL a.cells).map (fun vs => .agg vs.toArray)
theorem A.val_den {a : A} {v : Value} (h : a.val = some v) (hok : a.OK) (ℓ : Nat → Option Loc) : DenA ℓ a v := by
  cases a with
  | s x => exact S.val_den h ℓ
  | _ =>
    simp only [A.val, Option.map_eq_some_iff] at h
    obtain ⟨vs, h1, h2⟩ := h
    exact ⟨hok, vs, h2.symm, valL_den h1 ℓ⟩

def KindOK (P : Program) (t : TypeId) : Kind → Prop
  | .bool => P.underlying t = some .bool
  | .int k => P.underlying t = some (.int k)
  | .str => P.underlying t = some .string
  | .ptr e => P.underlying t = some (.pointer e)
  | .sl e => P.underlying t = some (.slice e)
  | .arr n e => P.underlying t = some (.array n e)
  | .struct fs => ∃ f : Array Field, P.underlying t = some (.struct f) ∧ f.toList.map (fun x => (x.offset, x.type)) = fs ∧ f.toList.all (fun x => (P.info? x.type).isSome) = true
  | .iface => ∃ ms, P.underlying t = some (.interface ms)
  | .func => ∃ a b c, P.underlying t = some (.func a b c)
  | .other => True
structure TyOK (P : Program) (t : TypeId) (ty : Ty) : Prop where
  info : (P.info? t).map (fun i => (i.size, i.bytes, i.zero)) = some (ty.size, ty.bytes, ty.zero.val)
  len : ty.zero.len = ty.size
  zero : ty.zero.val.isSome = true
  ok : ty.zero.OK
  kind : KindOK P t ty.kind
abbrev Tab := TypeId → Option Ty
def TabOK (P : Program) (T : Tab) : Prop := ∀ t ty, T t = some ty → TyOK P t ty

theorem TyOK.parts {P : Program} {t : TypeId} {ty : Ty} (h : TyOK P t ty) : ∃ i z, P.info? t = some i ∧ i.size = ty.size ∧ i.bytes = ty.bytes ∧ i.zero = some z ∧ ty.zero.val = some z := by
  have hi := h.info
  cases hq : P.info? t with
  | none => rw [hq] at hi; cases hi
  | some i =>
    rw [hq] at hi
    simp only [Option.map_some, Option.some.injEq, Prod.mk.injEq] at hi
    obtain ⟨z, hz⟩ := Option.isSome_iff_exists.1 h.zero
    exact ⟨i, z, rfl, hi.1, hi.2.1, hi.2.2.trans hz, hz⟩

def Kind.isAgg : Kind → Bool
  | .arr _ _ | .struct _ => true
  | _ => false
theorem TyOK.isAgg {P : Program} {t : TypeId} {ty : Ty} (h : TyOK P t ty) (hk : ty.kind ≠ .other) (w : World) : (isAgg t).run P w = .ok ty.kind.isAgg w := by
  have hk' := h.kind
  unfold Go.isAgg
  rw [Sem.run_bind]
  cases hq : ty.kind <;> rw [hq] at hk' <;> simp only [KindOK] at hk' <;> (try (exact absurd hq hk))
  case struct fs => obtain ⟨f, hf, _⟩ := hk'; rw [run_underlying hf w]; rfl
  case iface => obtain ⟨f, hf⟩ := hk'; rw [run_underlying hf w]; rfl
  case func => obtain ⟨f, g, c, hf⟩ := hk'; rw [run_underlying hf w]; rfl
  all_goals (rw [run_underlying hk' w]; rfl)
theorem TyOK.size {P : Program} {t : TypeId} {ty : Ty} (h : TyOK P t ty) (w : World) : (sizeOf t).run P w = .ok ty.size w := by
  obtain ⟨i, z, h1, h2, _⟩ := h.parts
  simp [sizeOf, typeInfo, h1, h2]
theorem TyOK.zv {P : Program} {t : TypeId} {ty : Ty} (h : TyOK P t ty) (w : World) : ∃ z, (zeroValue t).run P w = .ok z w ∧ ty.zero.val = some z := by
  obtain ⟨i, z, h1, h2, h3, h4, h5⟩ := h.parts
  exact ⟨z, by simp [zeroValue, typeInfo, h1, h4], h5⟩

/-! ints -/
def inI (n : Int) : Prop := -9223372036854775808 ≤ n ∧ n ≤ 9223372036854775807
theorem wrap_in {n : Int} (h : inI n) : IntKind.wrap .i64 n = n := IntWalk.i64_in n h
theorem wrap_u {k : IntKind} (h : k.signed = false) (n : Int) : k.wrap n = n % (2 ^ k.bits : Int) := by simp [IntKind.wrap, h]
theorem emod_natCast_pow (n : Int) (a w : Nat) (h : n % ((2 ^ w : Nat) : Int) = (a : Int)) : n % (2 ^ w : Int) = a := by rw [← h]; simp
section
variable {k : IntKind} (hk : k.signed = false)
include hk
theorem wrap_toNat (x : BitVec k.bits) : k.wrap x.toNat = x.toNat := by
  rw [wrap_u hk]
  refine emod_natCast_pow _ _ _ ?_
  rw [← Int.natCast_emod, Nat.mod_eq_of_lt x.isLt]
theorem wrap_add (x y : BitVec k.bits) : k.wrap ((x.toNat : Int) + y.toNat) = (x + y).toNat := by
  rw [wrap_u hk]
  refine emod_natCast_pow _ _ _ ?_
  rw [BitVec.toNat_add, ← Int.natCast_add, ← Int.natCast_emod]
theorem wrap_mul (x y : BitVec k.bits) : k.wrap ((x.toNat : Int) * y.toNat) = (x * y).toNat := by
  rw [wrap_u hk]
  refine emod_natCast_pow _ _ _ ?_
  rw [BitVec.toNat_mul, ← Int.natCast_mul, ← Int.natCast_emod]
theorem wrap_sub (x y : BitVec k.bits) : k.wrap ((x.toNat : Int) - y.toNat) = (x - y).toNat := by
  rw [wrap_u hk]
  refine emod_natCast_pow _ _ _ ?_
  rw [BitVec.toNat_sub, Int.natCast_emod, Int.natCast_add, Int.natCast_sub (Nat.le_of_lt y.isLt)]
  generalize ((2 ^ k.bits : Nat) : Int) = M
  rw [show M - (y.toNat : Int) + x.toNat = ((x.toNat : Int) - y.toNat) + M * 1 by omega, Int.add_mul_emod_self_left]
theorem wrap_shl (x : BitVec k.bits) (n : Nat) : k.wrap ((x.toNat : Int) * 2 ^ n) = (x <<< n).toNat := by
  rw [wrap_u hk]
  refine emod_natCast_pow _ _ _ ?_
  rw [BitVec.toNat_shiftLeft, Nat.shiftLeft_eq, Int.natCast_emod, Int.natCast_mul, Int.natCast_pow]
  rfl
end
theorem ofInt_toNat {n : Nat} (x : BitVec n) : BitVec.ofInt n (x.toNat : Int) = x := by
  rw [BitVec.ofInt_natCast, BitVec.ofNat_toNat, BitVec.setWidth_eq]
theorem fdiv_pow (a : Int) (n : Nat) : a.fdiv (2 ^ n) = a / 2 ^ n := Int.fdiv_eq_ediv_of_nonneg _ (Int.pow_nonneg (by decide))

/-! operators -/
def binI (op : BinOp) (a b : Int) (K : S → Prop) : Prop :=
  match op with
  | .add => inI (a + b) ∧ K (.i (a + b))
  | .sub => inI (a - b) ∧ K (.i (a - b))
  | .mul => inI (a * b) ∧ K (.i (a * b))
  | .quo => b ≠ 0 ∧ inI (a.tdiv b) ∧ K (.i (a.tdiv b))
  | .rem => b ≠ 0 ∧ K (.i (a.tmod b))
  | .and => (0 ≤ a ∧ inI a ∧ 0 ≤ b ∧ inI b) ∧ K (.i ((a.toNat &&& b.toNat : Nat) : Int))
  | .or => (0 ≤ a ∧ inI a ∧ 0 ≤ b ∧ inI b) ∧ K (.i ((a.toNat ||| b.toNat : Nat) : Int))
  | .xor => (0 ≤ a ∧ inI a ∧ 0 ≤ b ∧ inI b) ∧ K (.i ((a.toNat ^^^ b.toNat : Nat) : Int))
  | .eql => K (.b (decide (a = b)))
  | .neq => K (.b (!decide (a = b)))
  | .lss => K (.b (decide (a < b)))
  | .leq => K (.b (decide (a ≤ b)))
  | .gtr => K (.b (decide (b < a)))
  | .geq => K (.b (decide (b ≤ a)))
  | _ => False
def binB {n : Nat} (mk : BitVec n → S) (op : BinOp) (a b : BitVec n) (K : S → Prop) : Prop :=
  match op with
  | .add => K (mk (a + b))
  | .sub => K (mk (a - b))
  | .mul => K (mk (a * b))
  | .quo => b ≠ 0#n ∧ K (mk (a / b))
  | .rem => b ≠ 0#n ∧ K (mk (a % b))
  | .and => K (mk (a &&& b))
  | .or => K (mk (a ||| b))
  | .xor => K (mk (a ^^^ b))
  | .andNot => K (mk (a &&& ~~~b))
  | .eql => K (.b (decide (a = b)))
  | .neq => K (.b (!decide (a = b)))
  | .lss => K (.b (decide (a.toNat < b.toNat)))
  | .leq => K (.b (decide (a.toNat ≤ b.toNat)))
  | .gtr => K (.b (decide (b.toNat < a.toNat)))
  | .geq => K (.b (decide (b.toNat ≤ a.toNat)))
  | _ => False
/-- A number that an index, a bound or a shift is given by. -/
def S.num : S → Option Int
  | .i n => some n
  | .u8 x => some x.toNat
  | .u16 x => some x.toNat
  | .u32 x => some x.toNat
  | .u64 x => some x.toNat
  | _ => none
def shB {n : Nat} (mk : BitVec n → S) (left : Bool) (a : BitVec n) (s : Int) (K : S → Prop) : Prop :=
  0 ≤ s ∧ (if left then K (mk (a <<< s.toNat)) else K (mk (a >>> s.toNat)))
def shS (left : Bool) (x : S) (s : Int) (K : S → Prop) : Prop :=
  match x with
  | .i a => (0 ≤ s ∧ s ≤ 63) ∧ (if left then inI (a * 2 ^ s.toNat) ∧ K (.i (a * 2 ^ s.toNat)) else K (.i (a / 2 ^ s.toNat)))
  | .u8 a => shB .u8 left a s K
  | .u16 a => shB .u16 left a s K
  | .u32 a => shB .u32 left a s K
  | .u64 a => shB .u64 left a s K
  | _ => False
def binS (op : BinOp) (k : Kind) (x y : S) (K : S → Prop) : Prop :=
  match x, y with
  | .i a, .i b => binI op a b K
  | .u8 a, .u8 b => binB .u8 op a b K
  | .u16 a, .u16 b => binB .u16 op a b K
  | .u32 a, .u32 b => binB .u32 op a b K
  | .u64 a, .u64 b => binB .u64 op a b K
  | .b a, .b b => match op, k with
    | .eql, .bool => K (.b (a == b))
    | .neq, .bool => K (.b (a != b))
    | _, _ => False
  | .str a, .str b => match op with
    | .eql => K (.b (decide (a = b)))
    | .neq => K (.b (!decide (a = b)))
    | _ => False
  | .nil, .nil => match op, k with
    | .eql, .ptr _ => K (.b true)
    | .neq, .ptr _ => K (.b false)
    | _, _ => False
  | .nil, .ptr _ _ _ => match op, k with
    | .eql, .ptr _ => K (.b false)
    | .neq, .ptr _ => K (.b true)
    | _, _ => False
  | .ptr _ _ _, .nil => match op, k with
    | .eql, .ptr _ => K (.b false)
    | .neq, .ptr _ => K (.b true)
    | _, _ => False
  | _, _ => False
def bin (op : BinOp) (k : Kind) (x y : S) (K : S → Prop) : Prop :=
  match op with
  | .shl => match y.num with | some s => shS true x s K | none => False
  | .shr => match y.num with | some s => shS false x s K | none => False
  | _ => binS op k x y K

section
variable {P : Program} {ℓ : Nat → Option Loc} {K : S → Prop}
/-- What an operator on two values of one cell comes to. -/
def Comes1 (P : Program) (ℓ : Nat → Option Loc) (K : S → Prop) (s : Sem Value) : Prop := ∃ x v, (∀ w, s.run P w = .ok v w) ∧ DenS ℓ x v ∧ K x
theorem binI_ok {op : BinOp} {t : TypeId} {a b : Int} (h : binI op a b K) : Comes1 P ℓ K (binOp op t (.int .i64 a) (.int .i64 b)) := by
  have key : ∀ {c : Int}, inI c → 0 ≤ c → BitVec.ofInt 64 c = BitVec.ofNat 64 c.toNat := by
    intro c _ h0
    obtain ⟨n, rfl⟩ := Int.eq_ofNat_of_zero_le h0
    rw [BitVec.ofInt_natCast]; simp
  have bits : ∀ {a b : Int} (f : Nat → Nat → Nat) (g : BitVec 64 → BitVec 64 → BitVec 64), (∀ x y : BitVec 64, (g x y).toNat = f x.toNat y.toNat) → (∀ x y, x < 2 ^ 63 → y < 2 ^ 63 → f x y < 2 ^ 63) →
      (0 ≤ a ∧ inI a ∧ 0 ≤ b ∧ inI b) → IntKind.wrap .i64 (g (BitVec.ofInt 64 a) (BitVec.ofInt 64 b)).toNat = ((f a.toNat b.toNat : Nat) : Int) := by
    intro a b f g hg hf ⟨h1, h2, h3, h4⟩
    rw [key h2 h1, key h4 h3, hg]
    unfold inI at h2 h4
    have ea : (BitVec.ofNat 64 a.toNat).toNat = a.toNat := by rw [BitVec.toNat_ofNat]; exact Nat.mod_eq_of_lt (by omega)
    have eb : (BitVec.ofNat 64 b.toNat).toNat = b.toNat := by rw [BitVec.toNat_ofNat]; exact Nat.mod_eq_of_lt (by omega)
    rw [ea, eb]
    have := hf a.toNat b.toNat (by omega) (by omega)
    exact wrap_in (by unfold inI; omega)
  cases op <;> simp only [binI] at h <;> (try exact h.elim)
  case add => exact ⟨_, _, fun w => rfl, by simp [DenS, wrap_in h.1], h.2⟩
  case sub => exact ⟨_, _, fun w => rfl, by simp [DenS, wrap_in h.1], h.2⟩
  case mul => exact ⟨_, _, fun w => rfl, by simp [DenS, wrap_in h.1], h.2⟩
  case quo => exact ⟨_, _, fun w => by simp [binOp, Op.intDiv, h.1]; rfl, by simp [DenS, wrap_in h.2.1], h.2.2⟩
  case rem => exact ⟨_, _, fun w => by simp [binOp, Op.intDiv, h.1]; rfl, by simp [DenS], h.2⟩
  case and => exact ⟨_, _, fun w => rfl, by simp only [DenS, Value.int.injEq, true_and]; exact bits (· &&& ·) (· &&& ·) (fun x y => BitVec.toNat_and x y) (fun x y hx _ => Nat.and_lt_two_pow x (by omega)) h.1, h.2⟩
  case or => exact ⟨_, _, fun w => rfl, by simp only [DenS, Value.int.injEq, true_and]; exact bits (· ||| ·) (· ||| ·) (fun x y => BitVec.toNat_or x y) (fun x y hx hy => Nat.or_lt_two_pow hx hy) h.1, h.2⟩
  case xor => exact ⟨_, _, fun w => rfl, by simp only [DenS, Value.int.injEq, true_and]; exact bits (· ^^^ ·) (· ^^^ ·) (fun x y => BitVec.toNat_xor x y) (fun x y hx hy => Nat.xor_lt_two_pow hx hy) h.1, h.2⟩
  case eql => exact ⟨_, _, fun w => rfl, by simp only [DenS, Value.bool.injEq]; rw [Bool.eq_iff_iff]; simp, h⟩
  case neq => exact ⟨_, _, fun w => rfl, by simp only [DenS, Value.bool.injEq]; rw [Bool.eq_iff_iff]; simp, h⟩
  all_goals exact ⟨_, _, fun w => rfl, by simp [DenS], h⟩

theorem binB_ok {k : IntKind} (hk : k.signed = false) {mk : BitVec k.bits → S} (hmk : ∀ x v, DenS ℓ (mk x) v ↔ v = .int k x.toNat) {op : BinOp} {t : TypeId} {a b : BitVec k.bits}
    (h : binB mk op a b K) : Comes1 P ℓ K (binOp op t (.int k a.toNat) (.int k b.toNat)) := by
  cases op <;> simp only [binB] at h <;> (try exact h.elim)
  case add => exact ⟨_, _, fun w => by simp [binOp, Op.intArith]; rfl, (hmk _ _).2 (by rw [wrap_add hk]), h⟩
  case sub => exact ⟨_, _, fun w => by simp [binOp, Op.intArith]; rfl, (hmk _ _).2 (by rw [wrap_sub hk]), h⟩
  case mul => exact ⟨_, _, fun w => by simp [binOp, Op.intArith]; rfl, (hmk _ _).2 (by rw [wrap_mul hk]), h⟩
  case quo =>
    have hb : ¬ ((b.toNat : Int) = 0) := fun e => h.1 (BitVec.eq_of_toNat_eq (by simpa using e))
    refine ⟨_, _, fun w => by simp only [binOp, Op.intDiv, if_neg hb, ne_eq, not_true, if_false]; rfl, (hmk (a / b) _).2 ?_, h.2⟩
    rw [← Int.ofNat_tdiv, wrap_u hk, BitVec.toNat_udiv]
    congr 1
    refine emod_natCast_pow _ _ _ ?_
    rw [← Int.natCast_emod, Nat.mod_eq_of_lt (Nat.lt_of_le_of_lt (Nat.div_le_self _ _) a.isLt)]
  case rem =>
    have hb : ¬ ((b.toNat : Int) = 0) := fun e => h.1 (BitVec.eq_of_toNat_eq (by simpa using e))
    refine ⟨_, _, fun w => by simp only [binOp, Op.intDiv, if_neg hb, ne_eq, not_true, if_false]; rfl, (hmk (a % b) _).2 ?_, h.2⟩
    rw [← Int.ofNat_tmod, BitVec.toNat_umod]
  case and => exact ⟨_, _, fun w => by simp only [binOp, Op.intBits, ofInt_toNat, ne_eq, not_true, if_false]; rfl, (hmk _ _).2 (by rw [wrap_toNat hk]), h⟩
  case or => exact ⟨_, _, fun w => by simp only [binOp, Op.intBits, ofInt_toNat, ne_eq, not_true, if_false]; rfl, (hmk _ _).2 (by rw [wrap_toNat hk]), h⟩
  case xor => exact ⟨_, _, fun w => by simp only [binOp, Op.intBits, ofInt_toNat, ne_eq, not_true, if_false]; rfl, (hmk _ _).2 (by rw [wrap_toNat hk]), h⟩
  case andNot => exact ⟨_, _, fun w => by simp only [binOp, Op.intBits, ofInt_toNat, ne_eq, not_true, if_false]; rfl, (hmk _ _).2 (by rw [wrap_toNat hk]), h⟩
  case eql => exact ⟨_, _, fun w => by simp only [binOp, Op.intCmp, ne_eq, not_true, if_false]; rfl, by simp only [DenS, Value.bool.injEq]; rw [Bool.eq_iff_iff]; simp [← BitVec.toNat_inj]; omega, h⟩
  case neq => exact ⟨_, _, fun w => by simp only [binOp, Op.intCmp, ne_eq, not_true, if_false]; rfl, by simp only [DenS, Value.bool.injEq]; rw [Bool.eq_iff_iff]; simp [← BitVec.toNat_inj]; omega, h⟩
  all_goals exact ⟨_, _, fun w => by simp only [binOp, Op.intCmp, ne_eq, not_true, if_false]; rfl, by simp [DenS], h⟩

theorem shB_ok {k : IntKind} (hk : k.signed = false) {mk : BitVec k.bits → S} (hmk : ∀ x v, DenS ℓ (mk x) v ↔ v = .int k x.toNat) {left : Bool} {t : TypeId} {a : BitVec k.bits} {s : Int} {yk : IntKind}
    (h : shB mk left a s K) : Comes1 P ℓ K (binOp (if left then .shl else .shr) t (.int k a.toNat) (.int yk s)) := by
  obtain ⟨h0, h⟩ := h
  have hn : ¬ s < 0 := by omega
  cases left
  · simp only [Bool.false_eq_true, if_false] at h ⊢
    refine ⟨_, _, fun w => by simp only [binOp, Op.shift, if_neg hn]; rfl, (hmk (a >>> s.toNat) _).2 ?_, h⟩
    congr 1
    rw [fdiv_pow, BitVec.toNat_ushiftRight, Nat.shiftRight_eq_div_pow]
    rcases Nat.le_total s.toNat k.bits with hle | hle
    · rw [Nat.min_eq_left hle]; simp
    · rw [Nat.min_eq_right hle, Nat.div_eq_of_lt (Nat.lt_of_lt_of_le a.isLt (Nat.pow_le_pow_right (by decide) hle))]
      rw [show ((a.toNat : Int) / 2 ^ k.bits) = ((a.toNat / 2 ^ k.bits : Nat) : Int) by simp, Nat.div_eq_of_lt a.isLt]
  · simp only [if_true] at h ⊢
    refine ⟨_, _, fun w => by simp only [binOp, Op.shift, if_neg hn]; rfl, (hmk (a <<< s.toNat) _).2 ?_, h⟩
    congr 1
    rcases Nat.le_total s.toNat k.bits with hle | hle
    · rw [Nat.min_eq_left hle, wrap_shl hk]
    · rw [Nat.min_eq_right hle, wrap_shl hk, BitVec.shiftLeft_eq_zero (Nat.le_refl _), BitVec.shiftLeft_eq_zero hle]

theorem num_den {y : S} {v : Value} {s : Int} (hy : DenS ℓ y v) (h : y.num = some s) : ∃ k, v = .int k s := by
  cases y <;> simp [S.num] at h <;> subst h <;> exact ⟨_, hy⟩

theorem bytes_beq {a b : ByteArray} {x y : List (BitVec 8)} (ha : a.data.toList.map UInt8.toBitVec = x) (hb : b.data.toList.map UInt8.toBitVec = y) : (a.toList == b.toList) = decide (x = y) := by
  have inj : ∀ {l l' : List UInt8}, l.map UInt8.toBitVec = l'.map UInt8.toBitVec ↔ l = l' := by
    intro l l'
    refine ⟨fun h => ?_, fun h => by rw [h]⟩
    induction l generalizing l' with
    | nil => cases l' <;> simp at h ⊢
    | cons c l ih => cases l' with
      | nil => simp at h
      | cons d l' =>
        simp only [List.map_cons, List.cons.injEq] at h
        rw [UInt8.toBitVec_inj.1 h.1, ih h.2]
  have e : ∀ (c : ByteArray), c.toList = c.data.toList := fun c => ByteArray.toList_eq c
  rw [e, e, ← ha, ← hb, Bool.eq_iff_iff, beq_iff_eq, decide_eq_true_eq, inj]

theorem equal_run {t : TypeId} {x y : Value} {w : World} {r : Result Bool} (h : ∀ d, (Op.equalIn (d + 1) t x y).run P w = r) : (Op.equal t x y).run P w = r := h 9999
theorem eql_run {t : TypeId} {x y : Value} {c : Bool} (h : ∀ w, (Op.equal t x y).run P w = .ok c w) (w : World) : (do pure (Value.bool (← Op.equal t x y)) : Sem Value).run P w = .ok (.bool c) w := by
  simp only [Sem.run_bind, h w, Result.andThen_ok, Sem.run_pure]
theorem neq_run {t : TypeId} {x y : Value} {c : Bool} (h : ∀ w, (Op.equal t x y).run P w = .ok c w) (w : World) : (do pure (Value.bool (!(← Op.equal t x y))) : Sem Value).run P w = .ok (.bool (!c)) w := by
  simp only [Sem.run_bind, h w, Result.andThen_ok, Sem.run_pure]
theorem bin_ok {op : BinOp} {t : TypeId} {ty : Ty} (hT : TyOK P t ty) {x y : S} {vx vy : Value} {ox oy : Operand} (hx : DenS ℓ x vx) (hy : DenS ℓ y vy) (h : bin op ty.kind x y K) :
    Comes1 P ℓ K (do eqGuard op t ox oy vx vy; binOp op t vx vy) := by
  have guard : ∀ {vx vy : Value}, (∀ a b, vx = .agg a → vy = .agg b → False) → (vx = .nilIface → vy = .nilIface → False) → ∀ w, (eqGuard op t ox oy vx vy).run P w = .ok () w := by
    intro vx vy h1 h2 w
    unfold eqGuard
    cases op <;> simp <;> (split <;> first | rfl | exact (h2 rfl rfl).elim | exact (h1 _ _ rfl rfl).elim)
  have lift : ∀ {vx vy : Value}, (∀ a b, vx = .agg a → vy = .agg b → False) → (vx = .nilIface → vy = .nilIface → False) → Comes1 P ℓ K (binOp op t vx vy) → Comes1 P ℓ K (do eqGuard op t ox oy vx vy; binOp op t vx vy) := by
    intro vx vy h1 h2 ⟨s, v, hr, hd, hk⟩
    exact ⟨s, v, fun w => by simp [guard h1 h2 w, hr w], hd, hk⟩
  have gen : ∀ (h : binS op ty.kind x y K), Comes1 P ℓ K (do eqGuard op t ox oy vx vy; binOp op t vx vy) := by
    intro h
    unfold binS at h
    split at h
    · simp only [DenS] at hx hy; subst hx hy; exact lift (by simp) (by simp) (binI_ok h)
    · simp only [DenS] at hx hy; subst hx hy; exact lift (by simp) (by simp) (binB_ok (k := .u8) rfl (fun _ _ => Iff.rfl) h)
    · simp only [DenS] at hx hy; subst hx hy; exact lift (by simp) (by simp) (binB_ok (k := .u16) rfl (fun _ _ => Iff.rfl) h)
    · simp only [DenS] at hx hy; subst hx hy; exact lift (by simp) (by simp) (binB_ok (k := .u32) rfl (fun _ _ => Iff.rfl) h)
    · simp only [DenS] at hx hy; subst hx hy; exact lift (by simp) (by simp) (binB_ok (k := .u64) rfl (fun _ _ => Iff.rfl) h)
    · rename_i a b
      simp only [DenS] at hx hy; subst hx hy
      refine lift (by simp) (by simp) ?_
      split at h
      · rename_i hk
        have hu : P.underlying t = some .bool := by have := hT.kind; rw [hk] at this; exact this
        exact ⟨_, _, eql_run (fun w => equal_run (fun d => by rw [Op.equalIn]; simp only [Sem.run_bind, run_underlying hu, Result.andThen_ok]; rfl)), by simp [DenS], h⟩
      · rename_i hk
        have hu : P.underlying t = some .bool := by have := hT.kind; rw [hk] at this; exact this
        exact ⟨_, _, neq_run (fun w => equal_run (fun d => by rw [Op.equalIn]; simp only [Sem.run_bind, run_underlying hu, Result.andThen_ok]; rfl)), by simp [DenS, bne], h⟩
      · exact h.elim
    · obtain ⟨sa, rfl, ha⟩ := hx
      obtain ⟨sb, rfl, hb⟩ := hy
      refine lift (by simp) (by simp) ?_
      split at h
      · exact ⟨_, _, fun w => by simp only [binOp, Op.stringOp]; rfl, by simp [DenS, bytes_beq ha hb], h⟩
      · exact ⟨_, _, fun w => by simp only [binOp, Op.stringOp]; rfl, by simp [DenS, bytes_beq ha hb], h⟩
      · exact h.elim
    · simp only [DenS] at hx hy; subst hx hy
      refine lift (by simp) (by simp) ?_
      split at h
      · obtain ⟨e, hk⟩ : ∃ e, ty.kind = .ptr e := ⟨_, by assumption⟩
        have hu := hT.kind; rw [hk] at hu; simp only [KindOK] at hu
        exact ⟨_, _, eql_run (fun w => equal_run (fun d => by rw [Op.equalIn]; simp only [Sem.run_bind, run_underlying hu, Result.andThen_ok]; rfl)), by simp [DenS], h⟩
      · obtain ⟨e, hk⟩ : ∃ e, ty.kind = .ptr e := ⟨_, by assumption⟩
        have hu := hT.kind; rw [hk] at hu; simp only [KindOK] at hu
        exact ⟨_, _, neq_run (fun w => equal_run (fun d => by rw [Op.equalIn]; simp only [Sem.run_bind, run_underlying hu, Result.andThen_ok]; rfl)), by simp [DenS], h⟩
      · exact h.elim
    · obtain ⟨L, _, rfl⟩ := hy
      simp only [DenS] at hx; subst hx
      refine lift (by simp) (by simp) ?_
      split at h
      · obtain ⟨e, hk⟩ : ∃ e, ty.kind = .ptr e := ⟨_, by assumption⟩
        have hu := hT.kind; rw [hk] at hu; simp only [KindOK] at hu
        exact ⟨_, _, eql_run (fun w => equal_run (fun d => by rw [Op.equalIn]; simp only [Sem.run_bind, run_underlying hu, Result.andThen_ok]; rfl)), by simp [DenS], h⟩
      · obtain ⟨e, hk⟩ : ∃ e, ty.kind = .ptr e := ⟨_, by assumption⟩
        have hu := hT.kind; rw [hk] at hu; simp only [KindOK] at hu
        exact ⟨_, _, neq_run (fun w => equal_run (fun d => by rw [Op.equalIn]; simp only [Sem.run_bind, run_underlying hu, Result.andThen_ok]; rfl)), by simp [DenS], h⟩
      · exact h.elim
    · obtain ⟨L, _, rfl⟩ := hx
      simp only [DenS] at hy; subst hy
      refine lift (by simp) (by simp) ?_
      split at h
      · obtain ⟨e, hk⟩ : ∃ e, ty.kind = .ptr e := ⟨_, by assumption⟩
        have hu := hT.kind; rw [hk] at hu; simp only [KindOK] at hu
        exact ⟨_, _, eql_run (fun w => equal_run (fun d => by rw [Op.equalIn]; simp only [Sem.run_bind, run_underlying hu, Result.andThen_ok]; rfl)), by simp [DenS], h⟩
      · obtain ⟨e, hk⟩ : ∃ e, ty.kind = .ptr e := ⟨_, by assumption⟩
        have hu := hT.kind; rw [hk] at hu; simp only [KindOK] at hu
        exact ⟨_, _, neq_run (fun w => equal_run (fun d => by rw [Op.equalIn]; simp only [Sem.run_bind, run_underlying hu, Result.andThen_ok]; rfl)), by simp [DenS], h⟩
      · exact h.elim
    · exact h.elim
  have sh : ∀ (left : Bool), op = (if left then .shl else .shr) → ∀ s, y.num = some s → shS left x s K → Comes1 P ℓ K (do eqGuard op t ox oy vx vy; binOp op t vx vy) := by
    intro left hop s hs hq
    obtain ⟨yk, rfl⟩ := num_den hy hs
    unfold shS at hq
    split at hq
    · rename_i a
      simp only [DenS] at hx; subst hx
      refine lift (by simp) (by simp) ?_
      have hn : ¬ s < 0 := by omega
      have hm : min s.toNat IntKind.i64.bits = s.toNat := by simp only [IntKind.bits]; omega
      subst hop
      cases left
      · simp only [Bool.false_eq_true, if_false] at hq ⊢
        exact ⟨_, _, fun w => by simp only [binOp, Op.shift, if_neg hn, hm]; rfl, by simp only [DenS]; rw [fdiv_pow], hq.2⟩
      · simp only [if_true] at hq ⊢
        exact ⟨_, _, fun w => by simp only [binOp, Op.shift, if_neg hn, hm]; rfl, by simp only [DenS]; rw [wrap_in hq.2.1], hq.2.2⟩
    · simp only [DenS] at hx; subst hx; subst hop; exact lift (by simp) (by simp) (shB_ok (k := .u8) rfl (fun _ _ => Iff.rfl) hq)
    · simp only [DenS] at hx; subst hx; subst hop; exact lift (by simp) (by simp) (shB_ok (k := .u16) rfl (fun _ _ => Iff.rfl) hq)
    · simp only [DenS] at hx; subst hx; subst hop; exact lift (by simp) (by simp) (shB_ok (k := .u32) rfl (fun _ _ => Iff.rfl) hq)
    · simp only [DenS] at hx; subst hx; subst hop; exact lift (by simp) (by simp) (shB_ok (k := .u64) rfl (fun _ _ => Iff.rfl) hq)
    · exact hq.elim
  unfold bin at h
  split at h
  · split at h
    · rename_i s hs; exact sh true rfl s hs h
    · exact h.elim
  · split at h
    · rename_i s hs; exact sh false rfl s hs h
    · exact h.elim
  · exact gen h
end
end Go.V
