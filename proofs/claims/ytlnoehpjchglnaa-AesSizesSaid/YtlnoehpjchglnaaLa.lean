/- Plain law: the program's blocks and key schedule are the document's; blocks are kept apart. No condition. -/
import Derived.Test.YtlnoehpjchglnaaWe
import Derived.KernelRfl
set_option linter.unusedSimpArgs false
set_option linter.unusedVariables false
set_option maxRecDepth 20000
namespace Go.V
/-- A byte as an int; bytes as ints. -/
def ub (x : BitVec 8) : Int := (x.toNat : Int)
def toI (b : B8) : LI := b.map ub
theorem ub_nat (x : BitVec 8) : (ub x).toNat = x.toNat := by simp [ub]
theorem ub_byt (x : BitVec 8) : 0 ≤ ub x ∧ ub x < 256 := by have := x.isLt; simp only [ub]; omega
theorem toI_getD (b : B8) (i : Nat) : (toI b).getD i 0 = ub (b.getD i 0) := by
  simp only [toI, List.getD_eq_getElem?_getD, List.getElem?_map]
  cases b[i]? <;> rfl
theorem toI_len (b : B8) : (toI b).length = b.length := by simp [toI]
theorem toI_byt (b : B8) : Byt (toI b) := fun i => by rw [toI_getD]; exact ub_byt _
theorem xorI_ub (x y : BitVec 8) : xorI (ub x) (ub y) = ub (x ^^^ y) := by simp [xorI, ub, BitVec.toNat_xor]
theorem ofI_ub (x : BitVec 8) : BitVec.ofInt 8 (ub x) = x := by simp [ub]
theorem all_bytes {P : BitVec 8 → Prop} (h : ∀ i : Fin 256, P (BitVec.ofNat 8 i.1)) (x : BitVec 8) : P x := by
  have := h ⟨x.toNat, x.isLt⟩
  simpa using this
theorem times1 : ∀ x : BitVec 8, timesR 1 (ub x) 8 = ub x := all_bytes (by decide +kernel)
theorem times2 : ∀ x : BitVec 8, timesR 2 (ub x) 8 = ub (twice8 x) := all_bytes (by decide +kernel)
theorem times3 : ∀ x : BitVec 8, timesR 3 (ub x) 8 = ub (x ^^^ twice8 x) := all_bytes (by decide +kernel)
theorem shr7 : ∀ x : BitVec 8, (x >>> 7) * 27#8 = if x.getLsbD 7 then 27#8 else 0#8 := all_bytes (by decide +kernel)
theorem twice8_xor (x y : BitVec 8) : twice8 (x ^^^ y) = twice8 x ^^^ twice8 y := by
  simp only [twice8, shr7, BitVec.getLsbD_xor, BitVec.shiftLeft_xor_distrib]
  generalize x <<< 1 = a
  generalize y <<< 1 = b
  cases x.getLsbD 7 <;> cases y.getLsbD 7 <;> simp <;> (apply BitVec.eq_of_getLsbD_eq; intro i hi; simp only [BitVec.getLsbD_xor]; cases a.getLsbD i <;> cases b.getLsbD i <;> cases (27#8).getLsbD i <;> rfl)
theorem xor_bits {x y : BitVec 8} (h : ∀ i, x.getLsbD i = y.getLsbD i) : x = y := BitVec.eq_of_getLsbD_eq (fun i _ => h i)

/-! one round -/
theorem list16 {α : Type} {b : List α} (h : b.length = 16) : ∃ b0 b1 b2 b3 b4 b5 b6 b7 b8 b9 b10 b11 b12 b13 b14 b15, b = [b0, b1, b2, b3, b4, b5, b6, b7, b8, b9, b10, b11, b12, b13, b14, b15] := by
  match b, h with
  | [b0, b1, b2, b3, b4, b5, b6, b7, b8, b9, b10, b11, b12, b13, b14, b15], _ => exact ⟨_, _, _, _, _, _, _, _, _, _, _, _, _, _, _, _, rfl⟩
theorem list4 {α : Type} {b : List α} (h : b.length = 4) : ∃ b0 b1 b2 b3, b = [b0, b1, b2, b3] := by
  match b, h with
  | [b0, b1, b2, b3], _ => exact ⟨_, _, _, _, rfl⟩
/-- Lists of one length are alike where their entries are. -/
theorem ext_getD {α : Type} {d : α} {a b : List α} {n : Nat} (ha : a.length = n) (hb : b.length = n) (h : ∀ i, i < n → a.getD i d = b.getD i d) : a = b := by
  apply List.ext_getElem (by omega)
  intro i h1 h2
  have := h i (by omega)
  simpa [List.getD_eq_getElem?_getD, List.getElem?_eq_getElem h1, List.getElem?_eq_getElem h2] using this
/-- The substitution and the shift of rows. -/
def shI (i : Nat) : Nat := (i + 4 * (i % 4)) % 16
theorem subS_get (b : B8) : ∀ i, i < 16 → (subS b 16).getD i 0 = boxOf (b.getD (shI i) 0)
  | 0, _ => by kernel_rfl | 1, _ => by kernel_rfl | 2, _ => by kernel_rfl | 3, _ => by kernel_rfl | 4, _ => by kernel_rfl | 5, _ => by kernel_rfl | 6, _ => by kernel_rfl | 7, _ => by kernel_rfl
  | 8, _ => by kernel_rfl | 9, _ => by kernel_rfl | 10, _ => by kernel_rfl | 11, _ => by kernel_rfl | 12, _ => by kernel_rfl | 13, _ => by kernel_rfl | 14, _ => by kernel_rfl | 15, _ => by kernel_rfl
  | n + 16, h => absurd h (by omega)
theorem outT_get (sb s : LI) : ∀ i, i < 16 → (outT sb s 4).getD i 0 = sb.getD (s.getD (shI i) 0).toNat 0
  | 0, _ => by kernel_rfl | 1, _ => by kernel_rfl | 2, _ => by kernel_rfl | 3, _ => by kernel_rfl | 4, _ => by kernel_rfl | 5, _ => by kernel_rfl | 6, _ => by kernel_rfl | 7, _ => by kernel_rfl
  | 8, _ => by kernel_rfl | 9, _ => by kernel_rfl | 10, _ => by kernel_rfl | 11, _ => by kernel_rfl | 12, _ => by kernel_rfl | 13, _ => by kernel_rfl | 14, _ => by kernel_rfl | 15, _ => by kernel_rfl
  | n + 16, h => absurd h (by omega)
def SbOK (sb : LI) : Prop := ∀ x : BitVec 8, sb.getD x.toNat 0 = ub (boxOf x)
theorem outT_eq {sb : LI} (hs : SbOK sb) (b : B8) : outT sb (toI b) 4 = toI (subS b 16) := by
  apply ext_getD (d := 0) (outT_len _ _ _) (by rw [toI_len, subS_len])
  intro i hi
  rw [outT_get _ _ i hi, toI_getD, toI_getD, ub_nat, hs, subS_get b i hi]
/-- The mixing of a column: entry i. -/
def mxc (s : B8) (i : Nat) : BitVec 8 := s.getD i 0 ^^^ allOf ((s.drop (4 * (i / 4))).take 4) ^^^ twice8 (s.getD i 0 ^^^ s.getD (4 * (i / 4) + (i % 4 + 1) % 4) 0)
theorem mixS_get {s : B8} (h : s.length = 16) : ∀ i, i < 16 → (mixS s 4).getD i 0 = mxc s i := by
  obtain ⟨b0, b1, b2, b3, b4, b5, b6, b7, b8, b9, b10, b11, b12, b13, b14, b15, rfl⟩ := list16 h
  intro i hi
  match i, hi with
  | 0, _ => (show _ = _; kernel_rfl) | 1, _ => (show _ = _; kernel_rfl) | 2, _ => (show _ = _; kernel_rfl) | 3, _ => (show _ = _; kernel_rfl) | 4, _ => (show _ = _; kernel_rfl) | 5, _ => (show _ = _; kernel_rfl) | 6, _ => (show _ = _; kernel_rfl) | 7, _ => (show _ = _; kernel_rfl)
  | 8, _ => (show _ = _; kernel_rfl) | 9, _ => (show _ = _; kernel_rfl) | 10, _ => (show _ = _; kernel_rfl) | 11, _ => (show _ = _; kernel_rfl) | 12, _ => (show _ = _; kernel_rfl) | 13, _ => (show _ = _; kernel_rfl) | 14, _ => (show _ = _; kernel_rfl) | 15, _ => (show _ = _; kernel_rfl)
  | n + 16, h => exact absurd h (by omega)
theorem xorAt_get {b : B8} (s W : B8) (o : Nat) (h : b.length = 16) : ∀ i, i < 16 → (xorAt b s W o 16).getD i 0 = s.getD i 0 ^^^ W.getD (o + i) 0 := by
  obtain ⟨b0, b1, b2, b3, b4, b5, b6, b7, b8, b9, b10, b11, b12, b13, b14, b15, rfl⟩ := list16 h
  intro i hi
  match i, hi with
  | 0, _ => (show _ = _; kernel_rfl) | 1, _ => (show _ = _; kernel_rfl) | 2, _ => (show _ = _; kernel_rfl) | 3, _ => (show _ = _; kernel_rfl) | 4, _ => (show _ = _; kernel_rfl) | 5, _ => (show _ = _; kernel_rfl) | 6, _ => (show _ = _; kernel_rfl) | 7, _ => (show _ = _; kernel_rfl)
  | 8, _ => (show _ = _; kernel_rfl) | 9, _ => (show _ = _; kernel_rfl) | 10, _ => (show _ = _; kernel_rfl) | 11, _ => (show _ = _; kernel_rfl) | 12, _ => (show _ = _; kernel_rfl) | 13, _ => (show _ = _; kernel_rfl) | 14, _ => (show _ = _; kernel_rfl) | 15, _ => (show _ = _; kernel_rfl)
  | n + 16, h => exact absurd h (by omega)
theorem xorIn_get {b : B8} (W : B8) (h : b.length = 16) : ∀ i, i < 16 → (xorIn b W 16).getD i 0 = b.getD i 0 ^^^ W.getD i 0 := by
  obtain ⟨b0, b1, b2, b3, b4, b5, b6, b7, b8, b9, b10, b11, b12, b13, b14, b15, rfl⟩ := list16 h
  intro i hi
  match i, hi with
  | 0, _ => (show _ = _; kernel_rfl) | 1, _ => (show _ = _; kernel_rfl) | 2, _ => (show _ = _; kernel_rfl) | 3, _ => (show _ = _; kernel_rfl) | 4, _ => (show _ = _; kernel_rfl) | 5, _ => (show _ = _; kernel_rfl) | 6, _ => (show _ = _; kernel_rfl) | 7, _ => (show _ = _; kernel_rfl)
  | 8, _ => (show _ = _; kernel_rfl) | 9, _ => (show _ = _; kernel_rfl) | 10, _ => (show _ = _; kernel_rfl) | 11, _ => (show _ = _; kernel_rfl) | 12, _ => (show _ = _; kernel_rfl) | 13, _ => (show _ = _; kernel_rfl) | 14, _ => (show _ = _; kernel_rfl) | 15, _ => (show _ = _; kernel_rfl)
  | n + 16, h => exact absurd h (by omega)
theorem iniS_get (b : B8) (W : LI) : ∀ i, i < 16 → (iniS b W 16).getD i 0 = (((b.getD i 0).toNat ^^^ (W.getD i 0).toNat : Nat) : Int)
  | 0, _ => by kernel_rfl | 1, _ => by kernel_rfl | 2, _ => by kernel_rfl | 3, _ => by kernel_rfl | 4, _ => by kernel_rfl | 5, _ => by kernel_rfl | 6, _ => by kernel_rfl | 7, _ => by kernel_rfl
  | 8, _ => by kernel_rfl | 9, _ => by kernel_rfl | 10, _ => by kernel_rfl | 11, _ => by kernel_rfl | 12, _ => by kernel_rfl | 13, _ => by kernel_rfl | 14, _ => by kernel_rfl | 15, _ => by kernel_rfl
  | n + 16, h => absurd h (by omega)
theorem outM_get (mx : Bool) (t W : LI) (r : Nat) {s : LI} (h : s.length = 16) : ∀ i, i < 16 → (outM mx t W r s 4).getD i 0 = xorI (cellX mx t (i / 4) (i % 4)) (W.getD ((4 * r + i / 4) * 4 + i % 4) 0) := by
  obtain ⟨b0, b1, b2, b3, b4, b5, b6, b7, b8, b9, b10, b11, b12, b13, b14, b15, rfl⟩ := list16 h
  intro i hi
  match i, hi with
  | 0, _ => (show _ = _; kernel_rfl) | 1, _ => (show _ = _; kernel_rfl) | 2, _ => (show _ = _; kernel_rfl) | 3, _ => (show _ = _; kernel_rfl) | 4, _ => (show _ = _; kernel_rfl) | 5, _ => (show _ = _; kernel_rfl) | 6, _ => (show _ = _; kernel_rfl) | 7, _ => (show _ = _; kernel_rfl)
  | 8, _ => (show _ = _; kernel_rfl) | 9, _ => (show _ = _; kernel_rfl) | 10, _ => (show _ = _; kernel_rfl) | 11, _ => (show _ = _; kernel_rfl) | 12, _ => (show _ = _; kernel_rfl) | 13, _ => (show _ = _; kernel_rfl) | 14, _ => (show _ = _; kernel_rfl) | 15, _ => (show _ = _; kernel_rfl)
  | n + 16, h => exact absurd h (by omega)
theorem outB_get (s : LI) : ∀ i, i < 16 → (outB s 16).getD i 0 = BitVec.ofInt 8 (s.getD i 0)
  | 0, _ => by kernel_rfl | 1, _ => by kernel_rfl | 2, _ => by kernel_rfl | 3, _ => by kernel_rfl | 4, _ => by kernel_rfl | 5, _ => by kernel_rfl | 6, _ => by kernel_rfl | 7, _ => by kernel_rfl
  | 8, _ => by kernel_rfl | 9, _ => by kernel_rfl | 10, _ => by kernel_rfl | 11, _ => by kernel_rfl | 12, _ => by kernel_rfl | 13, _ => by kernel_rfl | 14, _ => by kernel_rfl | 15, _ => by kernel_rfl
  | n + 16, h => absurd h (by omega)
theorem mix0 (a b c d : BitVec 8) : xorI (xorI (xorI (timesR 2 (ub a) 8) (timesR 3 (ub b) 8)) (timesR 1 (ub c) 8)) (timesR 1 (ub d) 8) = ub (a ^^^ (a ^^^ b ^^^ c ^^^ d) ^^^ twice8 (a ^^^ b)) := by
  rw [times2, times3, times1, times1, xorI_ub, xorI_ub, xorI_ub, twice8_xor]
  congr 1
  apply xor_bits
  intro i
  simp only [BitVec.getLsbD_xor]
  generalize (twice8 a).getLsbD i = ta
  generalize (twice8 b).getLsbD i = tb
  cases a.getLsbD i <;> cases b.getLsbD i <;> cases c.getLsbD i <;> cases d.getLsbD i <;> cases ta <;> cases tb <;> rfl
theorem mix1 (a b c d : BitVec 8) : xorI (xorI (xorI (timesR 1 (ub a) 8) (timesR 2 (ub b) 8)) (timesR 3 (ub c) 8)) (timesR 1 (ub d) 8) = ub (b ^^^ (a ^^^ b ^^^ c ^^^ d) ^^^ twice8 (b ^^^ c)) := by
  rw [times2, times3, times1, times1, xorI_ub, xorI_ub, xorI_ub, twice8_xor]
  congr 1
  apply xor_bits
  intro i
  simp only [BitVec.getLsbD_xor]
  generalize (twice8 b).getLsbD i = tb
  generalize (twice8 c).getLsbD i = tc
  cases a.getLsbD i <;> cases b.getLsbD i <;> cases c.getLsbD i <;> cases d.getLsbD i <;> cases tb <;> cases tc <;> rfl
theorem mix2 (a b c d : BitVec 8) : xorI (xorI (xorI (timesR 1 (ub a) 8) (timesR 1 (ub b) 8)) (timesR 2 (ub c) 8)) (timesR 3 (ub d) 8) = ub (c ^^^ (a ^^^ b ^^^ c ^^^ d) ^^^ twice8 (c ^^^ d)) := by
  rw [times2, times3, times1, times1, xorI_ub, xorI_ub, xorI_ub, twice8_xor]
  congr 1
  apply xor_bits
  intro i
  simp only [BitVec.getLsbD_xor]
  generalize (twice8 d).getLsbD i = td
  generalize (twice8 c).getLsbD i = tc
  cases a.getLsbD i <;> cases b.getLsbD i <;> cases c.getLsbD i <;> cases d.getLsbD i <;> cases td <;> cases tc <;> rfl
theorem mix3 (a b c d : BitVec 8) : xorI (xorI (xorI (timesR 3 (ub a) 8) (timesR 1 (ub b) 8)) (timesR 1 (ub c) 8)) (timesR 2 (ub d) 8) = ub (d ^^^ (a ^^^ b ^^^ c ^^^ d) ^^^ twice8 (d ^^^ a)) := by
  rw [times2, times3, times1, times1, xorI_ub, xorI_ub, xorI_ub, twice8_xor]
  congr 1
  apply xor_bits
  intro i
  simp only [BitVec.getLsbD_xor]
  generalize (twice8 d).getLsbD i = td
  generalize (twice8 a).getLsbD i = ta
  cases a.getLsbD i <;> cases b.getLsbD i <;> cases c.getLsbD i <;> cases d.getLsbD i <;> cases td <;> cases ta <;> rfl
theorem cell_eq {s : B8} (h : s.length = 16) : ∀ i, i < 16 → cellX true (toI s) (i / 4) (i % 4) = ub (mxc s i) := by
  obtain ⟨b0, b1, b2, b3, b4, b5, b6, b7, b8, b9, b10, b11, b12, b13, b14, b15, rfl⟩ := list16 h
  intro i hi
  match i, hi with
  | 0, _ => exact mix0 b0 b1 b2 b3
  | 1, _ => exact mix1 b0 b1 b2 b3
  | 2, _ => exact mix2 b0 b1 b2 b3
  | 3, _ => exact mix3 b0 b1 b2 b3
  | 4, _ => exact mix0 b4 b5 b6 b7
  | 5, _ => exact mix1 b4 b5 b6 b7
  | 6, _ => exact mix2 b4 b5 b6 b7
  | 7, _ => exact mix3 b4 b5 b6 b7
  | 8, _ => exact mix0 b8 b9 b10 b11
  | 9, _ => exact mix1 b8 b9 b10 b11
  | 10, _ => exact mix2 b8 b9 b10 b11
  | 11, _ => exact mix3 b8 b9 b10 b11
  | 12, _ => exact mix0 b12 b13 b14 b15
  | 13, _ => exact mix1 b12 b13 b14 b15
  | 14, _ => exact mix2 b12 b13 b14 b15
  | 15, _ => exact mix3 b12 b13 b14 b15
  | n + 16, h => exact absurd h (by omega)
theorem round_eq {sb : LI} (hs : SbOK sb) {b : B8} (hb : b.length = 16) (W : B8) (n q : Nat) : outM (decide (q + 1 < n + 6)) (outT sb (toI b) 4) (toI W) (q + 1) (toI b) 4 = toI (oneRound b W (n + 7) (q + 1)) := by
  apply ext_getD (d := 0) (n := 16) (by rw [outM_len, toI_len, hb]) (by rw [toI_len, oneRound, xorAt_len, hb])
  intro i hi
  rw [outM_get _ _ _ _ (by rw [toI_len, hb]) i hi, toI_getD, toI_getD, outT_eq hs, oneRound, xorAt_get _ _ _ hb i hi, ← xorI_ub, show (4 * (q + 1) + i / 4) * 4 + i % 4 = 16 * (q + 1) + i by omega]
  congr 1
  by_cases h : q + 1 < n + 6
  · rw [decide_eq_true h, if_pos (by omega), mixS_get (subS_len b 16) i hi, cell_eq (subS_len b 16) i hi]
  · rw [decide_eq_false h, if_neg (by omega)]
    simp only [cellX, Bool.false_eq_true, if_false]
    rw [toI_getD, show i / 4 * 4 + i % 4 = i by omega]
theorem rounds_eq {sb : LI} (hs : SbOK sb) {b : B8} (hb : b.length = 16) (W : B8) (n : Nat) : ∀ q, rRounds sb (toI W) n (iniS b (toI W) 16) q = toI (rounds b W (n + 7) q)
  | 0 => by
    show iniS b (toI W) 16 = toI (xorIn b W 16)
    apply ext_getD (d := 0) (n := 16) (iniS_len _ _ _) (by rw [toI_len, xorIn_len, hb])
    intro i hi
    rw [iniS_get _ _ i hi, toI_getD, toI_getD, ub_nat, xorIn_get _ hb i hi]
    simp [ub, BitVec.toNat_xor]
  | q + 1 => by
    show outM _ (outT sb (rRounds sb (toI W) n (iniS b (toI W) 16) q) 4) _ _ (rRounds sb (toI W) n (iniS b (toI W) 16) q) 4 = toI (oneRound _ _ _ _)
    rw [rounds_eq hs hb W n q]
    exact round_eq hs (by rw [rounds_len, hb]) W n q
/-- The program's block is the document's. -/
theorem block_eq {sb : LI} (hs : SbOK sb) {b : B8} (hb : b.length = 16) (W : B8) (n : Nat) : outB (rRounds sb (toI W) n (iniS b (toI W) 16) (n + 6)) 16 = rounds b W (n + 7) (n + 7 - 1) := by
  rw [rounds_eq hs hb W n (n + 6)]
  apply ext_getD (d := 0) (n := 16) (outB_len _ _) (by rw [rounds_len, hb])
  intro i hi
  rw [outB_get _ i hi, toI_getD, ofI_ub]
  rfl

/-! blocks are kept apart -/
theorem box_inj : ∀ x y : BitVec 8, boxOf x = boxOf y → x = y := by
  have h : ∀ x : BitVec 8, BitVec.ofNat 8 ((boxL.idxOf (boxOf x))) = x := all_bytes (by decide +kernel)
  intro x y hxy
  rw [← h x, ← h y, hxy]
def mx4 (a b c d : BitVec 8) : BitVec 8 := a ^^^ (a ^^^ b ^^^ c ^^^ d) ^^^ twice8 (a ^^^ b)
theorem mx4_twice (a b c d : BitVec 8) : mx4 (mx4 a b c d) (mx4 b c d a) (mx4 c d a b) (mx4 d a b c) = a ^^^ twice8 (twice8 (a ^^^ c)) := by
  simp only [mx4, twice8_xor]
  apply xor_bits
  intro i
  simp only [BitVec.getLsbD_xor]
  generalize (twice8 a).getLsbD i = ta
  generalize (twice8 b).getLsbD i = tb
  generalize (twice8 c).getLsbD i = tc
  generalize (twice8 d).getLsbD i = td
  generalize (twice8 (twice8 a)).getLsbD i = tta
  generalize (twice8 (twice8 b)).getLsbD i = ttb
  generalize (twice8 (twice8 c)).getLsbD i = ttc
  generalize a.getLsbD i = a
  generalize b.getLsbD i = b
  generalize c.getLsbD i = c
  generalize d.getLsbD i = d
  revert a b c d ta tb tc td tta ttb ttc
  decide +kernel
theorem mx4_back (a b c d : BitVec 8) : a = (a ^^^ twice8 (twice8 (a ^^^ c))) ^^^ twice8 (twice8 ((a ^^^ twice8 (twice8 (a ^^^ c))) ^^^ (c ^^^ twice8 (twice8 (c ^^^ a))))) := by
  simp only [twice8_xor]
  apply xor_bits
  intro i
  simp only [BitVec.getLsbD_xor]
  generalize (twice8 (twice8 a)).getLsbD i = t1
  generalize (twice8 (twice8 c)).getLsbD i = t2
  generalize (twice8 (twice8 (twice8 (twice8 a)))).getLsbD i = t3
  generalize (twice8 (twice8 (twice8 (twice8 c)))).getLsbD i = t4
  cases a.getLsbD i <;> cases c.getLsbD i <;> cases t1 <;> cases t2 <;> cases t3 <;> cases t4 <;> rfl
theorem mx4_inj {a b c d a' b' c' d' : BitVec 8} (h1 : mx4 a b c d = mx4 a' b' c' d') (h2 : mx4 b c d a = mx4 b' c' d' a') (h3 : mx4 c d a b = mx4 c' d' a' b') (h4 : mx4 d a b c = mx4 d' a' b' c') : a = a' ∧ b = b' ∧ c = c' ∧ d = d' := by
  have e1 := mx4_twice a b c d
  have e2 := mx4_twice b c d a
  have e3 := mx4_twice c d a b
  have e4 := mx4_twice d a b c
  rw [h1, h2, h3, h4, mx4_twice] at e1
  rw [h1, h2, h3, h4, mx4_twice] at e2
  rw [h1, h2, h3, h4, mx4_twice] at e3
  rw [h1, h2, h3, h4, mx4_twice] at e4
  refine ⟨?_, ?_, ?_, ?_⟩
  · rw [mx4_back a b c d, mx4_back a' b' c' d', e1, e3]
  · rw [mx4_back b c d a, mx4_back b' c' d' a', e2, e4]
  · rw [mx4_back c d a b, mx4_back c' d' a' b', e3, e1]
  · rw [mx4_back d a b c, mx4_back d' a' b' c', e4, e2]
theorem mix_rot (a b c d : BitVec 8) : a ^^^ (d ^^^ a ^^^ b ^^^ c) ^^^ twice8 (a ^^^ b) = mx4 a b c d ∧ a ^^^ (c ^^^ d ^^^ a ^^^ b) ^^^ twice8 (a ^^^ b) = mx4 a b c d ∧ a ^^^ (b ^^^ c ^^^ d ^^^ a) ^^^ twice8 (a ^^^ b) = mx4 a b c d := by
  refine ⟨?_, ?_, ?_⟩ <;>
  · unfold mx4
    generalize twice8 (a ^^^ b) = t
    apply xor_bits
    intro i
    simp only [BitVec.getLsbD_xor]
    cases a.getLsbD i <;> cases b.getLsbD i <;> cases c.getLsbD i <;> cases d.getLsbD i <;> cases t.getLsbD i <;> rfl
theorem mixS_inj {s t : B8} (hs : s.length = 16) (ht : t.length = 16) (h : mixS s 4 = mixS t 4) : s = t := by
  have H : ∀ i, i < 16 → mxc s i = mxc t i := fun i hi => by rw [← mixS_get hs i hi, ← mixS_get ht i hi, h]
  obtain ⟨a0, a1, a2, a3, a4, a5, a6, a7, a8, a9, a10, a11, a12, a13, a14, a15, rfl⟩ := list16 hs
  obtain ⟨b0, b1, b2, b3, b4, b5, b6, b7, b8, b9, b10, b11, b12, b13, b14, b15, rfl⟩ := list16 ht
  have col : ∀ {a b c d a' b' c' d' : BitVec 8}, a ^^^ (a ^^^ b ^^^ c ^^^ d) ^^^ twice8 (a ^^^ b) = a' ^^^ (a' ^^^ b' ^^^ c' ^^^ d') ^^^ twice8 (a' ^^^ b') →
      b ^^^ (a ^^^ b ^^^ c ^^^ d) ^^^ twice8 (b ^^^ c) = b' ^^^ (a' ^^^ b' ^^^ c' ^^^ d') ^^^ twice8 (b' ^^^ c') →
      c ^^^ (a ^^^ b ^^^ c ^^^ d) ^^^ twice8 (c ^^^ d) = c' ^^^ (a' ^^^ b' ^^^ c' ^^^ d') ^^^ twice8 (c' ^^^ d') →
      d ^^^ (a ^^^ b ^^^ c ^^^ d) ^^^ twice8 (d ^^^ a) = d' ^^^ (a' ^^^ b' ^^^ c' ^^^ d') ^^^ twice8 (d' ^^^ a') → a = a' ∧ b = b' ∧ c = c' ∧ d = d' := by
    intro a b c d a' b' c' d' h1 h2 h3 h4
    rw [(mix_rot b c d a).1, (mix_rot b' c' d' a').1] at h2
    rw [(mix_rot c d a b).2.1, (mix_rot c' d' a' b').2.1] at h3
    rw [(mix_rot d a b c).2.2, (mix_rot d' a' b' c').2.2] at h4
    exact mx4_inj h1 h2 h3 h4
  obtain ⟨rfl, rfl, rfl, rfl⟩ := col (H 0 (by omega)) (H 1 (by omega)) (H 2 (by omega)) (H 3 (by omega))
  obtain ⟨rfl, rfl, rfl, rfl⟩ := col (H 4 (by omega)) (H 5 (by omega)) (H 6 (by omega)) (H 7 (by omega))
  obtain ⟨rfl, rfl, rfl, rfl⟩ := col (H 8 (by omega)) (H 9 (by omega)) (H 10 (by omega)) (H 11 (by omega))
  obtain ⟨rfl, rfl, rfl, rfl⟩ := col (H 12 (by omega)) (H 13 (by omega)) (H 14 (by omega)) (H 15 (by omega))
  rfl
theorem xor_right {a b c : BitVec 8} (h : a ^^^ c = b ^^^ c) : a = b := by
  have : a ^^^ c ^^^ c = b ^^^ c ^^^ c := by rw [h]
  simpa [BitVec.xor_assoc] using this
theorem subS_inj {s t : B8} (hs : s.length = 16) (ht : t.length = 16) (h : subS s 16 = subS t 16) : s = t := by
  apply ext_getD (d := 0) hs ht
  intro i hi
  have inv : ∀ i : Fin 16, ∃ j : Fin 16, shI j.1 = i.1 := by decide
  obtain ⟨j, hj⟩ := inv ⟨i, hi⟩
  have := subS_get s j.1 j.2
  rw [h, subS_get t j.1 j.2, hj] at this
  exact (box_inj _ _ this).symm
theorem oneRound_inj {a b : B8} (W : B8) (nr r : Nat) (ha : a.length = 16) (hb : b.length = 16) (h : oneRound a W nr r = oneRound b W nr r) : a = b := by
  have key : ∀ s t : B8, s.length = 16 → t.length = 16 → xorAt a s W (16 * r) 16 = xorAt b t W (16 * r) 16 → s = t := by
    intro s t hs ht he
    apply ext_getD (d := 0) hs ht
    intro i hi
    have h1 := xorAt_get s W (16 * r) ha i hi
    rw [he, xorAt_get t W (16 * r) hb i hi] at h1
    exact (xor_right h1).symm
  unfold oneRound at h
  apply subS_inj ha hb
  split at h
  · exact mixS_inj (subS_len _ _) (subS_len _ _) (key _ _ (by rw [mixS_len, subS_len]) (by rw [mixS_len, subS_len]) h)
  · exact key _ _ (subS_len _ _) (subS_len _ _) h
theorem rounds_inj {a b : B8} (W : B8) (nr : Nat) (ha : a.length = 16) (hb : b.length = 16) : ∀ q, rounds a W nr q = rounds b W nr q → a = b
  | 0, h => by
    apply ext_getD (d := 0) ha hb
    intro i hi
    have h1 := xorIn_get W ha i hi
    rw [show xorIn a W 16 = xorIn b W 16 from h, xorIn_get W hb i hi] at h1
    exact (xor_right h1).symm
  | q + 1, h => rounds_inj W nr ha hb q (oneRound_inj W nr (q + 1) (by rw [rounds_len, ha]) (by rw [rounds_len, hb]) h)
end Go.V
