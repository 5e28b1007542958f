/- The bridge from contracts to the calls of a law, and the opening of a law's arguments. No condition. -/
import Derived.Test.YtlnoehpjchglnaaVm
import Derived.WalkKit
import Derived.ProofKit
import Derived.OpenShut
import Derived.ShutString
import Derived.ChangeOld
import Derived.Below
set_option linter.unusedSimpArgs false
set_option linter.unusedVariables false
namespace Go.V
open Go Go.RowKit Go.ChangeShapes Go.WideShapes
/-- Memory that is only read is memory as we know it. -/
def ROK (pre : Mem) (ℓ : Nat → Option Loc) (w : World) : Prop := (∀ (id : Nat) (x : Mk), pre[id]? = some x → ∃ e L, x = .ent e ∧ e.own = false ∧ ℓ id = some L ∧ EntOK ℓ w L e) ∧ ∀ i, pre.length ≤ i → ℓ i = none
theorem mh_ro {w : World} {pre : Mem} {ℓ : Nat → Option Loc} (h : ROK pre ℓ w) : ∀ an, Le an ℓ → MH ⟨w, ownBlk pre ℓ, an⟩ ℓ pre w := by
  obtain ⟨hro, hdom⟩ := h
  intro an han
  refine ⟨rfl, rfl, rfl, Nat.le_refl _, fun _ _ _ => rfl, han, ?_, ?_, ?_⟩
  · rintro i (h | h)
    · exact hdom i h
    · obtain ⟨e, L, h1, _⟩ := hro i _ h; cases h1
  · intro id e h
    obtain ⟨e', L, h1, h2, h3, h4⟩ := hro id _ h
    cases h1
    exact ⟨L, h3, h4, fun h => by rw [h2] at h; cases h⟩
  · intro i j ei ej Li Lj hi hj _ _ ho
    obtain ⟨e', L, h1, h2, h3, h4⟩ := hro i _ hi
    cases h1
    rw [h2] at ho
    cases ho
/-- A law that answers true by contract, over memory that it only reads, answers true and writes nothing that was there. -/
theorem calls_of_spec {P : Program} {f : FuncId} {args : List SV} {pre : Mem} (h : Spec P f args pre [] (fun r _ => r = .one (.s (.b true)))) {w : World} {ℓ : Nat → Option Loc} {vs : List Value} (hd : DenVs ℓ args vs) (hro : ROK pre ℓ w) :
    Calls P f vs.toArray w (fun e w' => e = .returned (.bool true) ∧ Below w.heap.size w w') := by
  refine (h w ℓ vs hd (mh_ro hro)).mono ?_
  rintro e w' ⟨sv, m', ℓ', v, rfl, rfl, _, _, hv, hm⟩
  refine ⟨?_, ⟨hm.os, hm.tape, hm.output, hm.size, fun k hk => hm.keep k hk ?_⟩⟩
  · have : v = .bool true := hv
    rw [this]
  · rintro ⟨id, e, L, h1, h2, _⟩
    obtain ⟨e', L', h3, h4, _⟩ := hro.1 id _ h1
    cases h3
    rw [h4] at h2
    cases h2
/-- A slice of integers that came in: nil, or a row of cells. -/
def IsRow (k : IntKind) (w : World) (a : Option Addr) (len cap : Nat) (zs : List Int) : Prop :=
  (a = none ∧ len = 0 ∧ cap = 0 ∧ zs = []) ∨
  ∃ x, a = some x ∧ len ≤ cap ∧ cap ≤ maxLen ∧ zs.length = cap ∧ (∀ i, i < zs.length → w.cell? (x.add i) = some (.int k (zs.getD i 0))) ∧ ∀ n ∈ zs, (Lit.int k n).wf = true
theorem byte_of {n : Int} (h : (Lit.int .u8 n).wf = true) : ∃ x : BitVec 8, n = (x.toNat : Int) := by
  have := bounds_u8 h
  refine ⟨BitVec.ofInt 8 n, ?_⟩
  rw [BitVec.toNat_ofInt]
  omega
theorem bytes_of : ∀ (zs : List Int), (∀ n ∈ zs, (Lit.int .u8 n).wf = true) → ∃ b : List (BitVec 8), zs = b.map (fun x => (x.toNat : Int))
  | [], _ => ⟨[], rfl⟩
  | n :: zs, h => by
    obtain ⟨x, hx⟩ := byte_of (h n (by simp))
    obtain ⟨b, hb⟩ := bytes_of zs (fun m hm => h m (by simp [hm]))
    exact ⟨x :: b, by rw [hx, hb]; rfl⟩
theorem denL_bytes (ℓ : Nat → Option Loc) : ∀ b : List (BitVec 8), DenL ℓ (b.map S.u8) (b.map (fun x => Value.int .u8 x.toNat))
  | [] => trivial
  | _ :: b => ⟨rfl, denL_bytes ℓ b⟩
/-- A slice of bytes that came in, as the contracts have it. -/
theorem row_bytes {w : World} {a : Option Addr} {len cap : Nat} {zs : List Int} (h : IsRow .u8 w a len cap zs) :
    ∃ (key : List (BitVec 8)) (L : Loc), key.length = len ∧ len ≤ cap ∧ cap ≤ maxLen ∧ (∀ ℓ i, ℓ i = some L → DenV ℓ (.one (.s (.sl i 0 len cap 1))) (.slice a len cap)) ∧ (∀ ℓ t, EntOK ℓ w L ⟨false, t, none, .a8 key⟩) := by
  rcases h with ⟨rfl, rfl, rfl, rfl⟩ | ⟨x, rfl, hl, hm, hz, hcell, hwf⟩
  · refine ⟨[], ⟨0, 0, 0⟩, rfl, Nat.le_refl _, Nat.zero_le _, fun ℓ i hi => ⟨_, hi, Nat.le_refl _, .inl ⟨rfl, none, rfl⟩⟩, fun ℓ t => ⟨⟨by simp, trivial⟩, ?_⟩⟩
    rw [if_neg (by simp)]
    exact ⟨[], trivial, by simp⟩
  · obtain ⟨b, hb⟩ := bytes_of zs hwf
    have hbl : b.length = cap := by rw [← hz, hb]; simp
    obtain ⟨blk, off, spot⟩ := x
    by_cases hc : cap = 0
    · subst hc
      obtain rfl : len = 0 := by omega
      refine ⟨[], ⟨0, 0, 0⟩, rfl, Nat.le_refl _, Nat.zero_le _, fun ℓ i hi => ⟨_, hi, Nat.le_refl _, .inl ⟨rfl, _, rfl⟩⟩, fun ℓ t => ⟨⟨by simp, trivial⟩, ?_⟩⟩
      rw [if_neg (by simp)]
      exact ⟨[], trivial, by simp⟩
    · have h0 := hcell 0 (by omega)
      obtain rfl : spot = none := by simpa [Addr.add] using World.cell?_spot h0
      refine ⟨b.take len, ⟨blk, off, cap⟩, by simp; omega, hl, hm, fun ℓ i hi => ⟨_, hi, hl, .inr ⟨by simp, by simp⟩⟩, fun ℓ t => ⟨⟨by simp, trivial⟩, ?_⟩⟩
      rw [if_neg (by simp)]
      refine ⟨(b.take len).map (fun x => Value.int .u8 x.toNat), by simpa [A.cells] using denL_bytes ℓ (b.take len), ?_⟩
      intro i v hv
      have hi : i < len := by
        have := (List.getElem?_eq_some_iff.mp hv).1
        simp at this
        omega
      have := hcell i (by omega)
      have e : (Addr.add ⟨blk, off, none⟩ i) = ⟨blk, off + i, none⟩ := by
        simp only [Addr.add]
        split
        · rename_i h; subst h; rfl
        · rfl
      rw [e] at this
      show w.cell? ⟨blk, off + i, none⟩ = some v
      rw [this]
      rw [List.getElem?_map, List.getElem?_take_of_lt hi, List.getElem?_eq_getElem (by omega)] at hv
      simp only [Option.map_some, Option.some.injEq] at hv
      have hib : i < b.length := by omega
      have hg : zs.getD i 0 = ((b[i].toNat : Nat) : Int) := by
        subst hb
        rw [List.getD_eq_getElem?_getD, List.getElem?_map, List.getElem?_eq_getElem hib]
        rfl
      rw [← hv, hg]
theorem vals_of : ∀ cs : List Value, (∀ v ∈ cs, ∃ x : BitVec 8, v = .int .u8 x.toNat) → ∃ b : List (BitVec 8), cs = b.map (fun x => Value.int .u8 x.toNat)
  | [], _ => ⟨[], rfl⟩
  | v :: cs, h => by
    obtain ⟨x, hx⟩ := h v (by simp)
    obtain ⟨b, hb⟩ := vals_of cs (fun m hm => h m (by simp [hm]))
    exact ⟨x :: b, by rw [hx, hb]; rfl⟩
/-- An array of bytes that came in. -/
theorem open_arr8 {H : Type} {enc : TypeId × Value → H} {P : Program} {w : World} {base base' : Nat} {spare : Nat → Bool} {held : Bool} {r : Reach} {t e : TypeId} {n : Nat} {v : Value} {d : DataW H} {ps : List MemPlace} (ht : P.underlying t = some (.array n e)) (he : P.underlying e = some (.int .u8)) (hce : P.cellsOf e = 1) (hct : P.cellsOf t = n)
    (hval : Value.okWide P w r base' t v) (h : DataW.Trod enc P w base spare held t v d ps) : ∃ b : List (BitVec 8), b.length = n ∧ v = .agg (b.map (fun x => Value.int .u8 x.toNat)).toArray := by
  simp only [Value.okWide, ht] at hval
  obtain ⟨cs, rfl, hsz, _⟩ := hval
  obtain ⟨fuel, hf⟩ := h
  obtain ⟨xs, m, _, _, hl, hxl, hx⟩ := DataW.trod_array ht hf
  simp only [Value.cells] at hl hx
  obtain ⟨b, hb⟩ := vals_of cs.toList (by
    intro v hv
    obtain ⟨i, hi, hvi⟩ := List.getElem_of_mem hv
    have hi' : i < n := by simp at hi; omega
    have := hx i hi'
    rw [hce, List.getElem?_eq_getElem (by omega)] at this
    obtain ⟨k, hk, _, hw⟩ := DataW.trod_int he this
    obtain ⟨x, rfl⟩ := byte_of hw
    refine ⟨x, ?_⟩
    rw [Nat.mul_one, List.drop_eq_getElem_cons hi] at hk
    simp only [List.take_succ_cons, List.take_zero, List.cons.injEq, and_true] at hk
    rw [← hvi]
    exact hk)
  refine ⟨b, ?_, ?_⟩
  · have := congrArg List.length hb
    simp at this
    omega
  · rw [← hb]
theorem den_arr8 (ℓ : Nat → Option Loc) (b : List (BitVec 8)) : DenV ℓ (.one (.a8 b)) (.agg (b.map (fun x => Value.int .u8 x.toNat)).toArray) := ⟨trivial, _, rfl, denL_bytes ℓ b⟩
/-- A slice of bytes that came in, opened. -/
theorem open_row8 {H : Type} {enc : TypeId × Value → H} {P : Program} {w : World} {base : Nat} {held : Bool} {t e : TypeId} {a : Option Addr} {len cap : Nat} {d : DataW H} {ps : List MemPlace} (ht : P.underlying t = some (.slice e)) (he : P.underlying e = some (.int .u8)) (hce : P.cellsOf e = 1)
    (h : DataW.Trod enc P w base (fun _ => true) held t (.slice a len cap) d ps) : ∃ zs, IsRow .u8 w a len cap zs := by
  obtain ⟨fuel, hf⟩ := h
  rcases open_ints ht he hce hf with ⟨hcs, _⟩ | ⟨x, l, c, zs, hcs, _, hl, hm, hz, _, hcell, hwz⟩
  · simp [Value.cells] at hcs
    obtain ⟨rfl, rfl, rfl⟩ := hcs
    exact ⟨[], .inl ⟨rfl, rfl, rfl, rfl⟩⟩
  · simp [Value.cells] at hcs
    obtain ⟨rfl, rfl, rfl⟩ := hcs
    exact ⟨zs, .inr ⟨_, rfl, hl, hm, by simpa using hz, hcell, hwz⟩⟩
end Go.V
