/- A small verifier of our own, part 7: slice literals, make, arrays compared, stores, append, copy. No condition. -/
import Derived.Test.YtlnoehpjchglnaaVf
import Derived.ChangeKeysEq
import Derived.Laws.StructEq
set_option linter.unusedSimpArgs false
set_option linter.unusedVariables false
namespace Go.V
open Go

section
variable {P : Program} {E : Env} {ℓ : Nat → Option Loc} {m : Mem} {nid : Nat} {K : SV → Option Ent → Prop} {w : World}

/-! slices made -/
def rep1 : S → Nat → A
  | .u8 x, n => .a8 (List.replicate n x)
  | .u32 x, n => .a32 (List.replicate n x)
  | .u64 x, n => .a64 (List.replicate n x)
  | .i x, n => .ai (List.replicate n x)
  | .b x, n => .ab (List.replicate n x)
  | x, n => .agg (List.replicate n x)
theorem rep1_cells (x : S) (n : Nat) : (rep1 x n).cells = List.replicate n x ∧ (rep1 x n).isRow = true ∧ (rep1 x n).len = n := by
  cases x <;> simp [rep1, A.cells, A.isRow, A.len]
theorem den_replicate {x : S} {v : Value} (h : DenS ℓ x v) : ∀ n, DenL ℓ (List.replicate n x) (List.replicate n v)
  | 0 => trivial
  | n + 1 => ⟨h, den_replicate h n⟩
def catN {α : Type} : Nat → List α → List α
  | 0, _ => []
  | n + 1, l => l ++ catN n l
def repA : A → Nat → Option A
  | .s x, n => some (rep1 x n)
  | .a8 l, n => some (.a8 (catN n l))
  | .a32 l, n => some (.a32 (catN n l))
  | .a64 l, n => some (.a64 (catN n l))
  | .ai l, n => some (.ai (catN n l))
  | .ab l, n => some (.ab (catN n l))
  | .agg l, n => some (.agg (catN n l))
  | _, _ => none
theorem catN_map {α β : Type} (f : α → β) (l : List α) : ∀ n, (catN n l).map f = catN n (l.map f)
  | 0 => rfl
  | n + 1 => by simp [catN, catN_map f l n]
theorem catN_length {α : Type} (l : List α) : ∀ n, (catN n l).length = n * l.length
  | 0 => by simp [catN]
  | n + 1 => by simp [catN, catN_length l n, Nat.add_mul]; omega
theorem catN_one {α : Type} (x : α) : ∀ n, catN n [x] = List.replicate n x
  | 0 => rfl
  | n + 1 => by simp [catN, catN_one x n, List.replicate_succ]
theorem den_catN {xs : List S} {vs : List Value} (h : DenL ℓ xs vs) : ∀ n, DenL ℓ (catN n xs) (catN n vs)
  | 0 => trivial
  | n + 1 => h.append (den_catN h n)
theorem repA_cells {a a' : A} {n : Nat} (h : repA a n = some a') : a'.cells = catN n a.cells ∧ a'.isRow = true := by
  cases a with
  | s x => simp only [repA, Option.some.injEq] at h; subst h; exact ⟨by rw [(rep1_cells x n).1]; simp [A.cells, catN_one], (rep1_cells x n).2.1⟩
  | st l => simp [repA] at h
  | _ => simp [repA] at h; subst h; simp [A.cells, A.isRow, catN_map]
theorem madeCells_catN {zs : List Value} (hz : 0 < zs.length) (n : Nat) : madeCells zs.toArray (n * zs.length) = (catN n zs).toArray := by
  unfold madeCells
  apply Array.ext'
  simp only [Array.toList_map, Array.toList_range]
  apply List.ext_getElem?
  intro i
  have key : ∀ n i, i < n * zs.length → (catN n zs)[i]? = zs[i % zs.length]? := by
    intro n
    induction n with
    | zero => intro i h; omega
    | succ n ih =>
      intro i h
      simp only [catN]
      rw [Nat.add_mul, Nat.one_mul] at h
      by_cases hi : i < zs.length
      · rw [List.getElem?_append_left hi, Nat.mod_eq_of_lt hi]
      · rw [List.getElem?_append_right (by omega), ih _ (by omega)]
        rw [Nat.mod_eq_sub_mod (by omega : zs.length ≤ i)]
  rcases Nat.lt_or_ge i (n * zs.length) with hi | hi
  · rw [key n i hi, List.getElem?_map, List.getElem?_range hi]
    have hm : i % zs.length < zs.length := Nat.mod_lt _ hz
    simp [hm]
  · rw [List.getElem?_eq_none (by simp; omega), List.getElem?_eq_none (by rw [catN_length]; omega)]
def stMake (T : Tab) (nid : Nat) (t : TypeId) (l c : SV) (K : SV → Option Ent → Prop) : Prop :=
  match T t, l.num, c.num with
  | some ty, some l, some c => match ty.kind with
    | .sl e => match T e with
      | some ety => match ety.zero with
        | .s z => (0 ≤ l ∧ l ≤ c ∧ ety.bytes * c ≤ 281474976710656 ∧ c ≤ 9223372036854775807) ∧ z.known = true ∧ K (one (.sl nid 0 l.toNat c.toNat 1)) (some ⟨true, e, none, rep1 z c.toNat⟩)
        | _ => False
      | none => False
    | _ => False
  | _, _, _ => False
theorem stMake_ok {T : Tab} (hT : TabOK P T) (hm : MH E ℓ m w) (hf : Fresh m nid) {t : TypeId} {l c : SV} {vl vc : Value} (hl : DenV ℓ l vl) (hc : DenV ℓ c vc) (h : stMake T nid t l c K) :
    Comes P E ℓ m nid K (do pure (.value (← Instr.makeSlice t vl vc))) w := by
  unfold stMake at h
  split at h
  · rename_i ty l' c' hty h1 h2
    obtain ⟨k1, rfl⟩ := sv_num hl h1
    obtain ⟨k2, rfl⟩ := sv_num hc h2
    have hk := (hT t ty hty).kind
    split at h
    · rename_i e hkk
      rw [hkk] at hk; simp only [KindOK] at hk
      split at h
      · rename_i ety hety
        have hE := hT e ety hety
        obtain ⟨i, z, hi1, hi2, hi3, hi4, hi5⟩ := hE.parts
        split at h
        · rename_i zs hz
          obtain ⟨hb, hkn, hK⟩ := h
          rw [hz] at hi5
          have hd := S.val_den hi5 ℓ
          have h1c := known_oneCell hkn hd
          have hcells : z.cells = [z].toArray := by cases z <;> first | rfl | cases h1c
          have hsz : ety.size = 1 := by rw [← hE.len, hz]; rfl
          have hmk := run_make (P := P) w t e i z hk hi1 hi4 k1 k2 l' c' hb.1 hb.2.1 (by rw [hi3]; omega) hb.2.2.2
          rw [hi2, hsz, hcells, show c'.toNat * 1 = c'.toNat * [z].length from rfl, madeCells_catN (by simp), catN_one] at hmk
          have hlen : (List.replicate c'.toNat z).toArray.size = c'.toNat := by simp
          refine comes_new hm hf (cs := (List.replicate c'.toNat z).toArray) (vs := List.replicate c'.toNat z) (rest := []) (mk := fun a => .slice (some a) l'.toNat c'.toNat) hmk (by simp) (A.row_OK (rep1_cells zs c'.toNat).2.1) (by simp) ?_ ?_ hK
          · rw [(rep1_cells zs c'.toNat).1]; exact den_replicate hd _
          · exact ⟨⟨w.heap.size, 0, _⟩, by simp only [upd, if_true]; rfl, by omega, .inr ⟨by show 0 + c'.toNat * 1 ≤ (List.replicate c'.toNat z).toArray.size; rw [hlen]; omega, rfl⟩⟩
        · exact h.elim
      · exact h.elim
    · exact h.elim
  · exact h.elim
def sing : S → A
  | .u8 x => .a8 [x]
  | .u32 x => .a32 [x]
  | .u64 x => .a64 [x]
  | .i x => .ai [x]
  | .b x => .ab [x]
  | x => .agg [x]
theorem sing_cells (x : S) : (sing x).cells = [x] ∧ (sing x).isRow = true := by cases x <;> simp [sing, A.cells, A.isRow]
/-- The content of a slice literal. -/
def litA (z : A) (len sz : Nat) (ps : List (Nat × SV)) (K : A → Prop) : Prop :=
  match len, ps with
  | 1, [(0, .one (.s x))] => (sz = 1 ∧ x.known = true) ∧ K (sing x)
  | 1, [(0, .one b)] => (b.len = sz ∧ b.isRow = true ∧ b.solid = true) ∧ K b
  | len, ps => match repA z len with
    | some a => fillA a sz ps K
    | none => False
theorem litA_ok {z : A} {len sz : Nat} {ps : List (Nat × SV)} {vs : List (Nat × Value)} {zs : List Value} {K : A → Prop} (hp : DenP ℓ ps vs) (hz : DenL ℓ z.cells zs) (hzl : zs.length = sz) (h : litA z len sz ps K) :
    ∃ a' zs', Instr.fill (fun i => some (i * sz, sz)) (catN len zs).toArray vs = some zs'.toArray ∧ a'.isRow = true ∧ zs'.length = len * sz ∧ DenL ℓ a'.cells zs' ∧ K a' := by
  have one1 : ∀ {x : SV} {v : Value} {us : List Value} {a' : A}, DenP ℓ [(0, x)] vs → len = 1 → (∀ v, DenV ℓ x v → ∃ us : List Value, v.cells = us.toArray ∧ us.length = sz ∧ DenL ℓ a'.cells us) → a'.isRow = true → K a' →
      ∃ a' zs', Instr.fill (fun i => some (i * sz, sz)) (catN len zs).toArray vs = some zs'.toArray ∧ a'.isRow = true ∧ zs'.length = len * sz ∧ DenL ℓ a'.cells zs' ∧ K a' := by
    intro x v us a' hp hl hx hr hK
    subst hl
    match vs, hp with
    | [(0, v)], ⟨rfl, hv, _⟩ =>
      obtain ⟨us, h1, h2, h3⟩ := hx v hv
      refine ⟨a', us, ?_, hr, by omega, h3, hK⟩
      rw [fill_step (o := 0 * sz) (sz := sz) rfl h1 h2 (by simp [catN]; omega)]
      simp only [Instr.fill, catN, List.append_nil, Nat.zero_mul]
      congr 2
      unfold overL
      simp only [List.take_zero, List.nil_append, Nat.zero_add]
      rw [List.drop_of_length_le (by omega), List.append_nil]
  have gen : (match repA z len with | some a => fillA a sz ps K | none => False) → ∃ a' zs', Instr.fill (fun i => some (i * sz, sz)) (catN len zs).toArray vs = some zs'.toArray ∧ a'.isRow = true ∧ zs'.length = len * sz ∧ DenL ℓ a'.cells zs' ∧ K a' := by
    intro h
    split at h
    · rename_i a ha
      obtain ⟨h1, h2⟩ := repA_cells ha
      have hd : DenL ℓ a.cells (catN len zs) := by rw [h1]; exact den_catN hz len
      obtain ⟨a', zs', e1, e2, e3, e4, e5⟩ := fillA_ok hp h2 hd h
      refine ⟨a', zs', e1, e2, ?_, e4, e5⟩
      have l1 := e4.length
      have l2 := hd.length
      rw [A.len_cells _ (A.row_OK e2)] at l1
      rw [A.len_cells _ (A.row_OK h2), catN_length] at l2
      rw [← l1, e3, l2, hzl]
    · exact h.elim
  unfold litA at h
  split at h
  · rename_i x
    obtain ⟨⟨h1, h2⟩, hK⟩ := h
    exact one1 (v := .nilIface) (us := []) (a' := sing x) hp rfl (fun v hv => by
      have h1c := known_oneCell h2 hv
      exact ⟨[v], (by cases v <;> first | rfl | cases h1c), by simp [h1], by rw [(sing_cells x).1]; exact ⟨hv, trivial⟩⟩) (sing_cells x).2 hK
  · rename_i b _
    obtain ⟨⟨h1, h2, h3⟩, hK⟩ := h
    exact one1 (v := .nilIface) (us := []) (a' := b) hp rfl (fun v hv => by
      obtain ⟨hok, us, e1, e2, _⟩ := solid_cells h3 hv
      have := e2.length
      rw [A.len_cells _ hok] at this
      exact ⟨us, e1, by omega, e2⟩) h2 hK
  · exact gen h
def stBuildSlice (T : Tab) (nid : Nat) (t : TypeId) (len : Nat) (ps : List (Nat × SV)) (K : SV → Option Ent → Prop) : Prop :=
  match T t with
  | some ty => match ty.kind with
    | .sl e => match T e with
      | some ety => (0 < ety.size ∧ len * ety.size ≤ 16777216) ∧ ety.zero.solid = true ∧ litA ety.zero len ety.size ps (fun a => K (one (.sl nid 0 len len ety.size)) (some ⟨true, e, none, a⟩))
      | none => False
    | _ => False
  | none => False
theorem stBuildSlice_ok {T : Tab} (hT : TabOK P T) (hm : MH E ℓ m w) (hf : Fresh m nid) {t : TypeId} {len : Nat} {ps : List (Nat × SV)} {vs : List (Nat × Value)} (hp : DenP ℓ ps vs) (h : stBuildSlice T nid t len ps K) :
    Comes P E ℓ m nid K (do pure (.value (← Instr.buildSlice t len vs.toArray))) w := by
  unfold stBuildSlice at h
  split at h
  · rename_i ty hty
    have hk := (hT t ty hty).kind
    split at h
    · rename_i e hkk
      rw [hkk] at hk; simp only [KindOK] at hk
      split at h
      · rename_i ety hety
        obtain ⟨⟨hpos, hmax⟩, hsol, h⟩ := h
        have hE := hT e ety hety
        obtain ⟨z, hz, hzv⟩ := hE.zv w
        obtain ⟨hok, zs, hzc, hzd, _⟩ := solid_cells hsol (A.val_den hzv hE.ok ℓ)
        have hzl := hzd.length
        rw [A.len_cells _ hok, hE.len] at hzl
        obtain ⟨a', zs', e1, e2, e3, e4, e5⟩ := litA_ok hp hzd hzl.symm h
        refine comes_new hm hf (cs := zs'.toArray) (rest := []) (mk := fun a => .slice (some a) len len) ?_ (by simp) (A.row_OK e2) (by simp) e4 ?_ e5
        · have hmade := madeCells_catN (zs := zs) (by omega) len
          unfold madeCells at hmade
          rw [← hzl] at hmade
          have hmm : ¬ (len * ety.size > 2 ^ 24) := by simp; omega
          simp only [Instr.buildSlice, Sem.run_bind, run_underlying hk, Result.andThen_ok, hE.size w]
          by_cases hl0 : len * ety.size = 0
          · have hl : len = 0 := by
              rcases Nat.mul_eq_zero.1 hl0 with h | h
              · exact h
              · omega
            subst hl
            simp only [Nat.zero_mul, gt_iff_lt, Nat.not_lt_zero, if_false, if_true, Sem.run_bind, Sem.run_pure, Result.andThen_ok]
            have e1' : Instr.fill (fun i => some (i * ety.size, ety.size)) #[] vs = some zs'.toArray := e1
            show Sem.run P (match Instr.fill (fun i => some (i * ety.size, ety.size)) ((Array.range 0).map _) vs with | some cells => _ | _ => _) w = _
            rw [show ((Array.range 0).map fun x => (#[] : Array Value)[x % (#[] : Array Value).size]!) = #[] by simp [Array.range_zero'], e1']
            simp [newRow]
          · simp only [hmm, if_false, hl0, Sem.run_bind, hz, Sem.run_pure, Result.andThen_ok, hzc]
            show Sem.run P (match Instr.fill (fun i => some (i * ety.size, ety.size)) ((Array.range (len * ety.size)).map _) vs with | some cells => _ | _ => _) w = _
            rw [hmade, e1]
            simp [newRow]
        · have hs : zs'.toArray.size = len * ety.size := by simpa using e3
          exact ⟨⟨w.heap.size, 0, _⟩, by simp only [upd, if_true]; rfl, by omega, .inr ⟨by show 0 + len * ety.size ≤ zs'.toArray.size; omega, rfl⟩⟩
      · exact h.elim
    · exact h.elim
  · exact h.elim
end
end Go.V
