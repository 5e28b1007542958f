/- Plain law: the program's key schedule is the document's; the table is the box. No condition. -/
import Derived.Test.YtlnoehpjchglnaaLa
import Derived.Test.YtlnoehpjchglnaaWf
set_option linter.unusedSimpArgs false
set_option linter.unusedVariables false
set_option maxRecDepth 20000
namespace Go.V
theorem tabR_get (i : Nat) (hi : i < 256) : ∀ j, j ≤ 256 → (tabR j).getD i 0 = if i < j then subR i else 0
  | 0, _ => by simp [tabR, List.getD_eq_getElem?_getD, List.getElem?_replicate, hi, -List.reduceReplicate]
  | j + 1, hj => by
    have ih := tabR_get i hi j (by omega)
    have hl := tabR_len j
    rw [List.getD_eq_getElem?_getD] at ih ⊢
    rw [tabR, List.getElem?_set]
    by_cases h : j = i
    · subst h
      rw [if_pos rfl, hl, if_pos hi, if_pos (by omega)]
      rfl
    · rw [if_neg h, ih]
      by_cases h2 : i < j
      · rw [if_pos h2, if_pos (by omega)]
      · rw [if_neg h2, if_neg (by omega)]
theorem sub_box : ∀ x : BitVec 8, subR (ub x) = ub (boxOf x) := all_bytes (by decide +kernel)
theorem tab_ok : SbOK (tabR 256) := fun x => by
  rw [tabR_get _ x.isLt 256 (Nat.le_refl _), if_pos x.isLt]
  exact sub_box x
theorem tab_byt : Byt (tabR 256) := fun i => by
  by_cases h : i < 256
  · have := tab_ok (BitVec.ofNat 8 i)
    simp only [BitVec.toNat_ofNat, Nat.reducePow, Nat.mod_eq_of_lt h] at this
    rw [this]
    exact ub_byt _
  · rw [List.getD_eq_getElem?_getD, List.getElem?_eq_none (by rw [tabR_len]; omega)]
    decide
def cpow : Nat → BitVec 8
  | 0 => 1
  | m + 1 => twice8 (cpow m)
theorem pow_cpow : ∀ m : Fin 10, powG 2 m.1 8 = ub (cpow m.1) := by decide +kernel
theorem sch_c {key : B8} {nk : Nat} (hn : nk = 4 ∨ nk = 8) : ∀ i, (sch key nk i).2 = cpow ((i - 1) / nk)
  | 0 => by rcases hn with rfl | rfl <;> rfl
  | i + 1 => by
    have ih := sch_c (key := key) hn i
    rw [sch]
    split
    · rename_i h
      show (sch key nk i).2 = _
      rw [ih]
      congr 1
      rcases hn with rfl | rfl <;> omega
    · show (if i % nk = 0 then twice8 (sch key nk i).2 else (sch key nk i).2) = _
      rw [ih]
      split
      · rename_i h1 h2
        have : (i + 1 - 1) / nk = (i - 1) / nk + 1 := by rcases hn with rfl | rfl <;> omega
        rw [this]
        rfl
      · rename_i h1 h2
        have : (i + 1 - 1) / nk = (i - 1) / nk := by rcases hn with rfl | rfl <;> omega
        rw [this]
theorem rschW_get (key : B8) (sb : LI) (n i : Nat) (W : LI) : ∀ j, j < 4 → (rschW key sb n i W 4).getD j 0 = rcell key sb n i W j
  | 0, _ => rfl | 1, _ => rfl | 2, _ => rfl | 3, _ => rfl
  | n + 4, h => absurd h (by omega)
theorem xorO_get {t : B8} (W : B8) (o : Nat) (h : t.length = 4) : ∀ j, j < 4 → (xorO t W o 4).getD j 0 = t.getD j 0 ^^^ W.getD (o + j) 0 := by
  obtain ⟨b0, b1, b2, b3, rfl⟩ := list4 h
  intro i hi
  match i, hi with
  | 0, _ => rfl | 1, _ => rfl | 2, _ => rfl | 3, _ => rfl
  | n + 4, h => exact absurd h (by omega)
theorem part_get (W : B8) (o j : Nat) (hj : j < 4) : ((W.drop o).take 4).getD j 0 = W.getD (o + j) 0 := by
  rw [List.getD_eq_getElem?_getD, List.getD_eq_getElem?_getD, List.getElem?_take_of_lt hj, List.getElem?_drop]
theorem schT_get {sb : LI} (hs : SbOK sb) {nk i : Nat} (hn : nk = 4 ∨ nk = 8) (h : ¬ i < nk) (hi : i < 4 * (nk + 7)) (W t : B8) (ht : ∀ j, j < 4 → t.getD j 0 = W.getD ((i - 1) * 4 + j) 0) : ∀ j, j < 4 →
    (if i % nk = 0 then
        (if j = 0 then xorI (sb.getD ((toI W).getD ((i - 1) * 4 + (j + 1) % 4) 0).toNat 0) (powG 2 (i / nk - 1) 8) else sb.getD ((toI W).getD ((i - 1) * 4 + (j + 1) % 4) 0).toNat 0)
      else if nk = 8 ∧ i % 8 = 4 then sb.getD ((toI W).getD ((i - 1) * 4 + j) 0).toNat 0 else (toI W).getD ((i - 1) * 4 + j) 0)
      = ub ((schT nk i (cpow ((i - 1) / nk)) t).getD j 0) := by
  intro j hj
  have e : ∀ k, k < 4 → (toI W).getD ((i - 1) * 4 + k) 0 = ub (t.getD k 0) := fun k hk => by rw [toI_getD, ht k hk]
  have e2 : ∀ k, k < 4 → sb.getD ((toI W).getD ((i - 1) * 4 + k) 0).toNat 0 = ub (boxOf (t.getD k 0)) := fun k hk => by rw [e k hk, ub_nat, hs]
  rw [e2 j hj, e2 ((j + 1) % 4) (by omega), e j hj]
  unfold schT
  by_cases h0 : i % nk = 0
  · rw [if_pos h0, if_pos h0]
    have hc : (i - 1) / nk = i / nk - 1 := by rcases hn with rfl | rfl <;> omega
    have hm : i / nk - 1 < 10 := by rcases hn with rfl | rfl <;> omega
    have hp := pow_cpow ⟨i / nk - 1, hm⟩
    simp only at hp
    rw [hc, hp]
    match j, hj with
    | 0, _ => exact xorI_ub _ _
    | 1, _ => rfl
    | 2, _ => rfl
    | 3, _ => rfl
    | n + 4, h => exact absurd h (by omega)
  · rw [if_neg h0, if_neg h0]
    have hq : (nk = 8 ∧ i % 8 = 4) ↔ (6 < nk ∧ i % nk = 4) := by rcases hn with rfl | rfl <;> omega
    by_cases h4 : 6 < nk ∧ i % nk = 4
    · rw [if_pos h4, if_pos (hq.mpr h4)]
      match j, hj with
      | 0, _ => rfl
      | 1, _ => rfl
      | 2, _ => rfl
      | 3, _ => rfl
      | n + 4, h => exact absurd h (by omega)
    · rw [if_neg h4, if_neg (fun h => h4 (hq.mp h))]
theorem toI_append (a b : B8) : toI (a ++ b) = toI a ++ toI b := by simp [toI]
/-- The document's schedule is the program's. -/
theorem sched_eqL {sb : LI} (hs : SbOK sb) {key : B8} {nk : Nat} (hn : nk = 4 ∨ nk = 8) (hk : 4 * nk ≤ key.length) : ∀ i, i ≤ 4 * (nk + 7) → rsch key sb nk i = toI (sch key nk i).1
  | 0, _ => rfl
  | i + 1, hi => by
    have ih := sched_eqL hs hn hk i (by omega)
    have hl := sch_lenL hk (by omega : 0 < nk) i
    have hc := sch_c (key := key) hn i
    rw [rsch, sch, ih]
    split
    · rename_i h
      show _ = toI (_ ++ _)
      rw [toI_append]
      congr 1
      apply ext_getD (d := 0) (n := 4) (rschW_len _ _ _ _ _ _) (by rw [toI_len]; simp; omega)
      intro j hj
      rw [rschW_get _ _ _ _ _ j hj, rcell, if_pos h, toI_getD, part_get _ _ _ hj]
      rfl
    · rename_i h
      show _ = toI (_ ++ _)
      rw [toI_append]
      congr 1
      have htl : (((sch key nk i).1.drop ((i - 1) * 4)).take 4).length = 4 := by simp [hl]; omega
      have hT := schT_len nk i (sch key nk i).2 htl
      apply ext_getD (d := 0) (n := 4) (rschW_len _ _ _ _ _ _) (by rw [toI_len, xorO_len, hT])
      intro j hj
      rw [rschW_get _ _ _ _ _ j hj, rcell, if_neg h, toI_getD _ j, xorO_get _ _ hT j hj, hc, ← xorI_ub, schT_get hs hn h (by omega) (sch key nk i).1 _ (fun k hk => part_get _ _ _ hk) j hj, toI_getD]
      simp only [xorI, Nat.xor_comm]
theorem sched_eq {sb : LI} (hs : SbOK sb) {key : B8} {nk : Nat} (hn : nk = 4 ∨ nk = 8) (hk : key.length = 4 * nk) : ∀ i, i ≤ 4 * (nk + 7) → rsch key sb nk i = toI (sch key nk i).1 := sched_eqL hs hn (Nat.le_of_eq hk.symm)
end Go.V
