/- Walks: power of the document at small exponents, ref05.New. No condition. -/
import Derived.Test.YtlnoehpjchglnaaWe
set_option linter.unusedSimpArgs false
set_option linter.unusedVariables false
set_option maxRecDepth 10000
namespace Go.V
open Go Go.Proofs.Try
/-! power, at any exponent below 256 -/
def powG (b : Int) (n : Nat) : Nat → Int
  | 0 => 1
  | j + 1 => if n / 2 ^ j % 2 = 1 then timesR (powG b n j) (sqR b j) 8 else powG b n j
theorem powG_lt {b : Int} (hb : 0 ≤ b ∧ b < 256) (n : Nat) : ∀ j, 0 ≤ powG b n j ∧ powG b n j < 256
  | 0 => by simp [powG]
  | j + 1 => by
    unfold powG
    split
    · exact timesR_lt (powG_lt hb n j) 8
    · exact powG_lt hb n j
theorem powG_stop {b : Int} {n j : Nat} (h : n / 2 ^ j = 0) : ∀ k, powG b n (j + k) = powG b n j
  | 0 => rfl
  | k + 1 => by
    have h2 : n / 2 ^ (j + k) = 0 := by rw [Nat.pow_add, ← Nat.div_div_eq_div_mul, h, Nat.zero_div]
    rw [← Nat.add_assoc, powG, h2, if_neg (by decide)]
    exact powG_stop h k
theorem spec61G (b : Int) (n : Nat) (hb : 0 ≤ b ∧ b < 256) (hn : n < 256) : Spec prog 61 [one (.i b), one (.i (n : Int))] [] [] (fun r _ => r = one (.i (powG b n 8))) := by
  refine spec_of_body tabOK func61 rfl (Nat.le_of_ble_eq_true rfl) ?_
  intro E Q0 hB
  refine ok_run hB tabOK pureB_ok 100 ?_
  simp only [argSl]
  repeat (first
    | rw [run_ops0]
    | rw [run_seq]
    | rw [run_region]
    | rw [run_block]
    | rw [run_blk]
    | rw [run_skip]
    | (apply run_go rfl; focus (intro L K hK; simp [step1, evS, est, St.ev, St.put, St.add, St.upd, look_hit, look_miss, okd, stBin, bin, binS, binB, binI, shS, shB, S.num, constS, one, inI, stUn, stNil, stLoad, stAt, stField, stIndexAddr, stStore, wrAt, stAlloc, stBox, stIndex, stPart, stPartRow, stFieldV, stConv, cvS, cvB, cvI, stSlice, optN, SV.num, noMax, stArrPtr, stExtract, stLen, stBuild, A.isRow, A.isAgg, A.noRec, A.len, A.get, A.sub, A.set, A.over, Ent.bound, Kind.isStruct, Kind.isAgg, S.known, A.solid, segAt, segPut, segLen, R.a, R.len, A.r, stMake, stBuildSlice, litA, repA, rep1, fillA, putP, sing, stMin, stEqA, rowEq, Kind.isScal, -List.reduceReplicate, -List.getD_eq_getElem?_getD, tab3, ty3, ntmps61]; (repeat' apply And.intro); all_goals first | exact hK | omega)))
  rw [run_loop]
  refine ok_loop (X := Nat) (fun j => ⟨[(5, one (.i (powG b n j))), (1, one (.i (n / 2 ^ j : Nat))), (0, one (.i (sqR b j)))], []⟩) (fun j => j ≤ 8) (fun j => 8 - j) (fun j i L h => hB.anc i L h) ⟨0, by simp, by simp [Ent2, entSl, entM, belSl, belV, belA, belS, belR, belM, look_hit, look_miss, one, -List.getD_eq_getElem?_getD, powG, sqR]⟩ ?_
  intro j hj
  refine ok_run hB tabOK pureB_ok 100 ?_
  have hp := powG_lt hb n j
  have hs := sqR_lt hb j
  have hle : n / 2 ^ j ≤ n := Nat.div_le_self _ _
  have hnx : n / 2 ^ (j + 1) = n / 2 ^ j / 2 := by rw [Nat.pow_succ, Nat.div_div_eq_div_mul]
  have h8 : n / 2 ^ 8 = 0 := Nat.div_eq_of_lt (by omega)
  have hpg : powG b n (j + 1) = if n / 2 ^ j % 2 = 1 then timesR (powG b n j) (sqR b j) 8 else powG b n j := rfl
  have hj8 : j = 8 → n / 2 ^ j = 0 := fun h => h ▸ h8
  have hst : n / 2 ^ j = 0 → powG b n 8 = powG b n j := fun h => by
    have := powG_stop (b := b) h (8 - j)
    rwa [show j + (8 - j) = 8 by omega] at this
  have t1 : ((n / 2 ^ j : Nat) : Int).tmod 2 = ((n / 2 ^ j % 2 : Nat) : Int) := rfl
  have t2 : ((n / 2 ^ j : Nat) : Int).tdiv 2 = ((n / 2 ^ j / 2 : Nat) : Int) := rfl
  generalize hN : n / 2 ^ j = N at *
  repeat (first
    | rw [run_ops0]
    | rw [run_seq]
    | rw [run_region]
    | rw [run_block]
    | rw [run_blk]
    | rw [run_skip]
    | (apply run_go rfl; focus (intro L K hK; simp [step1, evS, est, St.ev, St.put, St.add, St.upd, look_hit, look_miss, okd, stBin, bin, binS, binB, binI, shS, shB, S.num, constS, one, inI, stUn, stNil, stLoad, stAt, stField, stIndexAddr, stStore, wrAt, stAlloc, stBox, stIndex, stPart, stPartRow, stFieldV, stConv, cvS, cvB, cvI, stSlice, optN, SV.num, noMax, stArrPtr, stExtract, stLen, stBuild, A.isRow, A.isAgg, A.noRec, A.len, A.get, A.sub, A.set, A.over, Ent.bound, Kind.isStruct, Kind.isAgg, S.known, A.solid, segAt, segPut, segLen, R.a, R.len, A.r, stMake, stBuildSlice, litA, repA, rep1, fillA, putP, sing, stMin, stEqA, rowEq, Kind.isScal, -List.reduceReplicate, -List.getD_eq_getElem?_getD, tab3, ty3, ntmps61]; (repeat' apply And.intro); all_goals first | exact hK | omega)))
  apply run_cond2 rfl
  · intro h
    simp at h
    have hj7 : j < 8 := by omega
    repeat (first
    | rw [run_ops0]
    | rw [run_seq]
    | rw [run_region]
    | rw [run_block]
    | rw [run_blk]
    | rw [run_skip]
    | (apply run_go rfl; focus (intro L K hK; simp [step1, evS, est, St.ev, St.put, St.add, St.upd, look_hit, look_miss, okd, stBin, bin, binS, binB, binI, shS, shB, S.num, constS, one, inI, stUn, stNil, stLoad, stAt, stField, stIndexAddr, stStore, wrAt, stAlloc, stBox, stIndex, stPart, stPartRow, stFieldV, stConv, cvS, cvB, cvI, stSlice, optN, SV.num, noMax, stArrPtr, stExtract, stLen, stBuild, A.isRow, A.isAgg, A.noRec, A.len, A.get, A.sub, A.set, A.over, Ent.bound, Kind.isStruct, Kind.isAgg, S.known, A.solid, segAt, segPut, segLen, R.a, R.len, A.r, stMake, stBuildSlice, litA, repA, rep1, fillA, putP, sing, stMin, stEqA, rowEq, Kind.isScal, -List.reduceReplicate, -List.getD_eq_getElem?_getD, tab3, ty3, ntmps61, t1]; (repeat' apply And.intro); all_goals first | exact hK | omega)))
    apply run_cond2 rfl
    · intro h2
      simp at h2
      have h2' : N % 2 = 1 := by omega
      repeat (first
    | rw [run_ops0]
    | rw [run_seq]
    | rw [run_region]
    | rw [run_block]
    | rw [run_blk]
    | rw [run_skip]
    | (apply run_go rfl; focus (intro L K hK; simp [step1, evS, est, St.ev, St.put, St.add, St.upd, look_hit, look_miss, okd, stBin, bin, binS, binB, binI, shS, shB, S.num, constS, one, inI, stUn, stNil, stLoad, stAt, stField, stIndexAddr, stStore, wrAt, stAlloc, stBox, stIndex, stPart, stPartRow, stFieldV, stConv, cvS, cvB, cvI, stSlice, optN, SV.num, noMax, stArrPtr, stExtract, stLen, stBuild, A.isRow, A.isAgg, A.noRec, A.len, A.get, A.sub, A.set, A.over, Ent.bound, Kind.isStruct, Kind.isAgg, S.known, A.solid, segAt, segPut, segLen, R.a, R.len, A.r, stMake, stBuildSlice, litA, repA, rep1, fillA, putP, sing, stMin, stEqA, rowEq, Kind.isScal, -List.reduceReplicate, -List.getD_eq_getElem?_getD, tab3, ty3, ntmps61, pureOf, pureB, hp, hs, t2]; (repeat' apply And.intro); all_goals first | exact hK | omega)))
      rw [run_back]
      refine ⟨j + 1, by omega, by omega, ?_⟩
      rw [hpg, hnx, if_pos h2']
      simp [Ent2, entSl, entM, belSl, belV, belA, belS, belR, belM, look_hit, look_miss, one, -List.getD_eq_getElem?_getD, sqR]
    · intro h2
      simp at h2
      have h2' : ¬ N % 2 = 1 := by omega
      repeat (first
    | rw [run_ops0]
    | rw [run_seq]
    | rw [run_region]
    | rw [run_block]
    | rw [run_blk]
    | rw [run_skip]
    | (apply run_go rfl; focus (intro L K hK; simp [step1, evS, est, St.ev, St.put, St.add, St.upd, look_hit, look_miss, okd, stBin, bin, binS, binB, binI, shS, shB, S.num, constS, one, inI, stUn, stNil, stLoad, stAt, stField, stIndexAddr, stStore, wrAt, stAlloc, stBox, stIndex, stPart, stPartRow, stFieldV, stConv, cvS, cvB, cvI, stSlice, optN, SV.num, noMax, stArrPtr, stExtract, stLen, stBuild, A.isRow, A.isAgg, A.noRec, A.len, A.get, A.sub, A.set, A.over, Ent.bound, Kind.isStruct, Kind.isAgg, S.known, A.solid, segAt, segPut, segLen, R.a, R.len, A.r, stMake, stBuildSlice, litA, repA, rep1, fillA, putP, sing, stMin, stEqA, rowEq, Kind.isScal, -List.reduceReplicate, -List.getD_eq_getElem?_getD, tab3, ty3, ntmps61, pureOf, pureB, hp, hs, t2]; (repeat' apply And.intro); all_goals first | exact hK | omega)))
      rw [run_back]
      refine ⟨j + 1, by omega, by omega, ?_⟩
      rw [hpg, hnx, if_neg h2']
      simp [Ent2, entSl, entM, belSl, belV, belA, belS, belR, belM, look_hit, look_miss, one, -List.getD_eq_getElem?_getD, sqR]
  · intro h
    simp at h
    have hN0 : N = 0 := by omega
    apply run_exit2 rfl
    repeat (first
    | rw [run_ops0]
    | rw [run_seq]
    | rw [run_region]
    | rw [run_block]
    | rw [run_blk]
    | rw [run_skip]
    | (apply run_go rfl; focus (intro L K hK; simp [step1, evS, est, St.ev, St.put, St.add, St.upd, look_hit, look_miss, okd, stBin, bin, binS, binB, binI, shS, shB, S.num, constS, one, inI, stUn, stNil, stLoad, stAt, stField, stIndexAddr, stStore, wrAt, stAlloc, stBox, stIndex, stPart, stPartRow, stFieldV, stConv, cvS, cvB, cvI, stSlice, optN, SV.num, noMax, stArrPtr, stExtract, stLen, stBuild, A.isRow, A.isAgg, A.noRec, A.len, A.get, A.sub, A.set, A.over, Ent.bound, Kind.isStruct, Kind.isAgg, S.known, A.solid, segAt, segPut, segLen, R.a, R.len, A.r, stMake, stBuildSlice, litA, repA, rep1, fillA, putP, sing, stMin, stEqA, rowEq, Kind.isScal, -List.reduceReplicate, -List.getD_eq_getElem?_getD, tab3, ty3, ntmps61]; (repeat' apply And.intro); all_goals first | exact hK | omega)))
    rw [run_ret, hst hN0]
    simp [finOf, resP, resV, extraOwn, look_hit, look_miss, one, -List.reduceReplicate, -List.getD_eq_getElem?_getD, stLoad, stAt, Ent.bound, A.len, A.isRow, A.isAgg, results61, f61]

/-! the document's schedule -/
def rcell (key : B8) (sb : LI) (n i : Nat) (W : LI) (j : Nat) : Int :=
  if i < n then ((key.getD (4 * i + j) 0).toNat : Int) else
    xorI (W.getD ((i - n) * 4 + j) 0)
      (if i % n = 0 then
        (if j = 0 then xorI (sb.getD (W.getD ((i - 1) * 4 + (j + 1) % 4) 0).toNat 0) (powG 2 (i / n - 1) 8) else sb.getD (W.getD ((i - 1) * 4 + (j + 1) % 4) 0).toNat 0)
      else if n = 8 ∧ i % 8 = 4 then sb.getD (W.getD ((i - 1) * 4 + j) 0).toNat 0 else W.getD ((i - 1) * 4 + j) 0)
def rschW (key : B8) (sb : LI) (n i : Nat) (W : LI) : Nat → LI
  | 0 => [0, 0, 0, 0]
  | j + 1 => (rschW key sb n i W j).set j (rcell key sb n i W j)
def rsch (key : B8) (sb : LI) (n : Nat) : Nat → LI
  | 0 => []
  | i + 1 => rsch key sb n i ++ rschW key sb n i (rsch key sb n i) 4
theorem rschW_len (key : B8) (sb : LI) (n i : Nat) (W : LI) : ∀ j, (rschW key sb n i W j).length = 4
  | 0 => rfl
  | j + 1 => by simp [rschW, rschW_len key sb n i W j]
theorem rsch_len (key : B8) (sb : LI) (n : Nat) : ∀ i, (rsch key sb n i).length = 4 * i
  | 0 => rfl
  | i + 1 => by simp [rsch, rschW_len, rsch_len key sb n i]; omega
theorem rcell_byt {key : B8} {sb : LI} {n i : Nat} {W : LI} (hs : Byt sb) (hW : Byt W) (j : Nat) : 0 ≤ rcell key sb n i W j ∧ rcell key sb n i W j < 256 := by
  unfold rcell
  split
  · have := (key.getD (4 * i + j) 0).isLt; omega
  · refine xorI_lt (hW _) ?_
    split
    · split
      · exact xorI_lt (hs _) (powG_lt (by decide) _ 8)
      · exact hs _
    · split
      · exact hs _
      · exact hW _
theorem byt_append {a b : LI} (ha : Byt a) (hb : Byt b) : Byt (a ++ b) := by
  intro i
  by_cases h : i < a.length
  · have := ha i
    simpa [List.getD_eq_getElem?_getD, List.getElem?_append_left h] using this
  · have := hb (i - a.length)
    simpa [List.getD_eq_getElem?_getD, List.getElem?_append_right (by omega : a.length ≤ i)] using this
theorem byt_nil : Byt [] := fun i => by simp
theorem byt_0000 : Byt [0, 0, 0, 0] := fun i => by
  match i with
  | 0 => exact ⟨by decide, by decide⟩
  | 1 => exact ⟨by decide, by decide⟩
  | 2 => exact ⟨by decide, by decide⟩
  | 3 => exact ⟨by decide, by decide⟩
  | n + 4 => simp
theorem rschW_byt {key : B8} {sb : LI} {n i : Nat} {W : LI} (hs : Byt sb) (hW : Byt W) : ∀ j, Byt (rschW key sb n i W j)
  | 0 => byt_0000
  | j + 1 => (rschW_byt hs hW j).set (rcell_byt hs hW j)
theorem rsch_byt {key : B8} {sb : LI} {n : Nat} (hs : Byt sb) : ∀ i, Byt (rsch key sb n i)
  | 0 => byt_nil
  | i + 1 => byt_append (rsch_byt hs i) (rschW_byt hs (rsch_byt hs i) 4)
end Go.V
