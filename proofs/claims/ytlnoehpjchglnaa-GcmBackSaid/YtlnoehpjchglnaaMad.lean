/- Texts of the walks, put together: We Wf La Lb Wg Wh Wi Wj Br. No condition. -/
import Derived.Test.YtlnoehpjchglnaaMac
import Derived.KernelRfl
import Derived.WalkKit
import Derived.ProofKit
import Derived.OpenShut
import Derived.ShutString
import Derived.ChangeOld
import Derived.Below
section
set_option linter.unusedSimpArgs false
set_option linter.unusedVariables false
set_option maxRecDepth 10000
namespace Go.V
open Go Go.Proofs.Try
def boxOf (x : BitVec 8) : BitVec 8 := boxL.getD x.toNat 0
def rotS (c : BitVec 8) (t : B8) : B8 := [boxOf (t.getD 1 0) ^^^ c, boxOf (t.getD 2 0), boxOf (t.getD 3 0), boxOf (t.getD 0 0)]
def subW (t : B8) : B8 := [boxOf (t.getD 0 0), boxOf (t.getD 1 0), boxOf (t.getD 2 0), boxOf (t.getD 3 0)]
def xorO (t W : B8) (o : Nat) : Nat → B8
  | 0 => t
  | j + 1 => (xorO t W o j).set j ((xorO t W o j).getD j 0 ^^^ W.getD (o + j) 0)
theorem xorO_len (t W : B8) (o : Nat) : ∀ j, (xorO t W o j).length = t.length
  | 0 => rfl
  | j + 1 => by simp [xorO, xorO_len t W o j]
def schT (nk i : Nat) (c : BitVec 8) (t : B8) : B8 := if i % nk = 0 then rotS c t else if 6 < nk ∧ i % nk = 4 then subW t else t
def sch (key : B8) (nk : Nat) : Nat → B8 × BitVec 8
  | 0 => ([], 1)
  | i + 1 => if i < nk then ((sch key nk i).1 ++ (key.drop (4 * i)).take 4, (sch key nk i).2)
    else ((sch key nk i).1 ++ xorO (schT nk i (sch key nk i).2 (((sch key nk i).1.drop ((i - 1) * 4)).take 4)) (sch key nk i).1 ((i - nk) * 4) 4,
      if i % nk = 0 then twice8 (sch key nk i).2 else (sch key nk i).2)
theorem schT_len (nk i : Nat) (c : BitVec 8) {t : B8} (h : t.length = 4) : (schT nk i c t).length = 4 := by
  unfold schT
  split
  · rfl
  · split
    · rfl
    · exact h
theorem sch_lenL {key : B8} {nk : Nat} (hk : 4 * nk ≤ key.length) (hn : 0 < nk) : ∀ i, (sch key nk i).1.length = 4 * i
  | 0 => rfl
  | i + 1 => by
    have ih := sch_lenL hk hn i
    unfold sch
    split
    · simp [ih]; omega
    · simp only [List.length_append, xorO_len, ih]
      rw [schT_len]
      · omega
      · simp [ih]; omega
theorem sch_len {key : B8} {nk : Nat} (hk : key.length = 4 * nk) (hn : 0 < nk) (i : Nat) : (sch key nk i).1.length = 4 * i := sch_lenL (Nat.le_of_eq hk.symm) hn i
def rowR (W : B8) (o : Nat) : Nat → B8
  | 0 => zero16
  | j + 1 => (rowR W o j).set j (W.getD ((o + j / 4) * 4 + j % 4) 0)
theorem rowR_len (W : B8) (o : Nat) : ∀ j, (rowR W o j).length = 16
  | 0 => rfl
  | j + 1 => by simp [rowR, rowR_len W o j]
theorem rowR_get (W : B8) (o : Nat) : ∀ j, j ≤ 16 → ∀ i, i < 16 → (rowR W o j)[i]? = some (if i < j then W.getD (o * 4 + i) 0 else 0)
  | 0, _, i, hi => by
    have : ∀ i : Fin 16, zero16[i.1]? = some 0 := by decide
    simpa [rowR] using this ⟨i, hi⟩
  | j + 1, hj, i, hi => by
    have ih := rowR_get W o j (by omega) i hi
    simp only [rowR]
    rw [List.getElem?_set]
    by_cases h : j = i
    · subst h
      rw [if_pos rfl, rowR_len, if_pos hi, if_pos (by omega), show (o + j / 4) * 4 + j % 4 = o * 4 + j by omega]
    · rw [if_neg h, ih]
      by_cases h2 : i < j
      · rw [if_pos h2, if_pos (by omega)]
      · rw [if_neg h2, if_neg (by omega)]
theorem rowR_eq (W : B8) (r : Nat) (h : 16 * r + 16 ≤ W.length) : rowR W (4 * r) 16 = (W.drop (16 * r)).take 16 := by
  apply List.ext_getElem?
  intro i
  by_cases hi : i < 16
  · rw [rowR_get W (4 * r) 16 (Nat.le_refl _) i hi, if_pos hi, List.getElem?_take_of_lt hi, List.getElem?_drop, List.getD_eq_getElem?_getD, show 4 * r * 4 + i = 16 * r + i by omega, List.getElem?_eq_getElem (by omega)]
    rfl
  · rw [List.getElem?_eq_none (by rw [rowR_len]; omega), List.getElem?_eq_none (by simp; omega)]
/-- The memory after aes.New: the key's bytes, the words, the key's block, the rows. -/
def newMem (key : B8) (nk cap : Nat) : Mem := [.ent ⟨false, 5, none, .a8 key⟩, .ent ⟨true, 99, none, .a8 (sch key nk (4 * (nk + 7))).1⟩, .ent ⟨true, 105, some 1, .st [⟨1, .s (.sl 3 0 (nk + 7) cap 16)⟩]⟩, .ent ⟨true, 23, none, .a8 (sch key nk (4 * (nk + 7))).1⟩]
theorem spec21L (key : B8) (nk cap0 : Nat) (hk : 4 * nk ≤ key.length) (hnk : nk = 4 ∨ nk = 8) (hcap0 : 4 * nk ≤ cap0) : Spec prog 21 [one (.sl 0 0 (4 * nk) cap0 1)] [.ent ⟨false, 5, none, .a8 key⟩] [] (fun r m => r = .tup [.s (.ptr 2 0 0), .s (.i 0)] ∧ ∃ cap, m = newMem key nk cap) := by
  refine spec_of_body tabOK func21 rfl (Nat.le_of_ble_eq_true rfl) ?_
  intro E Q0 hB
  refine ok_run hB tabOK pureE_ok 14 ?_
  simp only [argSl]
  have hlt : ∀ x : BitVec 8, x.toNat < 256 := fun x => x.isLt
  have d4 : (4 * (nk : Int)).tdiv 4 = nk := by rw [Int.tdiv_eq_ediv_of_nonneg (by omega)]; omega
  repeat (first
    | rw [run_ops0]
    | rw [run_seq]
    | rw [run_region]
    | rw [run_block]
    | rw [run_blk]
    | rw [run_skip]
    | (apply run_go rfl; focus (intro L K hK; simp [step1, evS, est, St.ev, St.put, St.add, St.upd, look_hit, look_miss, okd, stBin, bin, binS, binB, binI, shS, shB, S.num, constS, one, inI, stUn, stNil, stLoad, stAt, stField, stIndexAddr, stStore, wrAt, stAlloc, stBox, stIndex, stPart, stPartRow, stFieldV, stConv, cvS, cvB, cvI, stSlice, optN, SV.num, noMax, stArrPtr, stExtract, stLen, stBuild, A.isRow, A.isAgg, A.noRec, A.len, A.get, A.sub, A.set, A.over, Ent.bound, Kind.isStruct, Kind.isAgg, S.known, A.solid, segAt, segPut, segLen, R.a, R.len, A.r, stMake, stBuildSlice, litA, repA, rep1, fillA, putP, sing, stMin, stEqA, rowEq, Kind.isScal, -List.reduceReplicate, -List.getD_eq_getElem?_getD, tab22, ty22, tab3, ty3, tab26, ty26, ntmps21, d4]; (repeat' apply And.intro); all_goals first | exact hK | omega)))
  rw [run_zero]
  refine ok_join (X := Unit) (fun _ => ⟨[(24, one (.b false)), (4, one (.i nk)), (0, one (.sl 0 0 (4 * nk) cap0 1))], [.ent ⟨false, 5, none, .a8 key⟩]⟩) (fun _ => True) (fun j i L h => by have := hB.anc i L h; simp at this ⊢; omega) ?_ ?_
  · refine ok_run hB tabOK pureE_ok 100 ?_
    repeat (first
    | rw [run_ops0]
    | rw [run_seq]
    | rw [run_region]
    | rw [run_block]
    | rw [run_blk]
    | rw [run_skip]
    | (apply run_go rfl; focus (intro L K hK; simp [step1, evS, est, St.ev, St.put, St.add, St.upd, look_hit, look_miss, okd, stBin, bin, binS, binB, binI, shS, shB, S.num, constS, one, inI, stUn, stNil, stLoad, stAt, stField, stIndexAddr, stStore, wrAt, stAlloc, stBox, stIndex, stPart, stPartRow, stFieldV, stConv, cvS, cvB, cvI, stSlice, optN, SV.num, noMax, stArrPtr, stExtract, stLen, stBuild, A.isRow, A.isAgg, A.noRec, A.len, A.get, A.sub, A.set, A.over, Ent.bound, Kind.isStruct, Kind.isAgg, S.known, A.solid, segAt, segPut, segLen, R.a, R.len, A.r, stMake, stBuildSlice, litA, repA, rep1, fillA, putP, sing, stMin, stEqA, rowEq, Kind.isScal, -List.reduceReplicate, -List.getD_eq_getElem?_getD, tab22, ty22, tab3, ty3, tab26, ty26, ntmps21, d4]; (repeat' apply And.intro); all_goals first | exact hK | omega)))
    apply run_guard rfl rfl rfl rfl
    · intro h
      simp at h
      obtain rfl : nk = 8 := by omega
      (apply Exists.intro; apply And.intro; focus (intro L K hK; simp [step1, evS, est, St.ev, St.put, St.add, St.upd, look_hit, look_miss, okd, stBin, bin, binS, binB, binI, shS, shB, S.num, constS, one, inI, stUn, stNil, stLoad, stAt, stField, stIndexAddr, stStore, wrAt, stAlloc, stBox, stIndex, stPart, stPartRow, stFieldV, stConv, cvS, cvB, cvI, stSlice, optN, SV.num, noMax, stArrPtr, stExtract, stLen, stBuild, A.isRow, A.isAgg, A.noRec, A.len, A.get, A.sub, A.set, A.over, Ent.bound, Kind.isStruct, Kind.isAgg, S.known, A.solid, segAt, segPut, segLen, R.a, R.len, A.r, stMake, stBuildSlice, litA, repA, rep1, fillA, putP, sing, stMin, stEqA, rowEq, Kind.isScal, -List.reduceReplicate, -List.getD_eq_getElem?_getD, tab22, ty22, tab3, ty3, ntmps21]; (repeat' apply And.intro); all_goals first | exact hK | omega))
      apply run_guard rfl rfl rfl rfl
      · intro _
        (apply Exists.intro; apply And.intro; focus (intro L K hK; simp [step1, evS, est, St.ev, St.put, St.add, St.upd, look_hit, look_miss, okd, stBin, bin, binS, binB, binI, shS, shB, S.num, constS, one, inI, stUn, stNil, stLoad, stAt, stField, stIndexAddr, stStore, wrAt, stAlloc, stBox, stIndex, stPart, stPartRow, stFieldV, stConv, cvS, cvB, cvI, stSlice, optN, SV.num, noMax, stArrPtr, stExtract, stLen, stBuild, A.isRow, A.isAgg, A.noRec, A.len, A.get, A.sub, A.set, A.over, Ent.bound, Kind.isStruct, Kind.isAgg, S.known, A.solid, segAt, segPut, segLen, R.a, R.len, A.r, stMake, stBuildSlice, litA, repA, rep1, fillA, putP, sing, stMin, stEqA, rowEq, Kind.isScal, -List.reduceReplicate, -List.getD_eq_getElem?_getD, tab22, ty22, tab3, ty3, ntmps21]; (repeat' apply And.intro); all_goals first | exact hK | omega))
        apply run_guard rfl rfl rfl rfl
        · intro _
          (apply Exists.intro; apply And.intro; focus (intro L K hK; simp [step1, evS, est, St.ev, St.put, St.add, St.upd, look_hit, look_miss, okd, stBin, bin, binS, binB, binI, shS, shB, S.num, constS, one, inI, stUn, stNil, stLoad, stAt, stField, stIndexAddr, stStore, wrAt, stAlloc, stBox, stIndex, stPart, stPartRow, stFieldV, stConv, cvS, cvB, cvI, stSlice, optN, SV.num, noMax, stArrPtr, stExtract, stLen, stBuild, A.isRow, A.isAgg, A.noRec, A.len, A.get, A.sub, A.set, A.over, Ent.bound, Kind.isStruct, Kind.isAgg, S.known, A.solid, segAt, segPut, segLen, R.a, R.len, A.r, stMake, stBuildSlice, litA, repA, rep1, fillA, putP, sing, stMin, stEqA, rowEq, Kind.isScal, -List.reduceReplicate, -List.getD_eq_getElem?_getD, tab22, ty22, tab3, ty3, ntmps21]; (repeat' apply And.intro); all_goals first | exact hK | omega))
          repeat (first
    | rw [run_ops0]
    | rw [run_seq]
    | rw [run_region]
    | rw [run_block]
    | rw [run_blk]
    | rw [run_skip]
    | (apply run_go rfl; focus (intro L K hK; simp [step1, evS, est, St.ev, St.put, St.add, St.upd, look_hit, look_miss, okd, stBin, bin, binS, binB, binI, shS, shB, S.num, constS, one, inI, stUn, stNil, stLoad, stAt, stField, stIndexAddr, stStore, wrAt, stAlloc, stBox, stIndex, stPart, stPartRow, stFieldV, stConv, cvS, cvB, cvI, stSlice, optN, SV.num, noMax, stArrPtr, stExtract, stLen, stBuild, A.isRow, A.isAgg, A.noRec, A.len, A.get, A.sub, A.set, A.over, Ent.bound, Kind.isStruct, Kind.isAgg, S.known, A.solid, segAt, segPut, segLen, R.a, R.len, A.r, stMake, stBuildSlice, litA, repA, rep1, fillA, putP, sing, stMin, stEqA, rowEq, Kind.isScal, -List.reduceReplicate, -List.getD_eq_getElem?_getD, tab22, ty22, tab3, ty3, tab4, ty4, ntmps21]; (repeat' apply And.intro); all_goals first | exact hK | omega)))
          rw [run_back]
          refine ⟨(), trivial, ?_⟩
          simp [Ent2, entSl, entM, belSl, belV, belA, belS, belR, belM, look_hit, look_miss, one, -List.getD_eq_getElem?_getD]
        · intro h; cases h
      · intro h; cases h
    · intro h
      simp at h
      obtain rfl : nk = 4 := by omega
      refine ⟨Nat.le_of_ble_eq_true rfl, ?_⟩
      simp only [St.put]
      apply run_guard rfl rfl rfl rfl
      · intro h; cases h
      intro _
      refine ⟨Nat.le_of_ble_eq_true rfl, ?_⟩
      simp only [St.put]
      apply run_guard rfl rfl rfl rfl
      · intro h; cases h
      intro _
      refine ⟨Nat.le_of_ble_eq_true rfl, ?_⟩
      simp only [St.put]
      repeat (first
    | rw [run_ops0]
    | rw [run_seq]
    | rw [run_region]
    | rw [run_block]
    | rw [run_blk]
    | rw [run_skip]
    | (apply run_go rfl; focus (intro L K hK; simp [step1, evS, est, St.ev, St.put, St.add, St.upd, look_hit, look_miss, okd, stBin, bin, binS, binB, binI, shS, shB, S.num, constS, one, inI, stUn, stNil, stLoad, stAt, stField, stIndexAddr, stStore, wrAt, stAlloc, stBox, stIndex, stPart, stPartRow, stFieldV, stConv, cvS, cvB, cvI, stSlice, optN, SV.num, noMax, stArrPtr, stExtract, stLen, stBuild, A.isRow, A.isAgg, A.noRec, A.len, A.get, A.sub, A.set, A.over, Ent.bound, Kind.isStruct, Kind.isAgg, S.known, A.solid, segAt, segPut, segLen, R.a, R.len, A.r, stMake, stBuildSlice, litA, repA, rep1, fillA, putP, sing, stMin, stEqA, rowEq, Kind.isScal, -List.reduceReplicate, -List.getD_eq_getElem?_getD, tab22, ty22, tab3, ty3, tab4, ty4, ntmps21]; (repeat' apply And.intro); all_goals first | exact hK | omega)))
      rw [run_back]
      refine ⟨(), trivial, ?_⟩
      simp [Ent2, entSl, entM, belSl, belV, belA, belS, belR, belM, look_hit, look_miss, one, -List.getD_eq_getElem?_getD]
  · intro _ _
    refine ok_run hB tabOK pureE_ok 100 ?_
    apply run_cond2 rfl
    · intro h; cases h
    intro _
    repeat (first
    | rw [run_ops0]
    | rw [run_seq]
    | rw [run_region]
    | rw [run_block]
    | rw [run_blk]
    | rw [run_skip]
    | (apply run_go rfl; focus (intro L K hK; simp [step1, evS, est, St.ev, St.put, St.add, St.upd, look_hit, look_miss, okd, stBin, bin, binS, binB, binI, shS, shB, S.num, constS, one, inI, stUn, stNil, stLoad, stAt, stField, stIndexAddr, stStore, wrAt, stAlloc, stBox, stIndex, stPart, stPartRow, stFieldV, stConv, cvS, cvB, cvI, stSlice, optN, SV.num, noMax, stArrPtr, stExtract, stLen, stBuild, A.isRow, A.isAgg, A.noRec, A.len, A.get, A.sub, A.set, A.over, Ent.bound, Kind.isStruct, Kind.isAgg, S.known, A.solid, segAt, segPut, segLen, R.a, R.len, A.r, stMake, stBuildSlice, litA, repA, rep1, fillA, putP, sing, stMin, stEqA, rowEq, Kind.isScal, -List.reduceReplicate, -List.getD_eq_getElem?_getD, tab22, ty22, tab3, ty3, tab98, ty98, ntmps21]; (repeat' apply And.intro); all_goals first | exact hK | omega)))
    rw [run_loop]
    refine ok_blank 5 99 4 (.a8 []) rfl trivial rfl ?_
    simp only [List.length_cons, List.length_nil, List.cons_append, List.nil_append]
    refine ok_loop (X := Nat × Nat) (fun x => ⟨[(7, one (.i x.1)), (6, one (.u8 (sch key nk x.1).2)), (5, one (.sl 1 0 x.1 x.2 4)), (4, one (.i nk)), (0, one (.sl 0 0 (4 * nk) cap0 1))], [.ent ⟨false, 5, none, .a8 key⟩, .ent ⟨true, 99, none, .a8 (sch key nk x.1).1⟩]⟩) (fun x => x.1 ≤ 4 * (nk + 7)) (fun x => 4 * (nk + 7) - x.1) (fun j i L h => by have := hB.anc i L h; simp at this ⊢; omega) ⟨(0, 0), by omega, by simp [Ent2, entSl, entM, belSl, belV, belA, belS, belR, belM, look_hit, look_miss, one, -List.getD_eq_getElem?_getD, sch]⟩ ?_
    rintro ⟨i, cap⟩ hi
    refine ok_run hB tabOK pureE_ok 33 ?_
    simp only at hi ⊢
    have hn0 : 0 < nk := by omega
    have hn8 : nk ≤ 8 := by omega
    have hwl := sch_lenL hk hn0 i
    repeat (first
    | rw [run_ops0]
    | rw [run_seq]
    | rw [run_region]
    | rw [run_block]
    | rw [run_blk]
    | rw [run_skip]
    | (apply run_go rfl; focus (intro L K hK; simp [step1, evS, est, St.ev, St.put, St.add, St.upd, look_hit, look_miss, okd, stBin, bin, binS, binB, binI, shS, shB, S.num, constS, one, inI, stUn, stNil, stLoad, stAt, stField, stIndexAddr, stStore, wrAt, stAlloc, stBox, stIndex, stPart, stPartRow, stFieldV, stConv, cvS, cvB, cvI, stSlice, optN, SV.num, noMax, stArrPtr, stExtract, stLen, stBuild, A.isRow, A.isAgg, A.noRec, A.len, A.get, A.sub, A.set, A.over, Ent.bound, Kind.isStruct, Kind.isAgg, S.known, A.solid, segAt, segPut, segLen, R.a, R.len, A.r, stMake, stBuildSlice, litA, repA, rep1, fillA, putP, sing, stMin, stEqA, rowEq, Kind.isScal, -List.reduceReplicate, -List.getD_eq_getElem?_getD, tab3, ty3, ntmps21]; (repeat' apply And.intro); all_goals first | exact hK | omega)))
    apply run_cond2 rfl
    · intro h
      simp at h
      repeat (first
    | rw [run_ops0]
    | rw [run_seq]
    | rw [run_region]
    | rw [run_block]
    | rw [run_blk]
    | rw [run_skip]
    | (apply run_go rfl; focus (intro L K hK; simp [step1, evS, est, St.ev, St.put, St.add, St.upd, look_hit, look_miss, okd, stBin, bin, binS, binB, binI, shS, shB, S.num, constS, one, inI, stUn, stNil, stLoad, stAt, stField, stIndexAddr, stStore, wrAt, stAlloc, stBox, stIndex, stPart, stPartRow, stFieldV, stConv, cvS, cvB, cvI, stSlice, optN, SV.num, noMax, stArrPtr, stExtract, stLen, stBuild, A.isRow, A.isAgg, A.noRec, A.len, A.get, A.sub, A.set, A.over, Ent.bound, Kind.isStruct, Kind.isAgg, S.known, A.solid, segAt, segPut, segLen, R.a, R.len, A.r, stMake, stBuildSlice, litA, repA, rep1, fillA, putP, sing, stMin, stEqA, rowEq, Kind.isScal, -List.reduceReplicate, -List.getD_eq_getElem?_getD, tab3, ty3, ntmps21]; (repeat' apply And.intro); all_goals first | exact hK | omega)))
      apply run_cond2 rfl
      · intro h2
        simp at h2
        have e4 : (4 * (i : Int)).toNat = 4 * i := by omega
        have hx : ((key.drop (4 * i)).take 4).length = 4 := by simp; omega
        have hsn : sch key nk (i + 1) = ((sch key nk i).1 ++ (key.drop (4 * i)).take 4, (sch key nk i).2) := by rw [sch, if_pos h2]
        generalize hx0 : (key.drop (4 * i)).take 4 = x at hx hsn ⊢
        generalize sch key nk i = sc at hwl hsn ⊢
        obtain ⟨W, c⟩ := sc
        simp only at hwl hsn ⊢
        have hk4 : ¬ key.length = 4 := by omega
        repeat (first
    | rw [run_ops0]
    | rw [run_seq]
    | rw [run_region]
    | rw [run_block]
    | rw [run_blk]
    | rw [run_skip]
    | (apply run_go rfl; focus (intro L K hK; simp [step1, evS, est, St.ev, St.put, St.add, St.upd, look_hit, look_miss, okd, stBin, bin, binS, binB, binI, shS, shB, S.num, constS, one, inI, stUn, stNil, stLoad, stAt, stField, stIndexAddr, stStore, wrAt, stAlloc, stBox, stIndex, stPart, stPartRow, stFieldV, stConv, cvS, cvB, cvI, stSlice, optN, SV.num, noMax, stArrPtr, stExtract, stLen, stBuild, A.isRow, A.isAgg, A.noRec, A.len, A.get, A.sub, A.set, A.over, Ent.bound, Kind.isStruct, Kind.isAgg, S.known, A.solid, segAt, segPut, segLen, R.a, R.len, A.r, stMake, stBuildSlice, litA, repA, rep1, fillA, putP, sing, stMin, stEqA, rowEq, Kind.isScal, -List.reduceReplicate, -List.getD_eq_getElem?_getD, tab3, ty3, tab22, ty22, tab5, ty5, tab99, ty99, tab98, ty98, ntmps21, e4, hk4, hx0, hx]; (repeat' apply And.intro); all_goals first | exact hK | omega)))
        try (rw [run_zero]; refine ok_run hB tabOK pureE_ok 100 ?_)
        repeat (first
    | rw [run_ops0]
    | rw [run_seq]
    | rw [run_region]
    | rw [run_block]
    | rw [run_blk]
    | rw [run_skip]
    | (apply run_go rfl; focus (intro L K hK; simp [step1, evS, est, St.ev, St.put, St.add, St.upd, look_hit, look_miss, okd, stBin, bin, binS, binB, binI, shS, shB, S.num, constS, one, inI, stUn, stNil, stLoad, stAt, stField, stIndexAddr, stStore, wrAt, stAlloc, stBox, stIndex, stPart, stPartRow, stFieldV, stConv, cvS, cvB, cvI, stSlice, optN, SV.num, noMax, stArrPtr, stExtract, stLen, stBuild, A.isRow, A.isAgg, A.noRec, A.len, A.get, A.sub, A.set, A.over, Ent.bound, Kind.isStruct, Kind.isAgg, S.known, A.solid, segAt, segPut, segLen, R.a, R.len, A.r, stMake, stBuildSlice, litA, repA, rep1, fillA, putP, sing, stMin, stEqA, rowEq, Kind.isScal, -List.reduceReplicate, -List.getD_eq_getElem?_getD, tab3, ty3, tab22, ty22, tab5, ty5, tab99, ty99, tab98, ty98, ntmps21, e4, hk4, hx0, hx]; (repeat' apply And.intro); all_goals first | exact hK | omega)))
        (apply run_app rfl; focus (intro L K hK; simp [step1, evS, est, St.ev, St.put, St.add, St.upd, look_hit, look_miss, okd, stBin, bin, binS, binB, binI, shS, shB, S.num, constS, one, inI, stUn, stNil, stLoad, stAt, stField, stIndexAddr, stStore, wrAt, stAlloc, stBox, stIndex, stPart, stPartRow, stFieldV, stConv, cvS, cvB, cvI, stSlice, optN, SV.num, noMax, stArrPtr, stExtract, stLen, stBuild, A.isRow, A.isAgg, A.noRec, A.len, A.get, A.sub, A.set, A.over, Ent.bound, Kind.isStruct, Kind.isAgg, S.known, A.solid, segAt, segPut, segLen, R.a, R.len, A.r, stMake, stBuildSlice, litA, repA, rep1, fillA, putP, sing, stMin, stEqA, rowEq, Kind.isScal, -List.reduceReplicate, -List.getD_eq_getElem?_getD, stAppend, srcRow, SrcTy, A.cat, killSl, killV, killA, killS, killE, killSeg, killR, tab98, ty98, tab99, ty99, ntmps21, hwl, hx]; (repeat' apply And.intro); all_goals first | exact hK | omega | (intro cap hcap; exact hK cap hcap)))
        intro cap2 hcap2
        repeat (first
    | rw [run_ops0]
    | rw [run_seq]
    | rw [run_region]
    | rw [run_block]
    | rw [run_blk]
    | rw [run_skip]
    | (apply run_go rfl; focus (intro L K hK; simp [step1, evS, est, St.ev, St.put, St.add, St.upd, look_hit, look_miss, okd, stBin, bin, binS, binB, binI, shS, shB, S.num, constS, one, inI, stUn, stNil, stLoad, stAt, stField, stIndexAddr, stStore, wrAt, stAlloc, stBox, stIndex, stPart, stPartRow, stFieldV, stConv, cvS, cvB, cvI, stSlice, optN, SV.num, noMax, stArrPtr, stExtract, stLen, stBuild, A.isRow, A.isAgg, A.noRec, A.len, A.get, A.sub, A.set, A.over, Ent.bound, Kind.isStruct, Kind.isAgg, S.known, A.solid, segAt, segPut, segLen, R.a, R.len, A.r, stMake, stBuildSlice, litA, repA, rep1, fillA, putP, sing, stMin, stEqA, rowEq, Kind.isScal, -List.reduceReplicate, -List.getD_eq_getElem?_getD, tab3, ty3, tab98, ty98, ntmps21]; (repeat' apply And.intro); all_goals first | exact hK | omega)))
        try (rw [run_zero]; refine ok_run hB tabOK pureE_ok 100 ?_)
        repeat (first
    | rw [run_ops0]
    | rw [run_seq]
    | rw [run_region]
    | rw [run_block]
    | rw [run_blk]
    | rw [run_skip]
    | (apply run_go rfl; focus (intro L K hK; simp [step1, evS, est, St.ev, St.put, St.add, St.upd, look_hit, look_miss, okd, stBin, bin, binS, binB, binI, shS, shB, S.num, constS, one, inI, stUn, stNil, stLoad, stAt, stField, stIndexAddr, stStore, wrAt, stAlloc, stBox, stIndex, stPart, stPartRow, stFieldV, stConv, cvS, cvB, cvI, stSlice, optN, SV.num, noMax, stArrPtr, stExtract, stLen, stBuild, A.isRow, A.isAgg, A.noRec, A.len, A.get, A.sub, A.set, A.over, Ent.bound, Kind.isStruct, Kind.isAgg, S.known, A.solid, segAt, segPut, segLen, R.a, R.len, A.r, stMake, stBuildSlice, litA, repA, rep1, fillA, putP, sing, stMin, stEqA, rowEq, Kind.isScal, -List.reduceReplicate, -List.getD_eq_getElem?_getD, tab3, ty3, tab98, ty98, ntmps21]; (repeat' apply And.intro); all_goals first | exact hK | omega)))
        apply run_exit2 rfl
        repeat (first
    | rw [run_ops0]
    | rw [run_seq]
    | rw [run_region]
    | rw [run_block]
    | rw [run_blk]
    | rw [run_skip]
    | (apply run_go rfl; focus (intro L K hK; simp [step1, evS, est, St.ev, St.put, St.add, St.upd, look_hit, look_miss, okd, stBin, bin, binS, binB, binI, shS, shB, S.num, constS, one, inI, stUn, stNil, stLoad, stAt, stField, stIndexAddr, stStore, wrAt, stAlloc, stBox, stIndex, stPart, stPartRow, stFieldV, stConv, cvS, cvB, cvI, stSlice, optN, SV.num, noMax, stArrPtr, stExtract, stLen, stBuild, A.isRow, A.isAgg, A.noRec, A.len, A.get, A.sub, A.set, A.over, Ent.bound, Kind.isStruct, Kind.isAgg, S.known, A.solid, segAt, segPut, segLen, R.a, R.len, A.r, stMake, stBuildSlice, litA, repA, rep1, fillA, putP, sing, stMin, stEqA, rowEq, Kind.isScal, -List.reduceReplicate, -List.getD_eq_getElem?_getD, tab3, ty3, tab98, ty98, ntmps21]; (repeat' apply And.intro); all_goals first | exact hK | omega)))
        try (rw [run_zero]; refine ok_run hB tabOK pureE_ok 100 ?_)
        repeat (first
    | rw [run_ops0]
    | rw [run_seq]
    | rw [run_region]
    | rw [run_block]
    | rw [run_blk]
    | rw [run_skip]
    | (apply run_go rfl; focus (intro L K hK; simp [step1, evS, est, St.ev, St.put, St.add, St.upd, look_hit, look_miss, okd, stBin, bin, binS, binB, binI, shS, shB, S.num, constS, one, inI, stUn, stNil, stLoad, stAt, stField, stIndexAddr, stStore, wrAt, stAlloc, stBox, stIndex, stPart, stPartRow, stFieldV, stConv, cvS, cvB, cvI, stSlice, optN, SV.num, noMax, stArrPtr, stExtract, stLen, stBuild, A.isRow, A.isAgg, A.noRec, A.len, A.get, A.sub, A.set, A.over, Ent.bound, Kind.isStruct, Kind.isAgg, S.known, A.solid, segAt, segPut, segLen, R.a, R.len, A.r, stMake, stBuildSlice, litA, repA, rep1, fillA, putP, sing, stMin, stEqA, rowEq, Kind.isScal, -List.reduceReplicate, -List.getD_eq_getElem?_getD, tab3, ty3, tab98, ty98, ntmps21]; (repeat' apply And.intro); all_goals first | exact hK | omega)))
        rw [run_back]
        refine ⟨(i + 1, cap2), by simp only; omega, by simp only; omega, ?_⟩
        rw [hsn]
        simp [Ent2, entSl, entM, belSl, belV, belA, belS, belR, belM, look_hit, look_miss, one, -List.getD_eq_getElem?_getD, killA]
        exact List.take_of_length_le (by omega)
      · intro h2
        simp at h2
        have tm : (i : Int).tmod nk = ((i % nk : Nat) : Int) := rfl
        have e1 : ((i : Int) - 1).toNat = i - 1 := by omega
        have hx : (((sch key nk i).1.drop ((i - 1) * 4)).take 4).length = 4 := by simp [hwl]; omega
        have h4i : ¬ 4 * i = 4 := by omega
        have h1i : ¬ i = 1 := by omega
        repeat (first
    | rw [run_ops0]
    | rw [run_seq]
    | rw [run_region]
    | rw [run_block]
    | rw [run_blk]
    | rw [run_skip]
    | (apply run_go rfl; focus (intro L K hK; simp [step1, evS, est, St.ev, St.put, St.add, St.upd, look_hit, look_miss, okd, stBin, bin, binS, binB, binI, shS, shB, S.num, constS, one, inI, stUn, stNil, stLoad, stAt, stField, stIndexAddr, stStore, wrAt, stAlloc, stBox, stIndex, stPart, stPartRow, stFieldV, stConv, cvS, cvB, cvI, stSlice, optN, SV.num, noMax, stArrPtr, stExtract, stLen, stBuild, A.isRow, A.isAgg, A.noRec, A.len, A.get, A.sub, A.set, A.over, Ent.bound, Kind.isStruct, Kind.isAgg, S.known, A.solid, segAt, segPut, segLen, R.a, R.len, A.r, stMake, stBuildSlice, litA, repA, rep1, fillA, putP, sing, stMin, stEqA, rowEq, Kind.isScal, -List.reduceReplicate, -List.getD_eq_getElem?_getD, tab3, ty3, tab5, ty5, tab99, ty99, tab98, ty98, ntmps21, e1, hwl, hx, h4i, h1i]; (repeat' apply And.intro); all_goals first | exact hK | omega)))
        rw [run_zero]
        have hs1 : (sch key nk (i + 1)).1 = (sch key nk i).1 ++ xorO (schT nk i (sch key nk i).2 (((sch key nk i).1.drop ((i - 1) * 4)).take 4)) (sch key nk i).1 ((i - nk) * 4) 4 := by rw [sch, if_neg (by omega)]
        have hs2 : (sch key nk (i + 1)).2 = if i % nk = 0 then twice8 (sch key nk i).2 else (sch key nk i).2 := by rw [sch, if_neg (by omega)]
        generalize ((sch key nk i).1.drop ((i - 1) * 4)).take 4 = t at hx hs1 ⊢
        generalize (sch key nk i).1 = W at hwl hs1 ⊢
        generalize (sch key nk i).2 = c at hs1 hs2 ⊢
        have hn0' : ¬ nk = 0 := by omega
        refine ok_join (X := Unit) (fun _ => ⟨[(8, one (.ptr 2 0 0)), (7, one (.i i)), (6, one (.u8 (if i % nk = 0 then twice8 c else c))), (5, one (.sl 1 0 i cap 4)), (4, one (.i nk)), (0, one (.sl 0 0 (4 * nk) cap0 1))], [.ent ⟨false, 5, none, .a8 key⟩, .ent ⟨true, 99, none, .a8 W⟩, .ent ⟨true, 99, some 4, .a8 (schT nk i c t)⟩]⟩) (fun _ => True) (fun j i L h => by have := hB.anc i L h; simp at this ⊢; omega) ?_ ?_
        · refine ok_run hB tabOK pureE_ok 100 ?_
          have hbx := boxL_len
          repeat (first
    | rw [run_ops0]
    | rw [run_seq]
    | rw [run_region]
    | rw [run_block]
    | rw [run_blk]
    | rw [run_skip]
    | (apply run_go rfl; focus (intro L K hK; simp [step1, evS, est, St.ev, St.put, St.add, St.upd, look_hit, look_miss, okd, stBin, bin, binS, binB, binI, shS, shB, S.num, constS, one, inI, stUn, stNil, stLoad, stAt, stField, stIndexAddr, stStore, wrAt, stAlloc, stBox, stIndex, stPart, stPartRow, stFieldV, stConv, cvS, cvB, cvI, stSlice, optN, SV.num, noMax, stArrPtr, stExtract, stLen, stBuild, A.isRow, A.isAgg, A.noRec, A.len, A.get, A.sub, A.set, A.over, Ent.bound, Kind.isStruct, Kind.isAgg, S.known, A.solid, segAt, segPut, segLen, R.a, R.len, A.r, stMake, stBuildSlice, litA, repA, rep1, fillA, putP, sing, stMin, stEqA, rowEq, Kind.isScal, -List.reduceReplicate, -List.getD_eq_getElem?_getD, tab3, ty3, ntmps21, tm, hn0']; (repeat' apply And.intro); all_goals first | exact hK | omega)))
          apply run_cond2 rfl
          · intro h3
            simp at h3
            have h3' : i % nk = 0 := by first | exact h3 | omega
            repeat (first
    | rw [run_ops0]
    | rw [run_seq]
    | rw [run_region]
    | rw [run_block]
    | rw [run_blk]
    | rw [run_skip]
    | (apply run_go rfl; focus (intro L K hK; simp [step1, evS, est, St.ev, St.put, St.add, St.upd, look_hit, look_miss, okd, stBin, bin, binS, binB, binI, shS, shB, S.num, constS, one, inI, stUn, stNil, stLoad, stAt, stField, stIndexAddr, stStore, wrAt, stAlloc, stBox, stIndex, stPart, stPartRow, stFieldV, stConv, cvS, cvB, cvI, stSlice, optN, SV.num, noMax, stArrPtr, stExtract, stLen, stBuild, A.isRow, A.isAgg, A.noRec, A.len, A.get, A.sub, A.set, A.over, Ent.bound, Kind.isStruct, Kind.isAgg, S.known, A.solid, segAt, segPut, segLen, R.a, R.len, A.r, stMake, stBuildSlice, litA, repA, rep1, fillA, putP, sing, stMin, stEqA, rowEq, Kind.isScal, -List.reduceReplicate, -List.getD_eq_getElem?_getD, tab3, ty3, ntmps21]; (repeat' apply And.intro); all_goals first | exact hK | omega)))
            rw [run_draw]
            refine ok_draw2 18 tabOK pureE_ok (pureOf_mono _) mixed (by decide +kernel) rfl rfl ?_
            repeat (first
    | (apply hd_go rfl rfl rfl rfl (Nat.le_of_ble_eq_true rfl); focus (intro K' hK; simp [step1, evS, est, St.ev, St.put, St.add, St.upd, look_hit, look_miss, okd, stBin, bin, binS, binB, binI, shS, shB, S.num, constS, one, inI, stUn, stNil, stLoad, stAt, stField, stIndexAddr, stStore, wrAt, stAlloc, stBox, stIndex, stPart, stPartRow, stFieldV, stConv, cvS, cvB, cvI, stSlice, optN, SV.num, noMax, stArrPtr, stExtract, stLen, stBuild, A.isRow, A.isAgg, A.noRec, A.len, A.get, A.sub, A.set, A.over, Ent.bound, Kind.isStruct, Kind.isAgg, S.known, A.solid, segAt, segPut, segLen, R.a, R.len, A.r, stMake, stBuildSlice, litA, repA, rep1, fillA, putP, sing, stMin, stEqA, rowEq, Kind.isScal, -List.reduceReplicate, -List.getD_eq_getElem?_getD, tab3, ty3, tab5, ty5, tab99, ty99, tab100, ty100, hx, hbx, hlt, pureOf, pureE]; (repeat' apply And.intro); all_goals first | exact hK | omega))
    | (apply hd_new rfl rfl rfl rfl (Nat.le_of_ble_eq_true rfl); focus (intro K' hK; simp [step1, evS, est, St.ev, St.put, St.add, St.upd, look_hit, look_miss, okd, stBin, bin, binS, binB, binI, shS, shB, S.num, constS, one, inI, stUn, stNil, stLoad, stAt, stField, stIndexAddr, stStore, wrAt, stAlloc, stBox, stIndex, stPart, stPartRow, stFieldV, stConv, cvS, cvB, cvI, stSlice, optN, SV.num, noMax, stArrPtr, stExtract, stLen, stBuild, A.isRow, A.isAgg, A.noRec, A.len, A.get, A.sub, A.set, A.over, Ent.bound, Kind.isStruct, Kind.isAgg, S.known, A.solid, segAt, segPut, segLen, R.a, R.len, A.r, stMake, stBuildSlice, litA, repA, rep1, fillA, putP, sing, stMin, stEqA, rowEq, Kind.isScal, -List.reduceReplicate, -List.getD_eq_getElem?_getD, tab3, ty3, tab5, ty5, tab99, ty99, tab100, ty100, hx, hbx, hlt, pureOf, pureE]; (repeat' apply And.intro); all_goals first | exact hK | omega)))
            refine hd_nil ?_
            simp only [List.map_nil, List.append_nil]
            refine ok_run hB tabOK pureE_ok 100 ?_
            repeat (first
    | rw [run_ops0]
    | rw [run_seq]
    | rw [run_region]
    | rw [run_block]
    | rw [run_blk]
    | rw [run_skip]
    | (apply run_go rfl; focus (intro L K hK; simp [step1, evS, est, St.ev, St.put, St.add, St.upd, look_hit, look_miss, okd, stBin, bin, binS, binB, binI, shS, shB, S.num, constS, one, inI, stUn, stNil, stLoad, stAt, stField, stIndexAddr, stStore, wrAt, stAlloc, stBox, stIndex, stPart, stPartRow, stFieldV, stConv, cvS, cvB, cvI, stSlice, optN, SV.num, noMax, stArrPtr, stExtract, stLen, stBuild, A.isRow, A.isAgg, A.noRec, A.len, A.get, A.sub, A.set, A.over, Ent.bound, Kind.isStruct, Kind.isAgg, S.known, A.solid, segAt, segPut, segLen, R.a, R.len, A.r, stMake, stBuildSlice, litA, repA, rep1, fillA, putP, sing, stMin, stEqA, rowEq, Kind.isScal, -List.reduceReplicate, -List.getD_eq_getElem?_getD, tab3, ty3, tab5, ty5, tab99, ty99, ntmps21, hx, pureOf, pureE]; (repeat' apply And.intro); all_goals first | exact hK | omega)))
            rw [run_back]
            refine ⟨(), trivial, ?_⟩
            simp [Ent2, entSl, entM, belSl, belV, belA, belS, belR, belM, look_hit, look_miss, one, -List.getD_eq_getElem?_getD, schT, h3', rotS, boxOf, twice8]
          · intro h3
            simp at h3
            have h3' : ¬ i % nk = 0 := by first | exact h3 | omega
            rcases hnk with rfl | rfl
            · repeat (first
    | rw [run_ops0]
    | rw [run_seq]
    | rw [run_region]
    | rw [run_block]
    | rw [run_blk]
    | rw [run_skip]
    | (apply run_go rfl; focus (intro L K hK; simp [step1, evS, est, St.ev, St.put, St.add, St.upd, look_hit, look_miss, okd, stBin, bin, binS, binB, binI, shS, shB, S.num, constS, one, inI, stUn, stNil, stLoad, stAt, stField, stIndexAddr, stStore, wrAt, stAlloc, stBox, stIndex, stPart, stPartRow, stFieldV, stConv, cvS, cvB, cvI, stSlice, optN, SV.num, noMax, stArrPtr, stExtract, stLen, stBuild, A.isRow, A.isAgg, A.noRec, A.len, A.get, A.sub, A.set, A.over, Ent.bound, Kind.isStruct, Kind.isAgg, S.known, A.solid, segAt, segPut, segLen, R.a, R.len, A.r, stMake, stBuildSlice, litA, repA, rep1, fillA, putP, sing, stMin, stEqA, rowEq, Kind.isScal, -List.reduceReplicate, -List.getD_eq_getElem?_getD, tab3, ty3, tab4, ty4, ntmps21]; (repeat' apply And.intro); all_goals first | exact hK | omega)))
              apply run_guard rfl rfl rfl rfl
              · intro h; cases h
              intro _
              refine ⟨Nat.le_of_ble_eq_true rfl, ?_⟩
              simp only [St.put]
              apply run_guard rfl rfl rfl rfl
              · intro h; cases h
              intro _
              refine ⟨Nat.le_of_ble_eq_true rfl, ?_⟩
              simp only [St.put]
              apply run_guard rfl rfl rfl rfl
              · intro h; cases h
              intro _
              refine ⟨Nat.le_of_ble_eq_true rfl, ?_⟩
              simp only [St.put]
              apply run_guard rfl rfl rfl rfl
              · intro h; cases h
              intro _
              refine ⟨Nat.le_of_ble_eq_true rfl, ?_⟩
              simp only [St.put]
              repeat (first
    | rw [run_ops0]
    | rw [run_seq]
    | rw [run_region]
    | rw [run_block]
    | rw [run_blk]
    | rw [run_skip]
    | (apply run_go rfl; focus (intro L K hK; simp [step1, evS, est, St.ev, St.put, St.add, St.upd, look_hit, look_miss, okd, stBin, bin, binS, binB, binI, shS, shB, S.num, constS, one, inI, stUn, stNil, stLoad, stAt, stField, stIndexAddr, stStore, wrAt, stAlloc, stBox, stIndex, stPart, stPartRow, stFieldV, stConv, cvS, cvB, cvI, stSlice, optN, SV.num, noMax, stArrPtr, stExtract, stLen, stBuild, A.isRow, A.isAgg, A.noRec, A.len, A.get, A.sub, A.set, A.over, Ent.bound, Kind.isStruct, Kind.isAgg, S.known, A.solid, segAt, segPut, segLen, R.a, R.len, A.r, stMake, stBuildSlice, litA, repA, rep1, fillA, putP, sing, stMin, stEqA, rowEq, Kind.isScal, -List.reduceReplicate, -List.getD_eq_getElem?_getD, tab3, ty3, tab4, ty4, ntmps21]; (repeat' apply And.intro); all_goals first | exact hK | omega)))
              apply run_cond2 rfl
              · intro h; cases h
              intro _
              repeat (first
    | rw [run_ops0]
    | rw [run_seq]
    | rw [run_region]
    | rw [run_block]
    | rw [run_blk]
    | rw [run_skip]
    | (apply run_go rfl; focus (intro L K hK; simp [step1, evS, est, St.ev, St.put, St.add, St.upd, look_hit, look_miss, okd, stBin, bin, binS, binB, binI, shS, shB, S.num, constS, one, inI, stUn, stNil, stLoad, stAt, stField, stIndexAddr, stStore, wrAt, stAlloc, stBox, stIndex, stPart, stPartRow, stFieldV, stConv, cvS, cvB, cvI, stSlice, optN, SV.num, noMax, stArrPtr, stExtract, stLen, stBuild, A.isRow, A.isAgg, A.noRec, A.len, A.get, A.sub, A.set, A.over, Ent.bound, Kind.isStruct, Kind.isAgg, S.known, A.solid, segAt, segPut, segLen, R.a, R.len, A.r, stMake, stBuildSlice, litA, repA, rep1, fillA, putP, sing, stMin, stEqA, rowEq, Kind.isScal, -List.reduceReplicate, -List.getD_eq_getElem?_getD, tab3, ty3, tab4, ty4, ntmps21]; (repeat' apply And.intro); all_goals first | exact hK | omega)))
              rw [run_back]
              refine ⟨(), trivial, ?_⟩
              simp [Ent2, entSl, entM, belSl, belV, belA, belS, belR, belM, look_hit, look_miss, one, -List.getD_eq_getElem?_getD, schT, h3']
            · have tm8 : (i : Int).tmod 8 = ((i % 8 : Nat) : Int) := rfl
              repeat (first
    | rw [run_ops0]
    | rw [run_seq]
    | rw [run_region]
    | rw [run_block]
    | rw [run_blk]
    | rw [run_skip]
    | (apply run_go rfl; focus (intro L K hK; simp [step1, evS, est, St.ev, St.put, St.add, St.upd, look_hit, look_miss, okd, stBin, bin, binS, binB, binI, shS, shB, S.num, constS, one, inI, stUn, stNil, stLoad, stAt, stField, stIndexAddr, stStore, wrAt, stAlloc, stBox, stIndex, stPart, stPartRow, stFieldV, stConv, cvS, cvB, cvI, stSlice, optN, SV.num, noMax, stArrPtr, stExtract, stLen, stBuild, A.isRow, A.isAgg, A.noRec, A.len, A.get, A.sub, A.set, A.over, Ent.bound, Kind.isStruct, Kind.isAgg, S.known, A.solid, segAt, segPut, segLen, R.a, R.len, A.r, stMake, stBuildSlice, litA, repA, rep1, fillA, putP, sing, stMin, stEqA, rowEq, Kind.isScal, -List.reduceReplicate, -List.getD_eq_getElem?_getD, tab3, ty3, tab4, ty4, ntmps21]; (repeat' apply And.intro); all_goals first | exact hK | omega)))
              apply run_guard rfl rfl rfl rfl
              · intro _
                (apply Exists.intro; apply And.intro; focus (intro L K hK; simp [step1, evS, est, St.ev, St.put, St.add, St.upd, look_hit, look_miss, okd, stBin, bin, binS, binB, binI, shS, shB, S.num, constS, one, inI, stUn, stNil, stLoad, stAt, stField, stIndexAddr, stStore, wrAt, stAlloc, stBox, stIndex, stPart, stPartRow, stFieldV, stConv, cvS, cvB, cvI, stSlice, optN, SV.num, noMax, stArrPtr, stExtract, stLen, stBuild, A.isRow, A.isAgg, A.noRec, A.len, A.get, A.sub, A.set, A.over, Ent.bound, Kind.isStruct, Kind.isAgg, S.known, A.solid, segAt, segPut, segLen, R.a, R.len, A.r, stMake, stBuildSlice, litA, repA, rep1, fillA, putP, sing, stMin, stEqA, rowEq, Kind.isScal, -List.reduceReplicate, -List.getD_eq_getElem?_getD, tab3, ty3, tab4, ty4, ntmps21, tm8]; (repeat' apply And.intro); all_goals first | exact hK | omega))
                apply run_guard rfl rfl rfl rfl
                · intro _
                  (apply Exists.intro; apply And.intro; focus (intro L K hK; simp [step1, evS, est, St.ev, St.put, St.add, St.upd, look_hit, look_miss, okd, stBin, bin, binS, binB, binI, shS, shB, S.num, constS, one, inI, stUn, stNil, stLoad, stAt, stField, stIndexAddr, stStore, wrAt, stAlloc, stBox, stIndex, stPart, stPartRow, stFieldV, stConv, cvS, cvB, cvI, stSlice, optN, SV.num, noMax, stArrPtr, stExtract, stLen, stBuild, A.isRow, A.isAgg, A.noRec, A.len, A.get, A.sub, A.set, A.over, Ent.bound, Kind.isStruct, Kind.isAgg, S.known, A.solid, segAt, segPut, segLen, R.a, R.len, A.r, stMake, stBuildSlice, litA, repA, rep1, fillA, putP, sing, stMin, stEqA, rowEq, Kind.isScal, -List.reduceReplicate, -List.getD_eq_getElem?_getD, tab3, ty3, tab4, ty4, ntmps21, tm8]; (repeat' apply And.intro); all_goals first | exact hK | omega))
                  apply run_guard rfl rfl rfl rfl
                  · intro _
                    (apply Exists.intro; apply And.intro; focus (intro L K hK; simp [step1, evS, est, St.ev, St.put, St.add, St.upd, look_hit, look_miss, okd, stBin, bin, binS, binB, binI, shS, shB, S.num, constS, one, inI, stUn, stNil, stLoad, stAt, stField, stIndexAddr, stStore, wrAt, stAlloc, stBox, stIndex, stPart, stPartRow, stFieldV, stConv, cvS, cvB, cvI, stSlice, optN, SV.num, noMax, stArrPtr, stExtract, stLen, stBuild, A.isRow, A.isAgg, A.noRec, A.len, A.get, A.sub, A.set, A.over, Ent.bound, Kind.isStruct, Kind.isAgg, S.known, A.solid, segAt, segPut, segLen, R.a, R.len, A.r, stMake, stBuildSlice, litA, repA, rep1, fillA, putP, sing, stMin, stEqA, rowEq, Kind.isScal, -List.reduceReplicate, -List.getD_eq_getElem?_getD, tab3, ty3, tab4, ty4, ntmps21, tm8]; (repeat' apply And.intro); all_goals first | exact hK | omega))
                    apply run_guard rfl rfl rfl rfl
                    · intro _
                      (apply Exists.intro; apply And.intro; focus (intro L K hK; simp [step1, evS, est, St.ev, St.put, St.add, St.upd, look_hit, look_miss, okd, stBin, bin, binS, binB, binI, shS, shB, S.num, constS, one, inI, stUn, stNil, stLoad, stAt, stField, stIndexAddr, stStore, wrAt, stAlloc, stBox, stIndex, stPart, stPartRow, stFieldV, stConv, cvS, cvB, cvI, stSlice, optN, SV.num, noMax, stArrPtr, stExtract, stLen, stBuild, A.isRow, A.isAgg, A.noRec, A.len, A.get, A.sub, A.set, A.over, Ent.bound, Kind.isStruct, Kind.isAgg, S.known, A.solid, segAt, segPut, segLen, R.a, R.len, A.r, stMake, stBuildSlice, litA, repA, rep1, fillA, putP, sing, stMin, stEqA, rowEq, Kind.isScal, -List.reduceReplicate, -List.getD_eq_getElem?_getD, tab3, ty3, tab4, ty4, ntmps21, tm8]; (repeat' apply And.intro); all_goals first | exact hK | omega))
                      repeat (first
    | rw [run_ops0]
    | rw [run_seq]
    | rw [run_region]
    | rw [run_block]
    | rw [run_blk]
    | rw [run_skip]
    | (apply run_go rfl; focus (intro L K hK; simp [step1, evS, est, St.ev, St.put, St.add, St.upd, look_hit, look_miss, okd, stBin, bin, binS, binB, binI, shS, shB, S.num, constS, one, inI, stUn, stNil, stLoad, stAt, stField, stIndexAddr, stStore, wrAt, stAlloc, stBox, stIndex, stPart, stPartRow, stFieldV, stConv, cvS, cvB, cvI, stSlice, optN, SV.num, noMax, stArrPtr, stExtract, stLen, stBuild, A.isRow, A.isAgg, A.noRec, A.len, A.get, A.sub, A.set, A.over, Ent.bound, Kind.isStruct, Kind.isAgg, S.known, A.solid, segAt, segPut, segLen, R.a, R.len, A.r, stMake, stBuildSlice, litA, repA, rep1, fillA, putP, sing, stMin, stEqA, rowEq, Kind.isScal, -List.reduceReplicate, -List.getD_eq_getElem?_getD, tab3, ty3, tab4, ty4, ntmps21]; (repeat' apply And.intro); all_goals first | exact hK | omega)))
                      apply run_cond2 rfl
                      · intro h4
                        simp at h4
                        have h4' : i % 8 = 4 := by omega
                        rw [run_draw]
                        refine ok_draw2 16 tabOK pureE_ok (pureOf_mono _) mixed (by decide +kernel) rfl rfl ?_
                        repeat (first
    | (apply hd_go rfl rfl rfl rfl (Nat.le_of_ble_eq_true rfl); focus (intro K' hK; simp [step1, evS, est, St.ev, St.put, St.add, St.upd, look_hit, look_miss, okd, stBin, bin, binS, binB, binI, shS, shB, S.num, constS, one, inI, stUn, stNil, stLoad, stAt, stField, stIndexAddr, stStore, wrAt, stAlloc, stBox, stIndex, stPart, stPartRow, stFieldV, stConv, cvS, cvB, cvI, stSlice, optN, SV.num, noMax, stArrPtr, stExtract, stLen, stBuild, A.isRow, A.isAgg, A.noRec, A.len, A.get, A.sub, A.set, A.over, Ent.bound, Kind.isStruct, Kind.isAgg, S.known, A.solid, segAt, segPut, segLen, R.a, R.len, A.r, stMake, stBuildSlice, litA, repA, rep1, fillA, putP, sing, stMin, stEqA, rowEq, Kind.isScal, -List.reduceReplicate, -List.getD_eq_getElem?_getD, tab3, ty3, tab5, ty5, tab99, ty99, tab100, ty100, hx, hbx, hlt, pureOf, pureE]; (repeat' apply And.intro); all_goals first | exact hK | omega))
    | (apply hd_new rfl rfl rfl rfl (Nat.le_of_ble_eq_true rfl); focus (intro K' hK; simp [step1, evS, est, St.ev, St.put, St.add, St.upd, look_hit, look_miss, okd, stBin, bin, binS, binB, binI, shS, shB, S.num, constS, one, inI, stUn, stNil, stLoad, stAt, stField, stIndexAddr, stStore, wrAt, stAlloc, stBox, stIndex, stPart, stPartRow, stFieldV, stConv, cvS, cvB, cvI, stSlice, optN, SV.num, noMax, stArrPtr, stExtract, stLen, stBuild, A.isRow, A.isAgg, A.noRec, A.len, A.get, A.sub, A.set, A.over, Ent.bound, Kind.isStruct, Kind.isAgg, S.known, A.solid, segAt, segPut, segLen, R.a, R.len, A.r, stMake, stBuildSlice, litA, repA, rep1, fillA, putP, sing, stMin, stEqA, rowEq, Kind.isScal, -List.reduceReplicate, -List.getD_eq_getElem?_getD, tab3, ty3, tab5, ty5, tab99, ty99, tab100, ty100, hx, hbx, hlt, pureOf, pureE]; (repeat' apply And.intro); all_goals first | exact hK | omega)))
                        refine hd_nil ?_
                        simp only [List.map_nil, List.append_nil]
                        refine ok_run hB tabOK pureE_ok 100 ?_
                        repeat (first
    | rw [run_ops0]
    | rw [run_seq]
    | rw [run_region]
    | rw [run_block]
    | rw [run_blk]
    | rw [run_skip]
    | (apply run_go rfl; focus (intro L K hK; simp [step1, evS, est, St.ev, St.put, St.add, St.upd, look_hit, look_miss, okd, stBin, bin, binS, binB, binI, shS, shB, S.num, constS, one, inI, stUn, stNil, stLoad, stAt, stField, stIndexAddr, stStore, wrAt, stAlloc, stBox, stIndex, stPart, stPartRow, stFieldV, stConv, cvS, cvB, cvI, stSlice, optN, SV.num, noMax, stArrPtr, stExtract, stLen, stBuild, A.isRow, A.isAgg, A.noRec, A.len, A.get, A.sub, A.set, A.over, Ent.bound, Kind.isStruct, Kind.isAgg, S.known, A.solid, segAt, segPut, segLen, R.a, R.len, A.r, stMake, stBuildSlice, litA, repA, rep1, fillA, putP, sing, stMin, stEqA, rowEq, Kind.isScal, -List.reduceReplicate, -List.getD_eq_getElem?_getD, tab3, ty3, tab5, ty5, tab99, ty99, ntmps21, hx]; (repeat' apply And.intro); all_goals first | exact hK | omega)))
                        rw [run_back]
                        refine ⟨(), trivial, ?_⟩
                        simp [Ent2, entSl, entM, belSl, belV, belA, belS, belR, belM, look_hit, look_miss, one, -List.getD_eq_getElem?_getD, schT, h3', h4', subW, boxOf]
                      · intro h4
                        simp at h4
                        have h4' : ¬ i % 8 = 4 := by omega
                        repeat (first
    | rw [run_ops0]
    | rw [run_seq]
    | rw [run_region]
    | rw [run_block]
    | rw [run_blk]
    | rw [run_skip]
    | (apply run_go rfl; focus (intro L K hK; simp [step1, evS, est, St.ev, St.put, St.add, St.upd, look_hit, look_miss, okd, stBin, bin, binS, binB, binI, shS, shB, S.num, constS, one, inI, stUn, stNil, stLoad, stAt, stField, stIndexAddr, stStore, wrAt, stAlloc, stBox, stIndex, stPart, stPartRow, stFieldV, stConv, cvS, cvB, cvI, stSlice, optN, SV.num, noMax, stArrPtr, stExtract, stLen, stBuild, A.isRow, A.isAgg, A.noRec, A.len, A.get, A.sub, A.set, A.over, Ent.bound, Kind.isStruct, Kind.isAgg, S.known, A.solid, segAt, segPut, segLen, R.a, R.len, A.r, stMake, stBuildSlice, litA, repA, rep1, fillA, putP, sing, stMin, stEqA, rowEq, Kind.isScal, -List.reduceReplicate, -List.getD_eq_getElem?_getD, tab3, ty3, tab4, ty4, ntmps21]; (repeat' apply And.intro); all_goals first | exact hK | omega)))
                        rw [run_back]
                        refine ⟨(), trivial, ?_⟩
                        simp [Ent2, entSl, entM, belSl, belV, belA, belS, belR, belM, look_hit, look_miss, one, -List.getD_eq_getElem?_getD, schT, h3', h4']
                    · intro h; cases h
                  · intro h; cases h
                · intro h; cases h
              · intro h; cases h
        · intro _ _
          refine ok_run hB tabOK pureE_ok 100 ?_
          have htl := schT_len nk i c hx
          generalize schT nk i c t = t2 at htl hs1 ⊢
          repeat (first
    | rw [run_ops0]
    | rw [run_seq]
    | rw [run_region]
    | rw [run_block]
    | rw [run_blk]
    | rw [run_skip]
    | (apply run_go rfl; focus (intro L K hK; simp [step1, evS, est, St.ev, St.put, St.add, St.upd, look_hit, look_miss, okd, stBin, bin, binS, binB, binI, shS, shB, S.num, constS, one, inI, stUn, stNil, stLoad, stAt, stField, stIndexAddr, stStore, wrAt, stAlloc, stBox, stIndex, stPart, stPartRow, stFieldV, stConv, cvS, cvB, cvI, stSlice, optN, SV.num, noMax, stArrPtr, stExtract, stLen, stBuild, A.isRow, A.isAgg, A.noRec, A.len, A.get, A.sub, A.set, A.over, Ent.bound, Kind.isStruct, Kind.isAgg, S.known, A.solid, segAt, segPut, segLen, R.a, R.len, A.r, stMake, stBuildSlice, litA, repA, rep1, fillA, putP, sing, stMin, stEqA, rowEq, Kind.isScal, -List.reduceReplicate, -List.getD_eq_getElem?_getD, tab3, ty3, ntmps21]; (repeat' apply And.intro); all_goals first | exact hK | omega)))
          rw [run_loop]
          refine ok_loop (X := Nat) (fun j => ⟨[(101, one (.i j)), (8, one (.ptr 2 0 0)), (7, one (.i i)), (6, one (.u8 (if i % nk = 0 then twice8 c else c))), (5, one (.sl 1 0 i cap 4)), (4, one (.i nk)), (0, one (.sl 0 0 (4 * nk) cap0 1))], [.ent ⟨false, 5, none, .a8 key⟩, .ent ⟨true, 99, none, .a8 W⟩, .ent ⟨true, 99, some 4, .a8 (xorO t2 W ((i - nk) * 4) j)⟩]⟩) (fun j => j ≤ 4) (fun j => 4 - j) (fun j i L h => by have := hB.anc i L h; simp at this ⊢; omega) ⟨0, by omega, by simp [Ent2, entSl, entM, belSl, belV, belA, belS, belR, belM, look_hit, look_miss, one, -List.getD_eq_getElem?_getD, xorO]⟩ ?_
          intro j hj
          refine ok_run hB tabOK pureE_ok 100 ?_
          have hxl := xorO_len t2 W ((i - nk) * 4) j
          repeat (first
    | rw [run_ops0]
    | rw [run_seq]
    | rw [run_region]
    | rw [run_block]
    | rw [run_blk]
    | rw [run_skip]
    | (apply run_go rfl; focus (intro L K hK; simp [step1, evS, est, St.ev, St.put, St.add, St.upd, look_hit, look_miss, okd, stBin, bin, binS, binB, binI, shS, shB, S.num, constS, one, inI, stUn, stNil, stLoad, stAt, stField, stIndexAddr, stStore, wrAt, stAlloc, stBox, stIndex, stPart, stPartRow, stFieldV, stConv, cvS, cvB, cvI, stSlice, optN, SV.num, noMax, stArrPtr, stExtract, stLen, stBuild, A.isRow, A.isAgg, A.noRec, A.len, A.get, A.sub, A.set, A.over, Ent.bound, Kind.isStruct, Kind.isAgg, S.known, A.solid, segAt, segPut, segLen, R.a, R.len, A.r, stMake, stBuildSlice, litA, repA, rep1, fillA, putP, sing, stMin, stEqA, rowEq, Kind.isScal, -List.reduceReplicate, -List.getD_eq_getElem?_getD, tab3, ty3, ntmps21]; (repeat' apply And.intro); all_goals first | exact hK | omega)))
          apply run_cond2 rfl
          · intro h
            simp at h
            have e5 : ((i : Int) - nk).toNat = i - nk := by omega
            repeat (first
    | rw [run_ops0]
    | rw [run_seq]
    | rw [run_region]
    | rw [run_block]
    | rw [run_blk]
    | rw [run_skip]
    | (apply run_go rfl; focus (intro L K hK; simp [step1, evS, est, St.ev, St.put, St.add, St.upd, look_hit, look_miss, okd, stBin, bin, binS, binB, binI, shS, shB, S.num, constS, one, inI, stUn, stNil, stLoad, stAt, stField, stIndexAddr, stStore, wrAt, stAlloc, stBox, stIndex, stPart, stPartRow, stFieldV, stConv, cvS, cvB, cvI, stSlice, optN, SV.num, noMax, stArrPtr, stExtract, stLen, stBuild, A.isRow, A.isAgg, A.noRec, A.len, A.get, A.sub, A.set, A.over, Ent.bound, Kind.isStruct, Kind.isAgg, S.known, A.solid, segAt, segPut, segLen, R.a, R.len, A.r, stMake, stBuildSlice, litA, repA, rep1, fillA, putP, sing, stMin, stEqA, rowEq, Kind.isScal, -List.reduceReplicate, -List.getD_eq_getElem?_getD, tab3, ty3, ntmps21]; (repeat' apply And.intro); all_goals first | exact hK | omega)))
            rw [run_draw]
            refine ok_draw2 12 tabOK pureE_ok (pureOf_mono _) mixed (by decide +kernel) rfl rfl ?_
            repeat (first
    | (apply hd_go rfl rfl rfl rfl (Nat.le_of_ble_eq_true rfl); focus (intro K' hK; simp [step1, evS, est, St.ev, St.put, St.add, St.upd, look_hit, look_miss, okd, stBin, bin, binS, binB, binI, shS, shB, S.num, constS, one, inI, stUn, stNil, stLoad, stAt, stField, stIndexAddr, stStore, wrAt, stAlloc, stBox, stIndex, stPart, stPartRow, stFieldV, stConv, cvS, cvB, cvI, stSlice, optN, SV.num, noMax, stArrPtr, stExtract, stLen, stBuild, A.isRow, A.isAgg, A.noRec, A.len, A.get, A.sub, A.set, A.over, Ent.bound, Kind.isStruct, Kind.isAgg, S.known, A.solid, segAt, segPut, segLen, R.a, R.len, A.r, stMake, stBuildSlice, litA, repA, rep1, fillA, putP, sing, stMin, stEqA, rowEq, Kind.isScal, -List.reduceReplicate, -List.getD_eq_getElem?_getD, tab3, ty3, tab5, ty5, tab99, ty99, tab98, ty98, hxl, htl, hwl, e5]; (repeat' apply And.intro); all_goals first | exact hK | omega))
    | (apply hd_new rfl rfl rfl rfl (Nat.le_of_ble_eq_true rfl); focus (intro K' hK; simp [step1, evS, est, St.ev, St.put, St.add, St.upd, look_hit, look_miss, okd, stBin, bin, binS, binB, binI, shS, shB, S.num, constS, one, inI, stUn, stNil, stLoad, stAt, stField, stIndexAddr, stStore, wrAt, stAlloc, stBox, stIndex, stPart, stPartRow, stFieldV, stConv, cvS, cvB, cvI, stSlice, optN, SV.num, noMax, stArrPtr, stExtract, stLen, stBuild, A.isRow, A.isAgg, A.noRec, A.len, A.get, A.sub, A.set, A.over, Ent.bound, Kind.isStruct, Kind.isAgg, S.known, A.solid, segAt, segPut, segLen, R.a, R.len, A.r, stMake, stBuildSlice, litA, repA, rep1, fillA, putP, sing, stMin, stEqA, rowEq, Kind.isScal, -List.reduceReplicate, -List.getD_eq_getElem?_getD, tab3, ty3, tab5, ty5, tab99, ty99, tab98, ty98, hxl, htl, hwl, e5]; (repeat' apply And.intro); all_goals first | exact hK | omega)))
            refine hd_nil ?_
            simp only [List.map_nil, List.append_nil]
            refine ok_run hB tabOK pureE_ok 100 ?_
            repeat (first
    | rw [run_ops0]
    | rw [run_seq]
    | rw [run_region]
    | rw [run_block]
    | rw [run_blk]
    | rw [run_skip]
    | (apply run_go rfl; focus (intro L K hK; simp [step1, evS, est, St.ev, St.put, St.add, St.upd, look_hit, look_miss, okd, stBin, bin, binS, binB, binI, shS, shB, S.num, constS, one, inI, stUn, stNil, stLoad, stAt, stField, stIndexAddr, stStore, wrAt, stAlloc, stBox, stIndex, stPart, stPartRow, stFieldV, stConv, cvS, cvB, cvI, stSlice, optN, SV.num, noMax, stArrPtr, stExtract, stLen, stBuild, A.isRow, A.isAgg, A.noRec, A.len, A.get, A.sub, A.set, A.over, Ent.bound, Kind.isStruct, Kind.isAgg, S.known, A.solid, segAt, segPut, segLen, R.a, R.len, A.r, stMake, stBuildSlice, litA, repA, rep1, fillA, putP, sing, stMin, stEqA, rowEq, Kind.isScal, -List.reduceReplicate, -List.getD_eq_getElem?_getD, tab3, ty3, tab5, ty5, tab99, ty99, ntmps21, hxl, htl]; (repeat' apply And.intro); all_goals first | exact hK | omega)))
            rw [run_back]
            refine ⟨j + 1, by omega, by omega, ?_⟩
            simp [Ent2, entSl, entM, belSl, belV, belA, belS, belR, belM, look_hit, look_miss, one, -List.getD_eq_getElem?_getD, xorO]
          · intro h
            simp at h
            obtain rfl : j = 4 := by omega
            apply run_exit2 rfl
            generalize xorO t2 W ((i - nk) * 4) 4 = t3 at hxl hs1 ⊢
            have h3l : t3.length = 4 := by omega
            repeat (first
    | rw [run_ops0]
    | rw [run_seq]
    | rw [run_region]
    | rw [run_block]
    | rw [run_blk]
    | rw [run_skip]
    | (apply run_go rfl; focus (intro L K hK; simp [step1, evS, est, St.ev, St.put, St.add, St.upd, look_hit, look_miss, okd, stBin, bin, binS, binB, binI, shS, shB, S.num, constS, one, inI, stUn, stNil, stLoad, stAt, stField, stIndexAddr, stStore, wrAt, stAlloc, stBox, stIndex, stPart, stPartRow, stFieldV, stConv, cvS, cvB, cvI, stSlice, optN, SV.num, noMax, stArrPtr, stExtract, stLen, stBuild, A.isRow, A.isAgg, A.noRec, A.len, A.get, A.sub, A.set, A.over, Ent.bound, Kind.isStruct, Kind.isAgg, S.known, A.solid, segAt, segPut, segLen, R.a, R.len, A.r, stMake, stBuildSlice, litA, repA, rep1, fillA, putP, sing, stMin, stEqA, rowEq, Kind.isScal, -List.reduceReplicate, -List.getD_eq_getElem?_getD, tab3, ty3, tab99, ty99, tab98, ty98, ntmps21, h3l]; (repeat' apply And.intro); all_goals first | exact hK | omega)))
            (apply run_app rfl; focus (intro L K hK; simp [step1, evS, est, St.ev, St.put, St.add, St.upd, look_hit, look_miss, okd, stBin, bin, binS, binB, binI, shS, shB, S.num, constS, one, inI, stUn, stNil, stLoad, stAt, stField, stIndexAddr, stStore, wrAt, stAlloc, stBox, stIndex, stPart, stPartRow, stFieldV, stConv, cvS, cvB, cvI, stSlice, optN, SV.num, noMax, stArrPtr, stExtract, stLen, stBuild, A.isRow, A.isAgg, A.noRec, A.len, A.get, A.sub, A.set, A.over, Ent.bound, Kind.isStruct, Kind.isAgg, S.known, A.solid, segAt, segPut, segLen, R.a, R.len, A.r, stMake, stBuildSlice, litA, repA, rep1, fillA, putP, sing, stMin, stEqA, rowEq, Kind.isScal, -List.reduceReplicate, -List.getD_eq_getElem?_getD, stAppend, srcRow, SrcTy, A.cat, killSl, killV, killA, killS, killE, killSeg, killR, tab98, ty98, tab99, ty99, ntmps21, hwl, h3l]; (repeat' apply And.intro); all_goals first | exact hK | omega | (intro cap hcap; exact hK cap hcap)))
            intro cap2 hcap2
            repeat (first
    | rw [run_ops0]
    | rw [run_seq]
    | rw [run_region]
    | rw [run_block]
    | rw [run_blk]
    | rw [run_skip]
    | (apply run_go rfl; focus (intro L K hK; simp [step1, evS, est, St.ev, St.put, St.add, St.upd, look_hit, look_miss, okd, stBin, bin, binS, binB, binI, shS, shB, S.num, constS, one, inI, stUn, stNil, stLoad, stAt, stField, stIndexAddr, stStore, wrAt, stAlloc, stBox, stIndex, stPart, stPartRow, stFieldV, stConv, cvS, cvB, cvI, stSlice, optN, SV.num, noMax, stArrPtr, stExtract, stLen, stBuild, A.isRow, A.isAgg, A.noRec, A.len, A.get, A.sub, A.set, A.over, Ent.bound, Kind.isStruct, Kind.isAgg, S.known, A.solid, segAt, segPut, segLen, R.a, R.len, A.r, stMake, stBuildSlice, litA, repA, rep1, fillA, putP, sing, stMin, stEqA, rowEq, Kind.isScal, -List.reduceReplicate, -List.getD_eq_getElem?_getD, tab3, ty3, tab98, ty98, ntmps21]; (repeat' apply And.intro); all_goals first | exact hK | omega)))
            rw [run_back]
            refine ⟨(i + 1, cap2), by simp only; omega, by simp only; omega, ?_⟩
            simp only [hs1, hs2]
            simp [Ent2, entSl, entM, belSl, belV, belA, belS, belR, belM, look_hit, look_miss, one, -List.getD_eq_getElem?_getD, killA]
            exact List.take_of_length_le (by omega)
    · intro h
      simp at h
      obtain rfl : i = 4 * (nk + 7) := by omega
      apply run_exit2 rfl
      generalize hW : (sch key nk (4 * (nk + 7))).1 = W at hwl ⊢
      generalize (sch key nk (4 * (nk + 7))).2 = c
      repeat (first
    | rw [run_ops0]
    | rw [run_seq]
    | rw [run_region]
    | rw [run_block]
    | rw [run_blk]
    | rw [run_skip]
    | (apply run_go rfl; focus (intro L K hK; simp [step1, evS, est, St.ev, St.put, St.add, St.upd, look_hit, look_miss, okd, stBin, bin, binS, binB, binI, shS, shB, S.num, constS, one, inI, stUn, stNil, stLoad, stAt, stField, stIndexAddr, stStore, wrAt, stAlloc, stBox, stIndex, stPart, stPartRow, stFieldV, stConv, cvS, cvB, cvI, stSlice, optN, SV.num, noMax, stArrPtr, stExtract, stLen, stBuild, A.isRow, A.isAgg, A.noRec, A.len, A.get, A.sub, A.set, A.over, Ent.bound, Kind.isStruct, Kind.isAgg, S.known, A.solid, segAt, segPut, segLen, R.a, R.len, A.r, stMake, stBuildSlice, litA, repA, rep1, fillA, putP, sing, stMin, stEqA, rowEq, Kind.isScal, -List.reduceReplicate, -List.getD_eq_getElem?_getD, tab3, ty3, tab105, ty105, tab25, ty25, ntmps21, fillS, R.solid]; (repeat' apply And.intro); all_goals first | exact hK | omega)))
      try (rw [run_zero]; refine ok_run hB tabOK pureE_ok 100 ?_)
      repeat (first
    | rw [run_ops0]
    | rw [run_seq]
    | rw [run_region]
    | rw [run_block]
    | rw [run_blk]
    | rw [run_skip]
    | (apply run_go rfl; focus (intro L K hK; simp [step1, evS, est, St.ev, St.put, St.add, St.upd, look_hit, look_miss, okd, stBin, bin, binS, binB, binI, shS, shB, S.num, constS, one, inI, stUn, stNil, stLoad, stAt, stField, stIndexAddr, stStore, wrAt, stAlloc, stBox, stIndex, stPart, stPartRow, stFieldV, stConv, cvS, cvB, cvI, stSlice, optN, SV.num, noMax, stArrPtr, stExtract, stLen, stBuild, A.isRow, A.isAgg, A.noRec, A.len, A.get, A.sub, A.set, A.over, Ent.bound, Kind.isStruct, Kind.isAgg, S.known, A.solid, segAt, segPut, segLen, R.a, R.len, A.r, stMake, stBuildSlice, litA, repA, rep1, fillA, putP, sing, stMin, stEqA, rowEq, Kind.isScal, -List.reduceReplicate, -List.getD_eq_getElem?_getD, tab3, ty3, tab105, ty105, tab25, ty25, ntmps21, fillS, R.solid]; (repeat' apply And.intro); all_goals first | exact hK | omega)))
      rw [run_loop]
      refine ok_blank_mem 2 _ _ 23 16 (.a8 []) rfl trivial rfl rfl ?_
      simp only [List.cons_append, List.nil_append, List.set, List.length_cons, List.length_nil]
      refine ok_loop (X := Nat × Nat) (fun x => ⟨[(11, one (.i (4 * x.1 : Nat))), (10, one (.ptr 2 0 0)), (5, one (.sl 1 0 (4 * (nk + 7)) cap 4))], [.ent ⟨false, 5, none, .a8 key⟩, .ent ⟨true, 99, none, .a8 W⟩, .ent ⟨true, 105, some 1, .st [⟨1, .s (.sl 3 0 x.1 x.2 16)⟩]⟩, .ent ⟨true, 23, none, .a8 (W.take (16 * x.1))⟩]⟩) (fun x => x.1 ≤ nk + 7) (fun x => nk + 7 - x.1) (fun j i L h => by have := hB.anc i L h; simp at this ⊢; omega) ⟨(0, 0), by omega, by simp [Ent2, entSl, entM, belSl, belV, belA, belS, belR, belM, look_hit, look_miss, one, -List.getD_eq_getElem?_getD]⟩ ?_
      rintro ⟨r, capr⟩ hr
      refine ok_run hB tabOK pureE_ok 100 ?_
      simp only at hr ⊢
      repeat (first
    | rw [run_ops0]
    | rw [run_seq]
    | rw [run_region]
    | rw [run_block]
    | rw [run_blk]
    | rw [run_skip]
    | (apply run_go rfl; focus (intro L K hK; simp [step1, evS, est, St.ev, St.put, St.add, St.upd, look_hit, look_miss, okd, stBin, bin, binS, binB, binI, shS, shB, S.num, constS, one, inI, stUn, stNil, stLoad, stAt, stField, stIndexAddr, stStore, wrAt, stAlloc, stBox, stIndex, stPart, stPartRow, stFieldV, stConv, cvS, cvB, cvI, stSlice, optN, SV.num, noMax, stArrPtr, stExtract, stLen, stBuild, A.isRow, A.isAgg, A.noRec, A.len, A.get, A.sub, A.set, A.over, Ent.bound, Kind.isStruct, Kind.isAgg, S.known, A.solid, segAt, segPut, segLen, R.a, R.len, A.r, stMake, stBuildSlice, litA, repA, rep1, fillA, putP, sing, stMin, stEqA, rowEq, Kind.isScal, -List.reduceReplicate, -List.getD_eq_getElem?_getD, tab3, ty3, tab98, ty98, ntmps21]; (repeat' apply And.intro); all_goals first | exact hK | omega)))
      apply run_cond2 rfl
      · intro h
        simp at h
        have hr7 : r < nk + 7 := by omega
        repeat (first
    | rw [run_ops0]
    | rw [run_seq]
    | rw [run_region]
    | rw [run_block]
    | rw [run_blk]
    | rw [run_skip]
    | (apply run_go rfl; focus (intro L K hK; simp [step1, evS, est, St.ev, St.put, St.add, St.upd, look_hit, look_miss, okd, stBin, bin, binS, binB, binI, shS, shB, S.num, constS, one, inI, stUn, stNil, stLoad, stAt, stField, stIndexAddr, stStore, wrAt, stAlloc, stBox, stIndex, stPart, stPartRow, stFieldV, stConv, cvS, cvB, cvI, stSlice, optN, SV.num, noMax, stArrPtr, stExtract, stLen, stBuild, A.isRow, A.isAgg, A.noRec, A.len, A.get, A.sub, A.set, A.over, Ent.bound, Kind.isStruct, Kind.isAgg, S.known, A.solid, segAt, segPut, segLen, R.a, R.len, A.r, stMake, stBuildSlice, litA, repA, rep1, fillA, putP, sing, stMin, stEqA, rowEq, Kind.isScal, -List.reduceReplicate, -List.getD_eq_getElem?_getD, tab3, ty3, tab23, ty23, ntmps21]; (repeat' apply And.intro); all_goals first | exact hK | omega)))
        rw [run_loop]
        refine ok_loop (X := Nat) (fun j => ⟨[(130, one (.i j)), (12, one (.ptr 4 0 0)), (11, one (.i (4 * r : Nat))), (10, one (.ptr 2 0 0)), (5, one (.sl 1 0 (4 * (nk + 7)) cap 4))], [.ent ⟨false, 5, none, .a8 key⟩, .ent ⟨true, 99, none, .a8 W⟩, .ent ⟨true, 105, some 1, .st [⟨1, .s (.sl 3 0 r capr 16)⟩]⟩, .ent ⟨true, 23, none, .a8 (W.take (16 * r))⟩, .ent ⟨true, 23, some 16, .a8 (rowR W (4 * r) j)⟩]⟩) (fun j => j ≤ 16) (fun j => 16 - j) (fun j i L h => by have := hB.anc i L h; simp at this ⊢; omega) ⟨0, by omega, by simp [Ent2, entSl, entM, belSl, belV, belA, belS, belR, belM, look_hit, look_miss, one, -List.getD_eq_getElem?_getD, rowR, zero16]⟩ ?_
        intro j hj
        refine ok_run hB tabOK pureE_ok 100 ?_
        have hrl := rowR_len W (4 * r) j
        repeat (first
    | rw [run_ops0]
    | rw [run_seq]
    | rw [run_region]
    | rw [run_block]
    | rw [run_blk]
    | rw [run_skip]
    | (apply run_go rfl; focus (intro L K hK; simp [step1, evS, est, St.ev, St.put, St.add, St.upd, look_hit, look_miss, okd, stBin, bin, binS, binB, binI, shS, shB, S.num, constS, one, inI, stUn, stNil, stLoad, stAt, stField, stIndexAddr, stStore, wrAt, stAlloc, stBox, stIndex, stPart, stPartRow, stFieldV, stConv, cvS, cvB, cvI, stSlice, optN, SV.num, noMax, stArrPtr, stExtract, stLen, stBuild, A.isRow, A.isAgg, A.noRec, A.len, A.get, A.sub, A.set, A.over, Ent.bound, Kind.isStruct, Kind.isAgg, S.known, A.solid, segAt, segPut, segLen, R.a, R.len, A.r, stMake, stBuildSlice, litA, repA, rep1, fillA, putP, sing, stMin, stEqA, rowEq, Kind.isScal, -List.reduceReplicate, -List.getD_eq_getElem?_getD, tab3, ty3, ntmps21]; (repeat' apply And.intro); all_goals first | exact hK | omega)))
        apply run_cond2 rfl
        · intro h
          simp at h
          have q1 : (j : Int).tdiv 4 = (j : Int) / 4 := Int.tdiv_eq_ediv_of_nonneg (by omega)
          have q2 : (j : Int).tmod 4 = (j : Int) % 4 := Int.tmod_eq_emod_of_nonneg (by omega)
          have q3 : (4 * (r : Int) + (j : Int) / 4).toNat = 4 * r + j / 4 := by omega
          have q4 : ((j : Int) % 4).toNat = j % 4 := by omega
          repeat (first
    | rw [run_ops0]
    | rw [run_seq]
    | rw [run_region]
    | rw [run_block]
    | rw [run_blk]
    | rw [run_skip]
    | (apply run_go rfl; focus (intro L K hK; simp [step1, evS, est, St.ev, St.put, St.add, St.upd, look_hit, look_miss, okd, stBin, bin, binS, binB, binI, shS, shB, S.num, constS, one, inI, stUn, stNil, stLoad, stAt, stField, stIndexAddr, stStore, wrAt, stAlloc, stBox, stIndex, stPart, stPartRow, stFieldV, stConv, cvS, cvB, cvI, stSlice, optN, SV.num, noMax, stArrPtr, stExtract, stLen, stBuild, A.isRow, A.isAgg, A.noRec, A.len, A.get, A.sub, A.set, A.over, Ent.bound, Kind.isStruct, Kind.isAgg, S.known, A.solid, segAt, segPut, segLen, R.a, R.len, A.r, stMake, stBuildSlice, litA, repA, rep1, fillA, putP, sing, stMin, stEqA, rowEq, Kind.isScal, -List.reduceReplicate, -List.getD_eq_getElem?_getD, tab3, ty3, tab5, ty5, tab99, ty99, tab98, ty98, tab23, ty23, ntmps21, q1, q2, q3, q4, hwl, hrl]; (repeat' apply And.intro); all_goals first | exact hK | omega)))
          rw [run_back]
          refine ⟨j + 1, by omega, by omega, ?_⟩
          simp [Ent2, entSl, entM, belSl, belV, belA, belS, belR, belM, look_hit, look_miss, one, -List.getD_eq_getElem?_getD, rowR]
        · intro h
          simp at h
          obtain rfl : j = 16 := by omega
          apply run_exit2 rfl
          repeat (first
    | rw [run_ops0]
    | rw [run_seq]
    | rw [run_region]
    | rw [run_block]
    | rw [run_blk]
    | rw [run_skip]
    | (apply run_go rfl; focus (intro L K hK; simp [step1, evS, est, St.ev, St.put, St.add, St.upd, look_hit, look_miss, okd, stBin, bin, binS, binB, binI, shS, shB, S.num, constS, one, inI, stUn, stNil, stLoad, stAt, stField, stIndexAddr, stStore, wrAt, stAlloc, stBox, stIndex, stPart, stPartRow, stFieldV, stConv, cvS, cvB, cvI, stSlice, optN, SV.num, noMax, stArrPtr, stExtract, stLen, stBuild, A.isRow, A.isAgg, A.noRec, A.len, A.get, A.sub, A.set, A.over, Ent.bound, Kind.isStruct, Kind.isAgg, S.known, A.solid, segAt, segPut, segLen, R.a, R.len, A.r, stMake, stBuildSlice, litA, repA, rep1, fillA, putP, sing, stMin, stEqA, rowEq, Kind.isScal, -List.reduceReplicate, -List.getD_eq_getElem?_getD, tab3, ty3, ntmps21]; (repeat' apply And.intro); all_goals first | exact hK | omega)))
          rw [run_draw]
          refine ok_draw_app2 7 tabOK pureE_ok (pureOf_mono _) mixed hB.pan (by decide +kernel) rfl rfl ?_
          repeat (first
    | (apply hd_go rfl rfl rfl rfl (Nat.le_of_ble_eq_true rfl); focus (intro K' hK; simp [step1, evS, est, St.ev, St.put, St.add, St.upd, look_hit, look_miss, okd, stBin, bin, binS, binB, binI, shS, shB, S.num, constS, one, inI, stUn, stNil, stLoad, stAt, stField, stIndexAddr, stStore, wrAt, stAlloc, stBox, stIndex, stPart, stPartRow, stFieldV, stConv, cvS, cvB, cvI, stSlice, optN, SV.num, noMax, stArrPtr, stExtract, stLen, stBuild, A.isRow, A.isAgg, A.noRec, A.len, A.get, A.sub, A.set, A.over, Ent.bound, Kind.isStruct, Kind.isAgg, S.known, A.solid, segAt, segPut, segLen, R.a, R.len, A.r, stMake, stBuildSlice, litA, repA, rep1, fillA, putP, sing, stMin, stEqA, rowEq, Kind.isScal, -List.reduceReplicate, -List.getD_eq_getElem?_getD, tab3, ty3, tab25, ty25, tab105, ty105, tab103, ty103, tab23, ty23, hrl]; (repeat' apply And.intro); all_goals first | exact hK | omega))
    | (apply hd_new rfl rfl rfl rfl (Nat.le_of_ble_eq_true rfl); focus (intro K' hK; simp [step1, evS, est, St.ev, St.put, St.add, St.upd, look_hit, look_miss, okd, stBin, bin, binS, binB, binI, shS, shB, S.num, constS, one, inI, stUn, stNil, stLoad, stAt, stField, stIndexAddr, stStore, wrAt, stAlloc, stBox, stIndex, stPart, stPartRow, stFieldV, stConv, cvS, cvB, cvI, stSlice, optN, SV.num, noMax, stArrPtr, stExtract, stLen, stBuild, A.isRow, A.isAgg, A.noRec, A.len, A.get, A.sub, A.set, A.over, Ent.bound, Kind.isStruct, Kind.isAgg, S.known, A.solid, segAt, segPut, segLen, R.a, R.len, A.r, stMake, stBuildSlice, litA, repA, rep1, fillA, putP, sing, stMin, stEqA, rowEq, Kind.isScal, -List.reduceReplicate, -List.getD_eq_getElem?_getD, tab3, ty3, tab25, ty25, tab105, ty105, tab103, ty103, tab23, ty23, hrl]; (repeat' apply And.intro); all_goals first | exact hK | omega)))
          refine hd_nil ?_
          simp only [List.map_cons, List.map_nil, List.nil_append, List.cons_append]
          refine ok_run hB tabOK pureE_ok 100 ?_
          have hwt : (W.take (16 * r)).length = r * 16 := by simp [hwl]; omega
          (apply run_app rfl; focus (intro L K hK; simp [step1, evS, est, St.ev, St.put, St.add, St.upd, look_hit, look_miss, okd, stBin, bin, binS, binB, binI, shS, shB, S.num, constS, one, inI, stUn, stNil, stLoad, stAt, stField, stIndexAddr, stStore, wrAt, stAlloc, stBox, stIndex, stPart, stPartRow, stFieldV, stConv, cvS, cvB, cvI, stSlice, optN, SV.num, noMax, stArrPtr, stExtract, stLen, stBuild, A.isRow, A.isAgg, A.noRec, A.len, A.get, A.sub, A.set, A.over, Ent.bound, Kind.isStruct, Kind.isAgg, S.known, A.solid, segAt, segPut, segLen, R.a, R.len, A.r, stMake, stBuildSlice, litA, repA, rep1, fillA, putP, sing, stMin, stEqA, rowEq, Kind.isScal, -List.reduceReplicate, -List.getD_eq_getElem?_getD, stAppend, srcRow, SrcTy, A.cat, killSl, killV, killA, killS, killE, killSeg, killR, tab103, ty103, tab23, ty23, ntmps21, hwt, hrl]; (repeat' apply And.intro); all_goals first | exact hK | omega | (intro cap hcap; exact hK cap hcap)))
          intro cap2 hcap2
          repeat (first
    | rw [run_ops0]
    | rw [run_seq]
    | rw [run_region]
    | rw [run_block]
    | rw [run_blk]
    | rw [run_skip]
    | (apply run_go rfl; focus (intro L K hK; simp [step1, evS, est, St.ev, St.put, St.add, St.upd, look_hit, look_miss, okd, stBin, bin, binS, binB, binI, shS, shB, S.num, constS, one, inI, stUn, stNil, stLoad, stAt, stField, stIndexAddr, stStore, wrAt, stAlloc, stBox, stIndex, stPart, stPartRow, stFieldV, stConv, cvS, cvB, cvI, stSlice, optN, SV.num, noMax, stArrPtr, stExtract, stLen, stBuild, A.isRow, A.isAgg, A.noRec, A.len, A.get, A.sub, A.set, A.over, Ent.bound, Kind.isStruct, Kind.isAgg, S.known, A.solid, segAt, segPut, segLen, R.a, R.len, A.r, stMake, stBuildSlice, litA, repA, rep1, fillA, putP, sing, stMin, stEqA, rowEq, Kind.isScal, -List.reduceReplicate, -List.getD_eq_getElem?_getD, tab3, ty3, tab25, ty25, tab105, ty105, tab103, ty103, ntmps21]; (repeat' apply And.intro); all_goals first | exact hK | omega)))
          rw [run_back]
          refine ⟨(r + 1, cap2), by simp only; omega, by simp only; omega, ?_⟩
          have hre : W.take (16 * r) ++ (rowR W (4 * r) 16).take 16 = W.take (16 * (r + 1)) := by
            rw [List.take_of_length_le (l := rowR W (4 * r) 16) (by omega), rowR_eq W r (by omega), ← List.take_add]
            rfl
          simp [Ent2, entSl, entM, belSl, belV, belA, belS, belR, belM, look_hit, look_miss, one, -List.getD_eq_getElem?_getD, hre]
          omega
      · intro h
        simp at h
        obtain rfl : r = nk + 7 := by omega
        apply run_exit2 rfl
        repeat (first
    | rw [run_ops0]
    | rw [run_seq]
    | rw [run_region]
    | rw [run_block]
    | rw [run_blk]
    | rw [run_skip]
    | (apply run_go rfl; focus (intro L K hK; simp [step1, evS, est, St.ev, St.put, St.add, St.upd, look_hit, look_miss, okd, stBin, bin, binS, binB, binI, shS, shB, S.num, constS, one, inI, stUn, stNil, stLoad, stAt, stField, stIndexAddr, stStore, wrAt, stAlloc, stBox, stIndex, stPart, stPartRow, stFieldV, stConv, cvS, cvB, cvI, stSlice, optN, SV.num, noMax, stArrPtr, stExtract, stLen, stBuild, A.isRow, A.isAgg, A.noRec, A.len, A.get, A.sub, A.set, A.over, Ent.bound, Kind.isStruct, Kind.isAgg, S.known, A.solid, segAt, segPut, segLen, R.a, R.len, A.r, stMake, stBuildSlice, litA, repA, rep1, fillA, putP, sing, stMin, stEqA, rowEq, Kind.isScal, -List.reduceReplicate, -List.getD_eq_getElem?_getD, tab3, ty3, tab25, ty25, tab26, ty26, ntmps21]; (repeat' apply And.intro); all_goals first | exact hK | omega)))
        rw [run_ret]
        have htk : W.take (16 * (nk + 7)) = W := List.take_of_length_le (by omega)
        simp [finOf, resP, resV, extraOwn, look_hit, look_miss, one, -List.reduceReplicate, -List.getD_eq_getElem?_getD, stLoad, stAt, Ent.bound, A.len, A.isRow, A.isAgg, results21, f21, htk, newMem, hW]
theorem spec21 (key : B8) (nk cap0 : Nat) (hk : key.length = 4 * nk) (hnk : nk = 4 ∨ nk = 8) (hcap0 : 4 * nk ≤ cap0) : Spec prog 21 [one (.sl 0 0 (4 * nk) cap0 1)] [.ent ⟨false, 5, none, .a8 key⟩] [] (fun r m => r = .tup [.s (.ptr 2 0 0), .s (.i 0)] ∧ ∃ cap, m = newMem key nk cap) := spec21L key nk cap0 (Nat.le_of_eq hk.symm) hnk hcap0
end Go.V
end
section
set_option linter.unusedSimpArgs false
set_option linter.unusedVariables false
set_option maxRecDepth 10000
namespace Go.V
open Go Go.Proofs.Try
/-! power, at any exponent below 256 -/
def powG (b : Int) (n : Nat) : Nat → Int
  | 0 => 1
  | j + 1 => if n / 2 ^ j % 2 = 1 then timesR (powG b n j) (sqR b j) 8 else powG b n j
theorem powG_lt {b : Int} (hb : 0 ≤ b ∧ b < 256) (n : Nat) : ∀ j, 0 ≤ powG b n j ∧ powG b n j < 256
  | 0 => by simp [powG]
  | j + 1 => by
    unfold powG
    split
    · exact timesR_lt (powG_lt hb n j) 8
    · exact powG_lt hb n j
theorem powG_stop {b : Int} {n j : Nat} (h : n / 2 ^ j = 0) : ∀ k, powG b n (j + k) = powG b n j
  | 0 => rfl
  | k + 1 => by
    have h2 : n / 2 ^ (j + k) = 0 := by rw [Nat.pow_add, ← Nat.div_div_eq_div_mul, h, Nat.zero_div]
    rw [← Nat.add_assoc, powG, h2, if_neg (by decide)]
    exact powG_stop h k
theorem spec61G (b : Int) (n : Nat) (hb : 0 ≤ b ∧ b < 256) (hn : n < 256) : Spec prog 61 [one (.i b), one (.i (n : Int))] [] [] (fun r _ => r = one (.i (powG b n 8))) := by
  refine spec_of_body tabOK func61 rfl (Nat.le_of_ble_eq_true rfl) ?_
  intro E Q0 hB
  refine ok_run hB tabOK pureB_ok 100 ?_
  simp only [argSl]
  repeat (first
    | rw [run_ops0]
    | rw [run_seq]
    | rw [run_region]
    | rw [run_block]
    | rw [run_blk]
    | rw [run_skip]
    | (apply run_go rfl; focus (intro L K hK; simp [step1, evS, est, St.ev, St.put, St.add, St.upd, look_hit, look_miss, okd, stBin, bin, binS, binB, binI, shS, shB, S.num, constS, one, inI, stUn, stNil, stLoad, stAt, stField, stIndexAddr, stStore, wrAt, stAlloc, stBox, stIndex, stPart, stPartRow, stFieldV, stConv, cvS, cvB, cvI, stSlice, optN, SV.num, noMax, stArrPtr, stExtract, stLen, stBuild, A.isRow, A.isAgg, A.noRec, A.len, A.get, A.sub, A.set, A.over, Ent.bound, Kind.isStruct, Kind.isAgg, S.known, A.solid, segAt, segPut, segLen, R.a, R.len, A.r, stMake, stBuildSlice, litA, repA, rep1, fillA, putP, sing, stMin, stEqA, rowEq, Kind.isScal, -List.reduceReplicate, -List.getD_eq_getElem?_getD, tab3, ty3, ntmps61]; (repeat' apply And.intro); all_goals first | exact hK | omega)))
  rw [run_loop]
  refine ok_loop (X := Nat) (fun j => ⟨[(5, one (.i (powG b n j))), (1, one (.i (n / 2 ^ j : Nat))), (0, one (.i (sqR b j)))], []⟩) (fun j => j ≤ 8) (fun j => 8 - j) (fun j i L h => hB.anc i L h) ⟨0, by simp, by simp [Ent2, entSl, entM, belSl, belV, belA, belS, belR, belM, look_hit, look_miss, one, -List.getD_eq_getElem?_getD, powG, sqR]⟩ ?_
  intro j hj
  refine ok_run hB tabOK pureB_ok 100 ?_
  have hp := powG_lt hb n j
  have hs := sqR_lt hb j
  have hle : n / 2 ^ j ≤ n := Nat.div_le_self _ _
  have hnx : n / 2 ^ (j + 1) = n / 2 ^ j / 2 := by rw [Nat.pow_succ, Nat.div_div_eq_div_mul]
  have h8 : n / 2 ^ 8 = 0 := Nat.div_eq_of_lt (by omega)
  have hpg : powG b n (j + 1) = if n / 2 ^ j % 2 = 1 then timesR (powG b n j) (sqR b j) 8 else powG b n j := rfl
  have hj8 : j = 8 → n / 2 ^ j = 0 := fun h => h ▸ h8
  have hst : n / 2 ^ j = 0 → powG b n 8 = powG b n j := fun h => by
    have := powG_stop (b := b) h (8 - j)
    rwa [show j + (8 - j) = 8 by omega] at this
  have t1 : ((n / 2 ^ j : Nat) : Int).tmod 2 = ((n / 2 ^ j % 2 : Nat) : Int) := rfl
  have t2 : ((n / 2 ^ j : Nat) : Int).tdiv 2 = ((n / 2 ^ j / 2 : Nat) : Int) := rfl
  generalize hN : n / 2 ^ j = N at *
  repeat (first
    | rw [run_ops0]
    | rw [run_seq]
    | rw [run_region]
    | rw [run_block]
    | rw [run_blk]
    | rw [run_skip]
    | (apply run_go rfl; focus (intro L K hK; simp [step1, evS, est, St.ev, St.put, St.add, St.upd, look_hit, look_miss, okd, stBin, bin, binS, binB, binI, shS, shB, S.num, constS, one, inI, stUn, stNil, stLoad, stAt, stField, stIndexAddr, stStore, wrAt, stAlloc, stBox, stIndex, stPart, stPartRow, stFieldV, stConv, cvS, cvB, cvI, stSlice, optN, SV.num, noMax, stArrPtr, stExtract, stLen, stBuild, A.isRow, A.isAgg, A.noRec, A.len, A.get, A.sub, A.set, A.over, Ent.bound, Kind.isStruct, Kind.isAgg, S.known, A.solid, segAt, segPut, segLen, R.a, R.len, A.r, stMake, stBuildSlice, litA, repA, rep1, fillA, putP, sing, stMin, stEqA, rowEq, Kind.isScal, -List.reduceReplicate, -List.getD_eq_getElem?_getD, tab3, ty3, ntmps61]; (repeat' apply And.intro); all_goals first | exact hK | omega)))
  apply run_cond2 rfl
  · intro h
    simp at h
    have hj7 : j < 8 := by omega
    repeat (first
    | rw [run_ops0]
    | rw [run_seq]
    | rw [run_region]
    | rw [run_block]
    | rw [run_blk]
    | rw [run_skip]
    | (apply run_go rfl; focus (intro L K hK; simp [step1, evS, est, St.ev, St.put, St.add, St.upd, look_hit, look_miss, okd, stBin, bin, binS, binB, binI, shS, shB, S.num, constS, one, inI, stUn, stNil, stLoad, stAt, stField, stIndexAddr, stStore, wrAt, stAlloc, stBox, stIndex, stPart, stPartRow, stFieldV, stConv, cvS, cvB, cvI, stSlice, optN, SV.num, noMax, stArrPtr, stExtract, stLen, stBuild, A.isRow, A.isAgg, A.noRec, A.len, A.get, A.sub, A.set, A.over, Ent.bound, Kind.isStruct, Kind.isAgg, S.known, A.solid, segAt, segPut, segLen, R.a, R.len, A.r, stMake, stBuildSlice, litA, repA, rep1, fillA, putP, sing, stMin, stEqA, rowEq, Kind.isScal, -List.reduceReplicate, -List.getD_eq_getElem?_getD, tab3, ty3, ntmps61, t1]; (repeat' apply And.intro); all_goals first | exact hK | omega)))
    apply run_cond2 rfl
    · intro h2
      simp at h2
      have h2' : N % 2 = 1 := by omega
      repeat (first
    | rw [run_ops0]
    | rw [run_seq]
    | rw [run_region]
    | rw [run_block]
    | rw [run_blk]
    | rw [run_skip]
    | (apply run_go rfl; focus (intro L K hK; simp [step1, evS, est, St.ev, St.put, St.add, St.upd, look_hit, look_miss, okd, stBin, bin, binS, binB, binI, shS, shB, S.num, constS, one, inI, stUn, stNil, stLoad, stAt, stField, stIndexAddr, stStore, wrAt, stAlloc, stBox, stIndex, stPart, stPartRow, stFieldV, stConv, cvS, cvB, cvI, stSlice, optN, SV.num, noMax, stArrPtr, stExtract, stLen, stBuild, A.isRow, A.isAgg, A.noRec, A.len, A.get, A.sub, A.set, A.over, Ent.bound, Kind.isStruct, Kind.isAgg, S.known, A.solid, segAt, segPut, segLen, R.a, R.len, A.r, stMake, stBuildSlice, litA, repA, rep1, fillA, putP, sing, stMin, stEqA, rowEq, Kind.isScal, -List.reduceReplicate, -List.getD_eq_getElem?_getD, tab3, ty3, ntmps61, pureOf, pureB, hp, hs, t2]; (repeat' apply And.intro); all_goals first | exact hK | omega)))
      rw [run_back]
      refine ⟨j + 1, by omega, by omega, ?_⟩
      rw [hpg, hnx, if_pos h2']
      simp [Ent2, entSl, entM, belSl, belV, belA, belS, belR, belM, look_hit, look_miss, one, -List.getD_eq_getElem?_getD, sqR]
    · intro h2
      simp at h2
      have h2' : ¬ N % 2 = 1 := by omega
      repeat (first
    | rw [run_ops0]
    | rw [run_seq]
    | rw [run_region]
    | rw [run_block]
    | rw [run_blk]
    | rw [run_skip]
    | (apply run_go rfl; focus (intro L K hK; simp [step1, evS, est, St.ev, St.put, St.add, St.upd, look_hit, look_miss, okd, stBin, bin, binS, binB, binI, shS, shB, S.num, constS, one, inI, stUn, stNil, stLoad, stAt, stField, stIndexAddr, stStore, wrAt, stAlloc, stBox, stIndex, stPart, stPartRow, stFieldV, stConv, cvS, cvB, cvI, stSlice, optN, SV.num, noMax, stArrPtr, stExtract, stLen, stBuild, A.isRow, A.isAgg, A.noRec, A.len, A.get, A.sub, A.set, A.over, Ent.bound, Kind.isStruct, Kind.isAgg, S.known, A.solid, segAt, segPut, segLen, R.a, R.len, A.r, stMake, stBuildSlice, litA, repA, rep1, fillA, putP, sing, stMin, stEqA, rowEq, Kind.isScal, -List.reduceReplicate, -List.getD_eq_getElem?_getD, tab3, ty3, ntmps61, pureOf, pureB, hp, hs, t2]; (repeat' apply And.intro); all_goals first | exact hK | omega)))
      rw [run_back]
      refine ⟨j + 1, by omega, by omega, ?_⟩
      rw [hpg, hnx, if_neg h2']
      simp [Ent2, entSl, entM, belSl, belV, belA, belS, belR, belM, look_hit, look_miss, one, -List.getD_eq_getElem?_getD, sqR]
  · intro h
    simp at h
    have hN0 : N = 0 := by omega
    apply run_exit2 rfl
    repeat (first
    | rw [run_ops0]
    | rw [run_seq]
    | rw [run_region]
    | rw [run_block]
    | rw [run_blk]
    | rw [run_skip]
    | (apply run_go rfl; focus (intro L K hK; simp [step1, evS, est, St.ev, St.put, St.add, St.upd, look_hit, look_miss, okd, stBin, bin, binS, binB, binI, shS, shB, S.num, constS, one, inI, stUn, stNil, stLoad, stAt, stField, stIndexAddr, stStore, wrAt, stAlloc, stBox, stIndex, stPart, stPartRow, stFieldV, stConv, cvS, cvB, cvI, stSlice, optN, SV.num, noMax, stArrPtr, stExtract, stLen, stBuild, A.isRow, A.isAgg, A.noRec, A.len, A.get, A.sub, A.set, A.over, Ent.bound, Kind.isStruct, Kind.isAgg, S.known, A.solid, segAt, segPut, segLen, R.a, R.len, A.r, stMake, stBuildSlice, litA, repA, rep1, fillA, putP, sing, stMin, stEqA, rowEq, Kind.isScal, -List.reduceReplicate, -List.getD_eq_getElem?_getD, tab3, ty3, ntmps61]; (repeat' apply And.intro); all_goals first | exact hK | omega)))
    rw [run_ret, hst hN0]
    simp [finOf, resP, resV, extraOwn, look_hit, look_miss, one, -List.reduceReplicate, -List.getD_eq_getElem?_getD, stLoad, stAt, Ent.bound, A.len, A.isRow, A.isAgg, results61, f61]

/-! the document's schedule -/
def rcell (key : B8) (sb : LI) (n i : Nat) (W : LI) (j : Nat) : Int :=
  if i < n then ((key.getD (4 * i + j) 0).toNat : Int) else
    xorI (W.getD ((i - n) * 4 + j) 0)
      (if i % n = 0 then
        (if j = 0 then xorI (sb.getD (W.getD ((i - 1) * 4 + (j + 1) % 4) 0).toNat 0) (powG 2 (i / n - 1) 8) else sb.getD (W.getD ((i - 1) * 4 + (j + 1) % 4) 0).toNat 0)
      else if n = 8 ∧ i % 8 = 4 then sb.getD (W.getD ((i - 1) * 4 + j) 0).toNat 0 else W.getD ((i - 1) * 4 + j) 0)
def rschW (key : B8) (sb : LI) (n i : Nat) (W : LI) : Nat → LI
  | 0 => [0, 0, 0, 0]
  | j + 1 => (rschW key sb n i W j).set j (rcell key sb n i W j)
def rsch (key : B8) (sb : LI) (n : Nat) : Nat → LI
  | 0 => []
  | i + 1 => rsch key sb n i ++ rschW key sb n i (rsch key sb n i) 4
theorem rschW_len (key : B8) (sb : LI) (n i : Nat) (W : LI) : ∀ j, (rschW key sb n i W j).length = 4
  | 0 => rfl
  | j + 1 => by simp [rschW, rschW_len key sb n i W j]
theorem rsch_len (key : B8) (sb : LI) (n : Nat) : ∀ i, (rsch key sb n i).length = 4 * i
  | 0 => rfl
  | i + 1 => by simp [rsch, rschW_len, rsch_len key sb n i]; omega
theorem rcell_byt {key : B8} {sb : LI} {n i : Nat} {W : LI} (hs : Byt sb) (hW : Byt W) (j : Nat) : 0 ≤ rcell key sb n i W j ∧ rcell key sb n i W j < 256 := by
  unfold rcell
  split
  · have := (key.getD (4 * i + j) 0).isLt; omega
  · refine xorI_lt (hW _) ?_
    split
    · split
      · exact xorI_lt (hs _) (powG_lt (by decide) _ 8)
      · exact hs _
    · split
      · exact hs _
      · exact hW _
theorem byt_append {a b : LI} (ha : Byt a) (hb : Byt b) : Byt (a ++ b) := by
  intro i
  by_cases h : i < a.length
  · have := ha i
    simpa [List.getD_eq_getElem?_getD, List.getElem?_append_left h] using this
  · have := hb (i - a.length)
    simpa [List.getD_eq_getElem?_getD, List.getElem?_append_right (by omega : a.length ≤ i)] using this
theorem byt_nil : Byt [] := fun i => by simp
theorem byt_0000 : Byt [0, 0, 0, 0] := fun i => by
  match i with
  | 0 => exact ⟨by decide, by decide⟩
  | 1 => exact ⟨by decide, by decide⟩
  | 2 => exact ⟨by decide, by decide⟩
  | 3 => exact ⟨by decide, by decide⟩
  | n + 4 => simp
theorem rschW_byt {key : B8} {sb : LI} {n i : Nat} {W : LI} (hs : Byt sb) (hW : Byt W) : ∀ j, Byt (rschW key sb n i W j)
  | 0 => byt_0000
  | j + 1 => (rschW_byt hs hW j).set (rcell_byt hs hW j)
theorem rsch_byt {key : B8} {sb : LI} {n : Nat} (hs : Byt sb) : ∀ i, Byt (rsch key sb n i)
  | 0 => byt_nil
  | i + 1 => byt_append (rsch_byt hs i) (rschW_byt hs (rsch_byt hs i) 4)
end Go.V
end
section
set_option linter.unusedSimpArgs false
set_option linter.unusedVariables false
set_option maxRecDepth 20000
namespace Go.V
/-- A byte as an int; bytes as ints. -/
def ub (x : BitVec 8) : Int := (x.toNat : Int)
def toI (b : B8) : LI := b.map ub
theorem ub_nat (x : BitVec 8) : (ub x).toNat = x.toNat := by simp [ub]
theorem ub_byt (x : BitVec 8) : 0 ≤ ub x ∧ ub x < 256 := by have := x.isLt; simp only [ub]; omega
theorem toI_getD (b : B8) (i : Nat) : (toI b).getD i 0 = ub (b.getD i 0) := by
  simp only [toI, List.getD_eq_getElem?_getD, List.getElem?_map]
  cases b[i]? <;> rfl
theorem toI_len (b : B8) : (toI b).length = b.length := by simp [toI]
theorem toI_byt (b : B8) : Byt (toI b) := fun i => by rw [toI_getD]; exact ub_byt _
theorem xorI_ub (x y : BitVec 8) : xorI (ub x) (ub y) = ub (x ^^^ y) := by simp [xorI, ub, BitVec.toNat_xor]
theorem ofI_ub (x : BitVec 8) : BitVec.ofInt 8 (ub x) = x := by simp [ub]
theorem all_bytes {P : BitVec 8 → Prop} (h : ∀ i : Fin 256, P (BitVec.ofNat 8 i.1)) (x : BitVec 8) : P x := by
  have := h ⟨x.toNat, x.isLt⟩
  simpa using this
theorem times1 : ∀ x : BitVec 8, timesR 1 (ub x) 8 = ub x := all_bytes (by decide +kernel)
theorem times2 : ∀ x : BitVec 8, timesR 2 (ub x) 8 = ub (twice8 x) := all_bytes (by decide +kernel)
theorem times3 : ∀ x : BitVec 8, timesR 3 (ub x) 8 = ub (x ^^^ twice8 x) := all_bytes (by decide +kernel)
theorem shr7 : ∀ x : BitVec 8, (x >>> 7) * 27#8 = if x.getLsbD 7 then 27#8 else 0#8 := all_bytes (by decide +kernel)
theorem twice8_xor (x y : BitVec 8) : twice8 (x ^^^ y) = twice8 x ^^^ twice8 y := by
  simp only [twice8, shr7, BitVec.getLsbD_xor, BitVec.shiftLeft_xor_distrib]
  generalize x <<< 1 = a
  generalize y <<< 1 = b
  cases x.getLsbD 7 <;> cases y.getLsbD 7 <;> simp <;> (apply BitVec.eq_of_getLsbD_eq; intro i hi; simp only [BitVec.getLsbD_xor]; cases a.getLsbD i <;> cases b.getLsbD i <;> cases (27#8).getLsbD i <;> rfl)
theorem xor_bits {x y : BitVec 8} (h : ∀ i, x.getLsbD i = y.getLsbD i) : x = y := BitVec.eq_of_getLsbD_eq (fun i _ => h i)

/-! one round -/
theorem list16 {α : Type} {b : List α} (h : b.length = 16) : ∃ b0 b1 b2 b3 b4 b5 b6 b7 b8 b9 b10 b11 b12 b13 b14 b15, b = [b0, b1, b2, b3, b4, b5, b6, b7, b8, b9, b10, b11, b12, b13, b14, b15] := by
  match b, h with
  | [b0, b1, b2, b3, b4, b5, b6, b7, b8, b9, b10, b11, b12, b13, b14, b15], _ => exact ⟨_, _, _, _, _, _, _, _, _, _, _, _, _, _, _, _, rfl⟩
theorem list4 {α : Type} {b : List α} (h : b.length = 4) : ∃ b0 b1 b2 b3, b = [b0, b1, b2, b3] := by
  match b, h with
  | [b0, b1, b2, b3], _ => exact ⟨_, _, _, _, rfl⟩
/-- Lists of one length are alike where their entries are. -/
theorem ext_getD {α : Type} {d : α} {a b : List α} {n : Nat} (ha : a.length = n) (hb : b.length = n) (h : ∀ i, i < n → a.getD i d = b.getD i d) : a = b := by
  apply List.ext_getElem (by omega)
  intro i h1 h2
  have := h i (by omega)
  simpa [List.getD_eq_getElem?_getD, List.getElem?_eq_getElem h1, List.getElem?_eq_getElem h2] using this
/-- The substitution and the shift of rows. -/
def shI (i : Nat) : Nat := (i + 4 * (i % 4)) % 16
theorem subS_get (b : B8) : ∀ i, i < 16 → (subS b 16).getD i 0 = boxOf (b.getD (shI i) 0)
  | 0, _ => by kernel_rfl | 1, _ => by kernel_rfl | 2, _ => by kernel_rfl | 3, _ => by kernel_rfl | 4, _ => by kernel_rfl | 5, _ => by kernel_rfl | 6, _ => by kernel_rfl | 7, _ => by kernel_rfl
  | 8, _ => by kernel_rfl | 9, _ => by kernel_rfl | 10, _ => by kernel_rfl | 11, _ => by kernel_rfl | 12, _ => by kernel_rfl | 13, _ => by kernel_rfl | 14, _ => by kernel_rfl | 15, _ => by kernel_rfl
  | n + 16, h => absurd h (by omega)
theorem outT_get (sb s : LI) : ∀ i, i < 16 → (outT sb s 4).getD i 0 = sb.getD (s.getD (shI i) 0).toNat 0
  | 0, _ => by kernel_rfl | 1, _ => by kernel_rfl | 2, _ => by kernel_rfl | 3, _ => by kernel_rfl | 4, _ => by kernel_rfl | 5, _ => by kernel_rfl | 6, _ => by kernel_rfl | 7, _ => by kernel_rfl
  | 8, _ => by kernel_rfl | 9, _ => by kernel_rfl | 10, _ => by kernel_rfl | 11, _ => by kernel_rfl | 12, _ => by kernel_rfl | 13, _ => by kernel_rfl | 14, _ => by kernel_rfl | 15, _ => by kernel_rfl
  | n + 16, h => absurd h (by omega)
def SbOK (sb : LI) : Prop := ∀ x : BitVec 8, sb.getD x.toNat 0 = ub (boxOf x)
theorem outT_eq {sb : LI} (hs : SbOK sb) (b : B8) : outT sb (toI b) 4 = toI (subS b 16) := by
  apply ext_getD (d := 0) (outT_len _ _ _) (by rw [toI_len, subS_len])
  intro i hi
  rw [outT_get _ _ i hi, toI_getD, toI_getD, ub_nat, hs, subS_get b i hi]
/-- The mixing of a column: entry i. -/
def mxc (s : B8) (i : Nat) : BitVec 8 := s.getD i 0 ^^^ allOf ((s.drop (4 * (i / 4))).take 4) ^^^ twice8 (s.getD i 0 ^^^ s.getD (4 * (i / 4) + (i % 4 + 1) % 4) 0)
theorem mixS_get {s : B8} (h : s.length = 16) : ∀ i, i < 16 → (mixS s 4).getD i 0 = mxc s i := by
  obtain ⟨b0, b1, b2, b3, b4, b5, b6, b7, b8, b9, b10, b11, b12, b13, b14, b15, rfl⟩ := list16 h
  intro i hi
  match i, hi with
  | 0, _ => (show _ = _; kernel_rfl) | 1, _ => (show _ = _; kernel_rfl) | 2, _ => (show _ = _; kernel_rfl) | 3, _ => (show _ = _; kernel_rfl) | 4, _ => (show _ = _; kernel_rfl) | 5, _ => (show _ = _; kernel_rfl) | 6, _ => (show _ = _; kernel_rfl) | 7, _ => (show _ = _; kernel_rfl)
  | 8, _ => (show _ = _; kernel_rfl) | 9, _ => (show _ = _; kernel_rfl) | 10, _ => (show _ = _; kernel_rfl) | 11, _ => (show _ = _; kernel_rfl) | 12, _ => (show _ = _; kernel_rfl) | 13, _ => (show _ = _; kernel_rfl) | 14, _ => (show _ = _; kernel_rfl) | 15, _ => (show _ = _; kernel_rfl)
  | n + 16, h => exact absurd h (by omega)
theorem xorAt_get {b : B8} (s W : B8) (o : Nat) (h : b.length = 16) : ∀ i, i < 16 → (xorAt b s W o 16).getD i 0 = s.getD i 0 ^^^ W.getD (o + i) 0 := by
  obtain ⟨b0, b1, b2, b3, b4, b5, b6, b7, b8, b9, b10, b11, b12, b13, b14, b15, rfl⟩ := list16 h
  intro i hi
  match i, hi with
  | 0, _ => (show _ = _; kernel_rfl) | 1, _ => (show _ = _; kernel_rfl) | 2, _ => (show _ = _; kernel_rfl) | 3, _ => (show _ = _; kernel_rfl) | 4, _ => (show _ = _; kernel_rfl) | 5, _ => (show _ = _; kernel_rfl) | 6, _ => (show _ = _; kernel_rfl) | 7, _ => (show _ = _; kernel_rfl)
  | 8, _ => (show _ = _; kernel_rfl) | 9, _ => (show _ = _; kernel_rfl) | 10, _ => (show _ = _; kernel_rfl) | 11, _ => (show _ = _; kernel_rfl) | 12, _ => (show _ = _; kernel_rfl) | 13, _ => (show _ = _; kernel_rfl) | 14, _ => (show _ = _; kernel_rfl) | 15, _ => (show _ = _; kernel_rfl)
  | n + 16, h => exact absurd h (by omega)
theorem xorIn_get {b : B8} (W : B8) (h : b.length = 16) : ∀ i, i < 16 → (xorIn b W 16).getD i 0 = b.getD i 0 ^^^ W.getD i 0 := by
  obtain ⟨b0, b1, b2, b3, b4, b5, b6, b7, b8, b9, b10, b11, b12, b13, b14, b15, rfl⟩ := list16 h
  intro i hi
  match i, hi with
  | 0, _ => (show _ = _; kernel_rfl) | 1, _ => (show _ = _; kernel_rfl) | 2, _ => (show _ = _; kernel_rfl) | 3, _ => (show _ = _; kernel_rfl) | 4, _ => (show _ = _; kernel_rfl) | 5, _ => (show _ = _; kernel_rfl) | 6, _ => (show _ = _; kernel_rfl) | 7, _ => (show _ = _; kernel_rfl)
  | 8, _ => (show _ = _; kernel_rfl) | 9, _ => (show _ = _; kernel_rfl) | 10, _ => (show _ = _; kernel_rfl) | 11, _ => (show _ = _; kernel_rfl) | 12, _ => (show _ = _; kernel_rfl) | 13, _ => (show _ = _; kernel_rfl) | 14, _ => (show _ = _; kernel_rfl) | 15, _ => (show _ = _; kernel_rfl)
  | n + 16, h => exact absurd h (by omega)
theorem iniS_get (b : B8) (W : LI) : ∀ i, i < 16 → (iniS b W 16).getD i 0 = (((b.getD i 0).toNat ^^^ (W.getD i 0).toNat : Nat) : Int)
  | 0, _ => by kernel_rfl | 1, _ => by kernel_rfl | 2, _ => by kernel_rfl | 3, _ => by kernel_rfl | 4, _ => by kernel_rfl | 5, _ => by kernel_rfl | 6, _ => by kernel_rfl | 7, _ => by kernel_rfl
  | 8, _ => by kernel_rfl | 9, _ => by kernel_rfl | 10, _ => by kernel_rfl | 11, _ => by kernel_rfl | 12, _ => by kernel_rfl | 13, _ => by kernel_rfl | 14, _ => by kernel_rfl | 15, _ => by kernel_rfl
  | n + 16, h => absurd h (by omega)
theorem outM_get (mx : Bool) (t W : LI) (r : Nat) {s : LI} (h : s.length = 16) : ∀ i, i < 16 → (outM mx t W r s 4).getD i 0 = xorI (cellX mx t (i / 4) (i % 4)) (W.getD ((4 * r + i / 4) * 4 + i % 4) 0) := by
  obtain ⟨b0, b1, b2, b3, b4, b5, b6, b7, b8, b9, b10, b11, b12, b13, b14, b15, rfl⟩ := list16 h
  intro i hi
  match i, hi with
  | 0, _ => (show _ = _; kernel_rfl) | 1, _ => (show _ = _; kernel_rfl) | 2, _ => (show _ = _; kernel_rfl) | 3, _ => (show _ = _; kernel_rfl) | 4, _ => (show _ = _; kernel_rfl) | 5, _ => (show _ = _; kernel_rfl) | 6, _ => (show _ = _; kernel_rfl) | 7, _ => (show _ = _; kernel_rfl)
  | 8, _ => (show _ = _; kernel_rfl) | 9, _ => (show _ = _; kernel_rfl) | 10, _ => (show _ = _; kernel_rfl) | 11, _ => (show _ = _; kernel_rfl) | 12, _ => (show _ = _; kernel_rfl) | 13, _ => (show _ = _; kernel_rfl) | 14, _ => (show _ = _; kernel_rfl) | 15, _ => (show _ = _; kernel_rfl)
  | n + 16, h => exact absurd h (by omega)
theorem outB_get (s : LI) : ∀ i, i < 16 → (outB s 16).getD i 0 = BitVec.ofInt 8 (s.getD i 0)
  | 0, _ => by kernel_rfl | 1, _ => by kernel_rfl | 2, _ => by kernel_rfl | 3, _ => by kernel_rfl | 4, _ => by kernel_rfl | 5, _ => by kernel_rfl | 6, _ => by kernel_rfl | 7, _ => by kernel_rfl
  | 8, _ => by kernel_rfl | 9, _ => by kernel_rfl | 10, _ => by kernel_rfl | 11, _ => by kernel_rfl | 12, _ => by kernel_rfl | 13, _ => by kernel_rfl | 14, _ => by kernel_rfl | 15, _ => by kernel_rfl
  | n + 16, h => absurd h (by omega)
theorem mix0 (a b c d : BitVec 8) : xorI (xorI (xorI (timesR 2 (ub a) 8) (timesR 3 (ub b) 8)) (timesR 1 (ub c) 8)) (timesR 1 (ub d) 8) = ub (a ^^^ (a ^^^ b ^^^ c ^^^ d) ^^^ twice8 (a ^^^ b)) := by
  rw [times2, times3, times1, times1, xorI_ub, xorI_ub, xorI_ub, twice8_xor]
  congr 1
  apply xor_bits
  intro i
  simp only [BitVec.getLsbD_xor]
  generalize (twice8 a).getLsbD i = ta
  generalize (twice8 b).getLsbD i = tb
  cases a.getLsbD i <;> cases b.getLsbD i <;> cases c.getLsbD i <;> cases d.getLsbD i <;> cases ta <;> cases tb <;> rfl
theorem mix1 (a b c d : BitVec 8) : xorI (xorI (xorI (timesR 1 (ub a) 8) (timesR 2 (ub b) 8)) (timesR 3 (ub c) 8)) (timesR 1 (ub d) 8) = ub (b ^^^ (a ^^^ b ^^^ c ^^^ d) ^^^ twice8 (b ^^^ c)) := by
  rw [times2, times3, times1, times1, xorI_ub, xorI_ub, xorI_ub, twice8_xor]
  congr 1
  apply xor_bits
  intro i
  simp only [BitVec.getLsbD_xor]
  generalize (twice8 b).getLsbD i = tb
  generalize (twice8 c).getLsbD i = tc
  cases a.getLsbD i <;> cases b.getLsbD i <;> cases c.getLsbD i <;> cases d.getLsbD i <;> cases tb <;> cases tc <;> rfl
theorem mix2 (a b c d : BitVec 8) : xorI (xorI (xorI (timesR 1 (ub a) 8) (timesR 1 (ub b) 8)) (timesR 2 (ub c) 8)) (timesR 3 (ub d) 8) = ub (c ^^^ (a ^^^ b ^^^ c ^^^ d) ^^^ twice8 (c ^^^ d)) := by
  rw [times2, times3, times1, times1, xorI_ub, xorI_ub, xorI_ub, twice8_xor]
  congr 1
  apply xor_bits
  intro i
  simp only [BitVec.getLsbD_xor]
  generalize (twice8 d).getLsbD i = td
  generalize (twice8 c).getLsbD i = tc
  cases a.getLsbD i <;> cases b.getLsbD i <;> cases c.getLsbD i <;> cases d.getLsbD i <;> cases td <;> cases tc <;> rfl
theorem mix3 (a b c d : BitVec 8) : xorI (xorI (xorI (timesR 3 (ub a) 8) (timesR 1 (ub b) 8)) (timesR 1 (ub c) 8)) (timesR 2 (ub d) 8) = ub (d ^^^ (a ^^^ b ^^^ c ^^^ d) ^^^ twice8 (d ^^^ a)) := by
  rw [times2, times3, times1, times1, xorI_ub, xorI_ub, xorI_ub, twice8_xor]
  congr 1
  apply xor_bits
  intro i
  simp only [BitVec.getLsbD_xor]
  generalize (twice8 d).getLsbD i = td
  generalize (twice8 a).getLsbD i = ta
  cases a.getLsbD i <;> cases b.getLsbD i <;> cases c.getLsbD i <;> cases d.getLsbD i <;> cases td <;> cases ta <;> rfl
theorem cell_eq {s : B8} (h : s.length = 16) : ∀ i, i < 16 → cellX true (toI s) (i / 4) (i % 4) = ub (mxc s i) := by
  obtain ⟨b0, b1, b2, b3, b4, b5, b6, b7, b8, b9, b10, b11, b12, b13, b14, b15, rfl⟩ := list16 h
  intro i hi
  match i, hi with
  | 0, _ => exact mix0 b0 b1 b2 b3
  | 1, _ => exact mix1 b0 b1 b2 b3
  | 2, _ => exact mix2 b0 b1 b2 b3
  | 3, _ => exact mix3 b0 b1 b2 b3
  | 4, _ => exact mix0 b4 b5 b6 b7
  | 5, _ => exact mix1 b4 b5 b6 b7
  | 6, _ => exact mix2 b4 b5 b6 b7
  | 7, _ => exact mix3 b4 b5 b6 b7
  | 8, _ => exact mix0 b8 b9 b10 b11
  | 9, _ => exact mix1 b8 b9 b10 b11
  | 10, _ => exact mix2 b8 b9 b10 b11
  | 11, _ => exact mix3 b8 b9 b10 b11
  | 12, _ => exact mix0 b12 b13 b14 b15
  | 13, _ => exact mix1 b12 b13 b14 b15
  | 14, _ => exact mix2 b12 b13 b14 b15
  | 15, _ => exact mix3 b12 b13 b14 b15
  | n + 16, h => exact absurd h (by omega)
theorem round_eq {sb : LI} (hs : SbOK sb) {b : B8} (hb : b.length = 16) (W : B8) (n q : Nat) : outM (decide (q + 1 < n + 6)) (outT sb (toI b) 4) (toI W) (q + 1) (toI b) 4 = toI (oneRound b W (n + 7) (q + 1)) := by
  apply ext_getD (d := 0) (n := 16) (by rw [outM_len, toI_len, hb]) (by rw [toI_len, oneRound, xorAt_len, hb])
  intro i hi
  rw [outM_get _ _ _ _ (by rw [toI_len, hb]) i hi, toI_getD, toI_getD, outT_eq hs, oneRound, xorAt_get _ _ _ hb i hi, ← xorI_ub, show (4 * (q + 1) + i / 4) * 4 + i % 4 = 16 * (q + 1) + i by omega]
  congr 1
  by_cases h : q + 1 < n + 6
  · rw [decide_eq_true h, if_pos (by omega), mixS_get (subS_len b 16) i hi, cell_eq (subS_len b 16) i hi]
  · rw [decide_eq_false h, if_neg (by omega)]
    simp only [cellX, Bool.false_eq_true, if_false]
    rw [toI_getD, show i / 4 * 4 + i % 4 = i by omega]
theorem rounds_eq {sb : LI} (hs : SbOK sb) {b : B8} (hb : b.length = 16) (W : B8) (n : Nat) : ∀ q, rRounds sb (toI W) n (iniS b (toI W) 16) q = toI (rounds b W (n + 7) q)
  | 0 => by
    show iniS b (toI W) 16 = toI (xorIn b W 16)
    apply ext_getD (d := 0) (n := 16) (iniS_len _ _ _) (by rw [toI_len, xorIn_len, hb])
    intro i hi
    rw [iniS_get _ _ i hi, toI_getD, toI_getD, ub_nat, xorIn_get _ hb i hi]
    simp [ub, BitVec.toNat_xor]
  | q + 1 => by
    show outM _ (outT sb (rRounds sb (toI W) n (iniS b (toI W) 16) q) 4) _ _ (rRounds sb (toI W) n (iniS b (toI W) 16) q) 4 = toI (oneRound _ _ _ _)
    rw [rounds_eq hs hb W n q]
    exact round_eq hs (by rw [rounds_len, hb]) W n q
/-- The program's block is the document's. -/
theorem block_eq {sb : LI} (hs : SbOK sb) {b : B8} (hb : b.length = 16) (W : B8) (n : Nat) : outB (rRounds sb (toI W) n (iniS b (toI W) 16) (n + 6)) 16 = rounds b W (n + 7) (n + 7 - 1) := by
  rw [rounds_eq hs hb W n (n + 6)]
  apply ext_getD (d := 0) (n := 16) (outB_len _ _) (by rw [rounds_len, hb])
  intro i hi
  rw [outB_get _ i hi, toI_getD, ofI_ub]
  rfl

/-! blocks are kept apart -/
theorem box_inj : ∀ x y : BitVec 8, boxOf x = boxOf y → x = y := by
  have h : ∀ x : BitVec 8, BitVec.ofNat 8 ((boxL.idxOf (boxOf x))) = x := all_bytes (by decide +kernel)
  intro x y hxy
  rw [← h x, ← h y, hxy]
def mx4 (a b c d : BitVec 8) : BitVec 8 := a ^^^ (a ^^^ b ^^^ c ^^^ d) ^^^ twice8 (a ^^^ b)
theorem mx4_twice (a b c d : BitVec 8) : mx4 (mx4 a b c d) (mx4 b c d a) (mx4 c d a b) (mx4 d a b c) = a ^^^ twice8 (twice8 (a ^^^ c)) := by
  simp only [mx4, twice8_xor]
  apply xor_bits
  intro i
  simp only [BitVec.getLsbD_xor]
  generalize (twice8 a).getLsbD i = ta
  generalize (twice8 b).getLsbD i = tb
  generalize (twice8 c).getLsbD i = tc
  generalize (twice8 d).getLsbD i = td
  generalize (twice8 (twice8 a)).getLsbD i = tta
  generalize (twice8 (twice8 b)).getLsbD i = ttb
  generalize (twice8 (twice8 c)).getLsbD i = ttc
  generalize a.getLsbD i = a
  generalize b.getLsbD i = b
  generalize c.getLsbD i = c
  generalize d.getLsbD i = d
  revert a b c d ta tb tc td tta ttb ttc
  decide +kernel
theorem mx4_back (a b c d : BitVec 8) : a = (a ^^^ twice8 (twice8 (a ^^^ c))) ^^^ twice8 (twice8 ((a ^^^ twice8 (twice8 (a ^^^ c))) ^^^ (c ^^^ twice8 (twice8 (c ^^^ a))))) := by
  simp only [twice8_xor]
  apply xor_bits
  intro i
  simp only [BitVec.getLsbD_xor]
  generalize (twice8 (twice8 a)).getLsbD i = t1
  generalize (twice8 (twice8 c)).getLsbD i = t2
  generalize (twice8 (twice8 (twice8 (twice8 a)))).getLsbD i = t3
  generalize (twice8 (twice8 (twice8 (twice8 c)))).getLsbD i = t4
  cases a.getLsbD i <;> cases c.getLsbD i <;> cases t1 <;> cases t2 <;> cases t3 <;> cases t4 <;> rfl
theorem mx4_inj {a b c d a' b' c' d' : BitVec 8} (h1 : mx4 a b c d = mx4 a' b' c' d') (h2 : mx4 b c d a = mx4 b' c' d' a') (h3 : mx4 c d a b = mx4 c' d' a' b') (h4 : mx4 d a b c = mx4 d' a' b' c') : a = a' ∧ b = b' ∧ c = c' ∧ d = d' := by
  have e1 := mx4_twice a b c d
  have e2 := mx4_twice b c d a
  have e3 := mx4_twice c d a b
  have e4 := mx4_twice d a b c
  rw [h1, h2, h3, h4, mx4_twice] at e1
  rw [h1, h2, h3, h4, mx4_twice] at e2
  rw [h1, h2, h3, h4, mx4_twice] at e3
  rw [h1, h2, h3, h4, mx4_twice] at e4
  refine ⟨?_, ?_, ?_, ?_⟩
  · rw [mx4_back a b c d, mx4_back a' b' c' d', e1, e3]
  · rw [mx4_back b c d a, mx4_back b' c' d' a', e2, e4]
  · rw [mx4_back c d a b, mx4_back c' d' a' b', e3, e1]
  · rw [mx4_back d a b c, mx4_back d' a' b' c', e4, e2]
theorem mix_rot (a b c d : BitVec 8) : a ^^^ (d ^^^ a ^^^ b ^^^ c) ^^^ twice8 (a ^^^ b) = mx4 a b c d ∧ a ^^^ (c ^^^ d ^^^ a ^^^ b) ^^^ twice8 (a ^^^ b) = mx4 a b c d ∧ a ^^^ (b ^^^ c ^^^ d ^^^ a) ^^^ twice8 (a ^^^ b) = mx4 a b c d := by
  refine ⟨?_, ?_, ?_⟩ <;>
  · unfold mx4
    generalize twice8 (a ^^^ b) = t
    apply xor_bits
    intro i
    simp only [BitVec.getLsbD_xor]
    cases a.getLsbD i <;> cases b.getLsbD i <;> cases c.getLsbD i <;> cases d.getLsbD i <;> cases t.getLsbD i <;> rfl
theorem mixS_inj {s t : B8} (hs : s.length = 16) (ht : t.length = 16) (h : mixS s 4 = mixS t 4) : s = t := by
  have H : ∀ i, i < 16 → mxc s i = mxc t i := fun i hi => by rw [← mixS_get hs i hi, ← mixS_get ht i hi, h]
  obtain ⟨a0, a1, a2, a3, a4, a5, a6, a7, a8, a9, a10, a11, a12, a13, a14, a15, rfl⟩ := list16 hs
  obtain ⟨b0, b1, b2, b3, b4, b5, b6, b7, b8, b9, b10, b11, b12, b13, b14, b15, rfl⟩ := list16 ht
  have col : ∀ {a b c d a' b' c' d' : BitVec 8}, a ^^^ (a ^^^ b ^^^ c ^^^ d) ^^^ twice8 (a ^^^ b) = a' ^^^ (a' ^^^ b' ^^^ c' ^^^ d') ^^^ twice8 (a' ^^^ b') →
      b ^^^ (a ^^^ b ^^^ c ^^^ d) ^^^ twice8 (b ^^^ c) = b' ^^^ (a' ^^^ b' ^^^ c' ^^^ d') ^^^ twice8 (b' ^^^ c') →
      c ^^^ (a ^^^ b ^^^ c ^^^ d) ^^^ twice8 (c ^^^ d) = c' ^^^ (a' ^^^ b' ^^^ c' ^^^ d') ^^^ twice8 (c' ^^^ d') →
      d ^^^ (a ^^^ b ^^^ c ^^^ d) ^^^ twice8 (d ^^^ a) = d' ^^^ (a' ^^^ b' ^^^ c' ^^^ d') ^^^ twice8 (d' ^^^ a') → a = a' ∧ b = b' ∧ c = c' ∧ d = d' := by
    intro a b c d a' b' c' d' h1 h2 h3 h4
    rw [(mix_rot b c d a).1, (mix_rot b' c' d' a').1] at h2
    rw [(mix_rot c d a b).2.1, (mix_rot c' d' a' b').2.1] at h3
    rw [(mix_rot d a b c).2.2, (mix_rot d' a' b' c').2.2] at h4
    exact mx4_inj h1 h2 h3 h4
  obtain ⟨rfl, rfl, rfl, rfl⟩ := col (H 0 (by omega)) (H 1 (by omega)) (H 2 (by omega)) (H 3 (by omega))
  obtain ⟨rfl, rfl, rfl, rfl⟩ := col (H 4 (by omega)) (H 5 (by omega)) (H 6 (by omega)) (H 7 (by omega))
  obtain ⟨rfl, rfl, rfl, rfl⟩ := col (H 8 (by omega)) (H 9 (by omega)) (H 10 (by omega)) (H 11 (by omega))
  obtain ⟨rfl, rfl, rfl, rfl⟩ := col (H 12 (by omega)) (H 13 (by omega)) (H 14 (by omega)) (H 15 (by omega))
  rfl
theorem xor_right {a b c : BitVec 8} (h : a ^^^ c = b ^^^ c) : a = b := by
  have : a ^^^ c ^^^ c = b ^^^ c ^^^ c := by rw [h]
  simpa [BitVec.xor_assoc] using this
theorem subS_inj {s t : B8} (hs : s.length = 16) (ht : t.length = 16) (h : subS s 16 = subS t 16) : s = t := by
  apply ext_getD (d := 0) hs ht
  intro i hi
  have inv : ∀ i : Fin 16, ∃ j : Fin 16, shI j.1 = i.1 := by decide
  obtain ⟨j, hj⟩ := inv ⟨i, hi⟩
  have := subS_get s j.1 j.2
  rw [h, subS_get t j.1 j.2, hj] at this
  exact (box_inj _ _ this).symm
theorem oneRound_inj {a b : B8} (W : B8) (nr r : Nat) (ha : a.length = 16) (hb : b.length = 16) (h : oneRound a W nr r = oneRound b W nr r) : a = b := by
  have key : ∀ s t : B8, s.length = 16 → t.length = 16 → xorAt a s W (16 * r) 16 = xorAt b t W (16 * r) 16 → s = t := by
    intro s t hs ht he
    apply ext_getD (d := 0) hs ht
    intro i hi
    have h1 := xorAt_get s W (16 * r) ha i hi
    rw [he, xorAt_get t W (16 * r) hb i hi] at h1
    exact (xor_right h1).symm
  unfold oneRound at h
  apply subS_inj ha hb
  split at h
  · exact mixS_inj (subS_len _ _) (subS_len _ _) (key _ _ (by rw [mixS_len, subS_len]) (by rw [mixS_len, subS_len]) h)
  · exact key _ _ (subS_len _ _) (subS_len _ _) h
theorem rounds_inj {a b : B8} (W : B8) (nr : Nat) (ha : a.length = 16) (hb : b.length = 16) : ∀ q, rounds a W nr q = rounds b W nr q → a = b
  | 0, h => by
    apply ext_getD (d := 0) ha hb
    intro i hi
    have h1 := xorIn_get W ha i hi
    rw [show xorIn a W 16 = xorIn b W 16 from h, xorIn_get W hb i hi] at h1
    exact (xor_right h1).symm
  | q + 1, h => rounds_inj W nr ha hb q (oneRound_inj W nr (q + 1) (by rw [rounds_len, ha]) (by rw [rounds_len, hb]) h)
end Go.V
end
section
set_option linter.unusedSimpArgs false
set_option linter.unusedVariables false
set_option maxRecDepth 20000
namespace Go.V
theorem tabR_get (i : Nat) (hi : i < 256) : ∀ j, j ≤ 256 → (tabR j).getD i 0 = if i < j then subR i else 0
  | 0, _ => by simp [tabR, List.getD_eq_getElem?_getD, List.getElem?_replicate, hi, -List.reduceReplicate]
  | j + 1, hj => by
    have ih := tabR_get i hi j (by omega)
    have hl := tabR_len j
    rw [List.getD_eq_getElem?_getD] at ih ⊢
    rw [tabR, List.getElem?_set]
    by_cases h : j = i
    · subst h
      rw [if_pos rfl, hl, if_pos hi, if_pos (by omega)]
      rfl
    · rw [if_neg h, ih]
      by_cases h2 : i < j
      · rw [if_pos h2, if_pos (by omega)]
      · rw [if_neg h2, if_neg (by omega)]
theorem sub_box : ∀ x : BitVec 8, subR (ub x) = ub (boxOf x) := all_bytes (by decide +kernel)
theorem tab_ok : SbOK (tabR 256) := fun x => by
  rw [tabR_get _ x.isLt 256 (Nat.le_refl _), if_pos x.isLt]
  exact sub_box x
theorem tab_byt : Byt (tabR 256) := fun i => by
  by_cases h : i < 256
  · have := tab_ok (BitVec.ofNat 8 i)
    simp only [BitVec.toNat_ofNat, Nat.reducePow, Nat.mod_eq_of_lt h] at this
    rw [this]
    exact ub_byt _
  · rw [List.getD_eq_getElem?_getD, List.getElem?_eq_none (by rw [tabR_len]; omega)]
    decide
def cpow : Nat → BitVec 8
  | 0 => 1
  | m + 1 => twice8 (cpow m)
theorem pow_cpow : ∀ m : Fin 10, powG 2 m.1 8 = ub (cpow m.1) := by decide +kernel
theorem sch_c {key : B8} {nk : Nat} (hn : nk = 4 ∨ nk = 8) : ∀ i, (sch key nk i).2 = cpow ((i - 1) / nk)
  | 0 => by rcases hn with rfl | rfl <;> rfl
  | i + 1 => by
    have ih := sch_c (key := key) hn i
    rw [sch]
    split
    · rename_i h
      show (sch key nk i).2 = _
      rw [ih]
      congr 1
      rcases hn with rfl | rfl <;> omega
    · show (if i % nk = 0 then twice8 (sch key nk i).2 else (sch key nk i).2) = _
      rw [ih]
      split
      · rename_i h1 h2
        have : (i + 1 - 1) / nk = (i - 1) / nk + 1 := by rcases hn with rfl | rfl <;> omega
        rw [this]
        rfl
      · rename_i h1 h2
        have : (i + 1 - 1) / nk = (i - 1) / nk := by rcases hn with rfl | rfl <;> omega
        rw [this]
theorem rschW_get (key : B8) (sb : LI) (n i : Nat) (W : LI) : ∀ j, j < 4 → (rschW key sb n i W 4).getD j 0 = rcell key sb n i W j
  | 0, _ => rfl | 1, _ => rfl | 2, _ => rfl | 3, _ => rfl
  | n + 4, h => absurd h (by omega)
theorem xorO_get {t : B8} (W : B8) (o : Nat) (h : t.length = 4) : ∀ j, j < 4 → (xorO t W o 4).getD j 0 = t.getD j 0 ^^^ W.getD (o + j) 0 := by
  obtain ⟨b0, b1, b2, b3, rfl⟩ := list4 h
  intro i hi
  match i, hi with
  | 0, _ => rfl | 1, _ => rfl | 2, _ => rfl | 3, _ => rfl
  | n + 4, h => exact absurd h (by omega)
theorem part_get (W : B8) (o j : Nat) (hj : j < 4) : ((W.drop o).take 4).getD j 0 = W.getD (o + j) 0 := by
  rw [List.getD_eq_getElem?_getD, List.getD_eq_getElem?_getD, List.getElem?_take_of_lt hj, List.getElem?_drop]
theorem schT_get {sb : LI} (hs : SbOK sb) {nk i : Nat} (hn : nk = 4 ∨ nk = 8) (h : ¬ i < nk) (hi : i < 4 * (nk + 7)) (W t : B8) (ht : ∀ j, j < 4 → t.getD j 0 = W.getD ((i - 1) * 4 + j) 0) : ∀ j, j < 4 →
    (if i % nk = 0 then
        (if j = 0 then xorI (sb.getD ((toI W).getD ((i - 1) * 4 + (j + 1) % 4) 0).toNat 0) (powG 2 (i / nk - 1) 8) else sb.getD ((toI W).getD ((i - 1) * 4 + (j + 1) % 4) 0).toNat 0)
      else if nk = 8 ∧ i % 8 = 4 then sb.getD ((toI W).getD ((i - 1) * 4 + j) 0).toNat 0 else (toI W).getD ((i - 1) * 4 + j) 0)
      = ub ((schT nk i (cpow ((i - 1) / nk)) t).getD j 0) := by
  intro j hj
  have e : ∀ k, k < 4 → (toI W).getD ((i - 1) * 4 + k) 0 = ub (t.getD k 0) := fun k hk => by rw [toI_getD, ht k hk]
  have e2 : ∀ k, k < 4 → sb.getD ((toI W).getD ((i - 1) * 4 + k) 0).toNat 0 = ub (boxOf (t.getD k 0)) := fun k hk => by rw [e k hk, ub_nat, hs]
  rw [e2 j hj, e2 ((j + 1) % 4) (by omega), e j hj]
  unfold schT
  by_cases h0 : i % nk = 0
  · rw [if_pos h0, if_pos h0]
    have hc : (i - 1) / nk = i / nk - 1 := by rcases hn with rfl | rfl <;> omega
    have hm : i / nk - 1 < 10 := by rcases hn with rfl | rfl <;> omega
    have hp := pow_cpow ⟨i / nk - 1, hm⟩
    simp only at hp
    rw [hc, hp]
    match j, hj with
    | 0, _ => exact xorI_ub _ _
    | 1, _ => rfl
    | 2, _ => rfl
    | 3, _ => rfl
    | n + 4, h => exact absurd h (by omega)
  · rw [if_neg h0, if_neg h0]
    have hq : (nk = 8 ∧ i % 8 = 4) ↔ (6 < nk ∧ i % nk = 4) := by rcases hn with rfl | rfl <;> omega
    by_cases h4 : 6 < nk ∧ i % nk = 4
    · rw [if_pos h4, if_pos (hq.mpr h4)]
      match j, hj with
      | 0, _ => rfl
      | 1, _ => rfl
      | 2, _ => rfl
      | 3, _ => rfl
      | n + 4, h => exact absurd h (by omega)
    · rw [if_neg h4, if_neg (fun h => h4 (hq.mp h))]
theorem toI_append (a b : B8) : toI (a ++ b) = toI a ++ toI b := by simp [toI]
/-- The document's schedule is the program's. -/
theorem sched_eqL {sb : LI} (hs : SbOK sb) {key : B8} {nk : Nat} (hn : nk = 4 ∨ nk = 8) (hk : 4 * nk ≤ key.length) : ∀ i, i ≤ 4 * (nk + 7) → rsch key sb nk i = toI (sch key nk i).1
  | 0, _ => rfl
  | i + 1, hi => by
    have ih := sched_eqL hs hn hk i (by omega)
    have hl := sch_lenL hk (by omega : 0 < nk) i
    have hc := sch_c (key := key) hn i
    rw [rsch, sch, ih]
    split
    · rename_i h
      show _ = toI (_ ++ _)
      rw [toI_append]
      congr 1
      apply ext_getD (d := 0) (n := 4) (rschW_len _ _ _ _ _ _) (by rw [toI_len]; simp; omega)
      intro j hj
      rw [rschW_get _ _ _ _ _ j hj, rcell, if_pos h, toI_getD, part_get _ _ _ hj]
      rfl
    · rename_i h
      show _ = toI (_ ++ _)
      rw [toI_append]
      congr 1
      have htl : (((sch key nk i).1.drop ((i - 1) * 4)).take 4).length = 4 := by simp [hl]; omega
      have hT := schT_len nk i (sch key nk i).2 htl
      apply ext_getD (d := 0) (n := 4) (rschW_len _ _ _ _ _ _) (by rw [toI_len, xorO_len, hT])
      intro j hj
      rw [rschW_get _ _ _ _ _ j hj, rcell, if_neg h, toI_getD _ j, xorO_get _ _ hT j hj, hc, ← xorI_ub, schT_get hs hn h (by omega) (sch key nk i).1 _ (fun k hk => part_get _ _ _ hk) j hj, toI_getD]
      simp only [xorI, Nat.xor_comm]
theorem sched_eq {sb : LI} (hs : SbOK sb) {key : B8} {nk : Nat} (hn : nk = 4 ∨ nk = 8) (hk : key.length = 4 * nk) : ∀ i, i ≤ 4 * (nk + 7) → rsch key sb nk i = toI (sch key nk i).1 := sched_eqL hs hn (Nat.le_of_eq hk.symm)
end Go.V
end
section
set_option linter.unusedSimpArgs false
set_option linter.unusedVariables false
set_option maxRecDepth 10000
namespace Go.V
open Go Go.Proofs.Try
def pureF (f : FuncId) (l : List SV) : Option SV :=
  match f, l with
  | 60, [] => some (.one (.ai (tabR 256)))
  | 61, [.one (.s (.i b)), .one (.s (.i n))] => if (0 ≤ b ∧ b < 256) ∧ (0 ≤ n ∧ n < 256) then some (one (.i (powG b n.toNat 8))) else none
  | _, _ => none
theorem pureF_ok : PureOK prog (pureOf pureF) := by
  refine pureOf_ok ?_
  intro f svs sv h
  unfold pureF at h
  split at h
  · cases h
    exact ⟨⟨f60, func60, nofun, by decide⟩, spec60, rfl, rfl⟩
  · split at h
    · rename_i b n hc
      cases h
      have hs := spec61G b n.toNat hc.1 (by omega)
      have e : ((n.toNat : Nat) : Int) = n := by omega
      rw [e] at hs
      exact ⟨⟨f61, func61, nofun, by decide⟩, hs, rfl, rfl⟩
    · cases h
  · cases h
/-- The memory after ref05.New: the key's bytes, the key's block, the words. -/
def rnewMem (key : B8) (nk cap : Nat) : Mem := [.ent ⟨false, 5, none, .a8 key⟩, .ent ⟨true, 110, some 258, .st [⟨1, .s (.sl 2 0 (4 * (nk + 7)) cap 4)⟩, ⟨256, .ai (tabR 256)⟩, ⟨1, .s (.i nk)⟩]⟩, .ent ⟨true, 111, none, .ai (rsch key (tabR 256) nk (4 * (nk + 7)))⟩]
set_option maxHeartbeats 1000000 in
theorem spec22L (key : B8) (nk cap0 : Nat) (hk : 4 * nk ≤ key.length) (hnk : nk = 4 ∨ nk = 8) (hcap0 : 4 * nk ≤ cap0) : Spec prog 22 [one (.sl 0 0 (4 * nk) cap0 1)] [.ent ⟨false, 5, none, .a8 key⟩] [] (fun r m => r = one (.ptr 1 0 0) ∧ ∃ cap, m = rnewMem key nk cap) := by
  refine spec_of_body tabOK func22 rfl (Nat.le_of_ble_eq_true rfl) ?_
  intro E Q0 hB
  refine ok_run hB tabOK pureF_ok 6 ?_
  simp only [argSl]
  have hlt : ∀ x : BitVec 8, x.toNat < 256 := fun x => x.isLt
  have hsl := tabR_len 256
  have hsb := tab_byt
  have hsv : pureF 60 [] = some (.one (.ai (tabR 256))) := rfl
  generalize hsbe : tabR 256 = sb at hsl hsb hsv ⊢
  have d4 : (4 * (nk : Int)).tdiv 4 = nk := by rw [Int.tdiv_eq_ediv_of_nonneg (by omega)]; omega
  repeat (first
    | rw [run_ops0]
    | rw [run_seq]
    | rw [run_region]
    | rw [run_block]
    | rw [run_blk]
    | rw [run_skip]
    | (apply run_go rfl; focus (intro L K hK; simp [step1, evS, est, St.ev, St.put, St.add, St.upd, look_hit, look_miss, okd, stBin, bin, binS, binB, binI, shS, shB, S.num, constS, one, inI, stUn, stNil, stLoad, stAt, stField, stIndexAddr, stStore, wrAt, stAlloc, stBox, stIndex, stPart, stPartRow, stFieldV, stConv, cvS, cvB, cvI, stSlice, optN, SV.num, noMax, stArrPtr, stExtract, stLen, stBuild, A.isRow, A.isAgg, A.noRec, A.len, A.get, A.sub, A.set, A.over, Ent.bound, Kind.isStruct, Kind.isAgg, S.known, A.solid, segAt, segPut, segLen, R.a, R.len, A.r, stMake, stBuildSlice, litA, repA, rep1, fillA, putP, sing, stMin, stEqA, rowEq, Kind.isScal, -List.reduceReplicate, -List.getD_eq_getElem?_getD, tab22, ty22, tab3, ty3, tab29, ty29, ntmps22, d4]; (repeat' apply And.intro); all_goals first | exact hK | omega)))
  rw [run_zero]
  refine ok_join (X := Unit) (fun _ => ⟨[(16, one (.b false)), (0, one (.sl 0 0 (4 * nk) cap0 1))], [.ent ⟨false, 5, none, .a8 key⟩]⟩) (fun _ => True) (fun j i L h => by have := hB.anc i L h; simp at this ⊢; omega) ?_ ?_
  · refine ok_run hB tabOK pureF_ok 100 ?_
    repeat (first
    | rw [run_ops0]
    | rw [run_seq]
    | rw [run_region]
    | rw [run_block]
    | rw [run_blk]
    | rw [run_skip]
    | (apply run_go rfl; focus (intro L K hK; simp [step1, evS, est, St.ev, St.put, St.add, St.upd, look_hit, look_miss, okd, stBin, bin, binS, binB, binI, shS, shB, S.num, constS, one, inI, stUn, stNil, stLoad, stAt, stField, stIndexAddr, stStore, wrAt, stAlloc, stBox, stIndex, stPart, stPartRow, stFieldV, stConv, cvS, cvB, cvI, stSlice, optN, SV.num, noMax, stArrPtr, stExtract, stLen, stBuild, A.isRow, A.isAgg, A.noRec, A.len, A.get, A.sub, A.set, A.over, Ent.bound, Kind.isStruct, Kind.isAgg, S.known, A.solid, segAt, segPut, segLen, R.a, R.len, A.r, stMake, stBuildSlice, litA, repA, rep1, fillA, putP, sing, stMin, stEqA, rowEq, Kind.isScal, -List.reduceReplicate, -List.getD_eq_getElem?_getD, tab22, ty22, tab3, ty3, ntmps22, d4]; (repeat' apply And.intro); all_goals first | exact hK | omega)))
    apply run_guard rfl rfl rfl rfl
    · intro h
      simp at h
      obtain rfl : nk = 8 := by omega
      (apply Exists.intro; apply And.intro; focus (intro L K hK; simp [step1, evS, est, St.ev, St.put, St.add, St.upd, look_hit, look_miss, okd, stBin, bin, binS, binB, binI, shS, shB, S.num, constS, one, inI, stUn, stNil, stLoad, stAt, stField, stIndexAddr, stStore, wrAt, stAlloc, stBox, stIndex, stPart, stPartRow, stFieldV, stConv, cvS, cvB, cvI, stSlice, optN, SV.num, noMax, stArrPtr, stExtract, stLen, stBuild, A.isRow, A.isAgg, A.noRec, A.len, A.get, A.sub, A.set, A.over, Ent.bound, Kind.isStruct, Kind.isAgg, S.known, A.solid, segAt, segPut, segLen, R.a, R.len, A.r, stMake, stBuildSlice, litA, repA, rep1, fillA, putP, sing, stMin, stEqA, rowEq, Kind.isScal, -List.reduceReplicate, -List.getD_eq_getElem?_getD, tab22, ty22, tab3, ty3, ntmps22]; (repeat' apply And.intro); all_goals first | exact hK | omega))
      apply run_guard rfl rfl rfl rfl
      · intro _
        (apply Exists.intro; apply And.intro; focus (intro L K hK; simp [step1, evS, est, St.ev, St.put, St.add, St.upd, look_hit, look_miss, okd, stBin, bin, binS, binB, binI, shS, shB, S.num, constS, one, inI, stUn, stNil, stLoad, stAt, stField, stIndexAddr, stStore, wrAt, stAlloc, stBox, stIndex, stPart, stPartRow, stFieldV, stConv, cvS, cvB, cvI, stSlice, optN, SV.num, noMax, stArrPtr, stExtract, stLen, stBuild, A.isRow, A.isAgg, A.noRec, A.len, A.get, A.sub, A.set, A.over, Ent.bound, Kind.isStruct, Kind.isAgg, S.known, A.solid, segAt, segPut, segLen, R.a, R.len, A.r, stMake, stBuildSlice, litA, repA, rep1, fillA, putP, sing, stMin, stEqA, rowEq, Kind.isScal, -List.reduceReplicate, -List.getD_eq_getElem?_getD, tab22, ty22, tab3, ty3, ntmps22]; (repeat' apply And.intro); all_goals first | exact hK | omega))
        apply run_guard rfl rfl rfl rfl
        · intro _
          (apply Exists.intro; apply And.intro; focus (intro L K hK; simp [step1, evS, est, St.ev, St.put, St.add, St.upd, look_hit, look_miss, okd, stBin, bin, binS, binB, binI, shS, shB, S.num, constS, one, inI, stUn, stNil, stLoad, stAt, stField, stIndexAddr, stStore, wrAt, stAlloc, stBox, stIndex, stPart, stPartRow, stFieldV, stConv, cvS, cvB, cvI, stSlice, optN, SV.num, noMax, stArrPtr, stExtract, stLen, stBuild, A.isRow, A.isAgg, A.noRec, A.len, A.get, A.sub, A.set, A.over, Ent.bound, Kind.isStruct, Kind.isAgg, S.known, A.solid, segAt, segPut, segLen, R.a, R.len, A.r, stMake, stBuildSlice, litA, repA, rep1, fillA, putP, sing, stMin, stEqA, rowEq, Kind.isScal, -List.reduceReplicate, -List.getD_eq_getElem?_getD, tab22, ty22, tab3, ty3, ntmps22]; (repeat' apply And.intro); all_goals first | exact hK | omega))
          repeat (first
    | rw [run_ops0]
    | rw [run_seq]
    | rw [run_region]
    | rw [run_block]
    | rw [run_blk]
    | rw [run_skip]
    | (apply run_go rfl; focus (intro L K hK; simp [step1, evS, est, St.ev, St.put, St.add, St.upd, look_hit, look_miss, okd, stBin, bin, binS, binB, binI, shS, shB, S.num, constS, one, inI, stUn, stNil, stLoad, stAt, stField, stIndexAddr, stStore, wrAt, stAlloc, stBox, stIndex, stPart, stPartRow, stFieldV, stConv, cvS, cvB, cvI, stSlice, optN, SV.num, noMax, stArrPtr, stExtract, stLen, stBuild, A.isRow, A.isAgg, A.noRec, A.len, A.get, A.sub, A.set, A.over, Ent.bound, Kind.isStruct, Kind.isAgg, S.known, A.solid, segAt, segPut, segLen, R.a, R.len, A.r, stMake, stBuildSlice, litA, repA, rep1, fillA, putP, sing, stMin, stEqA, rowEq, Kind.isScal, -List.reduceReplicate, -List.getD_eq_getElem?_getD, tab22, ty22, tab3, ty3, tab4, ty4, ntmps22]; (repeat' apply And.intro); all_goals first | exact hK | omega)))
          rw [run_back]
          refine ⟨(), trivial, ?_⟩
          simp [Ent2, entSl, entM, belSl, belV, belA, belS, belR, belM, look_hit, look_miss, one, -List.getD_eq_getElem?_getD]
        · intro h; cases h
      · intro h; cases h
    · intro h
      simp at h
      obtain rfl : nk = 4 := by omega
      refine ⟨Nat.le_of_ble_eq_true rfl, ?_⟩
      simp only [St.put]
      apply run_guard rfl rfl rfl rfl
      · intro h; cases h
      intro _
      refine ⟨Nat.le_of_ble_eq_true rfl, ?_⟩
      simp only [St.put]
      apply run_guard rfl rfl rfl rfl
      · intro h; cases h
      intro _
      refine ⟨Nat.le_of_ble_eq_true rfl, ?_⟩
      simp only [St.put]
      repeat (first
    | rw [run_ops0]
    | rw [run_seq]
    | rw [run_region]
    | rw [run_block]
    | rw [run_blk]
    | rw [run_skip]
    | (apply run_go rfl; focus (intro L K hK; simp [step1, evS, est, St.ev, St.put, St.add, St.upd, look_hit, look_miss, okd, stBin, bin, binS, binB, binI, shS, shB, S.num, constS, one, inI, stUn, stNil, stLoad, stAt, stField, stIndexAddr, stStore, wrAt, stAlloc, stBox, stIndex, stPart, stPartRow, stFieldV, stConv, cvS, cvB, cvI, stSlice, optN, SV.num, noMax, stArrPtr, stExtract, stLen, stBuild, A.isRow, A.isAgg, A.noRec, A.len, A.get, A.sub, A.set, A.over, Ent.bound, Kind.isStruct, Kind.isAgg, S.known, A.solid, segAt, segPut, segLen, R.a, R.len, A.r, stMake, stBuildSlice, litA, repA, rep1, fillA, putP, sing, stMin, stEqA, rowEq, Kind.isScal, -List.reduceReplicate, -List.getD_eq_getElem?_getD, tab22, ty22, tab3, ty3, tab4, ty4, ntmps22]; (repeat' apply And.intro); all_goals first | exact hK | omega)))
      rw [run_back]
      refine ⟨(), trivial, ?_⟩
      simp [Ent2, entSl, entM, belSl, belV, belA, belS, belR, belM, look_hit, look_miss, one, -List.getD_eq_getElem?_getD]
  · intro _ _
    refine ok_run hB tabOK pureF_ok 100 ?_
    apply run_cond2 rfl
    · intro h; cases h
    intro _
    repeat (first
    | rw [run_ops0]
    | rw [run_seq]
    | rw [run_region]
    | rw [run_block]
    | rw [run_blk]
    | rw [run_skip]
    | (apply run_go rfl; focus (intro L K hK; simp [step1, evS, est, St.ev, St.put, St.add, St.upd, look_hit, look_miss, okd, stBin, bin, binS, binB, binI, shS, shB, S.num, constS, one, inI, stUn, stNil, stLoad, stAt, stField, stIndexAddr, stStore, wrAt, stAlloc, stBox, stIndex, stPart, stPartRow, stFieldV, stConv, cvS, cvB, cvI, stSlice, optN, SV.num, noMax, stArrPtr, stExtract, stLen, stBuild, A.isRow, A.isAgg, A.noRec, A.len, A.get, A.sub, A.set, A.over, Ent.bound, Kind.isStruct, Kind.isAgg, S.known, A.solid, segAt, segPut, segLen, R.a, R.len, A.r, stMake, stBuildSlice, litA, repA, rep1, fillA, putP, sing, stMin, stEqA, rowEq, Kind.isScal, -List.reduceReplicate, -List.getD_eq_getElem?_getD, tab22, ty22, tab3, ty3, tab110, ty110, tab106, ty106, tab29, ty29, ntmps22, d4, hsl, hsv, pureOf, fillS, R.solid, putS]; (repeat' apply And.intro); all_goals first | exact hK | omega)))
    rw [run_loop]
    refine ok_blank_mem 1 _ _ 111 4 (.ai []) rfl trivial rfl rfl ?_
    simp only [List.length_cons, List.length_nil, List.cons_append, List.nil_append, List.set]
    refine ok_loop (X := Nat × Nat) (fun x => ⟨[(5, one (.i x.1)), (4, one (.i nk)), (3, one (.ptr 1 0 0)), (0, one (.sl 0 0 (4 * nk) cap0 1))], [.ent ⟨false, 5, none, .a8 key⟩, .ent ⟨true, 110, some 258, .st [⟨1, .s (.sl 2 0 x.1 x.2 4)⟩, ⟨256, .ai sb⟩, ⟨1, .s (.i nk)⟩]⟩, .ent ⟨true, 111, none, .ai (rsch key sb nk x.1)⟩]⟩) (fun x => x.1 ≤ 4 * (nk + 7)) (fun x => 4 * (nk + 7) - x.1) (fun j i L h => by have := hB.anc i L h; simp at this ⊢; omega) ⟨(0, 0), by omega, by simp [Ent2, entSl, entM, belSl, belV, belA, belS, belR, belM, look_hit, look_miss, one, -List.getD_eq_getElem?_getD, rsch]⟩ ?_
    rintro ⟨i, cap⟩ hi
    refine ok_run hB tabOK pureF_ok 100 ?_
    simp only at hi ⊢
    have hn0 : 0 < nk := by omega
    have hn8 : nk ≤ 8 := by omega
    have hwl := rsch_len key sb nk i
    have hWb := rsch_byt (key := key) (n := nk) hsb i
    repeat (first
    | rw [run_ops0]
    | rw [run_seq]
    | rw [run_region]
    | rw [run_block]
    | rw [run_blk]
    | rw [run_skip]
    | (apply run_go rfl; focus (intro L K hK; simp [step1, evS, est, St.ev, St.put, St.add, St.upd, look_hit, look_miss, okd, stBin, bin, binS, binB, binI, shS, shB, S.num, constS, one, inI, stUn, stNil, stLoad, stAt, stField, stIndexAddr, stStore, wrAt, stAlloc, stBox, stIndex, stPart, stPartRow, stFieldV, stConv, cvS, cvB, cvI, stSlice, optN, SV.num, noMax, stArrPtr, stExtract, stLen, stBuild, A.isRow, A.isAgg, A.noRec, A.len, A.get, A.sub, A.set, A.over, Ent.bound, Kind.isStruct, Kind.isAgg, S.known, A.solid, segAt, segPut, segLen, R.a, R.len, A.r, stMake, stBuildSlice, litA, repA, rep1, fillA, putP, sing, stMin, stEqA, rowEq, Kind.isScal, -List.reduceReplicate, -List.getD_eq_getElem?_getD, tab3, ty3, ntmps22]; (repeat' apply And.intro); all_goals first | exact hK | omega)))
    apply run_cond2 rfl
    · intro h
      simp at h
      have hsn : rsch key sb nk (i + 1) = rsch key sb nk i ++ rschW key sb nk i (rsch key sb nk i) 4 := rfl
      generalize rsch key sb nk i = W at hwl hWb hsn ⊢
      repeat (first
    | rw [run_ops0]
    | rw [run_seq]
    | rw [run_region]
    | rw [run_block]
    | rw [run_blk]
    | rw [run_skip]
    | (apply run_go rfl; focus (intro L K hK; simp [step1, evS, est, St.ev, St.put, St.add, St.upd, look_hit, look_miss, okd, stBin, bin, binS, binB, binI, shS, shB, S.num, constS, one, inI, stUn, stNil, stLoad, stAt, stField, stIndexAddr, stStore, wrAt, stAlloc, stBox, stIndex, stPart, stPartRow, stFieldV, stConv, cvS, cvB, cvI, stSlice, optN, SV.num, noMax, stArrPtr, stExtract, stLen, stBuild, A.isRow, A.isAgg, A.noRec, A.len, A.get, A.sub, A.set, A.over, Ent.bound, Kind.isStruct, Kind.isAgg, S.known, A.solid, segAt, segPut, segLen, R.a, R.len, A.r, stMake, stBuildSlice, litA, repA, rep1, fillA, putP, sing, stMin, stEqA, rowEq, Kind.isScal, -List.reduceReplicate, -List.getD_eq_getElem?_getD, tab3, ty3, tab111, ty111, ntmps22]; (repeat' apply And.intro); all_goals first | exact hK | omega)))
      rw [run_loop]
      refine ok_loop (X := Nat) (fun j => ⟨[(7, one (.i j)), (6, one (.ptr 3 0 0)), (5, one (.i i)), (4, one (.i nk)), (3, one (.ptr 1 0 0)), (0, one (.sl 0 0 (4 * nk) cap0 1))], [.ent ⟨false, 5, none, .a8 key⟩, .ent ⟨true, 110, some 258, .st [⟨1, .s (.sl 2 0 i cap 4)⟩, ⟨256, .ai sb⟩, ⟨1, .s (.i nk)⟩]⟩, .ent ⟨true, 111, none, .ai W⟩, .ent ⟨true, 111, some 4, .ai (rschW key sb nk i W j)⟩]⟩) (fun j => j ≤ 4) (fun j => 4 - j) (fun j i L h => by have := hB.anc i L h; simp at this ⊢; omega) ⟨0, by omega, by simp [Ent2, entSl, entM, belSl, belV, belA, belS, belR, belM, look_hit, look_miss, one, -List.getD_eq_getElem?_getD, rschW]⟩ ?_
      intro j hj
      refine ok_run hB tabOK pureF_ok 100 ?_
      have hrl := rschW_len key sb nk i W j
      repeat (first
    | rw [run_ops0]
    | rw [run_seq]
    | rw [run_region]
    | rw [run_block]
    | rw [run_blk]
    | rw [run_skip]
    | (apply run_go rfl; focus (intro L K hK; simp [step1, evS, est, St.ev, St.put, St.add, St.upd, look_hit, look_miss, okd, stBin, bin, binS, binB, binI, shS, shB, S.num, constS, one, inI, stUn, stNil, stLoad, stAt, stField, stIndexAddr, stStore, wrAt, stAlloc, stBox, stIndex, stPart, stPartRow, stFieldV, stConv, cvS, cvB, cvI, stSlice, optN, SV.num, noMax, stArrPtr, stExtract, stLen, stBuild, A.isRow, A.isAgg, A.noRec, A.len, A.get, A.sub, A.set, A.over, Ent.bound, Kind.isStruct, Kind.isAgg, S.known, A.solid, segAt, segPut, segLen, R.a, R.len, A.r, stMake, stBuildSlice, litA, repA, rep1, fillA, putP, sing, stMin, stEqA, rowEq, Kind.isScal, -List.reduceReplicate, -List.getD_eq_getElem?_getD, tab3, ty3, ntmps22]; (repeat' apply And.intro); all_goals first | exact hK | omega)))
      apply run_cond2 rfl
      · intro h3
        simp at h3
        repeat (first
    | rw [run_ops0]
    | rw [run_seq]
    | rw [run_region]
    | rw [run_block]
    | rw [run_blk]
    | rw [run_skip]
    | (apply run_go rfl; focus (intro L K hK; simp [step1, evS, est, St.ev, St.put, St.add, St.upd, look_hit, look_miss, okd, stBin, bin, binS, binB, binI, shS, shB, S.num, constS, one, inI, stUn, stNil, stLoad, stAt, stField, stIndexAddr, stStore, wrAt, stAlloc, stBox, stIndex, stPart, stPartRow, stFieldV, stConv, cvS, cvB, cvI, stSlice, optN, SV.num, noMax, stArrPtr, stExtract, stLen, stBuild, A.isRow, A.isAgg, A.noRec, A.len, A.get, A.sub, A.set, A.over, Ent.bound, Kind.isStruct, Kind.isAgg, S.known, A.solid, segAt, segPut, segLen, R.a, R.len, A.r, stMake, stBuildSlice, litA, repA, rep1, fillA, putP, sing, stMin, stEqA, rowEq, Kind.isScal, -List.reduceReplicate, -List.getD_eq_getElem?_getD, tab3, ty3, ntmps22]; (repeat' apply And.intro); all_goals first | exact hK | omega)))
        apply run_cond2 rfl
        · intro h4
          simp at h4
          have e4 : (4 * (i : Int) + j).toNat = 4 * i + j := by omega
          have hbk := hlt (key.getD (4 * i + j) 0)
          repeat (first
    | rw [run_ops0]
    | rw [run_seq]
    | rw [run_region]
    | rw [run_block]
    | rw [run_blk]
    | rw [run_skip]
    | (apply run_go rfl; focus (intro L K hK; simp [step1, evS, est, St.ev, St.put, St.add, St.upd, look_hit, look_miss, okd, stBin, bin, binS, binB, binI, shS, shB, S.num, constS, one, inI, stUn, stNil, stLoad, stAt, stField, stIndexAddr, stStore, wrAt, stAlloc, stBox, stIndex, stPart, stPartRow, stFieldV, stConv, cvS, cvB, cvI, stSlice, optN, SV.num, noMax, stArrPtr, stExtract, stLen, stBuild, A.isRow, A.isAgg, A.noRec, A.len, A.get, A.sub, A.set, A.over, Ent.bound, Kind.isStruct, Kind.isAgg, S.known, A.solid, segAt, segPut, segLen, R.a, R.len, A.r, stMake, stBuildSlice, litA, repA, rep1, fillA, putP, sing, stMin, stEqA, rowEq, Kind.isScal, -List.reduceReplicate, -List.getD_eq_getElem?_getD, tab3, ty3, tab22, ty22, tab5, ty5, tab29, ty29, tab110, ty110, tab108, ty108, tab111, ty111, tab106, ty106, ntmps22, e4, hrl]; (repeat' apply And.intro); all_goals first | exact hK | omega)))
          apply run_exit2 rfl
          repeat (first
    | rw [run_ops0]
    | rw [run_seq]
    | rw [run_region]
    | rw [run_block]
    | rw [run_blk]
    | rw [run_skip]
    | (apply run_go rfl; focus (intro L K hK; simp [step1, evS, est, St.ev, St.put, St.add, St.upd, look_hit, look_miss, okd, stBin, bin, binS, binB, binI, shS, shB, S.num, constS, one, inI, stUn, stNil, stLoad, stAt, stField, stIndexAddr, stStore, wrAt, stAlloc, stBox, stIndex, stPart, stPartRow, stFieldV, stConv, cvS, cvB, cvI, stSlice, optN, SV.num, noMax, stArrPtr, stExtract, stLen, stBuild, A.isRow, A.isAgg, A.noRec, A.len, A.get, A.sub, A.set, A.over, Ent.bound, Kind.isStruct, Kind.isAgg, S.known, A.solid, segAt, segPut, segLen, R.a, R.len, A.r, stMake, stBuildSlice, litA, repA, rep1, fillA, putP, sing, stMin, stEqA, rowEq, Kind.isScal, -List.reduceReplicate, -List.getD_eq_getElem?_getD, tab3, ty3, tab22, ty22, tab5, ty5, tab29, ty29, tab110, ty110, tab108, ty108, tab111, ty111, tab106, ty106, ntmps22, e4, hrl]; (repeat' apply And.intro); all_goals first | exact hK | omega)))
          rw [run_back]
          refine ⟨j + 1, by omega, by omega, ?_⟩
          simp [Ent2, entSl, entM, belSl, belV, belA, belS, belR, belM, look_hit, look_miss, one, -List.getD_eq_getElem?_getD, rschW, rcell, h4]
        · intro h4
          simp at h4
          have tm : (i : Int).tmod nk = ((i % nk : Nat) : Int) := rfl
          have e1 : ((i : Int) - 1).toNat = i - 1 := by omega
          have e5 : ((i : Int) - nk).toNat = i - nk := by omega
          have hb1 := hWb ((i - 1) * 4 + j)
          have hbw := hWb ((i - nk) * 4 + j)
          have hi1 : ¬ i < nk := by omega
          have hn0' : ¬ nk = 0 := by omega
          repeat (first
    | rw [run_ops0]
    | rw [run_seq]
    | rw [run_region]
    | rw [run_block]
    | rw [run_blk]
    | rw [run_skip]
    | (apply run_go rfl; focus (intro L K hK; simp [step1, evS, est, St.ev, St.put, St.add, St.upd, look_hit, look_miss, okd, stBin, bin, binS, binB, binI, shS, shB, S.num, constS, one, inI, stUn, stNil, stLoad, stAt, stField, stIndexAddr, stStore, wrAt, stAlloc, stBox, stIndex, stPart, stPartRow, stFieldV, stConv, cvS, cvB, cvI, stSlice, optN, SV.num, noMax, stArrPtr, stExtract, stLen, stBuild, A.isRow, A.isAgg, A.noRec, A.len, A.get, A.sub, A.set, A.over, Ent.bound, Kind.isStruct, Kind.isAgg, S.known, A.solid, segAt, segPut, segLen, R.a, R.len, A.r, stMake, stBuildSlice, litA, repA, rep1, fillA, putP, sing, stMin, stEqA, rowEq, Kind.isScal, -List.reduceReplicate, -List.getD_eq_getElem?_getD, tab3, ty3, tab22, ty22, tab5, ty5, tab29, ty29, tab110, ty110, tab108, ty108, tab111, ty111, tab106, ty106, ntmps22, e1, hwl, tm, hn0']; (repeat' apply And.intro); all_goals first | exact hK | omega)))
          apply run_cond2 rfl
          · intro h5
            simp at h5
            have h5' : i % nk = 0 := by first | exact h5 | omega
            have tm4 : (((j : Int) + 1) % 4).toNat = (j + 1) % 4 := by omega
            have tm5 : ((j : Int) + 1).tmod 4 = ((j : Int) + 1) % 4 := Int.tmod_eq_emod_of_nonneg (by omega)
            have hb2 := hWb ((i - 1) * 4 + (j + 1) % 4)
            have hm4 : (j + 1) % 4 < 4 := Nat.mod_lt _ (by omega)
            have hs2 := hsb (W.getD ((i - 1) * 4 + (j + 1) % 4) 0).toNat
            repeat (first
    | rw [run_ops0]
    | rw [run_seq]
    | rw [run_region]
    | rw [run_block]
    | rw [run_blk]
    | rw [run_skip]
    | (apply run_go rfl; focus (intro L K hK; simp [step1, evS, est, St.ev, St.put, St.add, St.upd, look_hit, look_miss, okd, stBin, bin, binS, binB, binI, shS, shB, S.num, constS, one, inI, stUn, stNil, stLoad, stAt, stField, stIndexAddr, stStore, wrAt, stAlloc, stBox, stIndex, stPart, stPartRow, stFieldV, stConv, cvS, cvB, cvI, stSlice, optN, SV.num, noMax, stArrPtr, stExtract, stLen, stBuild, A.isRow, A.isAgg, A.noRec, A.len, A.get, A.sub, A.set, A.over, Ent.bound, Kind.isStruct, Kind.isAgg, S.known, A.solid, segAt, segPut, segLen, R.a, R.len, A.r, stMake, stBuildSlice, litA, repA, rep1, fillA, putP, sing, stMin, stEqA, rowEq, Kind.isScal, -List.reduceReplicate, -List.getD_eq_getElem?_getD, tab3, ty3, ntmps22]; (repeat' apply And.intro); all_goals first | exact hK | omega)))
            rw [run_draw]
            refine ok_draw2 17 tabOK pureF_ok (pureOf_mono _) mixed (by decide +kernel) rfl rfl ?_
            repeat (first
    | (apply hd_go rfl rfl rfl rfl (Nat.le_of_ble_eq_true rfl); focus (intro K' hK; simp [step1, evS, est, St.ev, St.put, St.add, St.upd, look_hit, look_miss, okd, stBin, bin, binS, binB, binI, shS, shB, S.num, constS, one, inI, stUn, stNil, stLoad, stAt, stField, stIndexAddr, stStore, wrAt, stAlloc, stBox, stIndex, stPart, stPartRow, stFieldV, stConv, cvS, cvB, cvI, stSlice, optN, SV.num, noMax, stArrPtr, stExtract, stLen, stBuild, A.isRow, A.isAgg, A.noRec, A.len, A.get, A.sub, A.set, A.over, Ent.bound, Kind.isStruct, Kind.isAgg, S.known, A.solid, segAt, segPut, segLen, R.a, R.len, A.r, stMake, stBuildSlice, litA, repA, rep1, fillA, putP, sing, stMin, stEqA, rowEq, Kind.isScal, -List.reduceReplicate, -List.getD_eq_getElem?_getD, tab3, ty3, tab22, ty22, tab5, ty5, tab29, ty29, tab110, ty110, tab108, ty108, tab111, ty111, tab106, ty106, tab4, ty4, ntmps22, e1, hwl, hsl, tm4, tm5]; (repeat' apply And.intro); all_goals first | exact hK | omega))
    | (apply hd_new rfl rfl rfl rfl (Nat.le_of_ble_eq_true rfl); focus (intro K' hK; simp [step1, evS, est, St.ev, St.put, St.add, St.upd, look_hit, look_miss, okd, stBin, bin, binS, binB, binI, shS, shB, S.num, constS, one, inI, stUn, stNil, stLoad, stAt, stField, stIndexAddr, stStore, wrAt, stAlloc, stBox, stIndex, stPart, stPartRow, stFieldV, stConv, cvS, cvB, cvI, stSlice, optN, SV.num, noMax, stArrPtr, stExtract, stLen, stBuild, A.isRow, A.isAgg, A.noRec, A.len, A.get, A.sub, A.set, A.over, Ent.bound, Kind.isStruct, Kind.isAgg, S.known, A.solid, segAt, segPut, segLen, R.a, R.len, A.r, stMake, stBuildSlice, litA, repA, rep1, fillA, putP, sing, stMin, stEqA, rowEq, Kind.isScal, -List.reduceReplicate, -List.getD_eq_getElem?_getD, tab3, ty3, tab22, ty22, tab5, ty5, tab29, ty29, tab110, ty110, tab108, ty108, tab111, ty111, tab106, ty106, tab4, ty4, ntmps22, e1, hwl, hsl, tm4, tm5]; (repeat' apply And.intro); all_goals first | exact hK | omega)))
            refine hd_nil ?_
            simp only [List.map_cons, List.map_nil, List.append_nil, List.nil_append, List.cons_append]
            refine ok_run hB tabOK pureF_ok 100 ?_
            repeat (first
    | rw [run_ops0]
    | rw [run_seq]
    | rw [run_region]
    | rw [run_block]
    | rw [run_blk]
    | rw [run_skip]
    | (apply run_go rfl; focus (intro L K hK; simp [step1, evS, est, St.ev, St.put, St.add, St.upd, look_hit, look_miss, okd, stBin, bin, binS, binB, binI, shS, shB, S.num, constS, one, inI, stUn, stNil, stLoad, stAt, stField, stIndexAddr, stStore, wrAt, stAlloc, stBox, stIndex, stPart, stPartRow, stFieldV, stConv, cvS, cvB, cvI, stSlice, optN, SV.num, noMax, stArrPtr, stExtract, stLen, stBuild, A.isRow, A.isAgg, A.noRec, A.len, A.get, A.sub, A.set, A.over, Ent.bound, Kind.isStruct, Kind.isAgg, S.known, A.solid, segAt, segPut, segLen, R.a, R.len, A.r, stMake, stBuildSlice, litA, repA, rep1, fillA, putP, sing, stMin, stEqA, rowEq, Kind.isScal, -List.reduceReplicate, -List.getD_eq_getElem?_getD, tab3, ty3, tab22, ty22, tab5, ty5, tab29, ty29, tab110, ty110, tab108, ty108, tab111, ty111, tab106, ty106, tab4, ty4, ntmps22]; (repeat' apply And.intro); all_goals first | exact hK | omega)))
            apply run_cond2 rfl
            · intro h6
              simp at h6
              obtain rfl : j = 0 := by omega
              have td : (i : Int).tdiv nk = ((i / nk : Nat) : Int) := rfl
              have q1 : 1 ≤ i / nk := (Nat.one_le_div_iff hn0).2 (by omega)
              have q2 : i / nk ≤ i := Nat.div_le_self _ _
              have qe : (i : Int) / (nk : Int) = ((i / nk : Nat) : Int) := rfl
              have qI1 : 1 ≤ (i : Int) / (nk : Int) := by rw [qe]; omega
              have qI2 : (i : Int) / (nk : Int) - 1 < 256 := by rw [qe]; omega
              have qI3 : ((i : Int) / (nk : Int)).toNat = i / nk := by rw [qe]; omega
              have ti : (i : Int).tdiv nk = (i : Int) / nk := Int.tdiv_eq_ediv_of_nonneg (by omega)
              have hpl := powG_lt (b := 2) (by omega) (i / nk - 1) 8
              replace hs2 : 0 ≤ sb.getD (W.getD ((i - 1) * 4 + 1) 0).toNat 0 ∧ sb.getD (W.getD ((i - 1) * 4 + 1) 0).toNat 0 < 256 := hs2
              replace hbw : 0 ≤ W.getD ((i - nk) * 4) 0 ∧ W.getD ((i - nk) * 4) 0 < 256 := hbw
              have hq := xorI_lt hs2 hpl
              unfold xorI at hq
              repeat (first
    | rw [run_ops0]
    | rw [run_seq]
    | rw [run_region]
    | rw [run_block]
    | rw [run_blk]
    | rw [run_skip]
    | (apply run_go rfl; focus (intro L K hK; simp [step1, evS, est, St.ev, St.put, St.add, St.upd, look_hit, look_miss, okd, stBin, bin, binS, binB, binI, shS, shB, S.num, constS, one, inI, stUn, stNil, stLoad, stAt, stField, stIndexAddr, stStore, wrAt, stAlloc, stBox, stIndex, stPart, stPartRow, stFieldV, stConv, cvS, cvB, cvI, stSlice, optN, SV.num, noMax, stArrPtr, stExtract, stLen, stBuild, A.isRow, A.isAgg, A.noRec, A.len, A.get, A.sub, A.set, A.over, Ent.bound, Kind.isStruct, Kind.isAgg, S.known, A.solid, segAt, segPut, segLen, R.a, R.len, A.r, stMake, stBuildSlice, litA, repA, rep1, fillA, putP, sing, stMin, stEqA, rowEq, Kind.isScal, -List.reduceReplicate, -List.getD_eq_getElem?_getD, tab3, ty3, tab22, ty22, tab5, ty5, tab29, ty29, tab110, ty110, tab108, ty108, tab111, ty111, tab106, ty106, tab4, ty4, ntmps22, ti, hn0', qI1, qI2, qI3, pureOf, pureF]; (repeat' apply And.intro); all_goals first | exact hK | omega)))
              have hx := xorI_lt hbw hq
              unfold xorI at hx
              repeat (first
    | rw [run_ops0]
    | rw [run_seq]
    | rw [run_region]
    | rw [run_block]
    | rw [run_blk]
    | rw [run_skip]
    | (apply run_go rfl; focus (intro L K hK; simp [step1, evS, est, St.ev, St.put, St.add, St.upd, look_hit, look_miss, okd, stBin, bin, binS, binB, binI, shS, shB, S.num, constS, one, inI, stUn, stNil, stLoad, stAt, stField, stIndexAddr, stStore, wrAt, stAlloc, stBox, stIndex, stPart, stPartRow, stFieldV, stConv, cvS, cvB, cvI, stSlice, optN, SV.num, noMax, stArrPtr, stExtract, stLen, stBuild, A.isRow, A.isAgg, A.noRec, A.len, A.get, A.sub, A.set, A.over, Ent.bound, Kind.isStruct, Kind.isAgg, S.known, A.solid, segAt, segPut, segLen, R.a, R.len, A.r, stMake, stBuildSlice, litA, repA, rep1, fillA, putP, sing, stMin, stEqA, rowEq, Kind.isScal, -List.reduceReplicate, -List.getD_eq_getElem?_getD, tab3, ty3, tab22, ty22, tab5, ty5, tab29, ty29, tab110, ty110, tab108, ty108, tab111, ty111, tab106, ty106, tab4, ty4, ntmps22, e5, hwl, hrl, hbw, hx]; (repeat' apply And.intro); all_goals first | exact hK | omega)))
              rw [run_back]
              refine ⟨0 + 1, by omega, by omega, ?_⟩
              simp [Ent2, entSl, entM, belSl, belV, belA, belS, belR, belM, look_hit, look_miss, one, -List.getD_eq_getElem?_getD, rschW, rcell, xorI, hi1, h5']
            · intro h6
              simp at h6
              have hx := xorI_lt hbw hs2
              unfold xorI at hx
              repeat (first
    | rw [run_ops0]
    | rw [run_seq]
    | rw [run_region]
    | rw [run_block]
    | rw [run_blk]
    | rw [run_skip]
    | (apply run_go rfl; focus (intro L K hK; simp [step1, evS, est, St.ev, St.put, St.add, St.upd, look_hit, look_miss, okd, stBin, bin, binS, binB, binI, shS, shB, S.num, constS, one, inI, stUn, stNil, stLoad, stAt, stField, stIndexAddr, stStore, wrAt, stAlloc, stBox, stIndex, stPart, stPartRow, stFieldV, stConv, cvS, cvB, cvI, stSlice, optN, SV.num, noMax, stArrPtr, stExtract, stLen, stBuild, A.isRow, A.isAgg, A.noRec, A.len, A.get, A.sub, A.set, A.over, Ent.bound, Kind.isStruct, Kind.isAgg, S.known, A.solid, segAt, segPut, segLen, R.a, R.len, A.r, stMake, stBuildSlice, litA, repA, rep1, fillA, putP, sing, stMin, stEqA, rowEq, Kind.isScal, -List.reduceReplicate, -List.getD_eq_getElem?_getD, tab3, ty3, tab22, ty22, tab5, ty5, tab29, ty29, tab110, ty110, tab108, ty108, tab111, ty111, tab106, ty106, tab4, ty4, ntmps22, e5, hwl, hrl, hbw, hx]; (repeat' apply And.intro); all_goals first | exact hK | omega)))
              rw [run_back]
              refine ⟨j + 1, by omega, by omega, ?_⟩
              simp [Ent2, entSl, entM, belSl, belV, belA, belS, belR, belM, look_hit, look_miss, one, -List.getD_eq_getElem?_getD, rschW, rcell, xorI, hi1, h5', h6]
          · intro h5
            simp at h5
            have h5' : ¬ i % nk = 0 := by first | exact h5 | omega
            rcases hnk with rfl | rfl
            · have e5 : ((i : Int) - 4).toNat = i - 4 := by omega
              repeat (first
    | rw [run_ops0]
    | rw [run_seq]
    | rw [run_region]
    | rw [run_block]
    | rw [run_blk]
    | rw [run_skip]
    | (apply run_go rfl; focus (intro L K hK; simp [step1, evS, est, St.ev, St.put, St.add, St.upd, look_hit, look_miss, okd, stBin, bin, binS, binB, binI, shS, shB, S.num, constS, one, inI, stUn, stNil, stLoad, stAt, stField, stIndexAddr, stStore, wrAt, stAlloc, stBox, stIndex, stPart, stPartRow, stFieldV, stConv, cvS, cvB, cvI, stSlice, optN, SV.num, noMax, stArrPtr, stExtract, stLen, stBuild, A.isRow, A.isAgg, A.noRec, A.len, A.get, A.sub, A.set, A.over, Ent.bound, Kind.isStruct, Kind.isAgg, S.known, A.solid, segAt, segPut, segLen, R.a, R.len, A.r, stMake, stBuildSlice, litA, repA, rep1, fillA, putP, sing, stMin, stEqA, rowEq, Kind.isScal, -List.reduceReplicate, -List.getD_eq_getElem?_getD, tab3, ty3, tab22, ty22, tab5, ty5, tab29, ty29, tab110, ty110, tab108, ty108, tab111, ty111, tab106, ty106, tab4, ty4, ntmps22]; (repeat' apply And.intro); all_goals first | exact hK | omega)))
              apply run_guard rfl rfl rfl rfl
              · intro h; cases h
              intro _
              refine ⟨Nat.le_of_ble_eq_true rfl, ?_⟩
              simp only [St.put]
              apply run_guard rfl rfl rfl rfl
              · intro h; cases h
              intro _
              refine ⟨Nat.le_of_ble_eq_true rfl, ?_⟩
              simp only [St.put]
              apply run_guard rfl rfl rfl rfl
              · intro h; cases h
              intro _
              refine ⟨Nat.le_of_ble_eq_true rfl, ?_⟩
              simp only [St.put]
              repeat (first
    | rw [run_ops0]
    | rw [run_seq]
    | rw [run_region]
    | rw [run_block]
    | rw [run_blk]
    | rw [run_skip]
    | (apply run_go rfl; focus (intro L K hK; simp [step1, evS, est, St.ev, St.put, St.add, St.upd, look_hit, look_miss, okd, stBin, bin, binS, binB, binI, shS, shB, S.num, constS, one, inI, stUn, stNil, stLoad, stAt, stField, stIndexAddr, stStore, wrAt, stAlloc, stBox, stIndex, stPart, stPartRow, stFieldV, stConv, cvS, cvB, cvI, stSlice, optN, SV.num, noMax, stArrPtr, stExtract, stLen, stBuild, A.isRow, A.isAgg, A.noRec, A.len, A.get, A.sub, A.set, A.over, Ent.bound, Kind.isStruct, Kind.isAgg, S.known, A.solid, segAt, segPut, segLen, R.a, R.len, A.r, stMake, stBuildSlice, litA, repA, rep1, fillA, putP, sing, stMin, stEqA, rowEq, Kind.isScal, -List.reduceReplicate, -List.getD_eq_getElem?_getD, tab3, ty3, tab22, ty22, tab5, ty5, tab29, ty29, tab110, ty110, tab108, ty108, tab111, ty111, tab106, ty106, tab4, ty4, ntmps22]; (repeat' apply And.intro); all_goals first | exact hK | omega)))
              apply run_cond2 rfl
              · intro h; cases h
              intro _
              have hx := xorI_lt hbw hb1
              unfold xorI at hx
              repeat (first
    | rw [run_ops0]
    | rw [run_seq]
    | rw [run_region]
    | rw [run_block]
    | rw [run_blk]
    | rw [run_skip]
    | (apply run_go rfl; focus (intro L K hK; simp [step1, evS, est, St.ev, St.put, St.add, St.upd, look_hit, look_miss, okd, stBin, bin, binS, binB, binI, shS, shB, S.num, constS, one, inI, stUn, stNil, stLoad, stAt, stField, stIndexAddr, stStore, wrAt, stAlloc, stBox, stIndex, stPart, stPartRow, stFieldV, stConv, cvS, cvB, cvI, stSlice, optN, SV.num, noMax, stArrPtr, stExtract, stLen, stBuild, A.isRow, A.isAgg, A.noRec, A.len, A.get, A.sub, A.set, A.over, Ent.bound, Kind.isStruct, Kind.isAgg, S.known, A.solid, segAt, segPut, segLen, R.a, R.len, A.r, stMake, stBuildSlice, litA, repA, rep1, fillA, putP, sing, stMin, stEqA, rowEq, Kind.isScal, -List.reduceReplicate, -List.getD_eq_getElem?_getD, tab3, ty3, tab22, ty22, tab5, ty5, tab29, ty29, tab110, ty110, tab108, ty108, tab111, ty111, tab106, ty106, tab4, ty4, ntmps22, e5, hwl, hrl, hbw, hx]; (repeat' apply And.intro); all_goals first | exact hK | omega)))
              rw [run_back]
              refine ⟨j + 1, by omega, by omega, ?_⟩
              simp [Ent2, entSl, entM, belSl, belV, belA, belS, belR, belM, look_hit, look_miss, one, -List.getD_eq_getElem?_getD, rschW, rcell, xorI, hi1, h5']
            · have e5 : ((i : Int) - 8).toNat = i - 8 := by omega
              have tm8 : (i : Int).tmod 8 = ((i % 8 : Nat) : Int) := rfl
              repeat (first
    | rw [run_ops0]
    | rw [run_seq]
    | rw [run_region]
    | rw [run_block]
    | rw [run_blk]
    | rw [run_skip]
    | (apply run_go rfl; focus (intro L K hK; simp [step1, evS, est, St.ev, St.put, St.add, St.upd, look_hit, look_miss, okd, stBin, bin, binS, binB, binI, shS, shB, S.num, constS, one, inI, stUn, stNil, stLoad, stAt, stField, stIndexAddr, stStore, wrAt, stAlloc, stBox, stIndex, stPart, stPartRow, stFieldV, stConv, cvS, cvB, cvI, stSlice, optN, SV.num, noMax, stArrPtr, stExtract, stLen, stBuild, A.isRow, A.isAgg, A.noRec, A.len, A.get, A.sub, A.set, A.over, Ent.bound, Kind.isStruct, Kind.isAgg, S.known, A.solid, segAt, segPut, segLen, R.a, R.len, A.r, stMake, stBuildSlice, litA, repA, rep1, fillA, putP, sing, stMin, stEqA, rowEq, Kind.isScal, -List.reduceReplicate, -List.getD_eq_getElem?_getD, tab3, ty3, tab22, ty22, tab5, ty5, tab29, ty29, tab110, ty110, tab108, ty108, tab111, ty111, tab106, ty106, tab4, ty4, ntmps22]; (repeat' apply And.intro); all_goals first | exact hK | omega)))
              apply run_guard rfl rfl rfl rfl
              · intro _
                (apply Exists.intro; apply And.intro; focus (intro L K hK; simp [step1, evS, est, St.ev, St.put, St.add, St.upd, look_hit, look_miss, okd, stBin, bin, binS, binB, binI, shS, shB, S.num, constS, one, inI, stUn, stNil, stLoad, stAt, stField, stIndexAddr, stStore, wrAt, stAlloc, stBox, stIndex, stPart, stPartRow, stFieldV, stConv, cvS, cvB, cvI, stSlice, optN, SV.num, noMax, stArrPtr, stExtract, stLen, stBuild, A.isRow, A.isAgg, A.noRec, A.len, A.get, A.sub, A.set, A.over, Ent.bound, Kind.isStruct, Kind.isAgg, S.known, A.solid, segAt, segPut, segLen, R.a, R.len, A.r, stMake, stBuildSlice, litA, repA, rep1, fillA, putP, sing, stMin, stEqA, rowEq, Kind.isScal, -List.reduceReplicate, -List.getD_eq_getElem?_getD, tab3, ty3, tab22, ty22, tab5, ty5, tab29, ty29, tab110, ty110, tab108, ty108, tab111, ty111, tab106, ty106, tab4, ty4, ntmps22, tm8]; (repeat' apply And.intro); all_goals first | exact hK | omega))
                apply run_guard rfl rfl rfl rfl
                · intro _
                  (apply Exists.intro; apply And.intro; focus (intro L K hK; simp [step1, evS, est, St.ev, St.put, St.add, St.upd, look_hit, look_miss, okd, stBin, bin, binS, binB, binI, shS, shB, S.num, constS, one, inI, stUn, stNil, stLoad, stAt, stField, stIndexAddr, stStore, wrAt, stAlloc, stBox, stIndex, stPart, stPartRow, stFieldV, stConv, cvS, cvB, cvI, stSlice, optN, SV.num, noMax, stArrPtr, stExtract, stLen, stBuild, A.isRow, A.isAgg, A.noRec, A.len, A.get, A.sub, A.set, A.over, Ent.bound, Kind.isStruct, Kind.isAgg, S.known, A.solid, segAt, segPut, segLen, R.a, R.len, A.r, stMake, stBuildSlice, litA, repA, rep1, fillA, putP, sing, stMin, stEqA, rowEq, Kind.isScal, -List.reduceReplicate, -List.getD_eq_getElem?_getD, tab3, ty3, tab22, ty22, tab5, ty5, tab29, ty29, tab110, ty110, tab108, ty108, tab111, ty111, tab106, ty106, tab4, ty4, ntmps22, tm8]; (repeat' apply And.intro); all_goals first | exact hK | omega))
                  apply run_guard rfl rfl rfl rfl
                  · intro _
                    (apply Exists.intro; apply And.intro; focus (intro L K hK; simp [step1, evS, est, St.ev, St.put, St.add, St.upd, look_hit, look_miss, okd, stBin, bin, binS, binB, binI, shS, shB, S.num, constS, one, inI, stUn, stNil, stLoad, stAt, stField, stIndexAddr, stStore, wrAt, stAlloc, stBox, stIndex, stPart, stPartRow, stFieldV, stConv, cvS, cvB, cvI, stSlice, optN, SV.num, noMax, stArrPtr, stExtract, stLen, stBuild, A.isRow, A.isAgg, A.noRec, A.len, A.get, A.sub, A.set, A.over, Ent.bound, Kind.isStruct, Kind.isAgg, S.known, A.solid, segAt, segPut, segLen, R.a, R.len, A.r, stMake, stBuildSlice, litA, repA, rep1, fillA, putP, sing, stMin, stEqA, rowEq, Kind.isScal, -List.reduceReplicate, -List.getD_eq_getElem?_getD, tab3, ty3, tab22, ty22, tab5, ty5, tab29, ty29, tab110, ty110, tab108, ty108, tab111, ty111, tab106, ty106, tab4, ty4, ntmps22, tm8]; (repeat' apply And.intro); all_goals first | exact hK | omega))
                    repeat (first
    | rw [run_ops0]
    | rw [run_seq]
    | rw [run_region]
    | rw [run_block]
    | rw [run_blk]
    | rw [run_skip]
    | (apply run_go rfl; focus (intro L K hK; simp [step1, evS, est, St.ev, St.put, St.add, St.upd, look_hit, look_miss, okd, stBin, bin, binS, binB, binI, shS, shB, S.num, constS, one, inI, stUn, stNil, stLoad, stAt, stField, stIndexAddr, stStore, wrAt, stAlloc, stBox, stIndex, stPart, stPartRow, stFieldV, stConv, cvS, cvB, cvI, stSlice, optN, SV.num, noMax, stArrPtr, stExtract, stLen, stBuild, A.isRow, A.isAgg, A.noRec, A.len, A.get, A.sub, A.set, A.over, Ent.bound, Kind.isStruct, Kind.isAgg, S.known, A.solid, segAt, segPut, segLen, R.a, R.len, A.r, stMake, stBuildSlice, litA, repA, rep1, fillA, putP, sing, stMin, stEqA, rowEq, Kind.isScal, -List.reduceReplicate, -List.getD_eq_getElem?_getD, tab3, ty3, tab22, ty22, tab5, ty5, tab29, ty29, tab110, ty110, tab108, ty108, tab111, ty111, tab106, ty106, tab4, ty4, ntmps22]; (repeat' apply And.intro); all_goals first | exact hK | omega)))
                    apply run_cond2 rfl
                    · intro h7
                      simp at h7
                      have h7' : i % 8 = 4 := by omega
                      have hs3 := hsb (W.getD ((i - 1) * 4 + j) 0).toNat
                      repeat (first
    | rw [run_ops0]
    | rw [run_seq]
    | rw [run_region]
    | rw [run_block]
    | rw [run_blk]
    | rw [run_skip]
    | (apply run_go rfl; focus (intro L K hK; simp [step1, evS, est, St.ev, St.put, St.add, St.upd, look_hit, look_miss, okd, stBin, bin, binS, binB, binI, shS, shB, S.num, constS, one, inI, stUn, stNil, stLoad, stAt, stField, stIndexAddr, stStore, wrAt, stAlloc, stBox, stIndex, stPart, stPartRow, stFieldV, stConv, cvS, cvB, cvI, stSlice, optN, SV.num, noMax, stArrPtr, stExtract, stLen, stBuild, A.isRow, A.isAgg, A.noRec, A.len, A.get, A.sub, A.set, A.over, Ent.bound, Kind.isStruct, Kind.isAgg, S.known, A.solid, segAt, segPut, segLen, R.a, R.len, A.r, stMake, stBuildSlice, litA, repA, rep1, fillA, putP, sing, stMin, stEqA, rowEq, Kind.isScal, -List.reduceReplicate, -List.getD_eq_getElem?_getD, tab3, ty3, tab22, ty22, tab5, ty5, tab29, ty29, tab110, ty110, tab108, ty108, tab111, ty111, tab106, ty106, tab4, ty4, ntmps22, hsl, hb1]; (repeat' apply And.intro); all_goals first | exact hK | omega)))
                      have hx := xorI_lt hbw hs3
                      unfold xorI at hx
                      repeat (first
    | rw [run_ops0]
    | rw [run_seq]
    | rw [run_region]
    | rw [run_block]
    | rw [run_blk]
    | rw [run_skip]
    | (apply run_go rfl; focus (intro L K hK; simp [step1, evS, est, St.ev, St.put, St.add, St.upd, look_hit, look_miss, okd, stBin, bin, binS, binB, binI, shS, shB, S.num, constS, one, inI, stUn, stNil, stLoad, stAt, stField, stIndexAddr, stStore, wrAt, stAlloc, stBox, stIndex, stPart, stPartRow, stFieldV, stConv, cvS, cvB, cvI, stSlice, optN, SV.num, noMax, stArrPtr, stExtract, stLen, stBuild, A.isRow, A.isAgg, A.noRec, A.len, A.get, A.sub, A.set, A.over, Ent.bound, Kind.isStruct, Kind.isAgg, S.known, A.solid, segAt, segPut, segLen, R.a, R.len, A.r, stMake, stBuildSlice, litA, repA, rep1, fillA, putP, sing, stMin, stEqA, rowEq, Kind.isScal, -List.reduceReplicate, -List.getD_eq_getElem?_getD, tab3, ty3, tab22, ty22, tab5, ty5, tab29, ty29, tab110, ty110, tab108, ty108, tab111, ty111, tab106, ty106, tab4, ty4, ntmps22, e5, hwl, hrl, hbw, hx]; (repeat' apply And.intro); all_goals first | exact hK | omega)))
                      rw [run_back]
                      refine ⟨j + 1, by omega, by omega, ?_⟩
                      simp [Ent2, entSl, entM, belSl, belV, belA, belS, belR, belM, look_hit, look_miss, one, -List.getD_eq_getElem?_getD, rschW, rcell, xorI, hi1, h5', h7']
                    · intro h7
                      simp at h7
                      have h7' : ¬ i % 8 = 4 := by omega
                      have hx := xorI_lt hbw hb1
                      unfold xorI at hx
                      repeat (first
    | rw [run_ops0]
    | rw [run_seq]
    | rw [run_region]
    | rw [run_block]
    | rw [run_blk]
    | rw [run_skip]
    | (apply run_go rfl; focus (intro L K hK; simp [step1, evS, est, St.ev, St.put, St.add, St.upd, look_hit, look_miss, okd, stBin, bin, binS, binB, binI, shS, shB, S.num, constS, one, inI, stUn, stNil, stLoad, stAt, stField, stIndexAddr, stStore, wrAt, stAlloc, stBox, stIndex, stPart, stPartRow, stFieldV, stConv, cvS, cvB, cvI, stSlice, optN, SV.num, noMax, stArrPtr, stExtract, stLen, stBuild, A.isRow, A.isAgg, A.noRec, A.len, A.get, A.sub, A.set, A.over, Ent.bound, Kind.isStruct, Kind.isAgg, S.known, A.solid, segAt, segPut, segLen, R.a, R.len, A.r, stMake, stBuildSlice, litA, repA, rep1, fillA, putP, sing, stMin, stEqA, rowEq, Kind.isScal, -List.reduceReplicate, -List.getD_eq_getElem?_getD, tab3, ty3, tab22, ty22, tab5, ty5, tab29, ty29, tab110, ty110, tab108, ty108, tab111, ty111, tab106, ty106, tab4, ty4, ntmps22, e5, hwl, hrl, hbw, hx]; (repeat' apply And.intro); all_goals first | exact hK | omega)))
                      rw [run_back]
                      refine ⟨j + 1, by omega, by omega, ?_⟩
                      simp [Ent2, entSl, entM, belSl, belV, belA, belS, belR, belM, look_hit, look_miss, one, -List.getD_eq_getElem?_getD, rschW, rcell, xorI, hi1, h5', h7']
                  · intro h; cases h
                · intro h; cases h
              · intro h; cases h
      · intro h3
        simp at h3
        obtain rfl : j = 4 := by omega
        apply run_exit2 rfl
        repeat (first
    | rw [run_ops0]
    | rw [run_seq]
    | rw [run_region]
    | rw [run_block]
    | rw [run_blk]
    | rw [run_skip]
    | (apply run_go rfl; focus (intro L K hK; simp [step1, evS, est, St.ev, St.put, St.add, St.upd, look_hit, look_miss, okd, stBin, bin, binS, binB, binI, shS, shB, S.num, constS, one, inI, stUn, stNil, stLoad, stAt, stField, stIndexAddr, stStore, wrAt, stAlloc, stBox, stIndex, stPart, stPartRow, stFieldV, stConv, cvS, cvB, cvI, stSlice, optN, SV.num, noMax, stArrPtr, stExtract, stLen, stBuild, A.isRow, A.isAgg, A.noRec, A.len, A.get, A.sub, A.set, A.over, Ent.bound, Kind.isStruct, Kind.isAgg, S.known, A.solid, segAt, segPut, segLen, R.a, R.len, A.r, stMake, stBuildSlice, litA, repA, rep1, fillA, putP, sing, stMin, stEqA, rowEq, Kind.isScal, -List.reduceReplicate, -List.getD_eq_getElem?_getD, tab3, ty3, tab111, ty111, ntmps22]; (repeat' apply And.intro); all_goals first | exact hK | omega)))
        rw [run_draw]
        refine ok_draw_app2 7 tabOK pureF_ok (pureOf_mono _) mixed hB.pan (by decide +kernel) rfl rfl ?_
        repeat (first
    | (apply hd_go rfl rfl rfl rfl (Nat.le_of_ble_eq_true rfl); focus (intro K' hK; simp [step1, evS, est, St.ev, St.put, St.add, St.upd, look_hit, look_miss, okd, stBin, bin, binS, binB, binI, shS, shB, S.num, constS, one, inI, stUn, stNil, stLoad, stAt, stField, stIndexAddr, stStore, wrAt, stAlloc, stBox, stIndex, stPart, stPartRow, stFieldV, stConv, cvS, cvB, cvI, stSlice, optN, SV.num, noMax, stArrPtr, stExtract, stLen, stBuild, A.isRow, A.isAgg, A.noRec, A.len, A.get, A.sub, A.set, A.over, Ent.bound, Kind.isStruct, Kind.isAgg, S.known, A.solid, segAt, segPut, segLen, R.a, R.len, A.r, stMake, stBuildSlice, litA, repA, rep1, fillA, putP, sing, stMin, stEqA, rowEq, Kind.isScal, -List.reduceReplicate, -List.getD_eq_getElem?_getD, tab3, ty3, tab29, ty29, tab110, ty110, tab108, ty108, tab111, ty111, hrl]; (repeat' apply And.intro); all_goals first | exact hK | omega))
    | (apply hd_new rfl rfl rfl rfl (Nat.le_of_ble_eq_true rfl); focus (intro K' hK; simp [step1, evS, est, St.ev, St.put, St.add, St.upd, look_hit, look_miss, okd, stBin, bin, binS, binB, binI, shS, shB, S.num, constS, one, inI, stUn, stNil, stLoad, stAt, stField, stIndexAddr, stStore, wrAt, stAlloc, stBox, stIndex, stPart, stPartRow, stFieldV, stConv, cvS, cvB, cvI, stSlice, optN, SV.num, noMax, stArrPtr, stExtract, stLen, stBuild, A.isRow, A.isAgg, A.noRec, A.len, A.get, A.sub, A.set, A.over, Ent.bound, Kind.isStruct, Kind.isAgg, S.known, A.solid, segAt, segPut, segLen, R.a, R.len, A.r, stMake, stBuildSlice, litA, repA, rep1, fillA, putP, sing, stMin, stEqA, rowEq, Kind.isScal, -List.reduceReplicate, -List.getD_eq_getElem?_getD, tab3, ty3, tab29, ty29, tab110, ty110, tab108, ty108, tab111, ty111, hrl]; (repeat' apply And.intro); all_goals first | exact hK | omega)))
        refine hd_nil ?_
        simp only [List.map_cons, List.map_nil, List.nil_append, List.cons_append]
        refine ok_run hB tabOK pureF_ok 100 ?_
        (apply run_app rfl; focus (intro L K hK; simp [step1, evS, est, St.ev, St.put, St.add, St.upd, look_hit, look_miss, okd, stBin, bin, binS, binB, binI, shS, shB, S.num, constS, one, inI, stUn, stNil, stLoad, stAt, stField, stIndexAddr, stStore, wrAt, stAlloc, stBox, stIndex, stPart, stPartRow, stFieldV, stConv, cvS, cvB, cvI, stSlice, optN, SV.num, noMax, stArrPtr, stExtract, stLen, stBuild, A.isRow, A.isAgg, A.noRec, A.len, A.get, A.sub, A.set, A.over, Ent.bound, Kind.isStruct, Kind.isAgg, S.known, A.solid, segAt, segPut, segLen, R.a, R.len, A.r, stMake, stBuildSlice, litA, repA, rep1, fillA, putP, sing, stMin, stEqA, rowEq, Kind.isScal, -List.reduceReplicate, -List.getD_eq_getElem?_getD, stAppend, srcRow, SrcTy, A.cat, killSl, killV, killA, killS, killE, killSeg, killR, tab108, ty108, tab111, ty111, ntmps22, hwl, hrl]; (repeat' apply And.intro); all_goals first | exact hK | omega | (intro cap hcap; exact hK cap hcap)))
        intro cap2 hcap2
        repeat (first
    | rw [run_ops0]
    | rw [run_seq]
    | rw [run_region]
    | rw [run_block]
    | rw [run_blk]
    | rw [run_skip]
    | (apply run_go rfl; focus (intro L K hK; simp [step1, evS, est, St.ev, St.put, St.add, St.upd, look_hit, look_miss, okd, stBin, bin, binS, binB, binI, shS, shB, S.num, constS, one, inI, stUn, stNil, stLoad, stAt, stField, stIndexAddr, stStore, wrAt, stAlloc, stBox, stIndex, stPart, stPartRow, stFieldV, stConv, cvS, cvB, cvI, stSlice, optN, SV.num, noMax, stArrPtr, stExtract, stLen, stBuild, A.isRow, A.isAgg, A.noRec, A.len, A.get, A.sub, A.set, A.over, Ent.bound, Kind.isStruct, Kind.isAgg, S.known, A.solid, segAt, segPut, segLen, R.a, R.len, A.r, stMake, stBuildSlice, litA, repA, rep1, fillA, putP, sing, stMin, stEqA, rowEq, Kind.isScal, -List.reduceReplicate, -List.getD_eq_getElem?_getD, tab3, ty3, tab29, ty29, tab110, ty110, tab108, ty108, tab111, ty111, ntmps22]; (repeat' apply And.intro); all_goals first | exact hK | omega)))
        rw [run_back]
        refine ⟨(i + 1, cap2), by simp only; omega, by simp only; omega, ?_⟩
        simp only [hsn]
        simp [Ent2, entSl, entM, belSl, belV, belA, belS, belR, belM, look_hit, look_miss, one, -List.getD_eq_getElem?_getD, killA]
        first | exact List.take_of_length_le (by omega) | skip
    · intro h
      simp at h
      obtain rfl : i = 4 * (nk + 7) := by omega
      apply run_exit2 rfl
      repeat (first
    | rw [run_ops0]
    | rw [run_seq]
    | rw [run_region]
    | rw [run_block]
    | rw [run_blk]
    | rw [run_skip]
    | (apply run_go rfl; focus (intro L K hK; simp [step1, evS, est, St.ev, St.put, St.add, St.upd, look_hit, look_miss, okd, stBin, bin, binS, binB, binI, shS, shB, S.num, constS, one, inI, stUn, stNil, stLoad, stAt, stField, stIndexAddr, stStore, wrAt, stAlloc, stBox, stIndex, stPart, stPartRow, stFieldV, stConv, cvS, cvB, cvI, stSlice, optN, SV.num, noMax, stArrPtr, stExtract, stLen, stBuild, A.isRow, A.isAgg, A.noRec, A.len, A.get, A.sub, A.set, A.over, Ent.bound, Kind.isStruct, Kind.isAgg, S.known, A.solid, segAt, segPut, segLen, R.a, R.len, A.r, stMake, stBuildSlice, litA, repA, rep1, fillA, putP, sing, stMin, stEqA, rowEq, Kind.isScal, -List.reduceReplicate, -List.getD_eq_getElem?_getD, tab3, ty3, tab29, ty29, ntmps22]; (repeat' apply And.intro); all_goals first | exact hK | omega)))
      rw [run_ret]
      simp [finOf, resP, resV, extraOwn, look_hit, look_miss, one, -List.reduceReplicate, -List.getD_eq_getElem?_getD, stLoad, stAt, Ent.bound, A.len, A.isRow, A.isAgg, results22, f22, rnewMem, hsbe]
theorem spec22 (key : B8) (nk cap0 : Nat) (hk : key.length = 4 * nk) (hnk : nk = 4 ∨ nk = 8) (hcap0 : 4 * nk ≤ cap0) : Spec prog 22 [one (.sl 0 0 (4 * nk) cap0 1)] [.ent ⟨false, 5, none, .a8 key⟩] [] (fun r m => r = one (.ptr 1 0 0) ∧ ∃ cap, m = rnewMem key nk cap) := spec22L key nk cap0 (Nat.le_of_eq hk.symm) hnk hcap0
end Go.V
end
section
set_option linter.unusedSimpArgs false
set_option linter.unusedVariables false
set_option maxRecDepth 10000
namespace Go.V
open Go Go.Proofs.Try
theorem spec23nil (b : B8) (hb : b.length = 16) : Spec prog 23 [.one (.s .nil), .one (.a8 b)] [] [] (fun r _ => r = .one (.a8 zero16)) := by
  refine spec_of_body tabOK func23 rfl (Nat.le_of_ble_eq_true rfl) ?_
  intro E Q0 hB
  refine ok_run hB tabOK pureE_ok 100 ?_
  simp only [argSl]
  repeat (first
    | rw [run_ops0]
    | rw [run_seq]
    | rw [run_region]
    | rw [run_block]
    | rw [run_blk]
    | rw [run_skip]
    | (apply run_go rfl; focus (intro L K hK; simp [step1, evS, est, St.ev, St.put, St.add, St.upd, look_hit, look_miss, okd, stBin, bin, binS, binB, binI, shS, shB, S.num, constS, one, inI, stUn, stNil, stLoad, stAt, stField, stIndexAddr, stStore, wrAt, stAlloc, stBox, stIndex, stPart, stPartRow, stFieldV, stConv, cvS, cvB, cvI, stSlice, optN, SV.num, noMax, stArrPtr, stExtract, stLen, stBuild, A.isRow, A.isAgg, A.noRec, A.len, A.get, A.sub, A.set, A.over, Ent.bound, Kind.isStruct, Kind.isAgg, S.known, A.solid, segAt, segPut, segLen, R.a, R.len, A.r, stMake, stBuildSlice, litA, repA, rep1, fillA, putP, sing, stMin, stEqA, rowEq, Kind.isScal, -List.reduceReplicate, -List.getD_eq_getElem?_getD, tab23, ty23, tab25, ty25, ntmps23, hb]; (repeat' apply And.intro); all_goals first | exact hK | omega)))
  apply run_cond2 rfl
  · intro _
    repeat (first
    | rw [run_ops0]
    | rw [run_seq]
    | rw [run_region]
    | rw [run_block]
    | rw [run_blk]
    | rw [run_skip]
    | (apply run_go rfl; focus (intro L K hK; simp [step1, evS, est, St.ev, St.put, St.add, St.upd, look_hit, look_miss, okd, stBin, bin, binS, binB, binI, shS, shB, S.num, constS, one, inI, stUn, stNil, stLoad, stAt, stField, stIndexAddr, stStore, wrAt, stAlloc, stBox, stIndex, stPart, stPartRow, stFieldV, stConv, cvS, cvB, cvI, stSlice, optN, SV.num, noMax, stArrPtr, stExtract, stLen, stBuild, A.isRow, A.isAgg, A.noRec, A.len, A.get, A.sub, A.set, A.over, Ent.bound, Kind.isStruct, Kind.isAgg, S.known, A.solid, segAt, segPut, segLen, R.a, R.len, A.r, stMake, stBuildSlice, litA, repA, rep1, fillA, putP, sing, stMin, stEqA, rowEq, Kind.isScal, -List.reduceReplicate, -List.getD_eq_getElem?_getD, tab23, ty23, tab25, ty25, tab3, ty3, ntmps23, hb]; (repeat' apply And.intro); all_goals first | exact hK | omega)))
    rw [run_ret]
    simp [finOf, resP, resV, extraOwn, look_hit, look_miss, one, -List.reduceReplicate, -List.getD_eq_getElem?_getD, stLoad, stAt, Ent.bound, A.len, A.isRow, A.isAgg, results23, f23, tab23, ty23, zero16]
  · intro h; cases h
theorem spec21bad (key : B8) (n cap0 : Nat) (hk : key.length = n) (hcap0 : n ≤ cap0) (h16 : n ≠ 16) (h32 : n ≠ 32) (hn : n < 2 ^ 62) : Spec prog 21 [one (.sl 0 0 n cap0 1)] [.ent ⟨false, 5, none, .a8 key⟩] [] (fun r m => r = .tup [.s .nil, .s (.i 2)] ∧ m = [.ent ⟨false, 5, none, .a8 key⟩]) := by
  refine spec_of_body tabOK func21 rfl (Nat.le_of_ble_eq_true rfl) ?_
  intro E Q0 hB
  refine ok_run hB tabOK pureE_ok 100 ?_
  simp only [argSl]
  have h16' : (n : Int) ≠ 16 := by omega
  have h32' : (n : Int) ≠ 32 := by omega
  have d4 : (n : Int).tdiv 4 = (n : Int) / 4 := by rw [Int.tdiv_eq_ediv_of_nonneg (by omega)]
  repeat (first
    | rw [run_ops0]
    | rw [run_seq]
    | rw [run_region]
    | rw [run_block]
    | rw [run_blk]
    | rw [run_skip]
    | (apply run_go rfl; focus (intro L K hK; simp [step1, evS, est, St.ev, St.put, St.add, St.upd, look_hit, look_miss, okd, stBin, bin, binS, binB, binI, shS, shB, S.num, constS, one, inI, stUn, stNil, stLoad, stAt, stField, stIndexAddr, stStore, wrAt, stAlloc, stBox, stIndex, stPart, stPartRow, stFieldV, stConv, cvS, cvB, cvI, stSlice, optN, SV.num, noMax, stArrPtr, stExtract, stLen, stBuild, A.isRow, A.isAgg, A.noRec, A.len, A.get, A.sub, A.set, A.over, Ent.bound, Kind.isStruct, Kind.isAgg, S.known, A.solid, segAt, segPut, segLen, R.a, R.len, A.r, stMake, stBuildSlice, litA, repA, rep1, fillA, putP, sing, stMin, stEqA, rowEq, Kind.isScal, -List.reduceReplicate, -List.getD_eq_getElem?_getD, tab22, ty22, tab3, ty3, tab26, ty26, ntmps21, d4]; (repeat' apply And.intro); all_goals first | exact hK | omega)))
  apply run_guard rfl rfl rfl rfl
  · intro _
    (apply Exists.intro; apply And.intro; focus (intro L K hK; simp [step1, evS, est, St.ev, St.put, St.add, St.upd, look_hit, look_miss, okd, stBin, bin, binS, binB, binI, shS, shB, S.num, constS, one, inI, stUn, stNil, stLoad, stAt, stField, stIndexAddr, stStore, wrAt, stAlloc, stBox, stIndex, stPart, stPartRow, stFieldV, stConv, cvS, cvB, cvI, stSlice, optN, SV.num, noMax, stArrPtr, stExtract, stLen, stBuild, A.isRow, A.isAgg, A.noRec, A.len, A.get, A.sub, A.set, A.over, Ent.bound, Kind.isStruct, Kind.isAgg, S.known, A.solid, segAt, segPut, segLen, R.a, R.len, A.r, stMake, stBuildSlice, litA, repA, rep1, fillA, putP, sing, stMin, stEqA, rowEq, Kind.isScal, -List.reduceReplicate, -List.getD_eq_getElem?_getD, tab22, ty22, tab3, ty3, ntmps21]; (repeat' apply And.intro); all_goals first | exact hK | omega))
    apply run_guard rfl rfl rfl rfl
    · intro _
      (apply Exists.intro; apply And.intro; focus (intro L K hK; simp [step1, evS, est, St.ev, St.put, St.add, St.upd, look_hit, look_miss, okd, stBin, bin, binS, binB, binI, shS, shB, S.num, constS, one, inI, stUn, stNil, stLoad, stAt, stField, stIndexAddr, stStore, wrAt, stAlloc, stBox, stIndex, stPart, stPartRow, stFieldV, stConv, cvS, cvB, cvI, stSlice, optN, SV.num, noMax, stArrPtr, stExtract, stLen, stBuild, A.isRow, A.isAgg, A.noRec, A.len, A.get, A.sub, A.set, A.over, Ent.bound, Kind.isStruct, Kind.isAgg, S.known, A.solid, segAt, segPut, segLen, R.a, R.len, A.r, stMake, stBuildSlice, litA, repA, rep1, fillA, putP, sing, stMin, stEqA, rowEq, Kind.isScal, -List.reduceReplicate, -List.getD_eq_getElem?_getD, tab22, ty22, tab3, ty3, ntmps21]; (repeat' apply And.intro); all_goals first | exact hK | omega))
      apply run_guard rfl rfl rfl rfl
      · intro _
        (apply Exists.intro; apply And.intro; focus (intro L K hK; simp [step1, evS, est, St.ev, St.put, St.add, St.upd, look_hit, look_miss, okd, stBin, bin, binS, binB, binI, shS, shB, S.num, constS, one, inI, stUn, stNil, stLoad, stAt, stField, stIndexAddr, stStore, wrAt, stAlloc, stBox, stIndex, stPart, stPartRow, stFieldV, stConv, cvS, cvB, cvI, stSlice, optN, SV.num, noMax, stArrPtr, stExtract, stLen, stBuild, A.isRow, A.isAgg, A.noRec, A.len, A.get, A.sub, A.set, A.over, Ent.bound, Kind.isStruct, Kind.isAgg, S.known, A.solid, segAt, segPut, segLen, R.a, R.len, A.r, stMake, stBuildSlice, litA, repA, rep1, fillA, putP, sing, stMin, stEqA, rowEq, Kind.isScal, -List.reduceReplicate, -List.getD_eq_getElem?_getD, tab22, ty22, tab3, ty3, ntmps21]; (repeat' apply And.intro); all_goals first | exact hK | omega))
        repeat (first
    | rw [run_ops0]
    | rw [run_seq]
    | rw [run_region]
    | rw [run_block]
    | rw [run_blk]
    | rw [run_skip]
    | (apply run_go rfl; focus (intro L K hK; simp [step1, evS, est, St.ev, St.put, St.add, St.upd, look_hit, look_miss, okd, stBin, bin, binS, binB, binI, shS, shB, S.num, constS, one, inI, stUn, stNil, stLoad, stAt, stField, stIndexAddr, stStore, wrAt, stAlloc, stBox, stIndex, stPart, stPartRow, stFieldV, stConv, cvS, cvB, cvI, stSlice, optN, SV.num, noMax, stArrPtr, stExtract, stLen, stBuild, A.isRow, A.isAgg, A.noRec, A.len, A.get, A.sub, A.set, A.over, Ent.bound, Kind.isStruct, Kind.isAgg, S.known, A.solid, segAt, segPut, segLen, R.a, R.len, A.r, stMake, stBuildSlice, litA, repA, rep1, fillA, putP, sing, stMin, stEqA, rowEq, Kind.isScal, -List.reduceReplicate, -List.getD_eq_getElem?_getD, tab22, ty22, tab3, ty3, tab4, ty4, ntmps21]; (repeat' apply And.intro); all_goals first | exact hK | omega)))
        apply run_cond2 rfl
        · intro _
          repeat (first
    | rw [run_ops0]
    | rw [run_seq]
    | rw [run_region]
    | rw [run_block]
    | rw [run_blk]
    | rw [run_skip]
    | (apply run_go rfl; focus (intro L K hK; simp [step1, evS, est, St.ev, St.put, St.add, St.upd, look_hit, look_miss, okd, stBin, bin, binS, binB, binI, shS, shB, S.num, constS, one, inI, stUn, stNil, stLoad, stAt, stField, stIndexAddr, stStore, wrAt, stAlloc, stBox, stIndex, stPart, stPartRow, stFieldV, stConv, cvS, cvB, cvI, stSlice, optN, SV.num, noMax, stArrPtr, stExtract, stLen, stBuild, A.isRow, A.isAgg, A.noRec, A.len, A.get, A.sub, A.set, A.over, Ent.bound, Kind.isStruct, Kind.isAgg, S.known, A.solid, segAt, segPut, segLen, R.a, R.len, A.r, stMake, stBuildSlice, litA, repA, rep1, fillA, putP, sing, stMin, stEqA, rowEq, Kind.isScal, -List.reduceReplicate, -List.getD_eq_getElem?_getD, tab22, ty22, tab3, ty3, tab4, ty4, ntmps21, tab25, ty25, tab26, ty26]; (repeat' apply And.intro); all_goals first | exact hK | omega)))
          rw [run_ret]
          simp [finOf, resP, resV, extraOwn, look_hit, look_miss, one, -List.reduceReplicate, -List.getD_eq_getElem?_getD, stLoad, stAt, Ent.bound, A.len, A.isRow, A.isAgg, results21, f21]
        · intro h; first | (simp at h; done) | (simp at h; omega)
      · intro h; first | (simp at h; done) | (simp at h; omega)
    · intro h; first | (simp at h; done) | (simp at h; omega)
  · intro h; first | (simp at h; done) | (simp at h; omega)
theorem spec22bad (key : B8) (n cap0 : Nat) (hk : key.length = n) (hcap0 : n ≤ cap0) (h16 : n ≠ 16) (h32 : n ≠ 32) (hn : n < 2 ^ 62) : Spec prog 22 [one (.sl 0 0 n cap0 1)] [.ent ⟨false, 5, none, .a8 key⟩] [] (fun r m => r = one .nil ∧ m = [.ent ⟨false, 5, none, .a8 key⟩]) := by
  refine spec_of_body tabOK func22 rfl (Nat.le_of_ble_eq_true rfl) ?_
  intro E Q0 hB
  refine ok_run hB tabOK pureE_ok 100 ?_
  simp only [argSl]
  have h16' : (n : Int) ≠ 16 := by omega
  have h32' : (n : Int) ≠ 32 := by omega
  repeat (first
    | rw [run_ops0]
    | rw [run_seq]
    | rw [run_region]
    | rw [run_block]
    | rw [run_blk]
    | rw [run_skip]
    | (apply run_go rfl; focus (intro L K hK; simp [step1, evS, est, St.ev, St.put, St.add, St.upd, look_hit, look_miss, okd, stBin, bin, binS, binB, binI, shS, shB, S.num, constS, one, inI, stUn, stNil, stLoad, stAt, stField, stIndexAddr, stStore, wrAt, stAlloc, stBox, stIndex, stPart, stPartRow, stFieldV, stConv, cvS, cvB, cvI, stSlice, optN, SV.num, noMax, stArrPtr, stExtract, stLen, stBuild, A.isRow, A.isAgg, A.noRec, A.len, A.get, A.sub, A.set, A.over, Ent.bound, Kind.isStruct, Kind.isAgg, S.known, A.solid, segAt, segPut, segLen, R.a, R.len, A.r, stMake, stBuildSlice, litA, repA, rep1, fillA, putP, sing, stMin, stEqA, rowEq, Kind.isScal, -List.reduceReplicate, -List.getD_eq_getElem?_getD, tab22, ty22, tab3, ty3, tab29, ty29, ntmps22]; (repeat' apply And.intro); all_goals first | exact hK | omega)))
  apply run_guard rfl rfl rfl rfl
  · intro _
    (apply Exists.intro; apply And.intro; focus (intro L K hK; simp [step1, evS, est, St.ev, St.put, St.add, St.upd, look_hit, look_miss, okd, stBin, bin, binS, binB, binI, shS, shB, S.num, constS, one, inI, stUn, stNil, stLoad, stAt, stField, stIndexAddr, stStore, wrAt, stAlloc, stBox, stIndex, stPart, stPartRow, stFieldV, stConv, cvS, cvB, cvI, stSlice, optN, SV.num, noMax, stArrPtr, stExtract, stLen, stBuild, A.isRow, A.isAgg, A.noRec, A.len, A.get, A.sub, A.set, A.over, Ent.bound, Kind.isStruct, Kind.isAgg, S.known, A.solid, segAt, segPut, segLen, R.a, R.len, A.r, stMake, stBuildSlice, litA, repA, rep1, fillA, putP, sing, stMin, stEqA, rowEq, Kind.isScal, -List.reduceReplicate, -List.getD_eq_getElem?_getD, tab22, ty22, tab3, ty3, ntmps22]; (repeat' apply And.intro); all_goals first | exact hK | omega))
    apply run_guard rfl rfl rfl rfl
    · intro _
      (apply Exists.intro; apply And.intro; focus (intro L K hK; simp [step1, evS, est, St.ev, St.put, St.add, St.upd, look_hit, look_miss, okd, stBin, bin, binS, binB, binI, shS, shB, S.num, constS, one, inI, stUn, stNil, stLoad, stAt, stField, stIndexAddr, stStore, wrAt, stAlloc, stBox, stIndex, stPart, stPartRow, stFieldV, stConv, cvS, cvB, cvI, stSlice, optN, SV.num, noMax, stArrPtr, stExtract, stLen, stBuild, A.isRow, A.isAgg, A.noRec, A.len, A.get, A.sub, A.set, A.over, Ent.bound, Kind.isStruct, Kind.isAgg, S.known, A.solid, segAt, segPut, segLen, R.a, R.len, A.r, stMake, stBuildSlice, litA, repA, rep1, fillA, putP, sing, stMin, stEqA, rowEq, Kind.isScal, -List.reduceReplicate, -List.getD_eq_getElem?_getD, tab22, ty22, tab3, ty3, ntmps22]; (repeat' apply And.intro); all_goals first | exact hK | omega))
      apply run_guard rfl rfl rfl rfl
      · intro _
        (apply Exists.intro; apply And.intro; focus (intro L K hK; simp [step1, evS, est, St.ev, St.put, St.add, St.upd, look_hit, look_miss, okd, stBin, bin, binS, binB, binI, shS, shB, S.num, constS, one, inI, stUn, stNil, stLoad, stAt, stField, stIndexAddr, stStore, wrAt, stAlloc, stBox, stIndex, stPart, stPartRow, stFieldV, stConv, cvS, cvB, cvI, stSlice, optN, SV.num, noMax, stArrPtr, stExtract, stLen, stBuild, A.isRow, A.isAgg, A.noRec, A.len, A.get, A.sub, A.set, A.over, Ent.bound, Kind.isStruct, Kind.isAgg, S.known, A.solid, segAt, segPut, segLen, R.a, R.len, A.r, stMake, stBuildSlice, litA, repA, rep1, fillA, putP, sing, stMin, stEqA, rowEq, Kind.isScal, -List.reduceReplicate, -List.getD_eq_getElem?_getD, tab22, ty22, tab3, ty3, ntmps22]; (repeat' apply And.intro); all_goals first | exact hK | omega))
        repeat (first
    | rw [run_ops0]
    | rw [run_seq]
    | rw [run_region]
    | rw [run_block]
    | rw [run_blk]
    | rw [run_skip]
    | (apply run_go rfl; focus (intro L K hK; simp [step1, evS, est, St.ev, St.put, St.add, St.upd, look_hit, look_miss, okd, stBin, bin, binS, binB, binI, shS, shB, S.num, constS, one, inI, stUn, stNil, stLoad, stAt, stField, stIndexAddr, stStore, wrAt, stAlloc, stBox, stIndex, stPart, stPartRow, stFieldV, stConv, cvS, cvB, cvI, stSlice, optN, SV.num, noMax, stArrPtr, stExtract, stLen, stBuild, A.isRow, A.isAgg, A.noRec, A.len, A.get, A.sub, A.set, A.over, Ent.bound, Kind.isStruct, Kind.isAgg, S.known, A.solid, segAt, segPut, segLen, R.a, R.len, A.r, stMake, stBuildSlice, litA, repA, rep1, fillA, putP, sing, stMin, stEqA, rowEq, Kind.isScal, -List.reduceReplicate, -List.getD_eq_getElem?_getD, tab22, ty22, tab3, ty3, tab4, ty4, ntmps22]; (repeat' apply And.intro); all_goals first | exact hK | omega)))
        apply run_cond2 rfl
        · intro _
          repeat (first
    | rw [run_ops0]
    | rw [run_seq]
    | rw [run_region]
    | rw [run_block]
    | rw [run_blk]
    | rw [run_skip]
    | (apply run_go rfl; focus (intro L K hK; simp [step1, evS, est, St.ev, St.put, St.add, St.upd, look_hit, look_miss, okd, stBin, bin, binS, binB, binI, shS, shB, S.num, constS, one, inI, stUn, stNil, stLoad, stAt, stField, stIndexAddr, stStore, wrAt, stAlloc, stBox, stIndex, stPart, stPartRow, stFieldV, stConv, cvS, cvB, cvI, stSlice, optN, SV.num, noMax, stArrPtr, stExtract, stLen, stBuild, A.isRow, A.isAgg, A.noRec, A.len, A.get, A.sub, A.set, A.over, Ent.bound, Kind.isStruct, Kind.isAgg, S.known, A.solid, segAt, segPut, segLen, R.a, R.len, A.r, stMake, stBuildSlice, litA, repA, rep1, fillA, putP, sing, stMin, stEqA, rowEq, Kind.isScal, -List.reduceReplicate, -List.getD_eq_getElem?_getD, tab22, ty22, tab3, ty3, tab4, ty4, ntmps22, tab29, ty29]; (repeat' apply And.intro); all_goals first | exact hK | omega)))
          rw [run_ret]
          simp [finOf, resP, resV, extraOwn, look_hit, look_miss, one, -List.reduceReplicate, -List.getD_eq_getElem?_getD, stLoad, stAt, Ent.bound, A.len, A.isRow, A.isAgg, results22, f22]
        · intro h; first | (simp at h; done) | (simp at h; omega)
      · intro h; first | (simp at h; done) | (simp at h; omega)
    · intro h; first | (simp at h; done) | (simp at h; omega)
  · intro h; first | (simp at h; done) | (simp at h; omega)

/-! keys in memory, as plain calls read them -/
/-- A key's block of the program: how many rows, and their bytes. -/
def kOf (m : Mem) (id : Nat) : Option (Nat × Nat × Nat × B8) :=
  match m[id]? with
  | some (.ent e) => match e.c with
    | .st [⟨1, .s (.sl j 0 nr cap 16)⟩] => match m[j]? with
      | some (.ent e2) => match e2.c with
        | .a8 W => some (j, nr, cap, W)
        | _ => none
      | _ => none
    | _ => none
  | _ => none
/-- A key's block of the document. -/
def rOf (m : Mem) (id : Nat) : Option (Nat × Nat × Nat × Int × LI × LI) :=
  match m[id]? with
  | some (.ent e) => match e.c with
    | .st [⟨1, .s (.sl j 0 nw cap 4)⟩, ⟨256, .ai sb⟩, ⟨1, .s (.i N)⟩] => match m[j]? with
      | some (.ent e2) => match e2.c with
        | .ai W => some (j, nw, cap, N, sb, W)
        | _ => none
      | _ => none
    | _ => none
  | _ => none
theorem kOf_get {m : Mem} {id j nr cap : Nat} {W : B8} (h : kOf m id = some (j, nr, cap, W)) : ∃ e e2 : Ent, m[id]? = some (.ent e) ∧ e.c = .st [⟨1, .s (.sl j 0 nr cap 16)⟩] ∧ m[j]? = some (.ent e2) ∧ e2.c = .a8 W := by
  unfold kOf at h
  split at h
  · split at h
    · split at h
      · split at h
        · cases h
          exact ⟨_, _, by assumption, by assumption, by assumption, by assumption⟩
        · cases h
      · cases h
    · cases h
  · cases h
theorem rOf_get {m : Mem} {id j nw cap : Nat} {N : Int} {sb W : LI} (h : rOf m id = some (j, nw, cap, N, sb, W)) : ∃ e e2 : Ent, m[id]? = some (.ent e) ∧ e.c = .st [⟨1, .s (.sl j 0 nw cap 4)⟩, ⟨256, .ai sb⟩, ⟨1, .s (.i N)⟩] ∧ m[j]? = some (.ent e2) ∧ e2.c = .ai W := by
  unfold rOf at h
  split at h
  · split at h
    · split at h
      · split at h
        · cases h
          exact ⟨_, _, by assumption, by assumption, by assumption, by assumption⟩
        · cases h
      · cases h
    · cases h
  · cases h
theorem kOf_app {m : Mem} {id : Nat} {v : Nat × Nat × Nat × B8} (x : Mem) (h : kOf m id = some v) : kOf (m ++ x) id = some v := by
  obtain ⟨j, nr, cap, W⟩ := v
  obtain ⟨e, e2, h1, h2, h3, h4⟩ := kOf_get h
  unfold kOf
  simp only [get_app h1, h2, get_app h3, h4]
theorem rOf_app {m : Mem} {id : Nat} {v : Nat × Nat × Nat × Int × LI × LI} (x : Mem) (h : rOf m id = some v) : rOf (m ++ x) id = some v := by
  obtain ⟨j, nw, cap, N, sb, W⟩ := v
  obtain ⟨e, e2, h1, h2, h3, h4⟩ := rOf_get h
  unfold rOf
  simp only [get_app h1, h2, get_app h3, h4]
/-- A key as it may be handed to Block. -/
def kFit (b W : B8) (nr : Nat) : Prop := b.length = 16 ∧ 16 * nr ≤ W.length ∧ 0 < nr ∧ nr < 1000
def rFit (b : B8) (sb W : LI) (nw : Nat) (N : Int) : Prop := b.length = 16 ∧ 4 * nw ≤ W.length ∧ (nw : Int) = 4 * (N + 7) ∧ 0 ≤ N ∧ N < 100 ∧ sb.length = 256 ∧ Byt W ∧ Byt sb
open Classical in
/-- What Block answers, over keys in memory; the law's own test is passed as it is. -/
noncomputable def pureK (snd : Bool) : Pure := fun m f l =>
  match f, l with
  | 20, [] => if snd = true then some (one (.b true)) else none
  | 23, [.one (.s .nil), .one (.a8 b)] => if b.length = 16 then some (.one (.a8 zero16)) else none
  | 23, [.one (.s (.ptr id 0 0)), .one (.a8 b)] => match kOf m id with
    | some (j, nr, _, W) => if kFit b W nr ∧ id ≠ j then some (.one (.a8 (rounds b W nr (nr - 1)))) else none
    | none => none
  | 24, [.one (.s (.ptr id 0 0)), .one (.a8 b)] => match rOf m id with
    | some (j, nw, _, N, sb, W) => if rFit b sb W nw N ∧ id ≠ j then some (.one (.a8 (outB (rRounds sb W N.toNat (iniS b W 16) (N.toNat + 6)) 16))) else none
    | none => none
  | _, _ => none
theorem pureK_mono (snd : Bool) : PureMono (pureK snd) := by
  intro m x f l v h
  unfold pureK at h ⊢
  split at h
  · exact h
  · exact h
  · split at h
    · rename_i hk
      simp only [kOf_app x hk]
      exact h
    · cases h
  · split at h
    · rename_i hk
      simp only [rOf_app x hk]
      exact h
    · cases h
  · cases h
theorem pureK_ok (snd : Bool) (hs : snd = true → Spec prog 20 [] [] [] (fun r _ => r = one (.b true))) : PureOK prog (pureK snd) := by
  intro m f svs sv h E w ℓ vs hm hd
  unfold pureK at h
  split at h
  · split at h
    · rename_i hc
      cases h
      exact ⟨⟨f20, func20, nofun, by decide⟩, pure_spec (hs hc) rfl rfl w ℓ vs hd⟩
    · cases h
  · split at h
    · rename_i hc
      cases h
      exact ⟨⟨f23, func23, nofun, by decide⟩, pure_spec (spec23nil _ hc) rfl rfl w ℓ vs hd⟩
    · cases h
  · split at h
    · rename_i id b _ j nr cap W hk
      split at h
      · rename_i hc
        obtain ⟨⟨hb, hW, hR, hR2⟩, hne⟩ := hc
        cases h
        obtain ⟨e, e2, h1, h2, h3, h4⟩ := kOf_get hk
        refine ⟨⟨f23, func23, nofun, by decide⟩, pure_use (spec23 b W nr cap hb hW hR hR2) (by simp [kmem]) rfl hm [id, j] (by simp [hne]) ?_ rfl ?_⟩
        · simp [matchM, kmem, h1, h2, h3, h4, renA, renSeg, renR, renS, ix, belA, belR, belS, segLen, A.len]
        · simpa [renV, renA, renS, ix, one] using hd
      · cases h
    · cases h
  · split at h
    · rename_i id b _ j nw cap N sb W hk
      split at h
      · rename_i hc
        obtain ⟨⟨hb, hW, hN, hN0, hN1, hsl, hWb, hsb⟩, hne⟩ := hc
        cases h
        obtain ⟨e, e2, h1, h2, h3, h4⟩ := rOf_get hk
        have hNn : N = (N.toNat : Int) := by omega
        refine ⟨⟨f24, func24, nofun, by decide⟩, pure_use (spec24 b sb W nw cap N.toNat hb hW (by omega) (by omega) hsl hWb hsb) (by simp [rkmem]) rfl hm [id, j] (by simp [hne]) ?_ rfl ?_⟩
        · rw [hNn] at h2
          simp [matchM, rkmem, h1, h2, h3, h4, renA, renSeg, renR, renS, ix, belA, belR, belS, segLen, A.len]
        · simpa [renV, renA, renS, ix, one] using hd
      · cases h
    · cases h
  · cases h
end Go.V
end
section
set_option linter.unusedSimpArgs false
set_option linter.unusedVariables false
set_option maxRecDepth 10000
namespace Go.V
open Go Go.Proofs.Try
theorem run_call {T : Tab} {pu : Pure} {fr : Nat → Bool} {N : Nat} {fin : St → Prop} {leaf : List Item → St → Prop} {n : Nat} {k : List Item} {st : St} {all r : List Oper} {o : Oper} {c : Call} {f : FuncId} (hg : o.guard = none) (ho : o.op = .call c) (hc : c.callee = .value (.func f)) (hp : pu st.m f (c.args.toList.map st.ev) = none)
    (h : leaf (.ops all (o :: r) :: k) st) : run T pu fr N fin leaf (n + 1) (.ops all (o :: r) :: k) st := by
  rw [run_ops]
  unfold guardOf
  rw [hg]
  simp only [step1, ho]
  obtain ⟨callee, args, ats⟩ := c
  simp only at hc hp
  subst hc
  simp only [hp]
  exact h
def keyT : Nat → B8
  | 0 => zero16
  | j + 1 => (keyT j).set j (BitVec.ofInt 8 j)
def blkT : Nat → B8
  | 0 => zero16
  | j + 1 => (blkT j).set j (BitVec.ofInt 8 (17 * j))
theorem keyT_len : ∀ j, (keyT j).length = 16
  | 0 => rfl
  | j + 1 => by simp [keyT, keyT_len j]
theorem blkT_len : ∀ j, (blkT j).length = 16
  | 0 => rfl
  | j + 1 => by simp [blkT, blkT_len j]
theorem sound_val : (rounds (blkT 16) (sch (keyT 16) 4 (4 * (4 + 7))).1 11 10).getD 0 0#8 = 105#8 ∧ (rounds (blkT 16) (sch (keyT 16) 4 (4 * (4 + 7))).1 11 10).getD 15 0#8 = 90#8 := by decide +kernel
theorem spec20 : Spec prog 20 [] [] [] (fun r _ => r = one (.b true)) := by
  refine spec_of_body tabOK func20 rfl (Nat.le_of_ble_eq_true rfl) ?_
  intro E Q0 hB
  have puOK := pureK_ok false (by intro h; cases h)
  refine ok_run hB tabOK puOK 100 ?_
  simp only [argSl]
  repeat (first
    | rw [run_ops0]
    | rw [run_seq]
    | rw [run_region]
    | rw [run_block]
    | rw [run_blk]
    | rw [run_skip]
    | (apply run_go rfl; focus (intro L K hK; simp [step1, evS, est, St.ev, St.put, St.add, St.upd, look_hit, look_miss, okd, stBin, bin, binS, binB, binI, shS, shB, S.num, constS, one, inI, stUn, stNil, stLoad, stAt, stField, stIndexAddr, stStore, wrAt, stAlloc, stBox, stIndex, stPart, stPartRow, stFieldV, stConv, cvS, cvB, cvI, stSlice, optN, SV.num, noMax, stArrPtr, stExtract, stLen, stBuild, A.isRow, A.isAgg, A.noRec, A.len, A.get, A.sub, A.set, A.over, Ent.bound, Kind.isStruct, Kind.isAgg, S.known, A.solid, segAt, segPut, segLen, R.a, R.len, A.r, stMake, stBuildSlice, litA, repA, rep1, fillA, putP, sing, stMin, stEqA, rowEq, Kind.isScal, -List.reduceReplicate, -List.getD_eq_getElem?_getD, tab22, ty22, tab23, ty23, tab3, ty3, tab5, ty5, tab4, ty4, ntmps20]; (repeat' apply And.intro); all_goals first | exact hK | omega)))
  rw [run_loop]
  refine ok_loop (X := Nat) (fun j => ⟨[(8, one (.i j)), (2, one (.ptr 1 0 0)), (1, one (.sl 0 0 16 16 1))], [.ent ⟨true, 5, none, .a8 (keyT j)⟩, .ent ⟨true, 23, some 16, .a8 (blkT j)⟩]⟩) (fun j => j ≤ 16) (fun j => 16 - j) (fun j i L h => absurd (hB.anc i L h) (by simp)) ⟨0, by omega, by simp [Ent2, entSl, entM, belSl, belV, belA, belS, belR, belM, look_hit, look_miss, one, -List.getD_eq_getElem?_getD, keyT, blkT, zero16]⟩ ?_
  intro j hj
  refine ok_run hB tabOK puOK 100 ?_
  have hkl := keyT_len j
  have hbl := blkT_len j
  repeat (first
    | rw [run_ops0]
    | rw [run_seq]
    | rw [run_region]
    | rw [run_block]
    | rw [run_blk]
    | rw [run_skip]
    | (apply run_go rfl; focus (intro L K hK; simp [step1, evS, est, St.ev, St.put, St.add, St.upd, look_hit, look_miss, okd, stBin, bin, binS, binB, binI, shS, shB, S.num, constS, one, inI, stUn, stNil, stLoad, stAt, stField, stIndexAddr, stStore, wrAt, stAlloc, stBox, stIndex, stPart, stPartRow, stFieldV, stConv, cvS, cvB, cvI, stSlice, optN, SV.num, noMax, stArrPtr, stExtract, stLen, stBuild, A.isRow, A.isAgg, A.noRec, A.len, A.get, A.sub, A.set, A.over, Ent.bound, Kind.isStruct, Kind.isAgg, S.known, A.solid, segAt, segPut, segLen, R.a, R.len, A.r, stMake, stBuildSlice, litA, repA, rep1, fillA, putP, sing, stMin, stEqA, rowEq, Kind.isScal, -List.reduceReplicate, -List.getD_eq_getElem?_getD, tab3, ty3, ntmps20]; (repeat' apply And.intro); all_goals first | exact hK | omega)))
  apply run_cond2 rfl
  · intro h
    simp at h
    repeat (first
    | rw [run_ops0]
    | rw [run_seq]
    | rw [run_region]
    | rw [run_block]
    | rw [run_blk]
    | rw [run_skip]
    | (apply run_go rfl; focus (intro L K hK; simp [step1, evS, est, St.ev, St.put, St.add, St.upd, look_hit, look_miss, okd, stBin, bin, binS, binB, binI, shS, shB, S.num, constS, one, inI, stUn, stNil, stLoad, stAt, stField, stIndexAddr, stStore, wrAt, stAlloc, stBox, stIndex, stPart, stPartRow, stFieldV, stConv, cvS, cvB, cvI, stSlice, optN, SV.num, noMax, stArrPtr, stExtract, stLen, stBuild, A.isRow, A.isAgg, A.noRec, A.len, A.get, A.sub, A.set, A.over, Ent.bound, Kind.isStruct, Kind.isAgg, S.known, A.solid, segAt, segPut, segLen, R.a, R.len, A.r, stMake, stBuildSlice, litA, repA, rep1, fillA, putP, sing, stMin, stEqA, rowEq, Kind.isScal, -List.reduceReplicate, -List.getD_eq_getElem?_getD, tab3, ty3, tab22, ty22, tab5, ty5, tab23, ty23, ntmps20, hkl, hbl]; (repeat' apply And.intro); all_goals first | exact hK | omega)))
    rw [run_back]
    refine ⟨j + 1, by omega, by omega, ?_⟩
    simp [Ent2, entSl, entM, belSl, belV, belA, belS, belR, belM, look_hit, look_miss, one, -List.getD_eq_getElem?_getD, keyT, blkT]
  · intro h
    simp at h
    obtain rfl : j = 16 := by omega
    apply run_exit2 rfl
    repeat (first
    | rw [run_ops0]
    | rw [run_seq]
    | rw [run_region]
    | rw [run_block]
    | rw [run_blk]
    | rw [run_skip]
    | (apply run_go rfl; focus (intro L K hK; simp [step1, evS, est, St.ev, St.put, St.add, St.upd, look_hit, look_miss, okd, stBin, bin, binS, binB, binI, shS, shB, S.num, constS, one, inI, stUn, stNil, stLoad, stAt, stField, stIndexAddr, stStore, wrAt, stAlloc, stBox, stIndex, stPart, stPartRow, stFieldV, stConv, cvS, cvB, cvI, stSlice, optN, SV.num, noMax, stArrPtr, stExtract, stLen, stBuild, A.isRow, A.isAgg, A.noRec, A.len, A.get, A.sub, A.set, A.over, Ent.bound, Kind.isStruct, Kind.isAgg, S.known, A.solid, segAt, segPut, segLen, R.a, R.len, A.r, stMake, stBuildSlice, litA, repA, rep1, fillA, putP, sing, stMin, stEqA, rowEq, Kind.isScal, -List.reduceReplicate, -List.getD_eq_getElem?_getD, tab3, ty3, tab22, ty22, ntmps20]; (repeat' apply And.intro); all_goals first | exact hK | omega)))
    refine run_call rfl rfl rfl rfl ?_
    refine ok_call [0] rfl rfl ⟨f21, func21, nofun, by decide⟩ (spec21 (keyT 16) 4 16 (keyT_len 16) (.inl rfl) (by decide)) trivial (by simp) (by simp [matchM, ix, renA, belA]) rfl rfl (Nat.le_of_ble_eq_true rfl) ?_
    rintro sv m' ⟨rfl, cap, rfl⟩ _
    have hv := sound_val
    have hwl := sch_len (key := keyT 16) (nk := 4) (keyT_len 16) (by omega) (4 * (4 + 7))
    simp only [newMem, afterM, putM, renMk, renA, renSeg, renR, renS, renV, ix, St.put, List.map_cons, List.map_nil, List.drop, List.length_cons, List.length_nil, List.cons_append, List.nil_append]
    generalize (sch (keyT 16) 4 (4 * (4 + 7))).1 = W at hv hwl ⊢
    simp
    refine ok_run hB tabOK puOK 100 ?_
    have hb16 := blkT_len 16
    have hfit : kFit (blkT 16) W 11 := ⟨hb16, by omega, by omega, by omega⟩
    repeat (first
    | rw [run_ops0]
    | rw [run_seq]
    | rw [run_region]
    | rw [run_block]
    | rw [run_blk]
    | rw [run_skip]
    | (apply run_go rfl; focus (intro L K hK; simp [step1, evS, est, St.ev, St.put, St.add, St.upd, look_hit, look_miss, okd, stBin, bin, binS, binB, binI, shS, shB, S.num, constS, one, inI, stUn, stNil, stLoad, stAt, stField, stIndexAddr, stStore, wrAt, stAlloc, stBox, stIndex, stPart, stPartRow, stFieldV, stConv, cvS, cvB, cvI, stSlice, optN, SV.num, noMax, stArrPtr, stExtract, stLen, stBuild, A.isRow, A.isAgg, A.noRec, A.len, A.get, A.sub, A.set, A.over, Ent.bound, Kind.isStruct, Kind.isAgg, S.known, A.solid, segAt, segPut, segLen, R.a, R.len, A.r, stMake, stBuildSlice, litA, repA, rep1, fillA, putP, sing, stMin, stEqA, rowEq, Kind.isScal, -List.reduceReplicate, -List.getD_eq_getElem?_getD, tab3, ty3, tab25, ty25, tab26, ty26, tab23, ty23, ntmps20, pureK, kOf, hfit, hb16, hwl, rounds_len]; (repeat' apply And.intro); all_goals first | exact hK | omega)))
    apply run_guard rfl rfl rfl rfl
    · intro _
      (apply Exists.intro; apply And.intro; focus (intro L K hK; simp [step1, evS, est, St.ev, St.put, St.add, St.upd, look_hit, look_miss, okd, stBin, bin, binS, binB, binI, shS, shB, S.num, constS, one, inI, stUn, stNil, stLoad, stAt, stField, stIndexAddr, stStore, wrAt, stAlloc, stBox, stIndex, stPart, stPartRow, stFieldV, stConv, cvS, cvB, cvI, stSlice, optN, SV.num, noMax, stArrPtr, stExtract, stLen, stBuild, A.isRow, A.isAgg, A.noRec, A.len, A.get, A.sub, A.set, A.over, Ent.bound, Kind.isStruct, Kind.isAgg, S.known, A.solid, segAt, segPut, segLen, R.a, R.len, A.r, stMake, stBuildSlice, litA, repA, rep1, fillA, putP, sing, stMin, stEqA, rowEq, Kind.isScal, -List.reduceReplicate, -List.getD_eq_getElem?_getD, tab3, ty3, tab25, ty25, tab26, ty26, tab23, ty23, tab5, ty5, tab4, ty4, ntmps20, rounds_len, hb16, hv]; (repeat' apply And.intro); all_goals first | exact hK | omega))
      apply run_guard rfl rfl rfl rfl
      · intro _
        (apply Exists.intro; apply And.intro; focus (intro L K hK; simp [step1, evS, est, St.ev, St.put, St.add, St.upd, look_hit, look_miss, okd, stBin, bin, binS, binB, binI, shS, shB, S.num, constS, one, inI, stUn, stNil, stLoad, stAt, stField, stIndexAddr, stStore, wrAt, stAlloc, stBox, stIndex, stPart, stPartRow, stFieldV, stConv, cvS, cvB, cvI, stSlice, optN, SV.num, noMax, stArrPtr, stExtract, stLen, stBuild, A.isRow, A.isAgg, A.noRec, A.len, A.get, A.sub, A.set, A.over, Ent.bound, Kind.isStruct, Kind.isAgg, S.known, A.solid, segAt, segPut, segLen, R.a, R.len, A.r, stMake, stBuildSlice, litA, repA, rep1, fillA, putP, sing, stMin, stEqA, rowEq, Kind.isScal, -List.reduceReplicate, -List.getD_eq_getElem?_getD, tab3, ty3, tab25, ty25, tab26, ty26, tab23, ty23, tab5, ty5, tab4, ty4, ntmps20, rounds_len, hb16, hv]; (repeat' apply And.intro); all_goals first | exact hK | omega))
        apply run_guard rfl rfl rfl rfl
        · intro _
          (apply Exists.intro; apply And.intro; focus (intro L K hK; simp [step1, evS, est, St.ev, St.put, St.add, St.upd, look_hit, look_miss, okd, stBin, bin, binS, binB, binI, shS, shB, S.num, constS, one, inI, stUn, stNil, stLoad, stAt, stField, stIndexAddr, stStore, wrAt, stAlloc, stBox, stIndex, stPart, stPartRow, stFieldV, stConv, cvS, cvB, cvI, stSlice, optN, SV.num, noMax, stArrPtr, stExtract, stLen, stBuild, A.isRow, A.isAgg, A.noRec, A.len, A.get, A.sub, A.set, A.over, Ent.bound, Kind.isStruct, Kind.isAgg, S.known, A.solid, segAt, segPut, segLen, R.a, R.len, A.r, stMake, stBuildSlice, litA, repA, rep1, fillA, putP, sing, stMin, stEqA, rowEq, Kind.isScal, -List.reduceReplicate, -List.getD_eq_getElem?_getD, tab3, ty3, tab25, ty25, tab26, ty26, tab23, ty23, tab5, ty5, tab4, ty4, ntmps20, rounds_len, hb16, hv]; (repeat' apply And.intro); all_goals first | exact hK | omega))
          repeat (first
    | rw [run_ops0]
    | rw [run_seq]
    | rw [run_region]
    | rw [run_block]
    | rw [run_blk]
    | rw [run_skip]
    | (apply run_go rfl; focus (intro L K hK; simp [step1, evS, est, St.ev, St.put, St.add, St.upd, look_hit, look_miss, okd, stBin, bin, binS, binB, binI, shS, shB, S.num, constS, one, inI, stUn, stNil, stLoad, stAt, stField, stIndexAddr, stStore, wrAt, stAlloc, stBox, stIndex, stPart, stPartRow, stFieldV, stConv, cvS, cvB, cvI, stSlice, optN, SV.num, noMax, stArrPtr, stExtract, stLen, stBuild, A.isRow, A.isAgg, A.noRec, A.len, A.get, A.sub, A.set, A.over, Ent.bound, Kind.isStruct, Kind.isAgg, S.known, A.solid, segAt, segPut, segLen, R.a, R.len, A.r, stMake, stBuildSlice, litA, repA, rep1, fillA, putP, sing, stMin, stEqA, rowEq, Kind.isScal, -List.reduceReplicate, -List.getD_eq_getElem?_getD, tab3, ty3, tab25, ty25, tab26, ty26, tab23, ty23, tab5, ty5, tab4, ty4, ntmps20, rounds_len, hb16, hv]; (repeat' apply And.intro); all_goals first | exact hK | omega)))
          apply run_guard rfl rfl rfl rfl
          · intro _
            (apply Exists.intro; apply And.intro; focus (intro L K hK; simp [step1, evS, est, St.ev, St.put, St.add, St.upd, look_hit, look_miss, okd, stBin, bin, binS, binB, binI, shS, shB, S.num, constS, one, inI, stUn, stNil, stLoad, stAt, stField, stIndexAddr, stStore, wrAt, stAlloc, stBox, stIndex, stPart, stPartRow, stFieldV, stConv, cvS, cvB, cvI, stSlice, optN, SV.num, noMax, stArrPtr, stExtract, stLen, stBuild, A.isRow, A.isAgg, A.noRec, A.len, A.get, A.sub, A.set, A.over, Ent.bound, Kind.isStruct, Kind.isAgg, S.known, A.solid, segAt, segPut, segLen, R.a, R.len, A.r, stMake, stBuildSlice, litA, repA, rep1, fillA, putP, sing, stMin, stEqA, rowEq, Kind.isScal, -List.reduceReplicate, -List.getD_eq_getElem?_getD, tab3, ty3, tab25, ty25, tab26, ty26, tab23, ty23, tab5, ty5, tab4, ty4, ntmps20, rounds_len, hb16, hv]; (repeat' apply And.intro); all_goals first | exact hK | omega))
            apply run_guard rfl rfl rfl rfl
            · intro _
              (apply Exists.intro; apply And.intro; focus (intro L K hK; simp [step1, evS, est, St.ev, St.put, St.add, St.upd, look_hit, look_miss, okd, stBin, bin, binS, binB, binI, shS, shB, S.num, constS, one, inI, stUn, stNil, stLoad, stAt, stField, stIndexAddr, stStore, wrAt, stAlloc, stBox, stIndex, stPart, stPartRow, stFieldV, stConv, cvS, cvB, cvI, stSlice, optN, SV.num, noMax, stArrPtr, stExtract, stLen, stBuild, A.isRow, A.isAgg, A.noRec, A.len, A.get, A.sub, A.set, A.over, Ent.bound, Kind.isStruct, Kind.isAgg, S.known, A.solid, segAt, segPut, segLen, R.a, R.len, A.r, stMake, stBuildSlice, litA, repA, rep1, fillA, putP, sing, stMin, stEqA, rowEq, Kind.isScal, -List.reduceReplicate, -List.getD_eq_getElem?_getD, tab3, ty3, tab25, ty25, tab26, ty26, tab23, ty23, tab5, ty5, tab4, ty4, ntmps20, rounds_len, hb16, hv]; (repeat' apply And.intro); all_goals first | exact hK | omega))
              apply run_guard rfl rfl rfl rfl
              · intro _
                (apply Exists.intro; apply And.intro; focus (intro L K hK; simp [step1, evS, est, St.ev, St.put, St.add, St.upd, look_hit, look_miss, okd, stBin, bin, binS, binB, binI, shS, shB, S.num, constS, one, inI, stUn, stNil, stLoad, stAt, stField, stIndexAddr, stStore, wrAt, stAlloc, stBox, stIndex, stPart, stPartRow, stFieldV, stConv, cvS, cvB, cvI, stSlice, optN, SV.num, noMax, stArrPtr, stExtract, stLen, stBuild, A.isRow, A.isAgg, A.noRec, A.len, A.get, A.sub, A.set, A.over, Ent.bound, Kind.isStruct, Kind.isAgg, S.known, A.solid, segAt, segPut, segLen, R.a, R.len, A.r, stMake, stBuildSlice, litA, repA, rep1, fillA, putP, sing, stMin, stEqA, rowEq, Kind.isScal, -List.reduceReplicate, -List.getD_eq_getElem?_getD, tab3, ty3, tab25, ty25, tab26, ty26, tab23, ty23, tab5, ty5, tab4, ty4, ntmps20, rounds_len, hb16, hv]; (repeat' apply And.intro); all_goals first | exact hK | omega))
                repeat (first
    | rw [run_ops0]
    | rw [run_seq]
    | rw [run_region]
    | rw [run_block]
    | rw [run_blk]
    | rw [run_skip]
    | (apply run_go rfl; focus (intro L K hK; simp [step1, evS, est, St.ev, St.put, St.add, St.upd, look_hit, look_miss, okd, stBin, bin, binS, binB, binI, shS, shB, S.num, constS, one, inI, stUn, stNil, stLoad, stAt, stField, stIndexAddr, stStore, wrAt, stAlloc, stBox, stIndex, stPart, stPartRow, stFieldV, stConv, cvS, cvB, cvI, stSlice, optN, SV.num, noMax, stArrPtr, stExtract, stLen, stBuild, A.isRow, A.isAgg, A.noRec, A.len, A.get, A.sub, A.set, A.over, Ent.bound, Kind.isStruct, Kind.isAgg, S.known, A.solid, segAt, segPut, segLen, R.a, R.len, A.r, stMake, stBuildSlice, litA, repA, rep1, fillA, putP, sing, stMin, stEqA, rowEq, Kind.isScal, -List.reduceReplicate, -List.getD_eq_getElem?_getD, tab3, ty3, tab25, ty25, tab26, ty26, tab23, ty23, tab5, ty5, tab4, ty4, ntmps20, rounds_len, hb16, hv]; (repeat' apply And.intro); all_goals first | exact hK | omega)))
                rw [run_ret]
                simp [finOf, resP, resV, extraOwn, look_hit, look_miss, one, -List.reduceReplicate, -List.getD_eq_getElem?_getD, stLoad, stAt, Ent.bound, A.len, A.isRow, A.isAgg, results20, f20]
              · intro h; first | (simp [hv] at h; done) | (simp at h; done)
            · intro h; first | (simp [hv] at h; done) | (simp at h; done)
          · intro h; first | (simp [hv] at h; done) | (simp at h; done)
        · intro h; first | (simp [hv] at h; done) | (simp at h; done)
      · intro h; first | (simp [hv] at h; done) | (simp at h; done)
    · intro h; first | (simp [hv] at h; done) | (simp at h; done)
end Go.V
end
section
set_option linter.unusedSimpArgs false
set_option linter.unusedVariables false
set_option maxRecDepth 10000
namespace Go.V
open Go Go.Proofs.Try
theorem pureT_ok : PureOK prog (pureK true) := pureK_ok true (fun _ => spec20)
/-- The program's and the document's schedules of a key are alike. -/
theorem newW {key : B8} {nk : Nat} (hk : key.length = 4 * nk) (hnk : nk = 4 ∨ nk = 8) : ∃ W : B8, (sch key nk (4 * (nk + 7))).1 = W ∧ W.length = 16 * (nk + 7) ∧ rsch key (tabR 256) nk (4 * (nk + 7)) = toI W := by
  refine ⟨_, rfl, ?_, sched_eq tab_ok hnk hk _ (Nat.le_refl _)⟩
  rw [sch_len hk (by omega)]
  omega
theorem kfit {b W : B8} {nk : Nat} (hb : b.length = 16) (hW : W.length = 16 * (nk + 7)) (hnk : nk = 4 ∨ nk = 8) : kFit b W (nk + 7) := ⟨hb, by omega, by omega, by omega⟩
theorem rfit {b W : B8} {nk : Nat} (hb : b.length = 16) (hW : W.length = 16 * (nk + 7)) (hnk : nk = 4 ∨ nk = 8) : rFit b (tabR 256) (toI W) (4 * (nk + 7)) nk :=
  ⟨hb, by rw [toI_len]; omega, by omega, by omega, by omega, tabR_len 256, toI_byt W, tab_byt⟩
theorem spec3 (key b : B8) (n cap0 : Nat) (hk : key.length = n) (hcap0 : n ≤ cap0) (hb : b.length = 16) : Spec prog 3 [one (.sl 0 0 n cap0 1), .one (.a8 b)] [.ent ⟨false, 5, none, .a8 key⟩] [] (fun r _ => r = one (.b true)) := by
  refine spec_of_body tabOK func3 rfl (Nat.le_of_ble_eq_true rfl) ?_
  intro E Q0 hB
  refine ok_run hB tabOK pureT_ok 100 ?_
  simp only [argSl]
  repeat (first
    | rw [run_ops0]
    | rw [run_seq]
    | rw [run_region]
    | rw [run_block]
    | rw [run_blk]
    | rw [run_skip]
    | (apply run_go rfl; focus (intro L K hK; simp [step1, evS, est, St.ev, St.put, St.add, St.upd, look_hit, look_miss, okd, stBin, bin, binS, binB, binI, shS, shB, S.num, constS, one, inI, stUn, stNil, stLoad, stAt, stField, stIndexAddr, stStore, wrAt, stAlloc, stBox, stIndex, stPart, stPartRow, stFieldV, stConv, cvS, cvB, cvI, stSlice, optN, SV.num, noMax, stArrPtr, stExtract, stLen, stBuild, A.isRow, A.isAgg, A.noRec, A.len, A.get, A.sub, A.set, A.over, Ent.bound, Kind.isStruct, Kind.isAgg, S.known, A.solid, segAt, segPut, segLen, R.a, R.len, A.r, stMake, stBuildSlice, litA, repA, rep1, fillA, putP, sing, stMin, stEqA, rowEq, Kind.isScal, -List.reduceReplicate, -List.getD_eq_getElem?_getD, tab22, ty22, tab23, ty23, tab3, ty3, tab4, ty4, ntmps3, hb, pureK]; (repeat' apply And.intro); all_goals first | exact hK | omega)))
  apply run_cond2 rfl
  · intro h; cases h
  intro _
  repeat (first
    | rw [run_ops0]
    | rw [run_seq]
    | rw [run_region]
    | rw [run_block]
    | rw [run_blk]
    | rw [run_skip]
    | (apply run_go rfl; focus (intro L K hK; simp [step1, evS, est, St.ev, St.put, St.add, St.upd, look_hit, look_miss, okd, stBin, bin, binS, binB, binI, shS, shB, S.num, constS, one, inI, stUn, stNil, stLoad, stAt, stField, stIndexAddr, stStore, wrAt, stAlloc, stBox, stIndex, stPart, stPartRow, stFieldV, stConv, cvS, cvB, cvI, stSlice, optN, SV.num, noMax, stArrPtr, stExtract, stLen, stBuild, A.isRow, A.isAgg, A.noRec, A.len, A.get, A.sub, A.set, A.over, Ent.bound, Kind.isStruct, Kind.isAgg, S.known, A.solid, segAt, segPut, segLen, R.a, R.len, A.r, stMake, stBuildSlice, litA, repA, rep1, fillA, putP, sing, stMin, stEqA, rowEq, Kind.isScal, -List.reduceReplicate, -List.getD_eq_getElem?_getD, tab22, ty22, tab3, ty3, tab4, ty4, ntmps3]; (repeat' apply And.intro); all_goals first | exact hK | omega)))
  apply run_cond2 rfl
  · intro h
    repeat (first
    | rw [run_ops0]
    | rw [run_seq]
    | rw [run_region]
    | rw [run_block]
    | rw [run_blk]
    | rw [run_skip]
    | (apply run_go rfl; focus (intro L K hK; simp [step1, evS, est, St.ev, St.put, St.add, St.upd, look_hit, look_miss, okd, stBin, bin, binS, binB, binI, shS, shB, S.num, constS, one, inI, stUn, stNil, stLoad, stAt, stField, stIndexAddr, stStore, wrAt, stAlloc, stBox, stIndex, stPart, stPartRow, stFieldV, stConv, cvS, cvB, cvI, stSlice, optN, SV.num, noMax, stArrPtr, stExtract, stLen, stBuild, A.isRow, A.isAgg, A.noRec, A.len, A.get, A.sub, A.set, A.over, Ent.bound, Kind.isStruct, Kind.isAgg, S.known, A.solid, segAt, segPut, segLen, R.a, R.len, A.r, stMake, stBuildSlice, litA, repA, rep1, fillA, putP, sing, stMin, stEqA, rowEq, Kind.isScal, -List.reduceReplicate, -List.getD_eq_getElem?_getD, tab22, ty22, tab3, ty3, tab4, ty4, ntmps3]; (repeat' apply And.intro); all_goals first | exact hK | omega)))
    rw [run_ret]
    simp [finOf, resP, resV, extraOwn, look_hit, look_miss, one, -List.reduceReplicate, -List.getD_eq_getElem?_getD, stLoad, stAt, Ent.bound, A.len, A.isRow, A.isAgg, results3, f3]
  intro h100
  simp at h100
  repeat (first
    | rw [run_ops0]
    | rw [run_seq]
    | rw [run_region]
    | rw [run_block]
    | rw [run_blk]
    | rw [run_skip]
    | (apply run_go rfl; focus (intro L K hK; simp [step1, evS, est, St.ev, St.put, St.add, St.upd, look_hit, look_miss, okd, stBin, bin, binS, binB, binI, shS, shB, S.num, constS, one, inI, stUn, stNil, stLoad, stAt, stField, stIndexAddr, stStore, wrAt, stAlloc, stBox, stIndex, stPart, stPartRow, stFieldV, stConv, cvS, cvB, cvI, stSlice, optN, SV.num, noMax, stArrPtr, stExtract, stLen, stBuild, A.isRow, A.isAgg, A.noRec, A.len, A.get, A.sub, A.set, A.over, Ent.bound, Kind.isStruct, Kind.isAgg, S.known, A.solid, segAt, segPut, segLen, R.a, R.len, A.r, stMake, stBuildSlice, litA, repA, rep1, fillA, putP, sing, stMin, stEqA, rowEq, Kind.isScal, -List.reduceReplicate, -List.getD_eq_getElem?_getD, tab22, ty22, tab3, ty3, tab4, ty4, ntmps3]; (repeat' apply And.intro); all_goals first | exact hK | omega)))
  refine run_call rfl rfl rfl rfl ?_
  by_cases hnk : ∃ nk, n = 4 * nk ∧ (nk = 4 ∨ nk = 8)
  · obtain ⟨nk, rfl, hnk⟩ := hnk
    refine ok_call [0] rfl rfl ⟨f21, func21, nofun, by decide⟩ (spec21 key nk cap0 hk hnk hcap0) trivial (by simp) (by simp [matchM, ix, renA, belA]) rfl rfl (Nat.le_of_ble_eq_true rfl) ?_
    rintro sv m' ⟨rfl, cap, rfl⟩ _
    obtain ⟨W, hWe, hWl, hWr⟩ := newW hk hnk
    simp only [newMem, hWe, afterM, putM, renMk, renA, renSeg, renR, renS, renV, ix, St.put, List.map_cons, List.map_nil, List.drop, List.length_cons, List.length_nil, List.cons_append, List.nil_append]
    simp
    refine ok_run hB tabOK pureT_ok 100 ?_
    repeat (first
    | rw [run_ops0]
    | rw [run_seq]
    | rw [run_region]
    | rw [run_block]
    | rw [run_blk]
    | rw [run_skip]
    | (apply run_go rfl; focus (intro L K hK; simp [step1, evS, est, St.ev, St.put, St.add, St.upd, look_hit, look_miss, okd, stBin, bin, binS, binB, binI, shS, shB, S.num, constS, one, inI, stUn, stNil, stLoad, stAt, stField, stIndexAddr, stStore, wrAt, stAlloc, stBox, stIndex, stPart, stPartRow, stFieldV, stConv, cvS, cvB, cvI, stSlice, optN, SV.num, noMax, stArrPtr, stExtract, stLen, stBuild, A.isRow, A.isAgg, A.noRec, A.len, A.get, A.sub, A.set, A.over, Ent.bound, Kind.isStruct, Kind.isAgg, S.known, A.solid, segAt, segPut, segLen, R.a, R.len, A.r, stMake, stBuildSlice, litA, repA, rep1, fillA, putP, sing, stMin, stEqA, rowEq, Kind.isScal, -List.reduceReplicate, -List.getD_eq_getElem?_getD, tab3, ty3, tab22, ty22, tab25, ty25, tab26, ty26, ntmps3]; (repeat' apply And.intro); all_goals first | exact hK | omega)))
    refine run_call rfl rfl rfl rfl ?_
    refine ok_call [0] rfl rfl ⟨f22, func22, nofun, by decide⟩ (spec22 key nk cap0 hk hnk hcap0) trivial (by simp) (by simp [matchM, ix, renA, belA]) rfl rfl (Nat.le_of_ble_eq_true rfl) ?_
    rintro sv m' ⟨rfl, capr, rfl⟩ _
    simp only [rnewMem, hWr, afterM, putM, renMk, renA, renSeg, renR, renS, renV, ix, St.put, List.map_cons, List.map_nil, List.drop, List.length_cons, List.length_nil, List.cons_append, List.nil_append, one]
    simp
    refine ok_run hB tabOK pureT_ok 100 ?_
    repeat (first
    | rw [run_ops0]
    | rw [run_seq]
    | rw [run_region]
    | rw [run_block]
    | rw [run_blk]
    | rw [run_skip]
    | (apply run_go rfl; focus (intro L K hK; simp [step1, evS, est, St.ev, St.put, St.add, St.upd, look_hit, look_miss, okd, stBin, bin, binS, binB, binI, shS, shB, S.num, constS, one, inI, stUn, stNil, stLoad, stAt, stField, stIndexAddr, stStore, wrAt, stAlloc, stBox, stIndex, stPart, stPartRow, stFieldV, stConv, cvS, cvB, cvI, stSlice, optN, SV.num, noMax, stArrPtr, stExtract, stLen, stBuild, A.isRow, A.isAgg, A.noRec, A.len, A.get, A.sub, A.set, A.over, Ent.bound, Kind.isStruct, Kind.isAgg, S.known, A.solid, segAt, segPut, segLen, R.a, R.len, A.r, stMake, stBuildSlice, litA, repA, rep1, fillA, putP, sing, stMin, stEqA, rowEq, Kind.isScal, -List.reduceReplicate, -List.getD_eq_getElem?_getD, tab3, ty3, tab29, ty29, ntmps3]; (repeat' apply And.intro); all_goals first | exact hK | omega)))
    apply run_cond2 rfl
    · intro h; cases h
    intro _
    repeat (first
    | rw [run_ops0]
    | rw [run_seq]
    | rw [run_region]
    | rw [run_block]
    | rw [run_blk]
    | rw [run_skip]
    | (apply run_go rfl; focus (intro L K hK; simp [step1, evS, est, St.ev, St.put, St.add, St.upd, look_hit, look_miss, okd, stBin, bin, binS, binB, binI, shS, shB, S.num, constS, one, inI, stUn, stNil, stLoad, stAt, stField, stIndexAddr, stStore, wrAt, stAlloc, stBox, stIndex, stPart, stPartRow, stFieldV, stConv, cvS, cvB, cvI, stSlice, optN, SV.num, noMax, stArrPtr, stExtract, stLen, stBuild, A.isRow, A.isAgg, A.noRec, A.len, A.get, A.sub, A.set, A.over, Ent.bound, Kind.isStruct, Kind.isAgg, S.known, A.solid, segAt, segPut, segLen, R.a, R.len, A.r, stMake, stBuildSlice, litA, repA, rep1, fillA, putP, sing, stMin, stEqA, rowEq, Kind.isScal, -List.reduceReplicate, -List.getD_eq_getElem?_getD, tab3, ty3, tab29, ty29, ntmps3]; (repeat' apply And.intro); all_goals first | exact hK | omega)))
    have hkf := kfit hb hWl hnk
    have hrf := rfit hb hWl hnk
    have hbe := block_eq tab_ok hb W nk
    rw [run_draw]
    refine ok_draw2 11 tabOK pureT_ok (pureK_mono _) mixed (by decide +kernel) rfl rfl ?_
    repeat (first
    | (apply hd_go rfl rfl rfl rfl (Nat.le_of_ble_eq_true rfl); focus (intro K' hK; simp [step1, evS, est, St.ev, St.put, St.add, St.upd, look_hit, look_miss, okd, stBin, bin, binS, binB, binI, shS, shB, S.num, constS, one, inI, stUn, stNil, stLoad, stAt, stField, stIndexAddr, stStore, wrAt, stAlloc, stBox, stIndex, stPart, stPartRow, stFieldV, stConv, cvS, cvB, cvI, stSlice, optN, SV.num, noMax, stArrPtr, stExtract, stLen, stBuild, A.isRow, A.isAgg, A.noRec, A.len, A.get, A.sub, A.set, A.over, Ent.bound, Kind.isStruct, Kind.isAgg, S.known, A.solid, segAt, segPut, segLen, R.a, R.len, A.r, stMake, stBuildSlice, litA, repA, rep1, fillA, putP, sing, stMin, stEqA, rowEq, Kind.isScal, -List.reduceReplicate, -List.getD_eq_getElem?_getD, tab3, ty3, tab22, ty22, tab25, ty25, tab26, ty26, tab29, ty29, tab23, ty23, tab5, ty5, tab4, ty4, hkf, hrf, hb, hbe, rounds_len, pureK, kOf, rOf]; (repeat' apply And.intro); all_goals first | exact hK | omega))
    | (apply hd_new rfl rfl rfl rfl (Nat.le_of_ble_eq_true rfl); focus (intro K' hK; simp [step1, evS, est, St.ev, St.put, St.add, St.upd, look_hit, look_miss, okd, stBin, bin, binS, binB, binI, shS, shB, S.num, constS, one, inI, stUn, stNil, stLoad, stAt, stField, stIndexAddr, stStore, wrAt, stAlloc, stBox, stIndex, stPart, stPartRow, stFieldV, stConv, cvS, cvB, cvI, stSlice, optN, SV.num, noMax, stArrPtr, stExtract, stLen, stBuild, A.isRow, A.isAgg, A.noRec, A.len, A.get, A.sub, A.set, A.over, Ent.bound, Kind.isStruct, Kind.isAgg, S.known, A.solid, segAt, segPut, segLen, R.a, R.len, A.r, stMake, stBuildSlice, litA, repA, rep1, fillA, putP, sing, stMin, stEqA, rowEq, Kind.isScal, -List.reduceReplicate, -List.getD_eq_getElem?_getD, tab3, ty3, tab22, ty22, tab25, ty25, tab26, ty26, tab29, ty29, tab23, ty23, tab5, ty5, tab4, ty4, hkf, hrf, hb, hbe, rounds_len, pureK, kOf, rOf]; (repeat' apply And.intro); all_goals first | exact hK | omega)))
    apply hd_guard rfl rfl rfl rfl rfl (Nat.le_of_ble_eq_true rfl) rfl
    · intro _
      (apply Exists.intro; apply And.intro; focus (intro K' hK; simp [step1, evS, est, St.ev, St.put, St.add, St.upd, look_hit, look_miss, okd, stBin, bin, binS, binB, binI, shS, shB, S.num, constS, one, inI, stUn, stNil, stLoad, stAt, stField, stIndexAddr, stStore, wrAt, stAlloc, stBox, stIndex, stPart, stPartRow, stFieldV, stConv, cvS, cvB, cvI, stSlice, optN, SV.num, noMax, stArrPtr, stExtract, stLen, stBuild, A.isRow, A.isAgg, A.noRec, A.len, A.get, A.sub, A.set, A.over, Ent.bound, Kind.isStruct, Kind.isAgg, S.known, A.solid, segAt, segPut, segLen, R.a, R.len, A.r, stMake, stBuildSlice, litA, repA, rep1, fillA, putP, sing, stMin, stEqA, rowEq, Kind.isScal, -List.reduceReplicate, -List.getD_eq_getElem?_getD, tab3, ty3, tab22, ty22, tab25, ty25, tab26, ty26, tab29, ty29, tab23, ty23, tab5, ty5, tab4, ty4, hkf, hrf, hb, hbe, rounds_len, pureK, kOf, rOf]; (repeat' apply And.intro); all_goals first | exact hK | omega))
      apply hd_guard rfl rfl rfl rfl rfl (Nat.le_of_ble_eq_true rfl) rfl
      · intro _
        (apply Exists.intro; apply And.intro; focus (intro K' hK; simp [step1, evS, est, St.ev, St.put, St.add, St.upd, look_hit, look_miss, okd, stBin, bin, binS, binB, binI, shS, shB, S.num, constS, one, inI, stUn, stNil, stLoad, stAt, stField, stIndexAddr, stStore, wrAt, stAlloc, stBox, stIndex, stPart, stPartRow, stFieldV, stConv, cvS, cvB, cvI, stSlice, optN, SV.num, noMax, stArrPtr, stExtract, stLen, stBuild, A.isRow, A.isAgg, A.noRec, A.len, A.get, A.sub, A.set, A.over, Ent.bound, Kind.isStruct, Kind.isAgg, S.known, A.solid, segAt, segPut, segLen, R.a, R.len, A.r, stMake, stBuildSlice, litA, repA, rep1, fillA, putP, sing, stMin, stEqA, rowEq, Kind.isScal, -List.reduceReplicate, -List.getD_eq_getElem?_getD, tab3, ty3, tab22, ty22, tab25, ty25, tab26, ty26, tab29, ty29, tab23, ty23, tab5, ty5, tab4, ty4, hkf, hrf, hb, hbe, rounds_len, pureK, kOf, rOf]; (repeat' apply And.intro); all_goals first | exact hK | omega))
        apply hd_guard rfl rfl rfl rfl rfl (Nat.le_of_ble_eq_true rfl) rfl
        · intro _
          (apply Exists.intro; apply And.intro; focus (intro K' hK; simp [step1, evS, est, St.ev, St.put, St.add, St.upd, look_hit, look_miss, okd, stBin, bin, binS, binB, binI, shS, shB, S.num, constS, one, inI, stUn, stNil, stLoad, stAt, stField, stIndexAddr, stStore, wrAt, stAlloc, stBox, stIndex, stPart, stPartRow, stFieldV, stConv, cvS, cvB, cvI, stSlice, optN, SV.num, noMax, stArrPtr, stExtract, stLen, stBuild, A.isRow, A.isAgg, A.noRec, A.len, A.get, A.sub, A.set, A.over, Ent.bound, Kind.isStruct, Kind.isAgg, S.known, A.solid, segAt, segPut, segLen, R.a, R.len, A.r, stMake, stBuildSlice, litA, repA, rep1, fillA, putP, sing, stMin, stEqA, rowEq, Kind.isScal, -List.reduceReplicate, -List.getD_eq_getElem?_getD, tab3, ty3, tab22, ty22, tab25, ty25, tab26, ty26, tab29, ty29, tab23, ty23, tab5, ty5, tab4, ty4, hkf, hrf, hb, hbe, rounds_len, pureK, kOf, rOf]; (repeat' apply And.intro); all_goals first | exact hK | omega))
          apply hd_guard rfl rfl rfl rfl rfl (Nat.le_of_ble_eq_true rfl) rfl
          · intro _
            (apply Exists.intro; apply And.intro; focus (intro K' hK; simp [step1, evS, est, St.ev, St.put, St.add, St.upd, look_hit, look_miss, okd, stBin, bin, binS, binB, binI, shS, shB, S.num, constS, one, inI, stUn, stNil, stLoad, stAt, stField, stIndexAddr, stStore, wrAt, stAlloc, stBox, stIndex, stPart, stPartRow, stFieldV, stConv, cvS, cvB, cvI, stSlice, optN, SV.num, noMax, stArrPtr, stExtract, stLen, stBuild, A.isRow, A.isAgg, A.noRec, A.len, A.get, A.sub, A.set, A.over, Ent.bound, Kind.isStruct, Kind.isAgg, S.known, A.solid, segAt, segPut, segLen, R.a, R.len, A.r, stMake, stBuildSlice, litA, repA, rep1, fillA, putP, sing, stMin, stEqA, rowEq, Kind.isScal, -List.reduceReplicate, -List.getD_eq_getElem?_getD, tab3, ty3, tab22, ty22, tab25, ty25, tab26, ty26, tab29, ty29, tab23, ty23, tab5, ty5, tab4, ty4, hkf, hrf, hb, hbe, rounds_len, pureK, kOf, rOf]; (repeat' apply And.intro); all_goals first | exact hK | omega))
            apply hd_guard rfl rfl rfl rfl rfl (Nat.le_of_ble_eq_true rfl) rfl
            · intro _
              (apply Exists.intro; apply And.intro; focus (intro K' hK; simp [step1, evS, est, St.ev, St.put, St.add, St.upd, look_hit, look_miss, okd, stBin, bin, binS, binB, binI, shS, shB, S.num, constS, one, inI, stUn, stNil, stLoad, stAt, stField, stIndexAddr, stStore, wrAt, stAlloc, stBox, stIndex, stPart, stPartRow, stFieldV, stConv, cvS, cvB, cvI, stSlice, optN, SV.num, noMax, stArrPtr, stExtract, stLen, stBuild, A.isRow, A.isAgg, A.noRec, A.len, A.get, A.sub, A.set, A.over, Ent.bound, Kind.isStruct, Kind.isAgg, S.known, A.solid, segAt, segPut, segLen, R.a, R.len, A.r, stMake, stBuildSlice, litA, repA, rep1, fillA, putP, sing, stMin, stEqA, rowEq, Kind.isScal, -List.reduceReplicate, -List.getD_eq_getElem?_getD, tab3, ty3, tab22, ty22, tab25, ty25, tab26, ty26, tab29, ty29, tab23, ty23, tab5, ty5, tab4, ty4, hkf, hrf, hb, hbe, rounds_len, pureK, kOf, rOf]; (repeat' apply And.intro); all_goals first | exact hK | omega))
              apply hd_guard rfl rfl rfl rfl rfl (Nat.le_of_ble_eq_true rfl) rfl
              · intro _
                (apply Exists.intro; apply And.intro; focus (intro K' hK; simp [step1, evS, est, St.ev, St.put, St.add, St.upd, look_hit, look_miss, okd, stBin, bin, binS, binB, binI, shS, shB, S.num, constS, one, inI, stUn, stNil, stLoad, stAt, stField, stIndexAddr, stStore, wrAt, stAlloc, stBox, stIndex, stPart, stPartRow, stFieldV, stConv, cvS, cvB, cvI, stSlice, optN, SV.num, noMax, stArrPtr, stExtract, stLen, stBuild, A.isRow, A.isAgg, A.noRec, A.len, A.get, A.sub, A.set, A.over, Ent.bound, Kind.isStruct, Kind.isAgg, S.known, A.solid, segAt, segPut, segLen, R.a, R.len, A.r, stMake, stBuildSlice, litA, repA, rep1, fillA, putP, sing, stMin, stEqA, rowEq, Kind.isScal, -List.reduceReplicate, -List.getD_eq_getElem?_getD, tab3, ty3, tab22, ty22, tab25, ty25, tab26, ty26, tab29, ty29, tab23, ty23, tab5, ty5, tab4, ty4, hkf, hrf, hb, hbe, rounds_len, pureK, kOf, rOf]; (repeat' apply And.intro); all_goals first | exact hK | omega))
                apply hd_guard rfl rfl rfl rfl rfl (Nat.le_of_ble_eq_true rfl) rfl
                · intro _
                  (apply Exists.intro; apply And.intro; focus (intro K' hK; simp [step1, evS, est, St.ev, St.put, St.add, St.upd, look_hit, look_miss, okd, stBin, bin, binS, binB, binI, shS, shB, S.num, constS, one, inI, stUn, stNil, stLoad, stAt, stField, stIndexAddr, stStore, wrAt, stAlloc, stBox, stIndex, stPart, stPartRow, stFieldV, stConv, cvS, cvB, cvI, stSlice, optN, SV.num, noMax, stArrPtr, stExtract, stLen, stBuild, A.isRow, A.isAgg, A.noRec, A.len, A.get, A.sub, A.set, A.over, Ent.bound, Kind.isStruct, Kind.isAgg, S.known, A.solid, segAt, segPut, segLen, R.a, R.len, A.r, stMake, stBuildSlice, litA, repA, rep1, fillA, putP, sing, stMin, stEqA, rowEq, Kind.isScal, -List.reduceReplicate, -List.getD_eq_getElem?_getD, tab3, ty3, tab22, ty22, tab25, ty25, tab26, ty26, tab29, ty29, tab23, ty23, tab5, ty5, tab4, ty4, hkf, hrf, hb, hbe, rounds_len, pureK, kOf, rOf]; (repeat' apply And.intro); all_goals first | exact hK | omega))
                  repeat (first
    | (apply hd_go rfl rfl rfl rfl (Nat.le_of_ble_eq_true rfl); focus (intro K' hK; simp [step1, evS, est, St.ev, St.put, St.add, St.upd, look_hit, look_miss, okd, stBin, bin, binS, binB, binI, shS, shB, S.num, constS, one, inI, stUn, stNil, stLoad, stAt, stField, stIndexAddr, stStore, wrAt, stAlloc, stBox, stIndex, stPart, stPartRow, stFieldV, stConv, cvS, cvB, cvI, stSlice, optN, SV.num, noMax, stArrPtr, stExtract, stLen, stBuild, A.isRow, A.isAgg, A.noRec, A.len, A.get, A.sub, A.set, A.over, Ent.bound, Kind.isStruct, Kind.isAgg, S.known, A.solid, segAt, segPut, segLen, R.a, R.len, A.r, stMake, stBuildSlice, litA, repA, rep1, fillA, putP, sing, stMin, stEqA, rowEq, Kind.isScal, -List.reduceReplicate, -List.getD_eq_getElem?_getD, tab3, ty3, tab22, ty22, tab25, ty25, tab26, ty26, tab29, ty29, tab23, ty23, tab5, ty5, tab4, ty4, hkf, hrf, hb, hbe, rounds_len, pureK, kOf, rOf]; (repeat' apply And.intro); all_goals first | exact hK | omega))
    | (apply hd_new rfl rfl rfl rfl (Nat.le_of_ble_eq_true rfl); focus (intro K' hK; simp [step1, evS, est, St.ev, St.put, St.add, St.upd, look_hit, look_miss, okd, stBin, bin, binS, binB, binI, shS, shB, S.num, constS, one, inI, stUn, stNil, stLoad, stAt, stField, stIndexAddr, stStore, wrAt, stAlloc, stBox, stIndex, stPart, stPartRow, stFieldV, stConv, cvS, cvB, cvI, stSlice, optN, SV.num, noMax, stArrPtr, stExtract, stLen, stBuild, A.isRow, A.isAgg, A.noRec, A.len, A.get, A.sub, A.set, A.over, Ent.bound, Kind.isStruct, Kind.isAgg, S.known, A.solid, segAt, segPut, segLen, R.a, R.len, A.r, stMake, stBuildSlice, litA, repA, rep1, fillA, putP, sing, stMin, stEqA, rowEq, Kind.isScal, -List.reduceReplicate, -List.getD_eq_getElem?_getD, tab3, ty3, tab22, ty22, tab25, ty25, tab26, ty26, tab29, ty29, tab23, ty23, tab5, ty5, tab4, ty4, hkf, hrf, hb, hbe, rounds_len, pureK, kOf, rOf]; (repeat' apply And.intro); all_goals first | exact hK | omega)))
                  refine hd_nil ?_
                  simp only [List.map_cons, List.map_nil, List.append_nil, List.nil_append, List.cons_append]
                  refine ok_run hB tabOK pureT_ok 100 ?_
                  repeat (first
    | rw [run_ops0]
    | rw [run_seq]
    | rw [run_region]
    | rw [run_block]
    | rw [run_blk]
    | rw [run_skip]
    | (apply run_go rfl; focus (intro L K hK; simp [step1, evS, est, St.ev, St.put, St.add, St.upd, look_hit, look_miss, okd, stBin, bin, binS, binB, binI, shS, shB, S.num, constS, one, inI, stUn, stNil, stLoad, stAt, stField, stIndexAddr, stStore, wrAt, stAlloc, stBox, stIndex, stPart, stPartRow, stFieldV, stConv, cvS, cvB, cvI, stSlice, optN, SV.num, noMax, stArrPtr, stExtract, stLen, stBuild, A.isRow, A.isAgg, A.noRec, A.len, A.get, A.sub, A.set, A.over, Ent.bound, Kind.isStruct, Kind.isAgg, S.known, A.solid, segAt, segPut, segLen, R.a, R.len, A.r, stMake, stBuildSlice, litA, repA, rep1, fillA, putP, sing, stMin, stEqA, rowEq, Kind.isScal, -List.reduceReplicate, -List.getD_eq_getElem?_getD, tab3, ty3, tab22, ty22, tab25, ty25, tab26, ty26, tab29, ty29, tab23, ty23, tab5, ty5, tab4, ty4, ntmps3]; (repeat' apply And.intro); all_goals first | exact hK | omega)))
                  rw [run_ret]
                  simp [finOf, resP, resV, extraOwn, look_hit, look_miss, one, -List.reduceReplicate, -List.getD_eq_getElem?_getD, stLoad, stAt, Ent.bound, A.len, A.isRow, A.isAgg, results3, f3]
                · intro h; first | cases h | (simp at h; done)
              · intro h; first | cases h | (simp at h; done)
            · intro h; first | cases h | (simp at h; done)
          · intro h; first | cases h | (simp at h; done)
        · intro h; first | cases h | (simp at h; done)
      · intro h; first | cases h | (simp at h; done)
    · intro h; first | cases h | (simp at h; done)
  · -- another length
    have h16 : n ≠ 16 := fun h => hnk ⟨4, by omega, .inl rfl⟩
    have h32 : n ≠ 32 := fun h => hnk ⟨8, by omega, .inr rfl⟩
    refine ok_call [0] rfl rfl ⟨f21, func21, nofun, by decide⟩ (spec21bad key n cap0 hk hcap0 h16 h32 (by omega)) trivial (by simp) (by simp [matchM, ix, renA, belA]) rfl rfl (Nat.le_of_ble_eq_true rfl) ?_
    rintro sv m' ⟨rfl, rfl⟩ _
    simp only [afterM, putM, renMk, renA, renSeg, renR, renS, renV, ix, St.put, List.map_cons, List.map_nil, List.drop, List.length_cons, List.length_nil, List.cons_append, List.nil_append]
    simp
    refine ok_run hB tabOK pureT_ok 100 ?_
    repeat (first
    | rw [run_ops0]
    | rw [run_seq]
    | rw [run_region]
    | rw [run_block]
    | rw [run_blk]
    | rw [run_skip]
    | (apply run_go rfl; focus (intro L K hK; simp [step1, evS, est, St.ev, St.put, St.add, St.upd, look_hit, look_miss, okd, stBin, bin, binS, binB, binI, shS, shB, S.num, constS, one, inI, stUn, stNil, stLoad, stAt, stField, stIndexAddr, stStore, wrAt, stAlloc, stBox, stIndex, stPart, stPartRow, stFieldV, stConv, cvS, cvB, cvI, stSlice, optN, SV.num, noMax, stArrPtr, stExtract, stLen, stBuild, A.isRow, A.isAgg, A.noRec, A.len, A.get, A.sub, A.set, A.over, Ent.bound, Kind.isStruct, Kind.isAgg, S.known, A.solid, segAt, segPut, segLen, R.a, R.len, A.r, stMake, stBuildSlice, litA, repA, rep1, fillA, putP, sing, stMin, stEqA, rowEq, Kind.isScal, -List.reduceReplicate, -List.getD_eq_getElem?_getD, tab3, ty3, tab22, ty22, tab25, ty25, tab26, ty26, ntmps3]; (repeat' apply And.intro); all_goals first | exact hK | omega)))
    refine run_call rfl rfl rfl rfl ?_
    refine ok_call [0] rfl rfl ⟨f22, func22, nofun, by decide⟩ (spec22bad key n cap0 hk hcap0 h16 h32 (by omega)) trivial (by simp) (by simp [matchM, ix, renA, belA]) rfl rfl (Nat.le_of_ble_eq_true rfl) ?_
    rintro sv m' ⟨rfl, rfl⟩ _
    simp only [afterM, putM, renMk, renA, renSeg, renR, renS, renV, ix, St.put, List.map_cons, List.map_nil, List.drop, List.length_cons, List.length_nil, List.cons_append, List.nil_append, one]
    simp
    refine ok_run hB tabOK pureT_ok 100 ?_
    repeat (first
    | rw [run_ops0]
    | rw [run_seq]
    | rw [run_region]
    | rw [run_block]
    | rw [run_blk]
    | rw [run_skip]
    | (apply run_go rfl; focus (intro L K hK; simp [step1, evS, est, St.ev, St.put, St.add, St.upd, look_hit, look_miss, okd, stBin, bin, binS, binB, binI, shS, shB, S.num, constS, one, inI, stUn, stNil, stLoad, stAt, stField, stIndexAddr, stStore, wrAt, stAlloc, stBox, stIndex, stPart, stPartRow, stFieldV, stConv, cvS, cvB, cvI, stSlice, optN, SV.num, noMax, stArrPtr, stExtract, stLen, stBuild, A.isRow, A.isAgg, A.noRec, A.len, A.get, A.sub, A.set, A.over, Ent.bound, Kind.isStruct, Kind.isAgg, S.known, A.solid, segAt, segPut, segLen, R.a, R.len, A.r, stMake, stBuildSlice, litA, repA, rep1, fillA, putP, sing, stMin, stEqA, rowEq, Kind.isScal, -List.reduceReplicate, -List.getD_eq_getElem?_getD, tab3, ty3, tab29, ty29, ntmps3]; (repeat' apply And.intro); all_goals first | exact hK | omega)))
    apply run_cond2 rfl
    · intro _
      repeat (first
    | rw [run_ops0]
    | rw [run_seq]
    | rw [run_region]
    | rw [run_block]
    | rw [run_blk]
    | rw [run_skip]
    | (apply run_go rfl; focus (intro L K hK; simp [step1, evS, est, St.ev, St.put, St.add, St.upd, look_hit, look_miss, okd, stBin, bin, binS, binB, binI, shS, shB, S.num, constS, one, inI, stUn, stNil, stLoad, stAt, stField, stIndexAddr, stStore, wrAt, stAlloc, stBox, stIndex, stPart, stPartRow, stFieldV, stConv, cvS, cvB, cvI, stSlice, optN, SV.num, noMax, stArrPtr, stExtract, stLen, stBuild, A.isRow, A.isAgg, A.noRec, A.len, A.get, A.sub, A.set, A.over, Ent.bound, Kind.isStruct, Kind.isAgg, S.known, A.solid, segAt, segPut, segLen, R.a, R.len, A.r, stMake, stBuildSlice, litA, repA, rep1, fillA, putP, sing, stMin, stEqA, rowEq, Kind.isScal, -List.reduceReplicate, -List.getD_eq_getElem?_getD, tab3, ty3, tab22, ty22, tab25, ty25, tab26, ty26, tab29, ty29, tab23, ty23, tab5, ty5, tab4, ty4, ntmps3]; (repeat' apply And.intro); all_goals first | exact hK | omega)))
      apply run_guard rfl rfl rfl rfl
      · intro _
        (apply Exists.intro; apply And.intro; focus (intro L K hK; simp [step1, evS, est, St.ev, St.put, St.add, St.upd, look_hit, look_miss, okd, stBin, bin, binS, binB, binI, shS, shB, S.num, constS, one, inI, stUn, stNil, stLoad, stAt, stField, stIndexAddr, stStore, wrAt, stAlloc, stBox, stIndex, stPart, stPartRow, stFieldV, stConv, cvS, cvB, cvI, stSlice, optN, SV.num, noMax, stArrPtr, stExtract, stLen, stBuild, A.isRow, A.isAgg, A.noRec, A.len, A.get, A.sub, A.set, A.over, Ent.bound, Kind.isStruct, Kind.isAgg, S.known, A.solid, segAt, segPut, segLen, R.a, R.len, A.r, stMake, stBuildSlice, litA, repA, rep1, fillA, putP, sing, stMin, stEqA, rowEq, Kind.isScal, -List.reduceReplicate, -List.getD_eq_getElem?_getD, tab3, ty3, tab22, ty22, tab25, ty25, tab26, ty26, tab29, ty29, tab23, ty23, tab5, ty5, tab4, ty4, ntmps3, hb, pureK, zero16]; (repeat' apply And.intro); all_goals first | exact hK | omega))
        apply run_guard rfl rfl rfl rfl
        · intro _
          (apply Exists.intro; apply And.intro; focus (intro L K hK; simp [step1, evS, est, St.ev, St.put, St.add, St.upd, look_hit, look_miss, okd, stBin, bin, binS, binB, binI, shS, shB, S.num, constS, one, inI, stUn, stNil, stLoad, stAt, stField, stIndexAddr, stStore, wrAt, stAlloc, stBox, stIndex, stPart, stPartRow, stFieldV, stConv, cvS, cvB, cvI, stSlice, optN, SV.num, noMax, stArrPtr, stExtract, stLen, stBuild, A.isRow, A.isAgg, A.noRec, A.len, A.get, A.sub, A.set, A.over, Ent.bound, Kind.isStruct, Kind.isAgg, S.known, A.solid, segAt, segPut, segLen, R.a, R.len, A.r, stMake, stBuildSlice, litA, repA, rep1, fillA, putP, sing, stMin, stEqA, rowEq, Kind.isScal, -List.reduceReplicate, -List.getD_eq_getElem?_getD, tab3, ty3, tab22, ty22, tab25, ty25, tab26, ty26, tab29, ty29, tab23, ty23, tab5, ty5, tab4, ty4, ntmps3, hb, pureK, zero16]; (repeat' apply And.intro); all_goals first | exact hK | omega))
          repeat (first
    | rw [run_ops0]
    | rw [run_seq]
    | rw [run_region]
    | rw [run_block]
    | rw [run_blk]
    | rw [run_skip]
    | (apply run_go rfl; focus (intro L K hK; simp [step1, evS, est, St.ev, St.put, St.add, St.upd, look_hit, look_miss, okd, stBin, bin, binS, binB, binI, shS, shB, S.num, constS, one, inI, stUn, stNil, stLoad, stAt, stField, stIndexAddr, stStore, wrAt, stAlloc, stBox, stIndex, stPart, stPartRow, stFieldV, stConv, cvS, cvB, cvI, stSlice, optN, SV.num, noMax, stArrPtr, stExtract, stLen, stBuild, A.isRow, A.isAgg, A.noRec, A.len, A.get, A.sub, A.set, A.over, Ent.bound, Kind.isStruct, Kind.isAgg, S.known, A.solid, segAt, segPut, segLen, R.a, R.len, A.r, stMake, stBuildSlice, litA, repA, rep1, fillA, putP, sing, stMin, stEqA, rowEq, Kind.isScal, -List.reduceReplicate, -List.getD_eq_getElem?_getD, tab3, ty3, tab22, ty22, tab25, ty25, tab26, ty26, tab29, ty29, tab23, ty23, tab5, ty5, tab4, ty4, ntmps3, hb, pureK, zero16]; (repeat' apply And.intro); all_goals first | exact hK | omega)))
          apply run_guard rfl rfl rfl rfl
          · intro _
            (apply Exists.intro; apply And.intro; focus (intro L K hK; simp [step1, evS, est, St.ev, St.put, St.add, St.upd, look_hit, look_miss, okd, stBin, bin, binS, binB, binI, shS, shB, S.num, constS, one, inI, stUn, stNil, stLoad, stAt, stField, stIndexAddr, stStore, wrAt, stAlloc, stBox, stIndex, stPart, stPartRow, stFieldV, stConv, cvS, cvB, cvI, stSlice, optN, SV.num, noMax, stArrPtr, stExtract, stLen, stBuild, A.isRow, A.isAgg, A.noRec, A.len, A.get, A.sub, A.set, A.over, Ent.bound, Kind.isStruct, Kind.isAgg, S.known, A.solid, segAt, segPut, segLen, R.a, R.len, A.r, stMake, stBuildSlice, litA, repA, rep1, fillA, putP, sing, stMin, stEqA, rowEq, Kind.isScal, -List.reduceReplicate, -List.getD_eq_getElem?_getD, tab3, ty3, tab22, ty22, tab25, ty25, tab26, ty26, tab29, ty29, tab23, ty23, tab5, ty5, tab4, ty4, ntmps3, hb, pureK, zero16]; (repeat' apply And.intro); all_goals first | exact hK | omega))
            apply run_guard rfl rfl rfl rfl
            · intro _
              (apply Exists.intro; apply And.intro; focus (intro L K hK; simp [step1, evS, est, St.ev, St.put, St.add, St.upd, look_hit, look_miss, okd, stBin, bin, binS, binB, binI, shS, shB, S.num, constS, one, inI, stUn, stNil, stLoad, stAt, stField, stIndexAddr, stStore, wrAt, stAlloc, stBox, stIndex, stPart, stPartRow, stFieldV, stConv, cvS, cvB, cvI, stSlice, optN, SV.num, noMax, stArrPtr, stExtract, stLen, stBuild, A.isRow, A.isAgg, A.noRec, A.len, A.get, A.sub, A.set, A.over, Ent.bound, Kind.isStruct, Kind.isAgg, S.known, A.solid, segAt, segPut, segLen, R.a, R.len, A.r, stMake, stBuildSlice, litA, repA, rep1, fillA, putP, sing, stMin, stEqA, rowEq, Kind.isScal, -List.reduceReplicate, -List.getD_eq_getElem?_getD, tab3, ty3, tab22, ty22, tab25, ty25, tab26, ty26, tab29, ty29, tab23, ty23, tab5, ty5, tab4, ty4, ntmps3, hb, pureK, zero16]; (repeat' apply And.intro); all_goals first | exact hK | omega))
              apply run_guard rfl rfl rfl rfl
              · intro _
                (apply Exists.intro; apply And.intro; focus (intro L K hK; simp [step1, evS, est, St.ev, St.put, St.add, St.upd, look_hit, look_miss, okd, stBin, bin, binS, binB, binI, shS, shB, S.num, constS, one, inI, stUn, stNil, stLoad, stAt, stField, stIndexAddr, stStore, wrAt, stAlloc, stBox, stIndex, stPart, stPartRow, stFieldV, stConv, cvS, cvB, cvI, stSlice, optN, SV.num, noMax, stArrPtr, stExtract, stLen, stBuild, A.isRow, A.isAgg, A.noRec, A.len, A.get, A.sub, A.set, A.over, Ent.bound, Kind.isStruct, Kind.isAgg, S.known, A.solid, segAt, segPut, segLen, R.a, R.len, A.r, stMake, stBuildSlice, litA, repA, rep1, fillA, putP, sing, stMin, stEqA, rowEq, Kind.isScal, -List.reduceReplicate, -List.getD_eq_getElem?_getD, tab3, ty3, tab22, ty22, tab25, ty25, tab26, ty26, tab29, ty29, tab23, ty23, tab5, ty5, tab4, ty4, ntmps3, hb, pureK, zero16]; (repeat' apply And.intro); all_goals first | exact hK | omega))
                apply run_guard rfl rfl rfl rfl
                · intro _
                  (apply Exists.intro; apply And.intro; focus (intro L K hK; simp [step1, evS, est, St.ev, St.put, St.add, St.upd, look_hit, look_miss, okd, stBin, bin, binS, binB, binI, shS, shB, S.num, constS, one, inI, stUn, stNil, stLoad, stAt, stField, stIndexAddr, stStore, wrAt, stAlloc, stBox, stIndex, stPart, stPartRow, stFieldV, stConv, cvS, cvB, cvI, stSlice, optN, SV.num, noMax, stArrPtr, stExtract, stLen, stBuild, A.isRow, A.isAgg, A.noRec, A.len, A.get, A.sub, A.set, A.over, Ent.bound, Kind.isStruct, Kind.isAgg, S.known, A.solid, segAt, segPut, segLen, R.a, R.len, A.r, stMake, stBuildSlice, litA, repA, rep1, fillA, putP, sing, stMin, stEqA, rowEq, Kind.isScal, -List.reduceReplicate, -List.getD_eq_getElem?_getD, tab3, ty3, tab22, ty22, tab25, ty25, tab26, ty26, tab29, ty29, tab23, ty23, tab5, ty5, tab4, ty4, ntmps3, hb, pureK, zero16]; (repeat' apply And.intro); all_goals first | exact hK | omega))
                  apply run_guard rfl rfl rfl rfl
                  · intro _
                    (apply Exists.intro; apply And.intro; focus (intro L K hK; simp [step1, evS, est, St.ev, St.put, St.add, St.upd, look_hit, look_miss, okd, stBin, bin, binS, binB, binI, shS, shB, S.num, constS, one, inI, stUn, stNil, stLoad, stAt, stField, stIndexAddr, stStore, wrAt, stAlloc, stBox, stIndex, stPart, stPartRow, stFieldV, stConv, cvS, cvB, cvI, stSlice, optN, SV.num, noMax, stArrPtr, stExtract, stLen, stBuild, A.isRow, A.isAgg, A.noRec, A.len, A.get, A.sub, A.set, A.over, Ent.bound, Kind.isStruct, Kind.isAgg, S.known, A.solid, segAt, segPut, segLen, R.a, R.len, A.r, stMake, stBuildSlice, litA, repA, rep1, fillA, putP, sing, stMin, stEqA, rowEq, Kind.isScal, -List.reduceReplicate, -List.getD_eq_getElem?_getD, tab3, ty3, tab22, ty22, tab25, ty25, tab26, ty26, tab29, ty29, tab23, ty23, tab5, ty5, tab4, ty4, ntmps3, hb, pureK, zero16]; (repeat' apply And.intro); all_goals first | exact hK | omega))
                    repeat (first
    | rw [run_ops0]
    | rw [run_seq]
    | rw [run_region]
    | rw [run_block]
    | rw [run_blk]
    | rw [run_skip]
    | (apply run_go rfl; focus (intro L K hK; simp [step1, evS, est, St.ev, St.put, St.add, St.upd, look_hit, look_miss, okd, stBin, bin, binS, binB, binI, shS, shB, S.num, constS, one, inI, stUn, stNil, stLoad, stAt, stField, stIndexAddr, stStore, wrAt, stAlloc, stBox, stIndex, stPart, stPartRow, stFieldV, stConv, cvS, cvB, cvI, stSlice, optN, SV.num, noMax, stArrPtr, stExtract, stLen, stBuild, A.isRow, A.isAgg, A.noRec, A.len, A.get, A.sub, A.set, A.over, Ent.bound, Kind.isStruct, Kind.isAgg, S.known, A.solid, segAt, segPut, segLen, R.a, R.len, A.r, stMake, stBuildSlice, litA, repA, rep1, fillA, putP, sing, stMin, stEqA, rowEq, Kind.isScal, -List.reduceReplicate, -List.getD_eq_getElem?_getD, tab3, ty3, tab22, ty22, tab25, ty25, tab26, ty26, tab29, ty29, tab23, ty23, tab5, ty5, tab4, ty4, ntmps3, hb, pureK, zero16]; (repeat' apply And.intro); all_goals first | exact hK | omega)))
                    rw [run_ret]
                    simp [finOf, resP, resV, extraOwn, look_hit, look_miss, one, -List.reduceReplicate, -List.getD_eq_getElem?_getD, stLoad, stAt, Ent.bound, A.len, A.isRow, A.isAgg, results3, f3]
                  · intro h; first | cases h | (simp at h; done)
                · intro h; first | cases h | (simp at h; done)
              · intro h; first | cases h | (simp at h; done)
            · intro h; first | cases h | (simp at h; done)
          · intro h; first | cases h | (simp at h; done)
        · intro h; first | cases h | (simp at h; done)
      · intro h; first | cases h | (simp at h; done)
    · intro h; cases h
end Go.V
end
section
set_option linter.unusedSimpArgs false
set_option linter.unusedVariables false
namespace Go.V
open Go Go.RowKit Go.ChangeShapes Go.WideShapes
/-- Memory that is only read is memory as we know it. -/
def ROK (pre : Mem) (ℓ : Nat → Option Loc) (w : World) : Prop := (∀ (id : Nat) (x : Mk), pre[id]? = some x → ∃ e L, x = .ent e ∧ e.own = false ∧ ℓ id = some L ∧ EntOK ℓ w L e) ∧ ∀ i, pre.length ≤ i → ℓ i = none
theorem mh_ro {w : World} {pre : Mem} {ℓ : Nat → Option Loc} (h : ROK pre ℓ w) : ∀ an, Le an ℓ → MH ⟨w, ownBlk pre ℓ, an⟩ ℓ pre w := by
  obtain ⟨hro, hdom⟩ := h
  intro an han
  refine ⟨rfl, rfl, rfl, Nat.le_refl _, fun _ _ _ => rfl, han, ?_, ?_, ?_⟩
  · rintro i (h | h)
    · exact hdom i h
    · obtain ⟨e, L, h1, _⟩ := hro i _ h; cases h1
  · intro id e h
    obtain ⟨e', L, h1, h2, h3, h4⟩ := hro id _ h
    cases h1
    exact ⟨L, h3, h4, fun h => by rw [h2] at h; cases h⟩
  · intro i j ei ej Li Lj hi hj _ _ ho
    obtain ⟨e', L, h1, h2, h3, h4⟩ := hro i _ hi
    cases h1
    rw [h2] at ho
    cases ho
/-- A law that answers true by contract, over memory that it only reads, answers true and writes nothing that was there. -/
theorem calls_of_spec {P : Program} {f : FuncId} {args : List SV} {pre : Mem} (h : Spec P f args pre [] (fun r _ => r = .one (.s (.b true)))) {w : World} {ℓ : Nat → Option Loc} {vs : List Value} (hd : DenVs ℓ args vs) (hro : ROK pre ℓ w) :
    Calls P f vs.toArray w (fun e w' => e = .returned (.bool true) ∧ Below w.heap.size w w') := by
  refine (h w ℓ vs hd (mh_ro hro)).mono ?_
  rintro e w' ⟨sv, m', ℓ', v, rfl, rfl, _, _, hv, hm⟩
  refine ⟨?_, ⟨hm.os, hm.tape, hm.output, hm.size, fun k hk => hm.keep k hk ?_⟩⟩
  · have : v = .bool true := hv
    rw [this]
  · rintro ⟨id, e, L, h1, h2, _⟩
    obtain ⟨e', L', h3, h4, _⟩ := hro.1 id _ h1
    cases h3
    rw [h4] at h2
    cases h2
/-- A slice of integers that came in: nil, or a row of cells. -/
def IsRow (k : IntKind) (w : World) (a : Option Addr) (len cap : Nat) (zs : List Int) : Prop :=
  (a = none ∧ len = 0 ∧ cap = 0 ∧ zs = []) ∨
  ∃ x, a = some x ∧ len ≤ cap ∧ cap ≤ maxLen ∧ zs.length = cap ∧ (∀ i, i < zs.length → w.cell? (x.add i) = some (.int k (zs.getD i 0))) ∧ ∀ n ∈ zs, (Lit.int k n).wf = true
theorem byte_of {n : Int} (h : (Lit.int .u8 n).wf = true) : ∃ x : BitVec 8, n = (x.toNat : Int) := by
  have := bounds_u8 h
  refine ⟨BitVec.ofInt 8 n, ?_⟩
  rw [BitVec.toNat_ofInt]
  omega
theorem bytes_of : ∀ (zs : List Int), (∀ n ∈ zs, (Lit.int .u8 n).wf = true) → ∃ b : List (BitVec 8), zs = b.map (fun x => (x.toNat : Int))
  | [], _ => ⟨[], rfl⟩
  | n :: zs, h => by
    obtain ⟨x, hx⟩ := byte_of (h n (by simp))
    obtain ⟨b, hb⟩ := bytes_of zs (fun m hm => h m (by simp [hm]))
    exact ⟨x :: b, by rw [hx, hb]; rfl⟩
theorem denL_bytes (ℓ : Nat → Option Loc) : ∀ b : List (BitVec 8), DenL ℓ (b.map S.u8) (b.map (fun x => Value.int .u8 x.toNat))
  | [] => trivial
  | _ :: b => ⟨rfl, denL_bytes ℓ b⟩
/-- A slice of bytes that came in, as the contracts have it. -/
theorem row_bytes {w : World} {a : Option Addr} {len cap : Nat} {zs : List Int} (h : IsRow .u8 w a len cap zs) :
    ∃ (key : List (BitVec 8)) (L : Loc), key.length = len ∧ len ≤ cap ∧ cap ≤ maxLen ∧ (∀ ℓ i, ℓ i = some L → DenV ℓ (.one (.s (.sl i 0 len cap 1))) (.slice a len cap)) ∧ (∀ ℓ t, EntOK ℓ w L ⟨false, t, none, .a8 key⟩) := by
  rcases h with ⟨rfl, rfl, rfl, rfl⟩ | ⟨x, rfl, hl, hm, hz, hcell, hwf⟩
  · refine ⟨[], ⟨0, 0, 0⟩, rfl, Nat.le_refl _, Nat.zero_le _, fun ℓ i hi => ⟨_, hi, Nat.le_refl _, .inl ⟨rfl, none, rfl⟩⟩, fun ℓ t => ⟨⟨by simp, trivial⟩, ?_⟩⟩
    rw [if_neg (by simp)]
    exact ⟨[], trivial, by simp⟩
  · obtain ⟨b, hb⟩ := bytes_of zs hwf
    have hbl : b.length = cap := by rw [← hz, hb]; simp
    obtain ⟨blk, off, spot⟩ := x
    by_cases hc : cap = 0
    · subst hc
      obtain rfl : len = 0 := by omega
      refine ⟨[], ⟨0, 0, 0⟩, rfl, Nat.le_refl _, Nat.zero_le _, fun ℓ i hi => ⟨_, hi, Nat.le_refl _, .inl ⟨rfl, _, rfl⟩⟩, fun ℓ t => ⟨⟨by simp, trivial⟩, ?_⟩⟩
      rw [if_neg (by simp)]
      exact ⟨[], trivial, by simp⟩
    · have h0 := hcell 0 (by omega)
      obtain rfl : spot = none := by simpa [Addr.add] using World.cell?_spot h0
      refine ⟨b.take len, ⟨blk, off, cap⟩, by simp; omega, hl, hm, fun ℓ i hi => ⟨_, hi, hl, .inr ⟨by simp, by simp⟩⟩, fun ℓ t => ⟨⟨by simp, trivial⟩, ?_⟩⟩
      rw [if_neg (by simp)]
      refine ⟨(b.take len).map (fun x => Value.int .u8 x.toNat), by simpa [A.cells] using denL_bytes ℓ (b.take len), ?_⟩
      intro i v hv
      have hi : i < len := by
        have := (List.getElem?_eq_some_iff.mp hv).1
        simp at this
        omega
      have := hcell i (by omega)
      have e : (Addr.add ⟨blk, off, none⟩ i) = ⟨blk, off + i, none⟩ := by
        simp only [Addr.add]
        split
        · rename_i h; subst h; rfl
        · rfl
      rw [e] at this
      show w.cell? ⟨blk, off + i, none⟩ = some v
      rw [this]
      rw [List.getElem?_map, List.getElem?_take_of_lt hi, List.getElem?_eq_getElem (by omega)] at hv
      simp only [Option.map_some, Option.some.injEq] at hv
      have hib : i < b.length := by omega
      have hg : zs.getD i 0 = ((b[i].toNat : Nat) : Int) := by
        subst hb
        rw [List.getD_eq_getElem?_getD, List.getElem?_map, List.getElem?_eq_getElem hib]
        rfl
      rw [← hv, hg]
theorem vals_of : ∀ cs : List Value, (∀ v ∈ cs, ∃ x : BitVec 8, v = .int .u8 x.toNat) → ∃ b : List (BitVec 8), cs = b.map (fun x => Value.int .u8 x.toNat)
  | [], _ => ⟨[], rfl⟩
  | v :: cs, h => by
    obtain ⟨x, hx⟩ := h v (by simp)
    obtain ⟨b, hb⟩ := vals_of cs (fun m hm => h m (by simp [hm]))
    exact ⟨x :: b, by rw [hx, hb]; rfl⟩
/-- An array of bytes that came in. -/
theorem open_arr8 {H : Type} {enc : TypeId × Value → H} {P : Program} {w : World} {base base' : Nat} {spare : Nat → Bool} {held : Bool} {r : Reach} {t e : TypeId} {n : Nat} {v : Value} {d : DataW H} {ps : List MemPlace} (ht : P.underlying t = some (.array n e)) (he : P.underlying e = some (.int .u8)) (hce : P.cellsOf e = 1) (hct : P.cellsOf t = n)
    (hval : Value.okWide P w r base' t v) (h : DataW.Trod enc P w base spare held t v d ps) : ∃ b : List (BitVec 8), b.length = n ∧ v = .agg (b.map (fun x => Value.int .u8 x.toNat)).toArray := by
  simp only [Value.okWide, ht] at hval
  obtain ⟨cs, rfl, hsz, _⟩ := hval
  obtain ⟨fuel, hf⟩ := h
  obtain ⟨xs, m, _, _, hl, hxl, hx⟩ := DataW.trod_array ht hf
  simp only [Value.cells] at hl hx
  obtain ⟨b, hb⟩ := vals_of cs.toList (by
    intro v hv
    obtain ⟨i, hi, hvi⟩ := List.getElem_of_mem hv
    have hi' : i < n := by simp at hi; omega
    have := hx i hi'
    rw [hce, List.getElem?_eq_getElem (by omega)] at this
    obtain ⟨k, hk, _, hw⟩ := DataW.trod_int he this
    obtain ⟨x, rfl⟩ := byte_of hw
    refine ⟨x, ?_⟩
    rw [Nat.mul_one, List.drop_eq_getElem_cons hi] at hk
    simp only [List.take_succ_cons, List.take_zero, List.cons.injEq, and_true] at hk
    rw [← hvi]
    exact hk)
  refine ⟨b, ?_, ?_⟩
  · have := congrArg List.length hb
    simp at this
    omega
  · rw [← hb]
theorem den_arr8 (ℓ : Nat → Option Loc) (b : List (BitVec 8)) : DenV ℓ (.one (.a8 b)) (.agg (b.map (fun x => Value.int .u8 x.toNat)).toArray) := ⟨trivial, _, rfl, denL_bytes ℓ b⟩
/-- A slice of bytes that came in, opened. -/
theorem open_row8 {H : Type} {enc : TypeId × Value → H} {P : Program} {w : World} {base : Nat} {held : Bool} {t e : TypeId} {a : Option Addr} {len cap : Nat} {d : DataW H} {ps : List MemPlace} (ht : P.underlying t = some (.slice e)) (he : P.underlying e = some (.int .u8)) (hce : P.cellsOf e = 1)
    (h : DataW.Trod enc P w base (fun _ => true) held t (.slice a len cap) d ps) : ∃ zs, IsRow .u8 w a len cap zs := by
  obtain ⟨fuel, hf⟩ := h
  rcases open_ints ht he hce hf with ⟨hcs, _⟩ | ⟨x, l, c, zs, hcs, _, hl, hm, hz, _, hcell, hwz⟩
  · simp [Value.cells] at hcs
    obtain ⟨rfl, rfl, rfl⟩ := hcs
    exact ⟨[], .inl ⟨rfl, rfl, rfl, rfl⟩⟩
  · simp [Value.cells] at hcs
    obtain ⟨rfl, rfl, rfl⟩ := hcs
    exact ⟨zs, .inr ⟨_, rfl, hl, hm, by simpa using hz, hcell, hwz⟩⟩
end Go.V
end
