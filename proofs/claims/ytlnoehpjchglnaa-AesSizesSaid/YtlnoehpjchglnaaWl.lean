/- Walks: the law AesKeys. No condition. -/
import Derived.Test.YtlnoehpjchglnaaWk
set_option linter.unusedSimpArgs false
set_option linter.unusedVariables false
set_option maxRecDepth 10000
namespace Go.V
open Go Go.Proofs.Try
def flipT (key : B8) : Nat → B8
  | 0 => key
  | j + 1 => (flipT key j).set j ((flipT key j).getD j 0 ^^^ 255#8)
theorem flipT_len (key : B8) : ∀ j, (flipT key j).length = key.length
  | 0 => rfl
  | j + 1 => by simp [flipT, flipT_len key j]
set_option maxHeartbeats 1000000 in
theorem spec5 (key b : B8) (n cap0 : Nat) (hk : key.length = n) (hcap0 : n ≤ cap0) (hb : b.length = 16) : Spec prog 5 [one (.sl 0 0 n cap0 1), .one (.a8 b)] [.ent ⟨false, 5, none, .a8 key⟩] [] (fun r _ => r = one (.b true)) := by
  refine spec_of_body tabOK func5 rfl (Nat.le_of_ble_eq_true rfl) ?_
  intro E Q0 hB
  refine ok_run hB tabOK pureT_ok 15 ?_
  simp only [argSl]
  repeat (first
    | rw [run_ops0]
    | rw [run_seq]
    | rw [run_region]
    | rw [run_block]
    | rw [run_blk]
    | rw [run_skip]
    | (apply run_go rfl; focus (intro L K hK; simp [step1, evS, est, St.ev, St.put, St.add, St.upd, look_hit, look_miss, okd, stBin, bin, binS, binB, binI, shS, shB, S.num, constS, one, inI, stUn, stNil, stLoad, stAt, stField, stIndexAddr, stStore, wrAt, stAlloc, stBox, stIndex, stPart, stPartRow, stFieldV, stConv, cvS, cvB, cvI, stSlice, optN, SV.num, noMax, stArrPtr, stExtract, stLen, stBuild, A.isRow, A.isAgg, A.noRec, A.len, A.get, A.sub, A.set, A.over, Ent.bound, Kind.isStruct, Kind.isAgg, S.known, A.solid, segAt, segPut, segLen, R.a, R.len, A.r, stMake, stBuildSlice, litA, repA, rep1, fillA, putP, sing, stMin, stEqA, rowEq, Kind.isScal, -List.reduceReplicate, -List.getD_eq_getElem?_getD, tab22, ty22, tab23, ty23, tab3, ty3, tab4, ty4, ntmps5, hb, pureK]; (repeat' apply And.intro); all_goals first | exact hK | omega)))
  apply run_cond2 rfl
  · intro h; cases h
  intro _
  repeat (first
    | rw [run_ops0]
    | rw [run_seq]
    | rw [run_region]
    | rw [run_block]
    | rw [run_blk]
    | rw [run_skip]
    | (apply run_go rfl; focus (intro L K hK; simp [step1, evS, est, St.ev, St.put, St.add, St.upd, look_hit, look_miss, okd, stBin, bin, binS, binB, binI, shS, shB, S.num, constS, one, inI, stUn, stNil, stLoad, stAt, stField, stIndexAddr, stStore, wrAt, stAlloc, stBox, stIndex, stPart, stPartRow, stFieldV, stConv, cvS, cvB, cvI, stSlice, optN, SV.num, noMax, stArrPtr, stExtract, stLen, stBuild, A.isRow, A.isAgg, A.noRec, A.len, A.get, A.sub, A.set, A.over, Ent.bound, Kind.isStruct, Kind.isAgg, S.known, A.solid, segAt, segPut, segLen, R.a, R.len, A.r, stMake, stBuildSlice, litA, repA, rep1, fillA, putP, sing, stMin, stEqA, rowEq, Kind.isScal, -List.reduceReplicate, -List.getD_eq_getElem?_getD, tab22, ty22, tab3, ty3, tab4, ty4, ntmps5]; (repeat' apply And.intro); all_goals first | exact hK | omega)))
  rw [run_zero]
  rcases (Classical.em (∃ nk, n = 4 * nk ∧ (nk = 4 ∨ nk = 8))).symm with hnk | hnk
  · have h16 : n ≠ 16 := fun h => hnk ⟨4, by omega, .inl rfl⟩
    have h32 : n ≠ 32 := fun h => hnk ⟨8, by omega, .inr rfl⟩
    have h16' : (n : Int) ≠ 16 := by omega
    have h32' : (n : Int) ≠ 32 := by omega
    refine ok_run hB tabOK pureT_ok 100 ?_
    repeat (first
    | rw [run_ops0]
    | rw [run_seq]
    | rw [run_region]
    | rw [run_block]
    | rw [run_blk]
    | rw [run_skip]
    | (apply run_go rfl; focus (intro L K hK; simp [step1, evS, est, St.ev, St.put, St.add, St.upd, look_hit, look_miss, okd, stBin, bin, binS, binB, binI, shS, shB, S.num, constS, one, inI, stUn, stNil, stLoad, stAt, stField, stIndexAddr, stStore, wrAt, stAlloc, stBox, stIndex, stPart, stPartRow, stFieldV, stConv, cvS, cvB, cvI, stSlice, optN, SV.num, noMax, stArrPtr, stExtract, stLen, stBuild, A.isRow, A.isAgg, A.noRec, A.len, A.get, A.sub, A.set, A.over, Ent.bound, Kind.isStruct, Kind.isAgg, S.known, A.solid, segAt, segPut, segLen, R.a, R.len, A.r, stMake, stBuildSlice, litA, repA, rep1, fillA, putP, sing, stMin, stEqA, rowEq, Kind.isScal, -List.reduceReplicate, -List.getD_eq_getElem?_getD, tab22, ty22, tab3, ty3, tab4, ty4, ntmps5]; (repeat' apply And.intro); all_goals first | exact hK | omega)))
    apply run_guard rfl rfl rfl rfl
    · intro _
      (apply Exists.intro; apply And.intro; focus (intro L K hK; simp [step1, evS, est, St.ev, St.put, St.add, St.upd, look_hit, look_miss, okd, stBin, bin, binS, binB, binI, shS, shB, S.num, constS, one, inI, stUn, stNil, stLoad, stAt, stField, stIndexAddr, stStore, wrAt, stAlloc, stBox, stIndex, stPart, stPartRow, stFieldV, stConv, cvS, cvB, cvI, stSlice, optN, SV.num, noMax, stArrPtr, stExtract, stLen, stBuild, A.isRow, A.isAgg, A.noRec, A.len, A.get, A.sub, A.set, A.over, Ent.bound, Kind.isStruct, Kind.isAgg, S.known, A.solid, segAt, segPut, segLen, R.a, R.len, A.r, stMake, stBuildSlice, litA, repA, rep1, fillA, putP, sing, stMin, stEqA, rowEq, Kind.isScal, -List.reduceReplicate, -List.getD_eq_getElem?_getD, tab22, ty22, tab3, ty3, ntmps5]; (repeat' apply And.intro); all_goals first | exact hK | omega))
      apply run_guard rfl rfl rfl rfl
      · intro _
        (apply Exists.intro; apply And.intro; focus (intro L K hK; simp [step1, evS, est, St.ev, St.put, St.add, St.upd, look_hit, look_miss, okd, stBin, bin, binS, binB, binI, shS, shB, S.num, constS, one, inI, stUn, stNil, stLoad, stAt, stField, stIndexAddr, stStore, wrAt, stAlloc, stBox, stIndex, stPart, stPartRow, stFieldV, stConv, cvS, cvB, cvI, stSlice, optN, SV.num, noMax, stArrPtr, stExtract, stLen, stBuild, A.isRow, A.isAgg, A.noRec, A.len, A.get, A.sub, A.set, A.over, Ent.bound, Kind.isStruct, Kind.isAgg, S.known, A.solid, segAt, segPut, segLen, R.a, R.len, A.r, stMake, stBuildSlice, litA, repA, rep1, fillA, putP, sing, stMin, stEqA, rowEq, Kind.isScal, -List.reduceReplicate, -List.getD_eq_getElem?_getD, tab22, ty22, tab3, ty3, ntmps5]; (repeat' apply And.intro); all_goals first | exact hK | omega))
        apply run_guard rfl rfl rfl rfl
        · intro _
          (apply Exists.intro; apply And.intro; focus (intro L K hK; simp [step1, evS, est, St.ev, St.put, St.add, St.upd, look_hit, look_miss, okd, stBin, bin, binS, binB, binI, shS, shB, S.num, constS, one, inI, stUn, stNil, stLoad, stAt, stField, stIndexAddr, stStore, wrAt, stAlloc, stBox, stIndex, stPart, stPartRow, stFieldV, stConv, cvS, cvB, cvI, stSlice, optN, SV.num, noMax, stArrPtr, stExtract, stLen, stBuild, A.isRow, A.isAgg, A.noRec, A.len, A.get, A.sub, A.set, A.over, Ent.bound, Kind.isStruct, Kind.isAgg, S.known, A.solid, segAt, segPut, segLen, R.a, R.len, A.r, stMake, stBuildSlice, litA, repA, rep1, fillA, putP, sing, stMin, stEqA, rowEq, Kind.isScal, -List.reduceReplicate, -List.getD_eq_getElem?_getD, tab22, ty22, tab3, ty3, ntmps5]; (repeat' apply And.intro); all_goals first | exact hK | omega))
          repeat (first
    | rw [run_ops0]
    | rw [run_seq]
    | rw [run_region]
    | rw [run_block]
    | rw [run_blk]
    | rw [run_skip]
    | (apply run_go rfl; focus (intro L K hK; simp [step1, evS, est, St.ev, St.put, St.add, St.upd, look_hit, look_miss, okd, stBin, bin, binS, binB, binI, shS, shB, S.num, constS, one, inI, stUn, stNil, stLoad, stAt, stField, stIndexAddr, stStore, wrAt, stAlloc, stBox, stIndex, stPart, stPartRow, stFieldV, stConv, cvS, cvB, cvI, stSlice, optN, SV.num, noMax, stArrPtr, stExtract, stLen, stBuild, A.isRow, A.isAgg, A.noRec, A.len, A.get, A.sub, A.set, A.over, Ent.bound, Kind.isStruct, Kind.isAgg, S.known, A.solid, segAt, segPut, segLen, R.a, R.len, A.r, stMake, stBuildSlice, litA, repA, rep1, fillA, putP, sing, stMin, stEqA, rowEq, Kind.isScal, -List.reduceReplicate, -List.getD_eq_getElem?_getD, tab22, ty22, tab3, ty3, tab4, ty4, ntmps5]; (repeat' apply And.intro); all_goals first | exact hK | omega)))
          apply run_cond2 rfl
          · intro _
            repeat (first
    | rw [run_ops0]
    | rw [run_seq]
    | rw [run_region]
    | rw [run_block]
    | rw [run_blk]
    | rw [run_skip]
    | (apply run_go rfl; focus (intro L K hK; simp [step1, evS, est, St.ev, St.put, St.add, St.upd, look_hit, look_miss, okd, stBin, bin, binS, binB, binI, shS, shB, S.num, constS, one, inI, stUn, stNil, stLoad, stAt, stField, stIndexAddr, stStore, wrAt, stAlloc, stBox, stIndex, stPart, stPartRow, stFieldV, stConv, cvS, cvB, cvI, stSlice, optN, SV.num, noMax, stArrPtr, stExtract, stLen, stBuild, A.isRow, A.isAgg, A.noRec, A.len, A.get, A.sub, A.set, A.over, Ent.bound, Kind.isStruct, Kind.isAgg, S.known, A.solid, segAt, segPut, segLen, R.a, R.len, A.r, stMake, stBuildSlice, litA, repA, rep1, fillA, putP, sing, stMin, stEqA, rowEq, Kind.isScal, -List.reduceReplicate, -List.getD_eq_getElem?_getD, tab22, ty22, tab3, ty3, tab4, ty4, ntmps5]; (repeat' apply And.intro); all_goals first | exact hK | omega)))
            rw [run_ret]
            simp [finOf, resP, resV, extraOwn, look_hit, look_miss, one, -List.reduceReplicate, -List.getD_eq_getElem?_getD, stLoad, stAt, Ent.bound, A.len, A.isRow, A.isAgg, results5, f5]
          · intro h; first | (simp at h; done) | (simp at h; omega)
        · intro h; first | cases h | (simp at h; done) | (simp at h; omega)
      · intro h; first | cases h | (simp at h; done) | (simp at h; omega)
    · intro h; first | cases h | (simp at h; done) | (simp at h; omega)
  · obtain ⟨nk, rfl, hnk⟩ := hnk
    refine ok_join (X := Unit) (fun _ => ⟨[(22, one (.b false)), (3, one (.ptr 1 0 0)), (0, one (.sl 0 0 (4 * nk) cap0 1))], [.ent ⟨false, 5, none, .a8 key⟩, .ent ⟨true, 23, some 16, .a8 b⟩]⟩) (fun _ => True) (fun j i L h => by have := hB.anc i L h; simp at this ⊢; omega) ?_ ?_
    · refine ok_run hB tabOK pureT_ok 100 ?_
      repeat (first
    | rw [run_ops0]
    | rw [run_seq]
    | rw [run_region]
    | rw [run_block]
    | rw [run_blk]
    | rw [run_skip]
    | (apply run_go rfl; focus (intro L K hK; simp [step1, evS, est, St.ev, St.put, St.add, St.upd, look_hit, look_miss, okd, stBin, bin, binS, binB, binI, shS, shB, S.num, constS, one, inI, stUn, stNil, stLoad, stAt, stField, stIndexAddr, stStore, wrAt, stAlloc, stBox, stIndex, stPart, stPartRow, stFieldV, stConv, cvS, cvB, cvI, stSlice, optN, SV.num, noMax, stArrPtr, stExtract, stLen, stBuild, A.isRow, A.isAgg, A.noRec, A.len, A.get, A.sub, A.set, A.over, Ent.bound, Kind.isStruct, Kind.isAgg, S.known, A.solid, segAt, segPut, segLen, R.a, R.len, A.r, stMake, stBuildSlice, litA, repA, rep1, fillA, putP, sing, stMin, stEqA, rowEq, Kind.isScal, -List.reduceReplicate, -List.getD_eq_getElem?_getD, tab22, ty22, tab3, ty3, ntmps5]; (repeat' apply And.intro); all_goals first | exact hK | omega)))
      apply run_guard rfl rfl rfl rfl
      · intro h
        simp at h
        obtain rfl : nk = 8 := by omega
        (apply Exists.intro; apply And.intro; focus (intro L K hK; simp [step1, evS, est, St.ev, St.put, St.add, St.upd, look_hit, look_miss, okd, stBin, bin, binS, binB, binI, shS, shB, S.num, constS, one, inI, stUn, stNil, stLoad, stAt, stField, stIndexAddr, stStore, wrAt, stAlloc, stBox, stIndex, stPart, stPartRow, stFieldV, stConv, cvS, cvB, cvI, stSlice, optN, SV.num, noMax, stArrPtr, stExtract, stLen, stBuild, A.isRow, A.isAgg, A.noRec, A.len, A.get, A.sub, A.set, A.over, Ent.bound, Kind.isStruct, Kind.isAgg, S.known, A.solid, segAt, segPut, segLen, R.a, R.len, A.r, stMake, stBuildSlice, litA, repA, rep1, fillA, putP, sing, stMin, stEqA, rowEq, Kind.isScal, -List.reduceReplicate, -List.getD_eq_getElem?_getD, tab22, ty22, tab3, ty3, ntmps5]; (repeat' apply And.intro); all_goals first | exact hK | omega))
        apply run_guard rfl rfl rfl rfl
        · intro _
          (apply Exists.intro; apply And.intro; focus (intro L K hK; simp [step1, evS, est, St.ev, St.put, St.add, St.upd, look_hit, look_miss, okd, stBin, bin, binS, binB, binI, shS, shB, S.num, constS, one, inI, stUn, stNil, stLoad, stAt, stField, stIndexAddr, stStore, wrAt, stAlloc, stBox, stIndex, stPart, stPartRow, stFieldV, stConv, cvS, cvB, cvI, stSlice, optN, SV.num, noMax, stArrPtr, stExtract, stLen, stBuild, A.isRow, A.isAgg, A.noRec, A.len, A.get, A.sub, A.set, A.over, Ent.bound, Kind.isStruct, Kind.isAgg, S.known, A.solid, segAt, segPut, segLen, R.a, R.len, A.r, stMake, stBuildSlice, litA, repA, rep1, fillA, putP, sing, stMin, stEqA, rowEq, Kind.isScal, -List.reduceReplicate, -List.getD_eq_getElem?_getD, tab22, ty22, tab3, ty3, ntmps5]; (repeat' apply And.intro); all_goals first | exact hK | omega))
          apply run_guard rfl rfl rfl rfl
          · intro _
            (apply Exists.intro; apply And.intro; focus (intro L K hK; simp [step1, evS, est, St.ev, St.put, St.add, St.upd, look_hit, look_miss, okd, stBin, bin, binS, binB, binI, shS, shB, S.num, constS, one, inI, stUn, stNil, stLoad, stAt, stField, stIndexAddr, stStore, wrAt, stAlloc, stBox, stIndex, stPart, stPartRow, stFieldV, stConv, cvS, cvB, cvI, stSlice, optN, SV.num, noMax, stArrPtr, stExtract, stLen, stBuild, A.isRow, A.isAgg, A.noRec, A.len, A.get, A.sub, A.set, A.over, Ent.bound, Kind.isStruct, Kind.isAgg, S.known, A.solid, segAt, segPut, segLen, R.a, R.len, A.r, stMake, stBuildSlice, litA, repA, rep1, fillA, putP, sing, stMin, stEqA, rowEq, Kind.isScal, -List.reduceReplicate, -List.getD_eq_getElem?_getD, tab22, ty22, tab3, ty3, ntmps5]; (repeat' apply And.intro); all_goals first | exact hK | omega))
            repeat (first
    | rw [run_ops0]
    | rw [run_seq]
    | rw [run_region]
    | rw [run_block]
    | rw [run_blk]
    | rw [run_skip]
    | (apply run_go rfl; focus (intro L K hK; simp [step1, evS, est, St.ev, St.put, St.add, St.upd, look_hit, look_miss, okd, stBin, bin, binS, binB, binI, shS, shB, S.num, constS, one, inI, stUn, stNil, stLoad, stAt, stField, stIndexAddr, stStore, wrAt, stAlloc, stBox, stIndex, stPart, stPartRow, stFieldV, stConv, cvS, cvB, cvI, stSlice, optN, SV.num, noMax, stArrPtr, stExtract, stLen, stBuild, A.isRow, A.isAgg, A.noRec, A.len, A.get, A.sub, A.set, A.over, Ent.bound, Kind.isStruct, Kind.isAgg, S.known, A.solid, segAt, segPut, segLen, R.a, R.len, A.r, stMake, stBuildSlice, litA, repA, rep1, fillA, putP, sing, stMin, stEqA, rowEq, Kind.isScal, -List.reduceReplicate, -List.getD_eq_getElem?_getD, tab22, ty22, tab3, ty3, tab4, ty4, ntmps5]; (repeat' apply And.intro); all_goals first | exact hK | omega)))
            rw [run_back]
            refine ⟨(), trivial, ?_⟩
            simp [Ent2, entSl, entM, belSl, belV, belA, belS, belR, belM, look_hit, look_miss, one, -List.getD_eq_getElem?_getD]
          · intro h; cases h
        · intro h; cases h
      · intro h
        simp at h
        obtain rfl : nk = 4 := by omega
        refine ⟨Nat.le_of_ble_eq_true rfl, ?_⟩
        simp only [St.put]
        apply run_guard rfl rfl rfl rfl
        · intro h; cases h
        intro _
        refine ⟨Nat.le_of_ble_eq_true rfl, ?_⟩
        simp only [St.put]
        apply run_guard rfl rfl rfl rfl
        · intro h; cases h
        intro _
        refine ⟨Nat.le_of_ble_eq_true rfl, ?_⟩
        simp only [St.put]
        repeat (first
    | rw [run_ops0]
    | rw [run_seq]
    | rw [run_region]
    | rw [run_block]
    | rw [run_blk]
    | rw [run_skip]
    | (apply run_go rfl; focus (intro L K hK; simp [step1, evS, est, St.ev, St.put, St.add, St.upd, look_hit, look_miss, okd, stBin, bin, binS, binB, binI, shS, shB, S.num, constS, one, inI, stUn, stNil, stLoad, stAt, stField, stIndexAddr, stStore, wrAt, stAlloc, stBox, stIndex, stPart, stPartRow, stFieldV, stConv, cvS, cvB, cvI, stSlice, optN, SV.num, noMax, stArrPtr, stExtract, stLen, stBuild, A.isRow, A.isAgg, A.noRec, A.len, A.get, A.sub, A.set, A.over, Ent.bound, Kind.isStruct, Kind.isAgg, S.known, A.solid, segAt, segPut, segLen, R.a, R.len, A.r, stMake, stBuildSlice, litA, repA, rep1, fillA, putP, sing, stMin, stEqA, rowEq, Kind.isScal, -List.reduceReplicate, -List.getD_eq_getElem?_getD, tab22, ty22, tab3, ty3, tab4, ty4, ntmps5]; (repeat' apply And.intro); all_goals first | exact hK | omega)))
        rw [run_back]
        refine ⟨(), trivial, ?_⟩
        simp [Ent2, entSl, entM, belSl, belV, belA, belS, belR, belM, look_hit, look_miss, one, -List.getD_eq_getElem?_getD]
    · intro _ _
      refine ok_run hB tabOK pureT_ok 100 ?_
      apply run_cond2 rfl
      · intro h; cases h
      intro _
      repeat (first
    | rw [run_ops0]
    | rw [run_seq]
    | rw [run_region]
    | rw [run_block]
    | rw [run_blk]
    | rw [run_skip]
    | (apply run_go rfl; focus (intro L K hK; simp [step1, evS, est, St.ev, St.put, St.add, St.upd, look_hit, look_miss, okd, stBin, bin, binS, binB, binI, shS, shB, S.num, constS, one, inI, stUn, stNil, stLoad, stAt, stField, stIndexAddr, stStore, wrAt, stAlloc, stBox, stIndex, stPart, stPartRow, stFieldV, stConv, cvS, cvB, cvI, stSlice, optN, SV.num, noMax, stArrPtr, stExtract, stLen, stBuild, A.isRow, A.isAgg, A.noRec, A.len, A.get, A.sub, A.set, A.over, Ent.bound, Kind.isStruct, Kind.isAgg, S.known, A.solid, segAt, segPut, segLen, R.a, R.len, A.r, stMake, stBuildSlice, litA, repA, rep1, fillA, putP, sing, stMin, stEqA, rowEq, Kind.isScal, -List.reduceReplicate, -List.getD_eq_getElem?_getD, tab22, ty22, tab3, ty3, tab4, ty4, ntmps5]; (repeat' apply And.intro); all_goals first | exact hK | omega)))
      refine run_call rfl rfl rfl rfl ?_
      refine ok_call [0] rfl rfl ⟨f21, func21, nofun, by decide⟩ (spec21 key nk cap0 hk hnk hcap0) trivial (by simp) (by simp [matchM, ix, renA, belA]) rfl rfl (Nat.le_of_ble_eq_true rfl) ?_
      rintro sv m' ⟨rfl, cap, rfl⟩ _
      obtain ⟨W, hWe, hWl, hWr⟩ := newW hk hnk
      simp only [newMem, hWe, afterM, putM, renMk, renA, renSeg, renR, renS, renV, ix, St.put, List.map_cons, List.map_nil, List.drop, List.length_cons, List.length_nil, List.cons_append, List.nil_append]
      simp
      refine ok_run hB tabOK pureT_ok 100 ?_
      repeat (first
    | rw [run_ops0]
    | rw [run_seq]
    | rw [run_region]
    | rw [run_block]
    | rw [run_blk]
    | rw [run_skip]
    | (apply run_go rfl; focus (intro L K hK; simp [step1, evS, est, St.ev, St.put, St.add, St.upd, look_hit, look_miss, okd, stBin, bin, binS, binB, binI, shS, shB, S.num, constS, one, inI, stUn, stNil, stLoad, stAt, stField, stIndexAddr, stStore, wrAt, stAlloc, stBox, stIndex, stPart, stPartRow, stFieldV, stConv, cvS, cvB, cvI, stSlice, optN, SV.num, noMax, stArrPtr, stExtract, stLen, stBuild, A.isRow, A.isAgg, A.noRec, A.len, A.get, A.sub, A.set, A.over, Ent.bound, Kind.isStruct, Kind.isAgg, S.known, A.solid, segAt, segPut, segLen, R.a, R.len, A.r, stMake, stBuildSlice, litA, repA, rep1, fillA, putP, sing, stMin, stEqA, rowEq, Kind.isScal, -List.reduceReplicate, -List.getD_eq_getElem?_getD, tab3, ty3, tab22, ty22, tab25, ty25, tab26, ty26, ntmps5]; (repeat' apply And.intro); all_goals first | exact hK | omega)))
      refine run_call rfl rfl rfl rfl ?_
      refine ok_call [0] rfl rfl ⟨f22, func22, nofun, by decide⟩ (spec22 key nk cap0 hk hnk hcap0) trivial (by simp) (by simp [matchM, ix, renA, belA]) rfl rfl (Nat.le_of_ble_eq_true rfl) ?_
      rintro sv m' ⟨rfl, capr, rfl⟩ _
      simp only [rnewMem, hWr, afterM, putM, renMk, renA, renSeg, renR, renS, renV, ix, St.put, List.map_cons, List.map_nil, List.drop, List.length_cons, List.length_nil, List.cons_append, List.nil_append, one]
      simp
      refine ok_run hB tabOK pureT_ok 100 ?_
      repeat (first
    | rw [run_ops0]
    | rw [run_seq]
    | rw [run_region]
    | rw [run_block]
    | rw [run_blk]
    | rw [run_skip]
    | (apply run_go rfl; focus (intro L K hK; simp [step1, evS, est, St.ev, St.put, St.add, St.upd, look_hit, look_miss, okd, stBin, bin, binS, binB, binI, shS, shB, S.num, constS, one, inI, stUn, stNil, stLoad, stAt, stField, stIndexAddr, stStore, wrAt, stAlloc, stBox, stIndex, stPart, stPartRow, stFieldV, stConv, cvS, cvB, cvI, stSlice, optN, SV.num, noMax, stArrPtr, stExtract, stLen, stBuild, A.isRow, A.isAgg, A.noRec, A.len, A.get, A.sub, A.set, A.over, Ent.bound, Kind.isStruct, Kind.isAgg, S.known, A.solid, segAt, segPut, segLen, R.a, R.len, A.r, stMake, stBuildSlice, litA, repA, rep1, fillA, putP, sing, stMin, stEqA, rowEq, Kind.isScal, -List.reduceReplicate, -List.getD_eq_getElem?_getD, tab3, ty3, tab29, ty29, tab22, ty22, ntmps5]; (repeat' apply And.intro); all_goals first | exact hK | omega)))
      have htk : key.take (4 * nk) = key := List.take_of_length_le (by omega)
      (apply run_app rfl; focus (intro L K hK; simp [step1, evS, est, St.ev, St.put, St.add, St.upd, look_hit, look_miss, okd, stBin, bin, binS, binB, binI, shS, shB, S.num, constS, one, inI, stUn, stNil, stLoad, stAt, stField, stIndexAddr, stStore, wrAt, stAlloc, stBox, stIndex, stPart, stPartRow, stFieldV, stConv, cvS, cvB, cvI, stSlice, optN, SV.num, noMax, stArrPtr, stExtract, stLen, stBuild, A.isRow, A.isAgg, A.noRec, A.len, A.get, A.sub, A.set, A.over, Ent.bound, Kind.isStruct, Kind.isAgg, S.known, A.solid, segAt, segPut, segLen, R.a, R.len, A.r, stMake, stBuildSlice, litA, repA, rep1, fillA, putP, sing, stMin, stEqA, rowEq, Kind.isScal, -List.reduceReplicate, -List.getD_eq_getElem?_getD, stAppend, srcRow, SrcTy, A.cat, killSl, killV, killA, killS, killE, killSeg, killR, tab22, ty22, tab5, ty5, ntmps5, hk, htk, fill]; (repeat' apply And.intro); all_goals first | exact hK | omega | (intro cap hcap; exact hK cap hcap)))
      intro capb hcapb
      repeat (first
    | rw [run_ops0]
    | rw [run_seq]
    | rw [run_region]
    | rw [run_block]
    | rw [run_blk]
    | rw [run_skip]
    | (apply run_go rfl; focus (intro L K hK; simp [step1, evS, est, St.ev, St.put, St.add, St.upd, look_hit, look_miss, okd, stBin, bin, binS, binB, binI, shS, shB, S.num, constS, one, inI, stUn, stNil, stLoad, stAt, stField, stIndexAddr, stStore, wrAt, stAlloc, stBox, stIndex, stPart, stPartRow, stFieldV, stConv, cvS, cvB, cvI, stSlice, optN, SV.num, noMax, stArrPtr, stExtract, stLen, stBuild, A.isRow, A.isAgg, A.noRec, A.len, A.get, A.sub, A.set, A.over, Ent.bound, Kind.isStruct, Kind.isAgg, S.known, A.solid, segAt, segPut, segLen, R.a, R.len, A.r, stMake, stBuildSlice, litA, repA, rep1, fillA, putP, sing, stMin, stEqA, rowEq, Kind.isScal, -List.reduceReplicate, -List.getD_eq_getElem?_getD, tab3, ty3, tab29, ty29, tab22, ty22, ntmps5]; (repeat' apply And.intro); all_goals first | exact hK | omega)))
      refine run_call rfl rfl rfl rfl ?_
      refine ok_call [7] rfl rfl ⟨f21, func21, nofun, by decide⟩ (spec21 key nk capb hk hnk (by omega)) trivial (by simp) (by simp [matchM, ix, renA, belA, fill]) rfl rfl (Nat.le_of_ble_eq_true rfl) ?_
      rintro sv m' ⟨rfl, cap2, rfl⟩ _
      simp only [newMem, hWe, afterM, putM, renMk, renA, renSeg, renR, renS, renV, ix, St.put, List.map_cons, List.map_nil, List.drop, List.length_cons, List.length_nil, List.cons_append, List.nil_append]
      simp
      refine ok_run hB tabOK pureT_ok 100 ?_
      repeat (first
    | rw [run_ops0]
    | rw [run_seq]
    | rw [run_region]
    | rw [run_block]
    | rw [run_blk]
    | rw [run_skip]
    | (apply run_go rfl; focus (intro L K hK; simp [step1, evS, est, St.ev, St.put, St.add, St.upd, look_hit, look_miss, okd, stBin, bin, binS, binB, binI, shS, shB, S.num, constS, one, inI, stUn, stNil, stLoad, stAt, stField, stIndexAddr, stStore, wrAt, stAlloc, stBox, stIndex, stPart, stPartRow, stFieldV, stConv, cvS, cvB, cvI, stSlice, optN, SV.num, noMax, stArrPtr, stExtract, stLen, stBuild, A.isRow, A.isAgg, A.noRec, A.len, A.get, A.sub, A.set, A.over, Ent.bound, Kind.isStruct, Kind.isAgg, S.known, A.solid, segAt, segPut, segLen, R.a, R.len, A.r, stMake, stBuildSlice, litA, repA, rep1, fillA, putP, sing, stMin, stEqA, rowEq, Kind.isScal, -List.reduceReplicate, -List.getD_eq_getElem?_getD, tab3, ty3, tab22, ty22, tab25, ty25, tab26, ty26, ntmps5]; (repeat' apply And.intro); all_goals first | exact hK | omega)))
      rw [run_loop]
      refine ok_loop (X := Nat) (fun j => ⟨[(39, one (.i j)), (38, one (.i (4 * nk : Nat))), (37, one (.sl 7 0 (4 * nk) capb 1)), (9, one (.ptr 9 0 0)), (8, one (.sl 7 0 (4 * nk) capb 1)), (7, one (.ptr 5 0 0)), (5, one (.ptr 3 0 0)), (3, one (.ptr 1 0 0))], [.ent ⟨false, 5, none, .a8 key⟩, .ent ⟨true, 23, some 16, .a8 b⟩, .ent ⟨true, 99, none, .a8 W⟩, .ent ⟨true, 105, some 1, .st [⟨1, .s (.sl 4 0 (nk + 7) cap 16)⟩]⟩, .ent ⟨true, 23, none, .a8 W⟩, .ent ⟨true, 110, some 258, .st [⟨1, .s (.sl 6 0 (4 * (nk + 7)) capr 4)⟩, ⟨256, .ai (tabR 256)⟩, ⟨1, .s (.i nk)⟩]⟩, .ent ⟨true, 111, none, .ai (toI W)⟩, .ent ⟨true, 5, none, .a8 (flipT key j)⟩, .ent ⟨true, 99, none, .a8 W⟩, .ent ⟨true, 105, some 1, .st [⟨1, .s (.sl 10 0 (nk + 7) cap2 16)⟩]⟩, .ent ⟨true, 23, none, .a8 W⟩]⟩) (fun j => j ≤ 4 * nk) (fun j => 4 * nk - j) (fun j i L h => by have := hB.anc i L h; simp at this ⊢; omega) ⟨0, by omega, by simp [Ent2, entSl, entM, belSl, belV, belA, belS, belR, belM, look_hit, look_miss, one, -List.getD_eq_getElem?_getD, flipT]⟩ ?_
      intro j hj
      refine ok_run hB tabOK pureT_ok 100 ?_
      have hfl := flipT_len key j
      repeat (first
    | rw [run_ops0]
    | rw [run_seq]
    | rw [run_region]
    | rw [run_block]
    | rw [run_blk]
    | rw [run_skip]
    | (apply run_go rfl; focus (intro L K hK; simp [step1, evS, est, St.ev, St.put, St.add, St.upd, look_hit, look_miss, okd, stBin, bin, binS, binB, binI, shS, shB, S.num, constS, one, inI, stUn, stNil, stLoad, stAt, stField, stIndexAddr, stStore, wrAt, stAlloc, stBox, stIndex, stPart, stPartRow, stFieldV, stConv, cvS, cvB, cvI, stSlice, optN, SV.num, noMax, stArrPtr, stExtract, stLen, stBuild, A.isRow, A.isAgg, A.noRec, A.len, A.get, A.sub, A.set, A.over, Ent.bound, Kind.isStruct, Kind.isAgg, S.known, A.solid, segAt, segPut, segLen, R.a, R.len, A.r, stMake, stBuildSlice, litA, repA, rep1, fillA, putP, sing, stMin, stEqA, rowEq, Kind.isScal, -List.reduceReplicate, -List.getD_eq_getElem?_getD, tab3, ty3, ntmps5]; (repeat' apply And.intro); all_goals first | exact hK | omega)))
      apply run_cond2 rfl
      · intro h
        simp at h
        repeat (first
    | rw [run_ops0]
    | rw [run_seq]
    | rw [run_region]
    | rw [run_block]
    | rw [run_blk]
    | rw [run_skip]
    | (apply run_go rfl; focus (intro L K hK; simp [step1, evS, est, St.ev, St.put, St.add, St.upd, look_hit, look_miss, okd, stBin, bin, binS, binB, binI, shS, shB, S.num, constS, one, inI, stUn, stNil, stLoad, stAt, stField, stIndexAddr, stStore, wrAt, stAlloc, stBox, stIndex, stPart, stPartRow, stFieldV, stConv, cvS, cvB, cvI, stSlice, optN, SV.num, noMax, stArrPtr, stExtract, stLen, stBuild, A.isRow, A.isAgg, A.noRec, A.len, A.get, A.sub, A.set, A.over, Ent.bound, Kind.isStruct, Kind.isAgg, S.known, A.solid, segAt, segPut, segLen, R.a, R.len, A.r, stMake, stBuildSlice, litA, repA, rep1, fillA, putP, sing, stMin, stEqA, rowEq, Kind.isScal, -List.reduceReplicate, -List.getD_eq_getElem?_getD, tab3, ty3, tab22, ty22, tab5, ty5, ntmps5, hfl, hk]; (repeat' apply And.intro); all_goals first | exact hK | omega)))
        rw [run_back]
        refine ⟨j + 1, by omega, by omega, ?_⟩
        simp [Ent2, entSl, entM, belSl, belV, belA, belS, belR, belM, look_hit, look_miss, one, -List.getD_eq_getElem?_getD, flipT]
      · intro h
        simp at h
        obtain rfl : j = 4 * nk := by omega
        apply run_exit2 rfl
        have hkf := kfit hb hWl hnk
        have hrf := rfit hb hWl hnk
        have hbe := block_eq tab_ok hb W nk
        repeat (first
    | rw [run_ops0]
    | rw [run_seq]
    | rw [run_region]
    | rw [run_block]
    | rw [run_blk]
    | rw [run_skip]
    | (apply run_go rfl; focus (intro L K hK; simp [step1, evS, est, St.ev, St.put, St.add, St.upd, look_hit, look_miss, okd, stBin, bin, binS, binB, binI, shS, shB, S.num, constS, one, inI, stUn, stNil, stLoad, stAt, stField, stIndexAddr, stStore, wrAt, stAlloc, stBox, stIndex, stPart, stPartRow, stFieldV, stConv, cvS, cvB, cvI, stSlice, optN, SV.num, noMax, stArrPtr, stExtract, stLen, stBuild, A.isRow, A.isAgg, A.noRec, A.len, A.get, A.sub, A.set, A.over, Ent.bound, Kind.isStruct, Kind.isAgg, S.known, A.solid, segAt, segPut, segLen, R.a, R.len, A.r, stMake, stBuildSlice, litA, repA, rep1, fillA, putP, sing, stMin, stEqA, rowEq, Kind.isScal, -List.reduceReplicate, -List.getD_eq_getElem?_getD, tab3, ty3, tab22, ty22, tab25, ty25, tab26, ty26, tab29, ty29, tab23, ty23, tab5, ty5, tab4, ty4, hkf, hrf, hb, hbe, rounds_len, pureK, kOf, rOf, ntmps5]; (repeat' apply And.intro); all_goals first | exact hK | omega)))
        rw [run_draw]
        refine ok_draw2 19 tabOK pureT_ok (pureK_mono _) mixed (by decide +kernel) rfl rfl ?_
        repeat (first
    | (apply hd_go rfl rfl rfl rfl (Nat.le_of_ble_eq_true rfl); focus (intro K' hK; simp [step1, evS, est, St.ev, St.put, St.add, St.upd, look_hit, look_miss, okd, stBin, bin, binS, binB, binI, shS, shB, S.num, constS, one, inI, stUn, stNil, stLoad, stAt, stField, stIndexAddr, stStore, wrAt, stAlloc, stBox, stIndex, stPart, stPartRow, stFieldV, stConv, cvS, cvB, cvI, stSlice, optN, SV.num, noMax, stArrPtr, stExtract, stLen, stBuild, A.isRow, A.isAgg, A.noRec, A.len, A.get, A.sub, A.set, A.over, Ent.bound, Kind.isStruct, Kind.isAgg, S.known, A.solid, segAt, segPut, segLen, R.a, R.len, A.r, stMake, stBuildSlice, litA, repA, rep1, fillA, putP, sing, stMin, stEqA, rowEq, Kind.isScal, -List.reduceReplicate, -List.getD_eq_getElem?_getD, tab3, ty3, tab22, ty22, tab25, ty25, tab26, ty26, tab29, ty29, tab23, ty23, tab5, ty5, tab4, ty4, hkf, hrf, hb, hbe, rounds_len, pureK, kOf, rOf]; (repeat' apply And.intro); all_goals first | exact hK | omega))
    | (apply hd_new rfl rfl rfl rfl (Nat.le_of_ble_eq_true rfl); focus (intro K' hK; simp [step1, evS, est, St.ev, St.put, St.add, St.upd, look_hit, look_miss, okd, stBin, bin, binS, binB, binI, shS, shB, S.num, constS, one, inI, stUn, stNil, stLoad, stAt, stField, stIndexAddr, stStore, wrAt, stAlloc, stBox, stIndex, stPart, stPartRow, stFieldV, stConv, cvS, cvB, cvI, stSlice, optN, SV.num, noMax, stArrPtr, stExtract, stLen, stBuild, A.isRow, A.isAgg, A.noRec, A.len, A.get, A.sub, A.set, A.over, Ent.bound, Kind.isStruct, Kind.isAgg, S.known, A.solid, segAt, segPut, segLen, R.a, R.len, A.r, stMake, stBuildSlice, litA, repA, rep1, fillA, putP, sing, stMin, stEqA, rowEq, Kind.isScal, -List.reduceReplicate, -List.getD_eq_getElem?_getD, tab3, ty3, tab22, ty22, tab25, ty25, tab26, ty26, tab29, ty29, tab23, ty23, tab5, ty5, tab4, ty4, hkf, hrf, hb, hbe, rounds_len, pureK, kOf, rOf]; (repeat' apply And.intro); all_goals first | exact hK | omega)))
        apply hd_guard rfl rfl rfl rfl rfl (Nat.le_of_ble_eq_true rfl) rfl
        · intro _
          (apply Exists.intro; apply And.intro; focus (intro K' hK; simp [step1, evS, est, St.ev, St.put, St.add, St.upd, look_hit, look_miss, okd, stBin, bin, binS, binB, binI, shS, shB, S.num, constS, one, inI, stUn, stNil, stLoad, stAt, stField, stIndexAddr, stStore, wrAt, stAlloc, stBox, stIndex, stPart, stPartRow, stFieldV, stConv, cvS, cvB, cvI, stSlice, optN, SV.num, noMax, stArrPtr, stExtract, stLen, stBuild, A.isRow, A.isAgg, A.noRec, A.len, A.get, A.sub, A.set, A.over, Ent.bound, Kind.isStruct, Kind.isAgg, S.known, A.solid, segAt, segPut, segLen, R.a, R.len, A.r, stMake, stBuildSlice, litA, repA, rep1, fillA, putP, sing, stMin, stEqA, rowEq, Kind.isScal, -List.reduceReplicate, -List.getD_eq_getElem?_getD, tab3, ty3, tab22, ty22, tab25, ty25, tab26, ty26, tab29, ty29, tab23, ty23, tab5, ty5, tab4, ty4, hkf, hrf, hb, hbe, rounds_len, pureK, kOf, rOf]; (repeat' apply And.intro); all_goals first | exact hK | omega))
          apply hd_guard rfl rfl rfl rfl rfl (Nat.le_of_ble_eq_true rfl) rfl
          · intro _
            (apply Exists.intro; apply And.intro; focus (intro K' hK; simp [step1, evS, est, St.ev, St.put, St.add, St.upd, look_hit, look_miss, okd, stBin, bin, binS, binB, binI, shS, shB, S.num, constS, one, inI, stUn, stNil, stLoad, stAt, stField, stIndexAddr, stStore, wrAt, stAlloc, stBox, stIndex, stPart, stPartRow, stFieldV, stConv, cvS, cvB, cvI, stSlice, optN, SV.num, noMax, stArrPtr, stExtract, stLen, stBuild, A.isRow, A.isAgg, A.noRec, A.len, A.get, A.sub, A.set, A.over, Ent.bound, Kind.isStruct, Kind.isAgg, S.known, A.solid, segAt, segPut, segLen, R.a, R.len, A.r, stMake, stBuildSlice, litA, repA, rep1, fillA, putP, sing, stMin, stEqA, rowEq, Kind.isScal, -List.reduceReplicate, -List.getD_eq_getElem?_getD, tab3, ty3, tab22, ty22, tab25, ty25, tab26, ty26, tab29, ty29, tab23, ty23, tab5, ty5, tab4, ty4, hkf, hrf, hb, hbe, rounds_len, pureK, kOf, rOf]; (repeat' apply And.intro); all_goals first | exact hK | omega))
            apply hd_guard rfl rfl rfl rfl rfl (Nat.le_of_ble_eq_true rfl) rfl
            · intro _
              (apply Exists.intro; apply And.intro; focus (intro K' hK; simp [step1, evS, est, St.ev, St.put, St.add, St.upd, look_hit, look_miss, okd, stBin, bin, binS, binB, binI, shS, shB, S.num, constS, one, inI, stUn, stNil, stLoad, stAt, stField, stIndexAddr, stStore, wrAt, stAlloc, stBox, stIndex, stPart, stPartRow, stFieldV, stConv, cvS, cvB, cvI, stSlice, optN, SV.num, noMax, stArrPtr, stExtract, stLen, stBuild, A.isRow, A.isAgg, A.noRec, A.len, A.get, A.sub, A.set, A.over, Ent.bound, Kind.isStruct, Kind.isAgg, S.known, A.solid, segAt, segPut, segLen, R.a, R.len, A.r, stMake, stBuildSlice, litA, repA, rep1, fillA, putP, sing, stMin, stEqA, rowEq, Kind.isScal, -List.reduceReplicate, -List.getD_eq_getElem?_getD, tab3, ty3, tab22, ty22, tab25, ty25, tab26, ty26, tab29, ty29, tab23, ty23, tab5, ty5, tab4, ty4, hkf, hrf, hb, hbe, rounds_len, pureK, kOf, rOf]; (repeat' apply And.intro); all_goals first | exact hK | omega))
              apply hd_guard rfl rfl rfl rfl rfl (Nat.le_of_ble_eq_true rfl) rfl
              · intro _
                (apply Exists.intro; apply And.intro; focus (intro K' hK; simp [step1, evS, est, St.ev, St.put, St.add, St.upd, look_hit, look_miss, okd, stBin, bin, binS, binB, binI, shS, shB, S.num, constS, one, inI, stUn, stNil, stLoad, stAt, stField, stIndexAddr, stStore, wrAt, stAlloc, stBox, stIndex, stPart, stPartRow, stFieldV, stConv, cvS, cvB, cvI, stSlice, optN, SV.num, noMax, stArrPtr, stExtract, stLen, stBuild, A.isRow, A.isAgg, A.noRec, A.len, A.get, A.sub, A.set, A.over, Ent.bound, Kind.isStruct, Kind.isAgg, S.known, A.solid, segAt, segPut, segLen, R.a, R.len, A.r, stMake, stBuildSlice, litA, repA, rep1, fillA, putP, sing, stMin, stEqA, rowEq, Kind.isScal, -List.reduceReplicate, -List.getD_eq_getElem?_getD, tab3, ty3, tab22, ty22, tab25, ty25, tab26, ty26, tab29, ty29, tab23, ty23, tab5, ty5, tab4, ty4, hkf, hrf, hb, hbe, rounds_len, pureK, kOf, rOf]; (repeat' apply And.intro); all_goals first | exact hK | omega))
                apply hd_guard rfl rfl rfl rfl rfl (Nat.le_of_ble_eq_true rfl) rfl
                · intro _
                  (apply Exists.intro; apply And.intro; focus (intro K' hK; simp [step1, evS, est, St.ev, St.put, St.add, St.upd, look_hit, look_miss, okd, stBin, bin, binS, binB, binI, shS, shB, S.num, constS, one, inI, stUn, stNil, stLoad, stAt, stField, stIndexAddr, stStore, wrAt, stAlloc, stBox, stIndex, stPart, stPartRow, stFieldV, stConv, cvS, cvB, cvI, stSlice, optN, SV.num, noMax, stArrPtr, stExtract, stLen, stBuild, A.isRow, A.isAgg, A.noRec, A.len, A.get, A.sub, A.set, A.over, Ent.bound, Kind.isStruct, Kind.isAgg, S.known, A.solid, segAt, segPut, segLen, R.a, R.len, A.r, stMake, stBuildSlice, litA, repA, rep1, fillA, putP, sing, stMin, stEqA, rowEq, Kind.isScal, -List.reduceReplicate, -List.getD_eq_getElem?_getD, tab3, ty3, tab22, ty22, tab25, ty25, tab26, ty26, tab29, ty29, tab23, ty23, tab5, ty5, tab4, ty4, hkf, hrf, hb, hbe, rounds_len, pureK, kOf, rOf]; (repeat' apply And.intro); all_goals first | exact hK | omega))
                  repeat (first
    | (apply hd_go rfl rfl rfl rfl (Nat.le_of_ble_eq_true rfl); focus (intro K' hK; simp [step1, evS, est, St.ev, St.put, St.add, St.upd, look_hit, look_miss, okd, stBin, bin, binS, binB, binI, shS, shB, S.num, constS, one, inI, stUn, stNil, stLoad, stAt, stField, stIndexAddr, stStore, wrAt, stAlloc, stBox, stIndex, stPart, stPartRow, stFieldV, stConv, cvS, cvB, cvI, stSlice, optN, SV.num, noMax, stArrPtr, stExtract, stLen, stBuild, A.isRow, A.isAgg, A.noRec, A.len, A.get, A.sub, A.set, A.over, Ent.bound, Kind.isStruct, Kind.isAgg, S.known, A.solid, segAt, segPut, segLen, R.a, R.len, A.r, stMake, stBuildSlice, litA, repA, rep1, fillA, putP, sing, stMin, stEqA, rowEq, Kind.isScal, -List.reduceReplicate, -List.getD_eq_getElem?_getD, tab3, ty3, tab22, ty22, tab25, ty25, tab26, ty26, tab29, ty29, tab23, ty23, tab5, ty5, tab4, ty4, hkf, hrf, hb, hbe, rounds_len, pureK, kOf, rOf]; (repeat' apply And.intro); all_goals first | exact hK | omega))
    | (apply hd_new rfl rfl rfl rfl (Nat.le_of_ble_eq_true rfl); focus (intro K' hK; simp [step1, evS, est, St.ev, St.put, St.add, St.upd, look_hit, look_miss, okd, stBin, bin, binS, binB, binI, shS, shB, S.num, constS, one, inI, stUn, stNil, stLoad, stAt, stField, stIndexAddr, stStore, wrAt, stAlloc, stBox, stIndex, stPart, stPartRow, stFieldV, stConv, cvS, cvB, cvI, stSlice, optN, SV.num, noMax, stArrPtr, stExtract, stLen, stBuild, A.isRow, A.isAgg, A.noRec, A.len, A.get, A.sub, A.set, A.over, Ent.bound, Kind.isStruct, Kind.isAgg, S.known, A.solid, segAt, segPut, segLen, R.a, R.len, A.r, stMake, stBuildSlice, litA, repA, rep1, fillA, putP, sing, stMin, stEqA, rowEq, Kind.isScal, -List.reduceReplicate, -List.getD_eq_getElem?_getD, tab3, ty3, tab22, ty22, tab25, ty25, tab26, ty26, tab29, ty29, tab23, ty23, tab5, ty5, tab4, ty4, hkf, hrf, hb, hbe, rounds_len, pureK, kOf, rOf]; (repeat' apply And.intro); all_goals first | exact hK | omega)))
                  apply hd_guard rfl rfl rfl rfl rfl (Nat.le_of_ble_eq_true rfl) rfl
                  · intro _
                    (apply Exists.intro; apply And.intro; focus (intro K' hK; simp [step1, evS, est, St.ev, St.put, St.add, St.upd, look_hit, look_miss, okd, stBin, bin, binS, binB, binI, shS, shB, S.num, constS, one, inI, stUn, stNil, stLoad, stAt, stField, stIndexAddr, stStore, wrAt, stAlloc, stBox, stIndex, stPart, stPartRow, stFieldV, stConv, cvS, cvB, cvI, stSlice, optN, SV.num, noMax, stArrPtr, stExtract, stLen, stBuild, A.isRow, A.isAgg, A.noRec, A.len, A.get, A.sub, A.set, A.over, Ent.bound, Kind.isStruct, Kind.isAgg, S.known, A.solid, segAt, segPut, segLen, R.a, R.len, A.r, stMake, stBuildSlice, litA, repA, rep1, fillA, putP, sing, stMin, stEqA, rowEq, Kind.isScal, -List.reduceReplicate, -List.getD_eq_getElem?_getD, tab3, ty3, tab22, ty22, tab25, ty25, tab26, ty26, tab29, ty29, tab23, ty23, tab5, ty5, tab4, ty4, hkf, hrf, hb, hbe, rounds_len, pureK, kOf, rOf]; (repeat' apply And.intro); all_goals first | exact hK | omega))
                    apply hd_guard rfl rfl rfl rfl rfl (Nat.le_of_ble_eq_true rfl) rfl
                    · intro _
                      (apply Exists.intro; apply And.intro; focus (intro K' hK; simp [step1, evS, est, St.ev, St.put, St.add, St.upd, look_hit, look_miss, okd, stBin, bin, binS, binB, binI, shS, shB, S.num, constS, one, inI, stUn, stNil, stLoad, stAt, stField, stIndexAddr, stStore, wrAt, stAlloc, stBox, stIndex, stPart, stPartRow, stFieldV, stConv, cvS, cvB, cvI, stSlice, optN, SV.num, noMax, stArrPtr, stExtract, stLen, stBuild, A.isRow, A.isAgg, A.noRec, A.len, A.get, A.sub, A.set, A.over, Ent.bound, Kind.isStruct, Kind.isAgg, S.known, A.solid, segAt, segPut, segLen, R.a, R.len, A.r, stMake, stBuildSlice, litA, repA, rep1, fillA, putP, sing, stMin, stEqA, rowEq, Kind.isScal, -List.reduceReplicate, -List.getD_eq_getElem?_getD, tab3, ty3, tab22, ty22, tab25, ty25, tab26, ty26, tab29, ty29, tab23, ty23, tab5, ty5, tab4, ty4, hkf, hrf, hb, hbe, rounds_len, pureK, kOf, rOf]; (repeat' apply And.intro); all_goals first | exact hK | omega))
                      apply hd_guard rfl rfl rfl rfl rfl (Nat.le_of_ble_eq_true rfl) rfl
                      · intro _
                        (apply Exists.intro; apply And.intro; focus (intro K' hK; simp [step1, evS, est, St.ev, St.put, St.add, St.upd, look_hit, look_miss, okd, stBin, bin, binS, binB, binI, shS, shB, S.num, constS, one, inI, stUn, stNil, stLoad, stAt, stField, stIndexAddr, stStore, wrAt, stAlloc, stBox, stIndex, stPart, stPartRow, stFieldV, stConv, cvS, cvB, cvI, stSlice, optN, SV.num, noMax, stArrPtr, stExtract, stLen, stBuild, A.isRow, A.isAgg, A.noRec, A.len, A.get, A.sub, A.set, A.over, Ent.bound, Kind.isStruct, Kind.isAgg, S.known, A.solid, segAt, segPut, segLen, R.a, R.len, A.r, stMake, stBuildSlice, litA, repA, rep1, fillA, putP, sing, stMin, stEqA, rowEq, Kind.isScal, -List.reduceReplicate, -List.getD_eq_getElem?_getD, tab3, ty3, tab22, ty22, tab25, ty25, tab26, ty26, tab29, ty29, tab23, ty23, tab5, ty5, tab4, ty4, hkf, hrf, hb, hbe, rounds_len, pureK, kOf, rOf]; (repeat' apply And.intro); all_goals first | exact hK | omega))
                        apply hd_guard rfl rfl rfl rfl rfl (Nat.le_of_ble_eq_true rfl) rfl
                        · intro _
                          (apply Exists.intro; apply And.intro; focus (intro K' hK; simp [step1, evS, est, St.ev, St.put, St.add, St.upd, look_hit, look_miss, okd, stBin, bin, binS, binB, binI, shS, shB, S.num, constS, one, inI, stUn, stNil, stLoad, stAt, stField, stIndexAddr, stStore, wrAt, stAlloc, stBox, stIndex, stPart, stPartRow, stFieldV, stConv, cvS, cvB, cvI, stSlice, optN, SV.num, noMax, stArrPtr, stExtract, stLen, stBuild, A.isRow, A.isAgg, A.noRec, A.len, A.get, A.sub, A.set, A.over, Ent.bound, Kind.isStruct, Kind.isAgg, S.known, A.solid, segAt, segPut, segLen, R.a, R.len, A.r, stMake, stBuildSlice, litA, repA, rep1, fillA, putP, sing, stMin, stEqA, rowEq, Kind.isScal, -List.reduceReplicate, -List.getD_eq_getElem?_getD, tab3, ty3, tab22, ty22, tab25, ty25, tab26, ty26, tab29, ty29, tab23, ty23, tab5, ty5, tab4, ty4, hkf, hrf, hb, hbe, rounds_len, pureK, kOf, rOf]; (repeat' apply And.intro); all_goals first | exact hK | omega))
                          apply hd_guard rfl rfl rfl rfl rfl (Nat.le_of_ble_eq_true rfl) rfl
                          · intro _
                            (apply Exists.intro; apply And.intro; focus (intro K' hK; simp [step1, evS, est, St.ev, St.put, St.add, St.upd, look_hit, look_miss, okd, stBin, bin, binS, binB, binI, shS, shB, S.num, constS, one, inI, stUn, stNil, stLoad, stAt, stField, stIndexAddr, stStore, wrAt, stAlloc, stBox, stIndex, stPart, stPartRow, stFieldV, stConv, cvS, cvB, cvI, stSlice, optN, SV.num, noMax, stArrPtr, stExtract, stLen, stBuild, A.isRow, A.isAgg, A.noRec, A.len, A.get, A.sub, A.set, A.over, Ent.bound, Kind.isStruct, Kind.isAgg, S.known, A.solid, segAt, segPut, segLen, R.a, R.len, A.r, stMake, stBuildSlice, litA, repA, rep1, fillA, putP, sing, stMin, stEqA, rowEq, Kind.isScal, -List.reduceReplicate, -List.getD_eq_getElem?_getD, tab3, ty3, tab22, ty22, tab25, ty25, tab26, ty26, tab29, ty29, tab23, ty23, tab5, ty5, tab4, ty4, hkf, hrf, hb, hbe, rounds_len, pureK, kOf, rOf]; (repeat' apply And.intro); all_goals first | exact hK | omega))
                            repeat (first
    | (apply hd_go rfl rfl rfl rfl (Nat.le_of_ble_eq_true rfl); focus (intro K' hK; simp [step1, evS, est, St.ev, St.put, St.add, St.upd, look_hit, look_miss, okd, stBin, bin, binS, binB, binI, shS, shB, S.num, constS, one, inI, stUn, stNil, stLoad, stAt, stField, stIndexAddr, stStore, wrAt, stAlloc, stBox, stIndex, stPart, stPartRow, stFieldV, stConv, cvS, cvB, cvI, stSlice, optN, SV.num, noMax, stArrPtr, stExtract, stLen, stBuild, A.isRow, A.isAgg, A.noRec, A.len, A.get, A.sub, A.set, A.over, Ent.bound, Kind.isStruct, Kind.isAgg, S.known, A.solid, segAt, segPut, segLen, R.a, R.len, A.r, stMake, stBuildSlice, litA, repA, rep1, fillA, putP, sing, stMin, stEqA, rowEq, Kind.isScal, -List.reduceReplicate, -List.getD_eq_getElem?_getD, tab3, ty3, tab22, ty22, tab25, ty25, tab26, ty26, tab29, ty29, tab23, ty23, tab5, ty5, tab4, ty4, hkf, hrf, hb, hbe, rounds_len, pureK, kOf, rOf]; (repeat' apply And.intro); all_goals first | exact hK | omega))
    | (apply hd_new rfl rfl rfl rfl (Nat.le_of_ble_eq_true rfl); focus (intro K' hK; simp [step1, evS, est, St.ev, St.put, St.add, St.upd, look_hit, look_miss, okd, stBin, bin, binS, binB, binI, shS, shB, S.num, constS, one, inI, stUn, stNil, stLoad, stAt, stField, stIndexAddr, stStore, wrAt, stAlloc, stBox, stIndex, stPart, stPartRow, stFieldV, stConv, cvS, cvB, cvI, stSlice, optN, SV.num, noMax, stArrPtr, stExtract, stLen, stBuild, A.isRow, A.isAgg, A.noRec, A.len, A.get, A.sub, A.set, A.over, Ent.bound, Kind.isStruct, Kind.isAgg, S.known, A.solid, segAt, segPut, segLen, R.a, R.len, A.r, stMake, stBuildSlice, litA, repA, rep1, fillA, putP, sing, stMin, stEqA, rowEq, Kind.isScal, -List.reduceReplicate, -List.getD_eq_getElem?_getD, tab3, ty3, tab22, ty22, tab25, ty25, tab26, ty26, tab29, ty29, tab23, ty23, tab5, ty5, tab4, ty4, hkf, hrf, hb, hbe, rounds_len, pureK, kOf, rOf]; (repeat' apply And.intro); all_goals first | exact hK | omega)))
                            refine hd_nil ?_
                            simp only [List.map_cons, List.map_nil, List.append_nil, List.nil_append, List.cons_append]
                            refine ok_run hB tabOK pureT_ok 100 ?_
                            repeat (first
    | rw [run_ops0]
    | rw [run_seq]
    | rw [run_region]
    | rw [run_block]
    | rw [run_blk]
    | rw [run_skip]
    | (apply run_go rfl; focus (intro L K hK; simp [step1, evS, est, St.ev, St.put, St.add, St.upd, look_hit, look_miss, okd, stBin, bin, binS, binB, binI, shS, shB, S.num, constS, one, inI, stUn, stNil, stLoad, stAt, stField, stIndexAddr, stStore, wrAt, stAlloc, stBox, stIndex, stPart, stPartRow, stFieldV, stConv, cvS, cvB, cvI, stSlice, optN, SV.num, noMax, stArrPtr, stExtract, stLen, stBuild, A.isRow, A.isAgg, A.noRec, A.len, A.get, A.sub, A.set, A.over, Ent.bound, Kind.isStruct, Kind.isAgg, S.known, A.solid, segAt, segPut, segLen, R.a, R.len, A.r, stMake, stBuildSlice, litA, repA, rep1, fillA, putP, sing, stMin, stEqA, rowEq, Kind.isScal, -List.reduceReplicate, -List.getD_eq_getElem?_getD, tab3, ty3, tab22, ty22, tab25, ty25, tab26, ty26, tab29, ty29, tab23, ty23, tab5, ty5, tab4, ty4, ntmps5]; (repeat' apply And.intro); all_goals first | exact hK | omega)))
                            rw [run_ret]
                            simp [finOf, resP, resV, extraOwn, look_hit, look_miss, one, -List.reduceReplicate, -List.getD_eq_getElem?_getD, stLoad, stAt, Ent.bound, A.len, A.isRow, A.isAgg, results5, f5]
                          · intro h; first | cases h | (simp at h; done)
                        · intro h; first | cases h | (simp at h; done)
                      · intro h; first | cases h | (simp at h; done)
                    · intro h; first | cases h | (simp at h; done)
                  · intro h; first | cases h | (simp at h; done)
                · intro h; first | cases h | (simp at h; done)
              · intro h; first | cases h | (simp at h; done)
            · intro h; first | cases h | (simp at h; done)
          · intro h; first | cases h | (simp at h; done)
        · intro h; first | cases h | (simp at h; done)
end Go.V
