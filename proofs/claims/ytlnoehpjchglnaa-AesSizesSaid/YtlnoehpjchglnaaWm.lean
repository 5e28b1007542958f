/- Walks: the law AesSizes. No condition. -/
import Derived.Test.YtlnoehpjchglnaaYb
import Derived.Test.YtlnoehpjchglnaaWl
set_option linter.unusedSimpArgs false
set_option linter.unusedVariables false
set_option maxRecDepth 10000
namespace Go.V
open Go Go.Proofs.Try
theorem int_in {n : Int} (h : (Lit.int .i64 n).wf = true) : -9223372036854775808 ≤ n ∧ n ≤ 9223372036854775807 := by
  simp [Lit.wf, IntKind.min, IntKind.max, IntKind.signed, IntKind.bits] at h
  omega
theorem mod80 (n : Int) : ∃ N : Nat, N < 80 ∧ (n.tmod 80 + 80).tmod 80 = (N : Int) ∧ -80 < n.tmod 80 ∧ n.tmod 80 < 80 := by
  have h : -80 < n.tmod 80 ∧ n.tmod 80 < 80 := by
    rcases Int.le_total 0 n with h | h
    · rw [Int.tmod_eq_emod_of_nonneg h]; omega
    · have : n.tmod 80 = -((-n).tmod 80) := by rw [Int.neg_tmod, Int.neg_neg]
      rw [this, Int.tmod_eq_emod_of_nonneg (by omega)]; omega
  refine ⟨((n.tmod 80 + 80).tmod 80).toNat, ?_, ?_, h⟩
  · rw [Int.tmod_eq_emod_of_nonneg (by omega)]; omega
  · rw [Int.tmod_eq_emod_of_nonneg (by omega)]; omega
def keyB (b : B8) (N : Nat) : Nat → B8
  | 0 => List.replicate N 0
  | j + 1 => (keyB b N j).set j (BitVec.ofInt 8 j ^^^ b.getD (j % 16) 0)
theorem keyB_len (b : B8) (N : Nat) : ∀ j, (keyB b N j).length = N
  | 0 => by simp [keyB]
  | j + 1 => by simp [keyB, keyB_len b N j]
theorem newWL {key : B8} {nk : Nat} (hk : 4 * nk ≤ key.length) (hnk : nk = 4 ∨ nk = 8) : ∃ W : B8, (sch key nk (4 * (nk + 7))).1 = W ∧ W.length = 16 * (nk + 7) ∧ rsch key (tabR 256) nk (4 * (nk + 7)) = toI W := by
  refine ⟨_, rfl, ?_, sched_eqL tab_ok hnk hk _ (Nat.le_refl _)⟩
  rw [sch_lenL hk (by omega)]
  omega
set_option maxHeartbeats 1000000 in
theorem spec6 (n : Int) (b : B8) (hn : -9223372036854775808 ≤ n ∧ n ≤ 9223372036854775807) (hb : b.length = 16) : Spec prog 6 [one (.i n), .one (.a8 b)] [] [] (fun r _ => r = one (.b true)) := by
  refine spec_of_body tabOK func6 rfl (Nat.le_of_ble_eq_true rfl) ?_
  intro E Q0 hB
  refine ok_run hB tabOK pureL_ok 100 ?_
  simp only [argSl]
  obtain ⟨N, hN80, hN, hm1, hm2⟩ := mod80 n
  repeat (first
    | rw [run_ops0]
    | rw [run_seq]
    | rw [run_region]
    | rw [run_block]
    | rw [run_blk]
    | rw [run_skip]
    | (apply run_go rfl; focus (intro L K hK; simp [step1, evS, est, St.ev, St.put, St.add, St.upd, look_hit, look_miss, okd, stBin, bin, binS, binB, binI, shS, shB, S.num, constS, one, inI, stUn, stNil, stLoad, stAt, stField, stIndexAddr, stStore, wrAt, stAlloc, stBox, stIndex, stPart, stPartRow, stFieldV, stConv, cvS, cvB, cvI, stSlice, optN, SV.num, noMax, stArrPtr, stExtract, stLen, stBuild, A.isRow, A.isAgg, A.noRec, A.len, A.get, A.sub, A.set, A.over, Ent.bound, Kind.isStruct, Kind.isAgg, S.known, A.solid, segAt, segPut, segLen, R.a, R.len, A.r, stMake, stBuildSlice, litA, repA, rep1, fillA, putP, sing, stMin, stEqA, rowEq, Kind.isScal, -List.reduceReplicate, -List.getD_eq_getElem?_getD, tab22, ty22, tab23, ty23, tab3, ty3, tab4, ty4, ntmps6, hb, pureL]; (repeat' apply And.intro); all_goals first | exact hK | omega)))
  apply run_cond2 rfl
  · intro h; cases h
  intro _
  repeat (first
    | rw [run_ops0]
    | rw [run_seq]
    | rw [run_region]
    | rw [run_block]
    | rw [run_blk]
    | rw [run_skip]
    | (apply run_go rfl; focus (intro L K hK; simp [step1, evS, est, St.ev, St.put, St.add, St.upd, look_hit, look_miss, okd, stBin, bin, binS, binB, binI, shS, shB, S.num, constS, one, inI, stUn, stNil, stLoad, stAt, stField, stIndexAddr, stStore, wrAt, stAlloc, stBox, stIndex, stPart, stPartRow, stFieldV, stConv, cvS, cvB, cvI, stSlice, optN, SV.num, noMax, stArrPtr, stExtract, stLen, stBuild, A.isRow, A.isAgg, A.noRec, A.len, A.get, A.sub, A.set, A.over, Ent.bound, Kind.isStruct, Kind.isAgg, S.known, A.solid, segAt, segPut, segLen, R.a, R.len, A.r, stMake, stBuildSlice, litA, repA, rep1, fillA, putP, sing, stMin, stEqA, rowEq, Kind.isScal, -List.reduceReplicate, -List.getD_eq_getElem?_getD, tab22, ty22, tab3, ty3, tab4, ty4, tab5, ty5, ntmps6, hN, hm1, hm2]; (repeat' apply And.intro); all_goals first | exact hK | omega)))
  rw [run_loop]
  refine ok_loop (X := Nat) (fun j => ⟨[(23, one (.i j)), (22, one (.i N)), (5, one (.sl 1 0 N N 1)), (3, one (.ptr 0 0 0)), (0, one (.i N))], [.ent ⟨true, 23, some 16, .a8 b⟩, .ent ⟨true, 5, none, .a8 (keyB b N j)⟩]⟩) (fun j => j ≤ N) (fun j => N - j) (fun j i L h => absurd (hB.anc i L h) (by simp)) ⟨0, by omega, by simp [Ent2, entSl, entM, belSl, belV, belA, belS, belR, belM, look_hit, look_miss, one, -List.getD_eq_getElem?_getD, keyB, -List.reduceReplicate]⟩ ?_
  intro j hj
  refine ok_run hB tabOK pureL_ok 100 ?_
  have hkl := keyB_len b N j
  repeat (first
    | rw [run_ops0]
    | rw [run_seq]
    | rw [run_region]
    | rw [run_block]
    | rw [run_blk]
    | rw [run_skip]
    | (apply run_go rfl; focus (intro L K hK; simp [step1, evS, est, St.ev, St.put, St.add, St.upd, look_hit, look_miss, okd, stBin, bin, binS, binB, binI, shS, shB, S.num, constS, one, inI, stUn, stNil, stLoad, stAt, stField, stIndexAddr, stStore, wrAt, stAlloc, stBox, stIndex, stPart, stPartRow, stFieldV, stConv, cvS, cvB, cvI, stSlice, optN, SV.num, noMax, stArrPtr, stExtract, stLen, stBuild, A.isRow, A.isAgg, A.noRec, A.len, A.get, A.sub, A.set, A.over, Ent.bound, Kind.isStruct, Kind.isAgg, S.known, A.solid, segAt, segPut, segLen, R.a, R.len, A.r, stMake, stBuildSlice, litA, repA, rep1, fillA, putP, sing, stMin, stEqA, rowEq, Kind.isScal, -List.reduceReplicate, -List.getD_eq_getElem?_getD, tab3, ty3, ntmps6]; (repeat' apply And.intro); all_goals first | exact hK | omega)))
  apply run_cond2 rfl
  · intro h
    simp at h
    have q2 : (j : Int).tmod 16 = (j : Int) % 16 := Int.tmod_eq_emod_of_nonneg (by omega)
    have q4 : ((j : Int) % 16).toNat = j % 16 := by omega
    repeat (first
    | rw [run_ops0]
    | rw [run_seq]
    | rw [run_region]
    | rw [run_block]
    | rw [run_blk]
    | rw [run_skip]
    | (apply run_go rfl; focus (intro L K hK; simp [step1, evS, est, St.ev, St.put, St.add, St.upd, look_hit, look_miss, okd, stBin, bin, binS, binB, binI, shS, shB, S.num, constS, one, inI, stUn, stNil, stLoad, stAt, stField, stIndexAddr, stStore, wrAt, stAlloc, stBox, stIndex, stPart, stPartRow, stFieldV, stConv, cvS, cvB, cvI, stSlice, optN, SV.num, noMax, stArrPtr, stExtract, stLen, stBuild, A.isRow, A.isAgg, A.noRec, A.len, A.get, A.sub, A.set, A.over, Ent.bound, Kind.isStruct, Kind.isAgg, S.known, A.solid, segAt, segPut, segLen, R.a, R.len, A.r, stMake, stBuildSlice, litA, repA, rep1, fillA, putP, sing, stMin, stEqA, rowEq, Kind.isScal, -List.reduceReplicate, -List.getD_eq_getElem?_getD, tab3, ty3, tab22, ty22, tab5, ty5, tab23, ty23, ntmps6, hkl, hb, q2, q4]; (repeat' apply And.intro); all_goals first | exact hK | omega)))
    rw [run_back]
    refine ⟨j + 1, by omega, by omega, ?_⟩
    simp [Ent2, entSl, entM, belSl, belV, belA, belS, belR, belM, look_hit, look_miss, one, -List.getD_eq_getElem?_getD, keyB]
  · intro h
    simp at h
    obtain rfl : j = N := by omega
    apply run_exit2 rfl
    generalize keyB b j j = key at hkl ⊢
    repeat (first
    | rw [run_ops0]
    | rw [run_seq]
    | rw [run_region]
    | rw [run_block]
    | rw [run_blk]
    | rw [run_skip]
    | (apply run_go rfl; focus (intro L K hK; simp [step1, evS, est, St.ev, St.put, St.add, St.upd, look_hit, look_miss, okd, stBin, bin, binS, binB, binI, shS, shB, S.num, constS, one, inI, stUn, stNil, stLoad, stAt, stField, stIndexAddr, stStore, wrAt, stAlloc, stBox, stIndex, stPart, stPartRow, stFieldV, stConv, cvS, cvB, cvI, stSlice, optN, SV.num, noMax, stArrPtr, stExtract, stLen, stBuild, A.isRow, A.isAgg, A.noRec, A.len, A.get, A.sub, A.set, A.over, Ent.bound, Kind.isStruct, Kind.isAgg, S.known, A.solid, segAt, segPut, segLen, R.a, R.len, A.r, stMake, stBuildSlice, litA, repA, rep1, fillA, putP, sing, stMin, stEqA, rowEq, Kind.isScal, -List.reduceReplicate, -List.getD_eq_getElem?_getD, tab3, ty3, tab22, ty22, ntmps6]; (repeat' apply And.intro); all_goals first | exact hK | omega)))
    refine run_call rfl rfl rfl rfl ?_
    rcases (Classical.em (j = 16 ∨ j = 32)).symm with hno | hj16
    · -- another length
      have h16' : (j : Int) ≠ 16 := by omega
      have h32' : (j : Int) ≠ 32 := by omega
      refine ok_call [1] rfl rfl ⟨f21, func21, nofun, by decide⟩ (spec21bad key j j hkl (Nat.le_refl _) (by omega) (by omega) (by omega)) trivial (by simp) (by simp [matchM, ix, renA, belA]) rfl rfl (Nat.le_of_ble_eq_true rfl) ?_
      rintro sv m' ⟨rfl, rfl⟩ _
      simp only [afterM, putM, renMk, renA, renSeg, renR, renS, renV, ix, St.put, List.map_cons, List.map_nil, List.drop, List.length_cons, List.length_nil, List.cons_append, List.nil_append, one]
      simp
      refine ok_run hB tabOK pureL_ok 100 ?_
      repeat (first
    | rw [run_ops0]
    | rw [run_seq]
    | rw [run_region]
    | rw [run_block]
    | rw [run_blk]
    | rw [run_skip]
    | (apply run_go rfl; focus (intro L K hK; simp [step1, evS, est, St.ev, St.put, St.add, St.upd, look_hit, look_miss, okd, stBin, bin, binS, binB, binI, shS, shB, S.num, constS, one, inI, stUn, stNil, stLoad, stAt, stField, stIndexAddr, stStore, wrAt, stAlloc, stBox, stIndex, stPart, stPartRow, stFieldV, stConv, cvS, cvB, cvI, stSlice, optN, SV.num, noMax, stArrPtr, stExtract, stLen, stBuild, A.isRow, A.isAgg, A.noRec, A.len, A.get, A.sub, A.set, A.over, Ent.bound, Kind.isStruct, Kind.isAgg, S.known, A.solid, segAt, segPut, segLen, R.a, R.len, A.r, stMake, stBuildSlice, litA, repA, rep1, fillA, putP, sing, stMin, stEqA, rowEq, Kind.isScal, -List.reduceReplicate, -List.getD_eq_getElem?_getD, tab3, ty3, tab22, ty22, tab25, ty25, tab26, ty26, tab29, ty29, tab23, ty23, tab5, ty5, tab4, ty4, ntmps6]; (repeat' apply And.intro); all_goals first | exact hK | omega)))
      apply run_guard rfl rfl rfl rfl
      · intro _
        (apply Exists.intro; apply And.intro; focus (intro L K hK; simp [step1, evS, est, St.ev, St.put, St.add, St.upd, look_hit, look_miss, okd, stBin, bin, binS, binB, binI, shS, shB, S.num, constS, one, inI, stUn, stNil, stLoad, stAt, stField, stIndexAddr, stStore, wrAt, stAlloc, stBox, stIndex, stPart, stPartRow, stFieldV, stConv, cvS, cvB, cvI, stSlice, optN, SV.num, noMax, stArrPtr, stExtract, stLen, stBuild, A.isRow, A.isAgg, A.noRec, A.len, A.get, A.sub, A.set, A.over, Ent.bound, Kind.isStruct, Kind.isAgg, S.known, A.solid, segAt, segPut, segLen, R.a, R.len, A.r, stMake, stBuildSlice, litA, repA, rep1, fillA, putP, sing, stMin, stEqA, rowEq, Kind.isScal, -List.reduceReplicate, -List.getD_eq_getElem?_getD, tab3, ty3, tab22, ty22, tab25, ty25, tab26, ty26, tab29, ty29, tab23, ty23, tab5, ty5, tab4, ty4, ntmps6]; (repeat' apply And.intro); all_goals first | exact hK | omega))
        apply run_guard rfl rfl rfl rfl
        · intro _
          (apply Exists.intro; apply And.intro; focus (intro L K hK; simp [step1, evS, est, St.ev, St.put, St.add, St.upd, look_hit, look_miss, okd, stBin, bin, binS, binB, binI, shS, shB, S.num, constS, one, inI, stUn, stNil, stLoad, stAt, stField, stIndexAddr, stStore, wrAt, stAlloc, stBox, stIndex, stPart, stPartRow, stFieldV, stConv, cvS, cvB, cvI, stSlice, optN, SV.num, noMax, stArrPtr, stExtract, stLen, stBuild, A.isRow, A.isAgg, A.noRec, A.len, A.get, A.sub, A.set, A.over, Ent.bound, Kind.isStruct, Kind.isAgg, S.known, A.solid, segAt, segPut, segLen, R.a, R.len, A.r, stMake, stBuildSlice, litA, repA, rep1, fillA, putP, sing, stMin, stEqA, rowEq, Kind.isScal, -List.reduceReplicate, -List.getD_eq_getElem?_getD, tab3, ty3, tab22, ty22, tab25, ty25, tab26, ty26, tab29, ty29, tab23, ty23, tab5, ty5, tab4, ty4, ntmps6]; (repeat' apply And.intro); all_goals first | exact hK | omega))
          repeat (first
    | rw [run_ops0]
    | rw [run_seq]
    | rw [run_region]
    | rw [run_block]
    | rw [run_blk]
    | rw [run_skip]
    | (apply run_go rfl; focus (intro L K hK; simp [step1, evS, est, St.ev, St.put, St.add, St.upd, look_hit, look_miss, okd, stBin, bin, binS, binB, binI, shS, shB, S.num, constS, one, inI, stUn, stNil, stLoad, stAt, stField, stIndexAddr, stStore, wrAt, stAlloc, stBox, stIndex, stPart, stPartRow, stFieldV, stConv, cvS, cvB, cvI, stSlice, optN, SV.num, noMax, stArrPtr, stExtract, stLen, stBuild, A.isRow, A.isAgg, A.noRec, A.len, A.get, A.sub, A.set, A.over, Ent.bound, Kind.isStruct, Kind.isAgg, S.known, A.solid, segAt, segPut, segLen, R.a, R.len, A.r, stMake, stBuildSlice, litA, repA, rep1, fillA, putP, sing, stMin, stEqA, rowEq, Kind.isScal, -List.reduceReplicate, -List.getD_eq_getElem?_getD, tab3, ty3, tab22, ty22, tab25, ty25, tab26, ty26, tab29, ty29, tab23, ty23, tab5, ty5, tab4, ty4, ntmps6]; (repeat' apply And.intro); all_goals first | exact hK | omega)))
          apply run_cond2 rfl
          · intro _
            repeat (first
    | rw [run_ops0]
    | rw [run_seq]
    | rw [run_region]
    | rw [run_block]
    | rw [run_blk]
    | rw [run_skip]
    | (apply run_go rfl; focus (intro L K hK; simp [step1, evS, est, St.ev, St.put, St.add, St.upd, look_hit, look_miss, okd, stBin, bin, binS, binB, binI, shS, shB, S.num, constS, one, inI, stUn, stNil, stLoad, stAt, stField, stIndexAddr, stStore, wrAt, stAlloc, stBox, stIndex, stPart, stPartRow, stFieldV, stConv, cvS, cvB, cvI, stSlice, optN, SV.num, noMax, stArrPtr, stExtract, stLen, stBuild, A.isRow, A.isAgg, A.noRec, A.len, A.get, A.sub, A.set, A.over, Ent.bound, Kind.isStruct, Kind.isAgg, S.known, A.solid, segAt, segPut, segLen, R.a, R.len, A.r, stMake, stBuildSlice, litA, repA, rep1, fillA, putP, sing, stMin, stEqA, rowEq, Kind.isScal, -List.reduceReplicate, -List.getD_eq_getElem?_getD, tab3, ty3, tab22, ty22, tab25, ty25, tab26, ty26, tab29, ty29, tab23, ty23, tab5, ty5, tab4, ty4, ntmps6]; (repeat' apply And.intro); all_goals first | exact hK | omega)))
            apply run_guard rfl rfl rfl rfl
            · intro _
              (apply Exists.intro; apply And.intro; focus (intro L K hK; simp [step1, evS, est, St.ev, St.put, St.add, St.upd, look_hit, look_miss, okd, stBin, bin, binS, binB, binI, shS, shB, S.num, constS, one, inI, stUn, stNil, stLoad, stAt, stField, stIndexAddr, stStore, wrAt, stAlloc, stBox, stIndex, stPart, stPartRow, stFieldV, stConv, cvS, cvB, cvI, stSlice, optN, SV.num, noMax, stArrPtr, stExtract, stLen, stBuild, A.isRow, A.isAgg, A.noRec, A.len, A.get, A.sub, A.set, A.over, Ent.bound, Kind.isStruct, Kind.isAgg, S.known, A.solid, segAt, segPut, segLen, R.a, R.len, A.r, stMake, stBuildSlice, litA, repA, rep1, fillA, putP, sing, stMin, stEqA, rowEq, Kind.isScal, -List.reduceReplicate, -List.getD_eq_getElem?_getD, tab3, ty3, tab22, ty22, tab25, ty25, tab26, ty26, tab29, ty29, tab23, ty23, tab5, ty5, tab4, ty4, ntmps6]; (repeat' apply And.intro); all_goals first | exact hK | omega))
              apply run_guard rfl rfl rfl rfl
              · intro _
                (apply Exists.intro; apply And.intro; focus (intro L K hK; simp [step1, evS, est, St.ev, St.put, St.add, St.upd, look_hit, look_miss, okd, stBin, bin, binS, binB, binI, shS, shB, S.num, constS, one, inI, stUn, stNil, stLoad, stAt, stField, stIndexAddr, stStore, wrAt, stAlloc, stBox, stIndex, stPart, stPartRow, stFieldV, stConv, cvS, cvB, cvI, stSlice, optN, SV.num, noMax, stArrPtr, stExtract, stLen, stBuild, A.isRow, A.isAgg, A.noRec, A.len, A.get, A.sub, A.set, A.over, Ent.bound, Kind.isStruct, Kind.isAgg, S.known, A.solid, segAt, segPut, segLen, R.a, R.len, A.r, stMake, stBuildSlice, litA, repA, rep1, fillA, putP, sing, stMin, stEqA, rowEq, Kind.isScal, -List.reduceReplicate, -List.getD_eq_getElem?_getD, tab3, ty3, tab22, ty22, tab25, ty25, tab26, ty26, tab29, ty29, tab23, ty23, tab5, ty5, tab4, ty4, ntmps6]; (repeat' apply And.intro); all_goals first | exact hK | omega))
                repeat (first
    | rw [run_ops0]
    | rw [run_seq]
    | rw [run_region]
    | rw [run_block]
    | rw [run_blk]
    | rw [run_skip]
    | (apply run_go rfl; focus (intro L K hK; simp [step1, evS, est, St.ev, St.put, St.add, St.upd, look_hit, look_miss, okd, stBin, bin, binS, binB, binI, shS, shB, S.num, constS, one, inI, stUn, stNil, stLoad, stAt, stField, stIndexAddr, stStore, wrAt, stAlloc, stBox, stIndex, stPart, stPartRow, stFieldV, stConv, cvS, cvB, cvI, stSlice, optN, SV.num, noMax, stArrPtr, stExtract, stLen, stBuild, A.isRow, A.isAgg, A.noRec, A.len, A.get, A.sub, A.set, A.over, Ent.bound, Kind.isStruct, Kind.isAgg, S.known, A.solid, segAt, segPut, segLen, R.a, R.len, A.r, stMake, stBuildSlice, litA, repA, rep1, fillA, putP, sing, stMin, stEqA, rowEq, Kind.isScal, -List.reduceReplicate, -List.getD_eq_getElem?_getD, tab3, ty3, tab22, ty22, tab25, ty25, tab26, ty26, tab29, ty29, tab23, ty23, tab5, ty5, tab4, ty4, ntmps6]; (repeat' apply And.intro); all_goals first | exact hK | omega)))
                rw [run_ret]
                simp [finOf, resP, resV, extraOwn, look_hit, look_miss, one, -List.reduceReplicate, -List.getD_eq_getElem?_getD, stLoad, stAt, Ent.bound, A.len, A.isRow, A.isAgg, results6, f6]
              · intro h; first | cases h | (simp at h; done) | (simp at h; omega)
            · intro h; first | cases h | (simp at h; done) | (simp at h; omega)
          · intro h; first | (simp at h; done) | (simp at h; omega)
        · intro h; first | cases h | (simp at h; done) | (simp at h; omega)
      · intro h; first | cases h | (simp at h; done) | (simp at h; omega)
    rcases hj16 with hj16 | hj16
    · -- 16 bytes
      subst hj16
      obtain ⟨W, hWe, hWl, hWr⟩ := newWL (key := key) (nk := 4) (by omega) (by omega)
      obtain ⟨V, hVe, hVl, hVr⟩ := newWL (key := key) (nk := 4) (by omega) (by omega)
      obtain rfl : W = V := hWe.symm.trans hVe
      have hkW : kFit b W 11 := kfit hb hWl (by omega)
      have hkV : kFit b W 11 := kfit hb hVl (by omega)
      have hrW : rFit b (tabR 256) (toI W) 44 4 := rfit (nk := 4) hb hWl (by omega)
      have hrV : rFit b (tabR 256) (toI W) 44 4 := rfit (nk := 4) hb hVl (by omega)
      have hbW : outB (rRounds (tabR 256) (toI W) 4 (iniS b (toI W) 16) 10) 16 = rounds b W 11 10 := block_eq tab_ok hb W 4
      have hbV : outB (rRounds (tabR 256) (toI W) 4 (iniS b (toI W) 16) 10) 16 = rounds b W 11 10 := block_eq tab_ok hb W 4
      have hWr : rsch key (tabR 256) 4 44 = toI W := hWr
      have hVr : rsch key (tabR 256) 4 44 = toI W := hVr
      refine ok_call [1] rfl rfl ⟨f21, func21, nofun, by decide⟩ (spec21L key 4 16 (by omega) (by omega) (by omega)) trivial (by simp) (by simp [matchM, ix, renA, belA]) rfl rfl (Nat.le_of_ble_eq_true rfl) ?_
      rintro sv m' ⟨rfl, cap, rfl⟩ _
      simp only [newMem, hWe, afterM, putM, renMk, renA, renSeg, renR, renS, renV, ix, St.put, List.map_cons, List.map_nil, List.drop, List.length_cons, List.length_nil, List.cons_append, List.nil_append, one]
      simp
      refine ok_run hB tabOK pureL_ok 100 ?_
      repeat (first
    | rw [run_ops0]
    | rw [run_seq]
    | rw [run_region]
    | rw [run_block]
    | rw [run_blk]
    | rw [run_skip]
    | (apply run_go rfl; focus (intro L K hK; simp [step1, evS, est, St.ev, St.put, St.add, St.upd, look_hit, look_miss, okd, stBin, bin, binS, binB, binI, shS, shB, S.num, constS, one, inI, stUn, stNil, stLoad, stAt, stField, stIndexAddr, stStore, wrAt, stAlloc, stBox, stIndex, stPart, stPartRow, stFieldV, stConv, cvS, cvB, cvI, stSlice, optN, SV.num, noMax, stArrPtr, stExtract, stLen, stBuild, A.isRow, A.isAgg, A.noRec, A.len, A.get, A.sub, A.set, A.over, Ent.bound, Kind.isStruct, Kind.isAgg, S.known, A.solid, segAt, segPut, segLen, R.a, R.len, A.r, stMake, stBuildSlice, litA, repA, rep1, fillA, putP, sing, stMin, stEqA, rowEq, Kind.isScal, -List.reduceReplicate, -List.getD_eq_getElem?_getD, tab3, ty3, tab22, ty22, tab25, ty25, tab26, ty26, tab29, ty29, tab23, ty23, tab5, ty5, tab4, ty4, ntmps6]; (repeat' apply And.intro); all_goals first | exact hK | omega)))
      apply run_guard rfl rfl rfl rfl
      · intro h; cases h
      intro _
      refine ⟨Nat.le_of_ble_eq_true rfl, ?_⟩
      simp only [St.put]
      apply run_guard rfl rfl rfl rfl
      · intro h; cases h
      intro _
      refine ⟨Nat.le_of_ble_eq_true rfl, ?_⟩
      simp only [St.put]
      repeat (first
    | rw [run_ops0]
    | rw [run_seq]
    | rw [run_region]
    | rw [run_block]
    | rw [run_blk]
    | rw [run_skip]
    | (apply run_go rfl; focus (intro L K hK; simp [step1, evS, est, St.ev, St.put, St.add, St.upd, look_hit, look_miss, okd, stBin, bin, binS, binB, binI, shS, shB, S.num, constS, one, inI, stUn, stNil, stLoad, stAt, stField, stIndexAddr, stStore, wrAt, stAlloc, stBox, stIndex, stPart, stPartRow, stFieldV, stConv, cvS, cvB, cvI, stSlice, optN, SV.num, noMax, stArrPtr, stExtract, stLen, stBuild, A.isRow, A.isAgg, A.noRec, A.len, A.get, A.sub, A.set, A.over, Ent.bound, Kind.isStruct, Kind.isAgg, S.known, A.solid, segAt, segPut, segLen, R.a, R.len, A.r, stMake, stBuildSlice, litA, repA, rep1, fillA, putP, sing, stMin, stEqA, rowEq, Kind.isScal, -List.reduceReplicate, -List.getD_eq_getElem?_getD, tab3, ty3, tab22, ty22, tab25, ty25, tab26, ty26, tab29, ty29, tab23, ty23, tab5, ty5, tab4, ty4, ntmps6]; (repeat' apply And.intro); all_goals first | exact hK | omega)))
      apply run_cond2 rfl
      · intro h; cases h
      intro _
      repeat (first
    | rw [run_ops0]
    | rw [run_seq]
    | rw [run_region]
    | rw [run_block]
    | rw [run_blk]
    | rw [run_skip]
    | (apply run_go rfl; focus (intro L K hK; simp [step1, evS, est, St.ev, St.put, St.add, St.upd, look_hit, look_miss, okd, stBin, bin, binS, binB, binI, shS, shB, S.num, constS, one, inI, stUn, stNil, stLoad, stAt, stField, stIndexAddr, stStore, wrAt, stAlloc, stBox, stIndex, stPart, stPartRow, stFieldV, stConv, cvS, cvB, cvI, stSlice, optN, SV.num, noMax, stArrPtr, stExtract, stLen, stBuild, A.isRow, A.isAgg, A.noRec, A.len, A.get, A.sub, A.set, A.over, Ent.bound, Kind.isStruct, Kind.isAgg, S.known, A.solid, segAt, segPut, segLen, R.a, R.len, A.r, stMake, stBuildSlice, litA, repA, rep1, fillA, putP, sing, stMin, stEqA, rowEq, Kind.isScal, -List.reduceReplicate, -List.getD_eq_getElem?_getD, tab3, ty3, tab22, ty22, tab25, ty25, tab26, ty26, tab29, ty29, tab23, ty23, tab5, ty5, tab4, ty4, ntmps6]; (repeat' apply And.intro); all_goals first | exact hK | omega)))
      refine run_call rfl rfl rfl rfl ?_
      refine ok_call [1] rfl rfl ⟨f21, func21, nofun, by decide⟩ (spec21L key 4 16 (by omega) (by omega) (by omega)) trivial (by simp) (by simp [matchM, ix, renA, belA]) rfl rfl (Nat.le_of_ble_eq_true rfl) ?_
      rintro sv m' ⟨rfl, cap2, rfl⟩ _
      simp only [newMem, hVe, afterM, putM, renMk, renA, renSeg, renR, renS, renV, ix, St.put, List.map_cons, List.map_nil, List.drop, List.length_cons, List.length_nil, List.cons_append, List.nil_append, one]
      simp
      refine ok_run hB tabOK pureL_ok 100 ?_
      repeat (first
    | rw [run_ops0]
    | rw [run_seq]
    | rw [run_region]
    | rw [run_block]
    | rw [run_blk]
    | rw [run_skip]
    | (apply run_go rfl; focus (intro L K hK; simp [step1, evS, est, St.ev, St.put, St.add, St.upd, look_hit, look_miss, okd, stBin, bin, binS, binB, binI, shS, shB, S.num, constS, one, inI, stUn, stNil, stLoad, stAt, stField, stIndexAddr, stStore, wrAt, stAlloc, stBox, stIndex, stPart, stPartRow, stFieldV, stConv, cvS, cvB, cvI, stSlice, optN, SV.num, noMax, stArrPtr, stExtract, stLen, stBuild, A.isRow, A.isAgg, A.noRec, A.len, A.get, A.sub, A.set, A.over, Ent.bound, Kind.isStruct, Kind.isAgg, S.known, A.solid, segAt, segPut, segLen, R.a, R.len, A.r, stMake, stBuildSlice, litA, repA, rep1, fillA, putP, sing, stMin, stEqA, rowEq, Kind.isScal, -List.reduceReplicate, -List.getD_eq_getElem?_getD, tab3, ty3, tab22, ty22, tab25, ty25, tab26, ty26, tab29, ty29, tab23, ty23, tab5, ty5, tab4, ty4, ntmps6]; (repeat' apply And.intro); all_goals first | exact hK | omega)))
      rw [run_draw]
      refine ok_draw5 9 [] [(8, 6)] tabOK pureL_ok newNone_ok pureL_sub newNone_sub mixed (by decide +kernel) rfl rfl ?_
      repeat (first
    | (apply h3_go rfl rfl rfl rfl rfl (Nat.le_of_ble_eq_true rfl) rfl; focus (intro K' hK; simp [step1, evS, est, St.ev, St.put, St.add, St.upd, look_hit, look_miss, okd, stBin, bin, binS, binB, binI, shS, shB, S.num, constS, one, inI, stUn, stNil, stLoad, stAt, stField, stIndexAddr, stStore, wrAt, stAlloc, stBox, stIndex, stPart, stPartRow, stFieldV, stConv, cvS, cvB, cvI, stSlice, optN, SV.num, noMax, stArrPtr, stExtract, stLen, stBuild, A.isRow, A.isAgg, A.noRec, A.len, A.get, A.sub, A.set, A.over, Ent.bound, Kind.isStruct, Kind.isAgg, S.known, A.solid, segAt, segPut, segLen, R.a, R.len, A.r, stMake, stBuildSlice, litA, repA, rep1, fillA, putP, sing, stMin, stEqA, rowEq, Kind.isScal, -List.reduceReplicate, -List.getD_eq_getElem?_getD, viewM, visOf, memL, tab3, ty3, tab22, ty22, tab25, ty25, tab26, ty26, tab29, ty29, tab23, ty23, tab5, ty5, tab4, ty4, hkW, hkV, hb, pureL, kOf]; (repeat' apply And.intro); all_goals first | exact hK | omega))
    | (apply h3_new rfl rfl rfl rfl rfl (Nat.le_of_ble_eq_true rfl) rfl; focus (intro K' hK; simp [step1, evS, est, St.ev, St.put, St.add, St.upd, look_hit, look_miss, okd, stBin, bin, binS, binB, binI, shS, shB, S.num, constS, one, inI, stUn, stNil, stLoad, stAt, stField, stIndexAddr, stStore, wrAt, stAlloc, stBox, stIndex, stPart, stPartRow, stFieldV, stConv, cvS, cvB, cvI, stSlice, optN, SV.num, noMax, stArrPtr, stExtract, stLen, stBuild, A.isRow, A.isAgg, A.noRec, A.len, A.get, A.sub, A.set, A.over, Ent.bound, Kind.isStruct, Kind.isAgg, S.known, A.solid, segAt, segPut, segLen, R.a, R.len, A.r, stMake, stBuildSlice, litA, repA, rep1, fillA, putP, sing, stMin, stEqA, rowEq, Kind.isScal, -List.reduceReplicate, -List.getD_eq_getElem?_getD, viewM, visOf, memL, tab3, ty3, tab22, ty22, tab25, ty25, tab26, ty26, tab29, ty29, tab23, ty23, tab5, ty5, tab4, ty4, hkW, hkV, hb, pureL, kOf]; (repeat' apply And.intro); all_goals first | exact hK | omega)))
      (apply h3_sto rfl; focus (intro K' hK; simp [stoP, step1, evS, est, St.ev, St.put, St.add, St.upd, look_hit, look_miss, okd, stBin, bin, binS, binB, binI, shS, shB, S.num, constS, one, inI, stUn, stNil, stLoad, stAt, stField, stIndexAddr, stStore, wrAt, stAlloc, stBox, stIndex, stPart, stPartRow, stFieldV, stConv, cvS, cvB, cvI, stSlice, optN, SV.num, noMax, stArrPtr, stExtract, stLen, stBuild, A.isRow, A.isAgg, A.noRec, A.len, A.get, A.sub, A.set, A.over, Ent.bound, Kind.isStruct, Kind.isAgg, S.known, A.solid, segAt, segPut, segLen, R.a, R.len, A.r, stMake, stBuildSlice, litA, repA, rep1, fillA, putP, sing, stMin, stEqA, rowEq, Kind.isScal, -List.reduceReplicate, -List.getD_eq_getElem?_getD, viewM, visOf, memL, tab3, ty3, tab22, ty22, tab25, ty25, tab26, ty26, tab29, ty29, tab23, ty23, tab5, ty5, tab4, ty4, rounds_len, hb]; (repeat' apply And.intro); all_goals first | exact hK | omega))
      refine h3_nil ?_
      simp [finL, contL, contAt, stT, List.range, List.range.loop, -List.reduceReplicate]
      refine ok_run hB tabOK pureL_ok 100 ?_
      repeat (first
    | rw [run_ops0]
    | rw [run_seq]
    | rw [run_region]
    | rw [run_block]
    | rw [run_blk]
    | rw [run_skip]
    | (apply run_go rfl; focus (intro L K hK; simp [step1, evS, est, St.ev, St.put, St.add, St.upd, look_hit, look_miss, okd, stBin, bin, binS, binB, binI, shS, shB, S.num, constS, one, inI, stUn, stNil, stLoad, stAt, stField, stIndexAddr, stStore, wrAt, stAlloc, stBox, stIndex, stPart, stPartRow, stFieldV, stConv, cvS, cvB, cvI, stSlice, optN, SV.num, noMax, stArrPtr, stExtract, stLen, stBuild, A.isRow, A.isAgg, A.noRec, A.len, A.get, A.sub, A.set, A.over, Ent.bound, Kind.isStruct, Kind.isAgg, S.known, A.solid, segAt, segPut, segLen, R.a, R.len, A.r, stMake, stBuildSlice, litA, repA, rep1, fillA, putP, sing, stMin, stEqA, rowEq, Kind.isScal, -List.reduceReplicate, -List.getD_eq_getElem?_getD, tab3, ty3, tab22, ty22, tab25, ty25, tab26, ty26, tab29, ty29, tab23, ty23, tab5, ty5, tab4, ty4, ntmps6, rounds_len, hb]; (repeat' apply And.intro); all_goals first | exact hK | omega)))
      rw [run_draw]
      refine ok_draw5 23 [(11, [9]), (20, [18])] [] tabOK pureL_ok nuA_ok pureL_sub nuA_sub mixed (by decide +kernel) rfl rfl ?_
      repeat (first
    | (apply h3_go rfl rfl rfl rfl rfl (Nat.le_of_ble_eq_true rfl) rfl; focus (intro K' hK; simp [step1, evS, est, St.ev, St.put, St.add, St.upd, look_hit, look_miss, okd, stBin, bin, binS, binB, binI, shS, shB, S.num, constS, one, inI, stUn, stNil, stLoad, stAt, stField, stIndexAddr, stStore, wrAt, stAlloc, stBox, stIndex, stPart, stPartRow, stFieldV, stConv, cvS, cvB, cvI, stSlice, optN, SV.num, noMax, stArrPtr, stExtract, stLen, stBuild, A.isRow, A.isAgg, A.noRec, A.len, A.get, A.sub, A.set, A.over, Ent.bound, Kind.isStruct, Kind.isAgg, S.known, A.solid, segAt, segPut, segLen, R.a, R.len, A.r, stMake, stBuildSlice, litA, repA, rep1, fillA, putP, sing, stMin, stEqA, rowEq, Kind.isScal, -List.reduceReplicate, -List.getD_eq_getElem?_getD, viewM, visOf, memL, tab3, ty3, tab22, ty22, tab25, ty25, tab26, ty26, tab29, ty29, tab23, ty23, tab5, ty5, tab4, ty4, hkW, hkV, hrW, hrV, hbW, hbV, hWr, hVr, hb, hkl, rounds_len, pureL, kOf, rOf2, slOf, nuA, rnewQ]; (repeat' apply And.intro); all_goals first | exact hK | omega))
    | (apply h3_new rfl rfl rfl rfl rfl (Nat.le_of_ble_eq_true rfl) rfl; focus (intro K' hK; simp [step1, evS, est, St.ev, St.put, St.add, St.upd, look_hit, look_miss, okd, stBin, bin, binS, binB, binI, shS, shB, S.num, constS, one, inI, stUn, stNil, stLoad, stAt, stField, stIndexAddr, stStore, wrAt, stAlloc, stBox, stIndex, stPart, stPartRow, stFieldV, stConv, cvS, cvB, cvI, stSlice, optN, SV.num, noMax, stArrPtr, stExtract, stLen, stBuild, A.isRow, A.isAgg, A.noRec, A.len, A.get, A.sub, A.set, A.over, Ent.bound, Kind.isStruct, Kind.isAgg, S.known, A.solid, segAt, segPut, segLen, R.a, R.len, A.r, stMake, stBuildSlice, litA, repA, rep1, fillA, putP, sing, stMin, stEqA, rowEq, Kind.isScal, -List.reduceReplicate, -List.getD_eq_getElem?_getD, viewM, visOf, memL, tab3, ty3, tab22, ty22, tab25, ty25, tab26, ty26, tab29, ty29, tab23, ty23, tab5, ty5, tab4, ty4, hkW, hkV, hrW, hrV, hbW, hbV, hWr, hVr, hb, hkl, rounds_len, pureL, kOf, rOf2, slOf, nuA, rnewQ]; (repeat' apply And.intro); all_goals first | exact hK | omega)))
      apply h3_guard rfl rfl rfl rfl rfl (Nat.le_of_ble_eq_true rfl) rfl
      · intro _
        (apply Exists.intro; apply Exists.intro; apply And.intro; focus (apply hop_go rfl rfl; intro K' hK; simp [step1, evS, est, St.ev, St.put, St.add, St.upd, look_hit, look_miss, okd, stBin, bin, binS, binB, binI, shS, shB, S.num, constS, one, inI, stUn, stNil, stLoad, stAt, stField, stIndexAddr, stStore, wrAt, stAlloc, stBox, stIndex, stPart, stPartRow, stFieldV, stConv, cvS, cvB, cvI, stSlice, optN, SV.num, noMax, stArrPtr, stExtract, stLen, stBuild, A.isRow, A.isAgg, A.noRec, A.len, A.get, A.sub, A.set, A.over, Ent.bound, Kind.isStruct, Kind.isAgg, S.known, A.solid, segAt, segPut, segLen, R.a, R.len, A.r, stMake, stBuildSlice, litA, repA, rep1, fillA, putP, sing, stMin, stEqA, rowEq, Kind.isScal, -List.reduceReplicate, -List.getD_eq_getElem?_getD, viewM, visOf, memL, tab3, ty3, tab22, ty22, tab25, ty25, tab26, ty26, tab29, ty29, tab23, ty23, tab5, ty5, tab4, ty4, hkW, hkV, hrW, hrV, hbW, hbV, hWr, hVr, hb, hkl, rounds_len, pureL, kOf, rOf2, slOf, nuA, rnewQ]; (repeat' apply And.intro); all_goals first | exact hK | omega))
        apply h3_guard rfl rfl rfl rfl rfl (Nat.le_of_ble_eq_true rfl) rfl
        · intro _
          (apply Exists.intro; apply Exists.intro; apply And.intro; focus (apply hop_go rfl rfl; intro K' hK; simp [step1, evS, est, St.ev, St.put, St.add, St.upd, look_hit, look_miss, okd, stBin, bin, binS, binB, binI, shS, shB, S.num, constS, one, inI, stUn, stNil, stLoad, stAt, stField, stIndexAddr, stStore, wrAt, stAlloc, stBox, stIndex, stPart, stPartRow, stFieldV, stConv, cvS, cvB, cvI, stSlice, optN, SV.num, noMax, stArrPtr, stExtract, stLen, stBuild, A.isRow, A.isAgg, A.noRec, A.len, A.get, A.sub, A.set, A.over, Ent.bound, Kind.isStruct, Kind.isAgg, S.known, A.solid, segAt, segPut, segLen, R.a, R.len, A.r, stMake, stBuildSlice, litA, repA, rep1, fillA, putP, sing, stMin, stEqA, rowEq, Kind.isScal, -List.reduceReplicate, -List.getD_eq_getElem?_getD, viewM, visOf, memL, tab3, ty3, tab22, ty22, tab25, ty25, tab26, ty26, tab29, ty29, tab23, ty23, tab5, ty5, tab4, ty4, hkW, hkV, hrW, hrV, hbW, hbV, hWr, hVr, hb, hkl, rounds_len, pureL, kOf, rOf2, slOf, nuA, rnewQ]; (repeat' apply And.intro); all_goals first | exact hK | omega))
          repeat (first
    | (apply h3_go rfl rfl rfl rfl rfl (Nat.le_of_ble_eq_true rfl) rfl; focus (intro K' hK; simp [step1, evS, est, St.ev, St.put, St.add, St.upd, look_hit, look_miss, okd, stBin, bin, binS, binB, binI, shS, shB, S.num, constS, one, inI, stUn, stNil, stLoad, stAt, stField, stIndexAddr, stStore, wrAt, stAlloc, stBox, stIndex, stPart, stPartRow, stFieldV, stConv, cvS, cvB, cvI, stSlice, optN, SV.num, noMax, stArrPtr, stExtract, stLen, stBuild, A.isRow, A.isAgg, A.noRec, A.len, A.get, A.sub, A.set, A.over, Ent.bound, Kind.isStruct, Kind.isAgg, S.known, A.solid, segAt, segPut, segLen, R.a, R.len, A.r, stMake, stBuildSlice, litA, repA, rep1, fillA, putP, sing, stMin, stEqA, rowEq, Kind.isScal, -List.reduceReplicate, -List.getD_eq_getElem?_getD, viewM, visOf, memL, tab3, ty3, tab22, ty22, tab25, ty25, tab26, ty26, tab29, ty29, tab23, ty23, tab5, ty5, tab4, ty4, hkW, hkV, hrW, hrV, hbW, hbV, hWr, hVr, hb, hkl, rounds_len, pureL, kOf, rOf2, slOf, nuA, rnewQ]; (repeat' apply And.intro); all_goals first | exact hK | omega))
    | (apply h3_new rfl rfl rfl rfl rfl (Nat.le_of_ble_eq_true rfl) rfl; focus (intro K' hK; simp [step1, evS, est, St.ev, St.put, St.add, St.upd, look_hit, look_miss, okd, stBin, bin, binS, binB, binI, shS, shB, S.num, constS, one, inI, stUn, stNil, stLoad, stAt, stField, stIndexAddr, stStore, wrAt, stAlloc, stBox, stIndex, stPart, stPartRow, stFieldV, stConv, cvS, cvB, cvI, stSlice, optN, SV.num, noMax, stArrPtr, stExtract, stLen, stBuild, A.isRow, A.isAgg, A.noRec, A.len, A.get, A.sub, A.set, A.over, Ent.bound, Kind.isStruct, Kind.isAgg, S.known, A.solid, segAt, segPut, segLen, R.a, R.len, A.r, stMake, stBuildSlice, litA, repA, rep1, fillA, putP, sing, stMin, stEqA, rowEq, Kind.isScal, -List.reduceReplicate, -List.getD_eq_getElem?_getD, viewM, visOf, memL, tab3, ty3, tab22, ty22, tab25, ty25, tab26, ty26, tab29, ty29, tab23, ty23, tab5, ty5, tab4, ty4, hkW, hkV, hrW, hrV, hbW, hbV, hWr, hVr, hb, hkl, rounds_len, pureL, kOf, rOf2, slOf, nuA, rnewQ]; (repeat' apply And.intro); all_goals first | exact hK | omega)))
          apply h3_guard rfl rfl rfl rfl rfl (Nat.le_of_ble_eq_true rfl) rfl
          · intro _
            (apply Exists.intro; apply Exists.intro; apply And.intro; focus (apply hop_go rfl rfl; intro K' hK; simp [step1, evS, est, St.ev, St.put, St.add, St.upd, look_hit, look_miss, okd, stBin, bin, binS, binB, binI, shS, shB, S.num, constS, one, inI, stUn, stNil, stLoad, stAt, stField, stIndexAddr, stStore, wrAt, stAlloc, stBox, stIndex, stPart, stPartRow, stFieldV, stConv, cvS, cvB, cvI, stSlice, optN, SV.num, noMax, stArrPtr, stExtract, stLen, stBuild, A.isRow, A.isAgg, A.noRec, A.len, A.get, A.sub, A.set, A.over, Ent.bound, Kind.isStruct, Kind.isAgg, S.known, A.solid, segAt, segPut, segLen, R.a, R.len, A.r, stMake, stBuildSlice, litA, repA, rep1, fillA, putP, sing, stMin, stEqA, rowEq, Kind.isScal, -List.reduceReplicate, -List.getD_eq_getElem?_getD, viewM, visOf, memL, tab3, ty3, tab22, ty22, tab25, ty25, tab26, ty26, tab29, ty29, tab23, ty23, tab5, ty5, tab4, ty4, hkW, hkV, hrW, hrV, hbW, hbV, hWr, hVr, hb, hkl, rounds_len, pureL, kOf, rOf2, slOf, nuA, rnewQ]; (repeat' apply And.intro); all_goals first | exact hK | omega))
            apply h3_guard rfl rfl rfl rfl rfl (Nat.le_of_ble_eq_true rfl) rfl
            · intro _
              (apply Exists.intro; apply Exists.intro; apply And.intro; focus (apply hop_go rfl rfl; intro K' hK; simp [step1, evS, est, St.ev, St.put, St.add, St.upd, look_hit, look_miss, okd, stBin, bin, binS, binB, binI, shS, shB, S.num, constS, one, inI, stUn, stNil, stLoad, stAt, stField, stIndexAddr, stStore, wrAt, stAlloc, stBox, stIndex, stPart, stPartRow, stFieldV, stConv, cvS, cvB, cvI, stSlice, optN, SV.num, noMax, stArrPtr, stExtract, stLen, stBuild, A.isRow, A.isAgg, A.noRec, A.len, A.get, A.sub, A.set, A.over, Ent.bound, Kind.isStruct, Kind.isAgg, S.known, A.solid, segAt, segPut, segLen, R.a, R.len, A.r, stMake, stBuildSlice, litA, repA, rep1, fillA, putP, sing, stMin, stEqA, rowEq, Kind.isScal, -List.reduceReplicate, -List.getD_eq_getElem?_getD, viewM, visOf, memL, tab3, ty3, tab22, ty22, tab25, ty25, tab26, ty26, tab29, ty29, tab23, ty23, tab5, ty5, tab4, ty4, hkW, hkV, hrW, hrV, hbW, hbV, hWr, hVr, hb, hkl, rounds_len, pureL, kOf, rOf2, slOf, nuA, rnewQ]; (repeat' apply And.intro); all_goals first | exact hK | omega))
              apply h3_guard rfl rfl rfl rfl rfl (Nat.le_of_ble_eq_true rfl) rfl
              · intro _
                (apply Exists.intro; apply Exists.intro; apply And.intro; focus (apply hop_call; simp [newOf, step1, evS, est, St.ev, St.put, St.add, St.upd, look_hit, look_miss, okd, stBin, bin, binS, binB, binI, shS, shB, S.num, constS, one, inI, stUn, stNil, stLoad, stAt, stField, stIndexAddr, stStore, wrAt, stAlloc, stBox, stIndex, stPart, stPartRow, stFieldV, stConv, cvS, cvB, cvI, stSlice, optN, SV.num, noMax, stArrPtr, stExtract, stLen, stBuild, A.isRow, A.isAgg, A.noRec, A.len, A.get, A.sub, A.set, A.over, Ent.bound, Kind.isStruct, Kind.isAgg, S.known, A.solid, segAt, segPut, segLen, R.a, R.len, A.r, stMake, stBuildSlice, litA, repA, rep1, fillA, putP, sing, stMin, stEqA, rowEq, Kind.isScal, -List.reduceReplicate, -List.getD_eq_getElem?_getD, viewM, visOf, memL, tab3, ty3, tab22, ty22, tab25, ty25, tab26, ty26, tab29, ty29, tab23, ty23, tab5, ty5, tab4, ty4, hkW, hkV, hrW, hrV, hbW, hbV, hWr, hVr, hb, hkl, rounds_len, pureL, kOf, rOf2, slOf, nuA, rnewQ]; first | done | exact ⟨rfl, rfl⟩ | rfl))
                apply h3_guard rfl rfl rfl rfl rfl (Nat.le_of_ble_eq_true rfl) rfl
                · intro _
                  (apply Exists.intro; apply Exists.intro; apply And.intro; focus (apply hop_go rfl rfl; intro K' hK; simp [step1, evS, est, St.ev, St.put, St.add, St.upd, look_hit, look_miss, okd, stBin, bin, binS, binB, binI, shS, shB, S.num, constS, one, inI, stUn, stNil, stLoad, stAt, stField, stIndexAddr, stStore, wrAt, stAlloc, stBox, stIndex, stPart, stPartRow, stFieldV, stConv, cvS, cvB, cvI, stSlice, optN, SV.num, noMax, stArrPtr, stExtract, stLen, stBuild, A.isRow, A.isAgg, A.noRec, A.len, A.get, A.sub, A.set, A.over, Ent.bound, Kind.isStruct, Kind.isAgg, S.known, A.solid, segAt, segPut, segLen, R.a, R.len, A.r, stMake, stBuildSlice, litA, repA, rep1, fillA, putP, sing, stMin, stEqA, rowEq, Kind.isScal, -List.reduceReplicate, -List.getD_eq_getElem?_getD, viewM, visOf, memL, tab3, ty3, tab22, ty22, tab25, ty25, tab26, ty26, tab29, ty29, tab23, ty23, tab5, ty5, tab4, ty4, hkW, hkV, hrW, hrV, hbW, hbV, hWr, hVr, hb, hkl, rounds_len, pureL, kOf, rOf2, slOf, nuA, rnewQ]; (repeat' apply And.intro); all_goals first | exact hK | omega))
                  apply h3_guard rfl rfl rfl rfl rfl (Nat.le_of_ble_eq_true rfl) rfl
                  · intro _
                    (apply Exists.intro; apply Exists.intro; apply And.intro; focus (apply hop_go rfl rfl; intro K' hK; simp [step1, evS, est, St.ev, St.put, St.add, St.upd, look_hit, look_miss, okd, stBin, bin, binS, binB, binI, shS, shB, S.num, constS, one, inI, stUn, stNil, stLoad, stAt, stField, stIndexAddr, stStore, wrAt, stAlloc, stBox, stIndex, stPart, stPartRow, stFieldV, stConv, cvS, cvB, cvI, stSlice, optN, SV.num, noMax, stArrPtr, stExtract, stLen, stBuild, A.isRow, A.isAgg, A.noRec, A.len, A.get, A.sub, A.set, A.over, Ent.bound, Kind.isStruct, Kind.isAgg, S.known, A.solid, segAt, segPut, segLen, R.a, R.len, A.r, stMake, stBuildSlice, litA, repA, rep1, fillA, putP, sing, stMin, stEqA, rowEq, Kind.isScal, -List.reduceReplicate, -List.getD_eq_getElem?_getD, viewM, visOf, memL, tab3, ty3, tab22, ty22, tab25, ty25, tab26, ty26, tab29, ty29, tab23, ty23, tab5, ty5, tab4, ty4, hkW, hkV, hrW, hrV, hbW, hbV, hWr, hVr, hb, hkl, rounds_len, pureL, kOf, rOf2, slOf, nuA, rnewQ]; (repeat' apply And.intro); all_goals first | exact hK | omega))
                    apply h3_guard rfl rfl rfl rfl rfl (Nat.le_of_ble_eq_true rfl) rfl
                    · intro _
                      (apply Exists.intro; apply Exists.intro; apply And.intro; focus (apply hop_go rfl rfl; intro K' hK; simp [step1, evS, est, St.ev, St.put, St.add, St.upd, look_hit, look_miss, okd, stBin, bin, binS, binB, binI, shS, shB, S.num, constS, one, inI, stUn, stNil, stLoad, stAt, stField, stIndexAddr, stStore, wrAt, stAlloc, stBox, stIndex, stPart, stPartRow, stFieldV, stConv, cvS, cvB, cvI, stSlice, optN, SV.num, noMax, stArrPtr, stExtract, stLen, stBuild, A.isRow, A.isAgg, A.noRec, A.len, A.get, A.sub, A.set, A.over, Ent.bound, Kind.isStruct, Kind.isAgg, S.known, A.solid, segAt, segPut, segLen, R.a, R.len, A.r, stMake, stBuildSlice, litA, repA, rep1, fillA, putP, sing, stMin, stEqA, rowEq, Kind.isScal, -List.reduceReplicate, -List.getD_eq_getElem?_getD, viewM, visOf, memL, tab3, ty3, tab22, ty22, tab25, ty25, tab26, ty26, tab29, ty29, tab23, ty23, tab5, ty5, tab4, ty4, hkW, hkV, hrW, hrV, hbW, hbV, hWr, hVr, hb, hkl, rounds_len, pureL, kOf, rOf2, slOf, nuA, rnewQ]; (repeat' apply And.intro); all_goals first | exact hK | omega))
                      repeat (first
    | (apply h3_go rfl rfl rfl rfl rfl (Nat.le_of_ble_eq_true rfl) rfl; focus (intro K' hK; simp [step1, evS, est, St.ev, St.put, St.add, St.upd, look_hit, look_miss, okd, stBin, bin, binS, binB, binI, shS, shB, S.num, constS, one, inI, stUn, stNil, stLoad, stAt, stField, stIndexAddr, stStore, wrAt, stAlloc, stBox, stIndex, stPart, stPartRow, stFieldV, stConv, cvS, cvB, cvI, stSlice, optN, SV.num, noMax, stArrPtr, stExtract, stLen, stBuild, A.isRow, A.isAgg, A.noRec, A.len, A.get, A.sub, A.set, A.over, Ent.bound, Kind.isStruct, Kind.isAgg, S.known, A.solid, segAt, segPut, segLen, R.a, R.len, A.r, stMake, stBuildSlice, litA, repA, rep1, fillA, putP, sing, stMin, stEqA, rowEq, Kind.isScal, -List.reduceReplicate, -List.getD_eq_getElem?_getD, viewM, visOf, memL, tab3, ty3, tab22, ty22, tab25, ty25, tab26, ty26, tab29, ty29, tab23, ty23, tab5, ty5, tab4, ty4, hkW, hkV, hrW, hrV, hbW, hbV, hWr, hVr, hb, hkl, rounds_len, pureL, kOf, rOf2, slOf, nuA, rnewQ]; (repeat' apply And.intro); all_goals first | exact hK | omega))
    | (apply h3_new rfl rfl rfl rfl rfl (Nat.le_of_ble_eq_true rfl) rfl; focus (intro K' hK; simp [step1, evS, est, St.ev, St.put, St.add, St.upd, look_hit, look_miss, okd, stBin, bin, binS, binB, binI, shS, shB, S.num, constS, one, inI, stUn, stNil, stLoad, stAt, stField, stIndexAddr, stStore, wrAt, stAlloc, stBox, stIndex, stPart, stPartRow, stFieldV, stConv, cvS, cvB, cvI, stSlice, optN, SV.num, noMax, stArrPtr, stExtract, stLen, stBuild, A.isRow, A.isAgg, A.noRec, A.len, A.get, A.sub, A.set, A.over, Ent.bound, Kind.isStruct, Kind.isAgg, S.known, A.solid, segAt, segPut, segLen, R.a, R.len, A.r, stMake, stBuildSlice, litA, repA, rep1, fillA, putP, sing, stMin, stEqA, rowEq, Kind.isScal, -List.reduceReplicate, -List.getD_eq_getElem?_getD, viewM, visOf, memL, tab3, ty3, tab22, ty22, tab25, ty25, tab26, ty26, tab29, ty29, tab23, ty23, tab5, ty5, tab4, ty4, hkW, hkV, hrW, hrV, hbW, hbV, hWr, hVr, hb, hkl, rounds_len, pureL, kOf, rOf2, slOf, nuA, rnewQ]; (repeat' apply And.intro); all_goals first | exact hK | omega)))
                      apply h3_guard rfl rfl rfl rfl rfl (Nat.le_of_ble_eq_true rfl) rfl
                      · intro _
                        (apply Exists.intro; apply Exists.intro; apply And.intro; focus (apply hop_go rfl rfl; intro K' hK; simp [step1, evS, est, St.ev, St.put, St.add, St.upd, look_hit, look_miss, okd, stBin, bin, binS, binB, binI, shS, shB, S.num, constS, one, inI, stUn, stNil, stLoad, stAt, stField, stIndexAddr, stStore, wrAt, stAlloc, stBox, stIndex, stPart, stPartRow, stFieldV, stConv, cvS, cvB, cvI, stSlice, optN, SV.num, noMax, stArrPtr, stExtract, stLen, stBuild, A.isRow, A.isAgg, A.noRec, A.len, A.get, A.sub, A.set, A.over, Ent.bound, Kind.isStruct, Kind.isAgg, S.known, A.solid, segAt, segPut, segLen, R.a, R.len, A.r, stMake, stBuildSlice, litA, repA, rep1, fillA, putP, sing, stMin, stEqA, rowEq, Kind.isScal, -List.reduceReplicate, -List.getD_eq_getElem?_getD, viewM, visOf, memL, tab3, ty3, tab22, ty22, tab25, ty25, tab26, ty26, tab29, ty29, tab23, ty23, tab5, ty5, tab4, ty4, hkW, hkV, hrW, hrV, hbW, hbV, hWr, hVr, hb, hkl, rounds_len, pureL, kOf, rOf2, slOf, nuA, rnewQ]; (repeat' apply And.intro); all_goals first | exact hK | omega))
                        apply h3_guard rfl rfl rfl rfl rfl (Nat.le_of_ble_eq_true rfl) rfl
                        · intro _
                          (apply Exists.intro; apply Exists.intro; apply And.intro; focus (apply hop_go rfl rfl; intro K' hK; simp [step1, evS, est, St.ev, St.put, St.add, St.upd, look_hit, look_miss, okd, stBin, bin, binS, binB, binI, shS, shB, S.num, constS, one, inI, stUn, stNil, stLoad, stAt, stField, stIndexAddr, stStore, wrAt, stAlloc, stBox, stIndex, stPart, stPartRow, stFieldV, stConv, cvS, cvB, cvI, stSlice, optN, SV.num, noMax, stArrPtr, stExtract, stLen, stBuild, A.isRow, A.isAgg, A.noRec, A.len, A.get, A.sub, A.set, A.over, Ent.bound, Kind.isStruct, Kind.isAgg, S.known, A.solid, segAt, segPut, segLen, R.a, R.len, A.r, stMake, stBuildSlice, litA, repA, rep1, fillA, putP, sing, stMin, stEqA, rowEq, Kind.isScal, -List.reduceReplicate, -List.getD_eq_getElem?_getD, viewM, visOf, memL, tab3, ty3, tab22, ty22, tab25, ty25, tab26, ty26, tab29, ty29, tab23, ty23, tab5, ty5, tab4, ty4, hkW, hkV, hrW, hrV, hbW, hbV, hWr, hVr, hb, hkl, rounds_len, pureL, kOf, rOf2, slOf, nuA, rnewQ]; (repeat' apply And.intro); all_goals first | exact hK | omega))
                          apply h3_guard rfl rfl rfl rfl rfl (Nat.le_of_ble_eq_true rfl) rfl
                          · intro _
                            (apply Exists.intro; apply Exists.intro; apply And.intro; focus (apply hop_go rfl rfl; intro K' hK; simp [step1, evS, est, St.ev, St.put, St.add, St.upd, look_hit, look_miss, okd, stBin, bin, binS, binB, binI, shS, shB, S.num, constS, one, inI, stUn, stNil, stLoad, stAt, stField, stIndexAddr, stStore, wrAt, stAlloc, stBox, stIndex, stPart, stPartRow, stFieldV, stConv, cvS, cvB, cvI, stSlice, optN, SV.num, noMax, stArrPtr, stExtract, stLen, stBuild, A.isRow, A.isAgg, A.noRec, A.len, A.get, A.sub, A.set, A.over, Ent.bound, Kind.isStruct, Kind.isAgg, S.known, A.solid, segAt, segPut, segLen, R.a, R.len, A.r, stMake, stBuildSlice, litA, repA, rep1, fillA, putP, sing, stMin, stEqA, rowEq, Kind.isScal, -List.reduceReplicate, -List.getD_eq_getElem?_getD, viewM, visOf, memL, tab3, ty3, tab22, ty22, tab25, ty25, tab26, ty26, tab29, ty29, tab23, ty23, tab5, ty5, tab4, ty4, hkW, hkV, hrW, hrV, hbW, hbV, hWr, hVr, hb, hkl, rounds_len, pureL, kOf, rOf2, slOf, nuA, rnewQ]; (repeat' apply And.intro); all_goals first | exact hK | omega))
                            apply h3_guard rfl rfl rfl rfl rfl (Nat.le_of_ble_eq_true rfl) rfl
                            · intro _
                              (apply Exists.intro; apply Exists.intro; apply And.intro; focus (apply hop_call; simp [newOf, step1, evS, est, St.ev, St.put, St.add, St.upd, look_hit, look_miss, okd, stBin, bin, binS, binB, binI, shS, shB, S.num, constS, one, inI, stUn, stNil, stLoad, stAt, stField, stIndexAddr, stStore, wrAt, stAlloc, stBox, stIndex, stPart, stPartRow, stFieldV, stConv, cvS, cvB, cvI, stSlice, optN, SV.num, noMax, stArrPtr, stExtract, stLen, stBuild, A.isRow, A.isAgg, A.noRec, A.len, A.get, A.sub, A.set, A.over, Ent.bound, Kind.isStruct, Kind.isAgg, S.known, A.solid, segAt, segPut, segLen, R.a, R.len, A.r, stMake, stBuildSlice, litA, repA, rep1, fillA, putP, sing, stMin, stEqA, rowEq, Kind.isScal, -List.reduceReplicate, -List.getD_eq_getElem?_getD, viewM, visOf, memL, tab3, ty3, tab22, ty22, tab25, ty25, tab26, ty26, tab29, ty29, tab23, ty23, tab5, ty5, tab4, ty4, hkW, hkV, hrW, hrV, hbW, hbV, hWr, hVr, hb, hkl, rounds_len, pureL, kOf, rOf2, slOf, nuA, rnewQ]; first | done | exact ⟨rfl, rfl⟩ | rfl))
                              apply h3_guard rfl rfl rfl rfl rfl (Nat.le_of_ble_eq_true rfl) rfl
                              · intro _
                                (apply Exists.intro; apply Exists.intro; apply And.intro; focus (apply hop_go rfl rfl; intro K' hK; simp [step1, evS, est, St.ev, St.put, St.add, St.upd, look_hit, look_miss, okd, stBin, bin, binS, binB, binI, shS, shB, S.num, constS, one, inI, stUn, stNil, stLoad, stAt, stField, stIndexAddr, stStore, wrAt, stAlloc, stBox, stIndex, stPart, stPartRow, stFieldV, stConv, cvS, cvB, cvI, stSlice, optN, SV.num, noMax, stArrPtr, stExtract, stLen, stBuild, A.isRow, A.isAgg, A.noRec, A.len, A.get, A.sub, A.set, A.over, Ent.bound, Kind.isStruct, Kind.isAgg, S.known, A.solid, segAt, segPut, segLen, R.a, R.len, A.r, stMake, stBuildSlice, litA, repA, rep1, fillA, putP, sing, stMin, stEqA, rowEq, Kind.isScal, -List.reduceReplicate, -List.getD_eq_getElem?_getD, viewM, visOf, memL, tab3, ty3, tab22, ty22, tab25, ty25, tab26, ty26, tab29, ty29, tab23, ty23, tab5, ty5, tab4, ty4, hkW, hkV, hrW, hrV, hbW, hbV, hWr, hVr, hb, hkl, rounds_len, pureL, kOf, rOf2, slOf, nuA, rnewQ]; (repeat' apply And.intro); all_goals first | exact hK | omega))
                                apply h3_guard rfl rfl rfl rfl rfl (Nat.le_of_ble_eq_true rfl) rfl
                                · intro _
                                  (apply Exists.intro; apply Exists.intro; apply And.intro; focus (apply hop_go rfl rfl; intro K' hK; simp [step1, evS, est, St.ev, St.put, St.add, St.upd, look_hit, look_miss, okd, stBin, bin, binS, binB, binI, shS, shB, S.num, constS, one, inI, stUn, stNil, stLoad, stAt, stField, stIndexAddr, stStore, wrAt, stAlloc, stBox, stIndex, stPart, stPartRow, stFieldV, stConv, cvS, cvB, cvI, stSlice, optN, SV.num, noMax, stArrPtr, stExtract, stLen, stBuild, A.isRow, A.isAgg, A.noRec, A.len, A.get, A.sub, A.set, A.over, Ent.bound, Kind.isStruct, Kind.isAgg, S.known, A.solid, segAt, segPut, segLen, R.a, R.len, A.r, stMake, stBuildSlice, litA, repA, rep1, fillA, putP, sing, stMin, stEqA, rowEq, Kind.isScal, -List.reduceReplicate, -List.getD_eq_getElem?_getD, viewM, visOf, memL, tab3, ty3, tab22, ty22, tab25, ty25, tab26, ty26, tab29, ty29, tab23, ty23, tab5, ty5, tab4, ty4, hkW, hkV, hrW, hrV, hbW, hbV, hWr, hVr, hb, hkl, rounds_len, pureL, kOf, rOf2, slOf, nuA, rnewQ]; (repeat' apply And.intro); all_goals first | exact hK | omega))
                                  apply h3_guard rfl rfl rfl rfl rfl (Nat.le_of_ble_eq_true rfl) rfl
                                  · intro _
                                    (apply Exists.intro; apply Exists.intro; apply And.intro; focus (apply hop_go rfl rfl; intro K' hK; simp [step1, evS, est, St.ev, St.put, St.add, St.upd, look_hit, look_miss, okd, stBin, bin, binS, binB, binI, shS, shB, S.num, constS, one, inI, stUn, stNil, stLoad, stAt, stField, stIndexAddr, stStore, wrAt, stAlloc, stBox, stIndex, stPart, stPartRow, stFieldV, stConv, cvS, cvB, cvI, stSlice, optN, SV.num, noMax, stArrPtr, stExtract, stLen, stBuild, A.isRow, A.isAgg, A.noRec, A.len, A.get, A.sub, A.set, A.over, Ent.bound, Kind.isStruct, Kind.isAgg, S.known, A.solid, segAt, segPut, segLen, R.a, R.len, A.r, stMake, stBuildSlice, litA, repA, rep1, fillA, putP, sing, stMin, stEqA, rowEq, Kind.isScal, -List.reduceReplicate, -List.getD_eq_getElem?_getD, viewM, visOf, memL, tab3, ty3, tab22, ty22, tab25, ty25, tab26, ty26, tab29, ty29, tab23, ty23, tab5, ty5, tab4, ty4, hkW, hkV, hrW, hrV, hbW, hbV, hWr, hVr, hb, hkl, rounds_len, pureL, kOf, rOf2, slOf, nuA, rnewQ]; (repeat' apply And.intro); all_goals first | exact hK | omega))
                                    repeat (first
    | (apply h3_go rfl rfl rfl rfl rfl (Nat.le_of_ble_eq_true rfl) rfl; focus (intro K' hK; simp [step1, evS, est, St.ev, St.put, St.add, St.upd, look_hit, look_miss, okd, stBin, bin, binS, binB, binI, shS, shB, S.num, constS, one, inI, stUn, stNil, stLoad, stAt, stField, stIndexAddr, stStore, wrAt, stAlloc, stBox, stIndex, stPart, stPartRow, stFieldV, stConv, cvS, cvB, cvI, stSlice, optN, SV.num, noMax, stArrPtr, stExtract, stLen, stBuild, A.isRow, A.isAgg, A.noRec, A.len, A.get, A.sub, A.set, A.over, Ent.bound, Kind.isStruct, Kind.isAgg, S.known, A.solid, segAt, segPut, segLen, R.a, R.len, A.r, stMake, stBuildSlice, litA, repA, rep1, fillA, putP, sing, stMin, stEqA, rowEq, Kind.isScal, -List.reduceReplicate, -List.getD_eq_getElem?_getD, viewM, visOf, memL, tab3, ty3, tab22, ty22, tab25, ty25, tab26, ty26, tab29, ty29, tab23, ty23, tab5, ty5, tab4, ty4, hkW, hkV, hrW, hrV, hbW, hbV, hWr, hVr, hb, hkl, rounds_len, pureL, kOf, rOf2, slOf, nuA, rnewQ]; (repeat' apply And.intro); all_goals first | exact hK | omega))
    | (apply h3_new rfl rfl rfl rfl rfl (Nat.le_of_ble_eq_true rfl) rfl; focus (intro K' hK; simp [step1, evS, est, St.ev, St.put, St.add, St.upd, look_hit, look_miss, okd, stBin, bin, binS, binB, binI, shS, shB, S.num, constS, one, inI, stUn, stNil, stLoad, stAt, stField, stIndexAddr, stStore, wrAt, stAlloc, stBox, stIndex, stPart, stPartRow, stFieldV, stConv, cvS, cvB, cvI, stSlice, optN, SV.num, noMax, stArrPtr, stExtract, stLen, stBuild, A.isRow, A.isAgg, A.noRec, A.len, A.get, A.sub, A.set, A.over, Ent.bound, Kind.isStruct, Kind.isAgg, S.known, A.solid, segAt, segPut, segLen, R.a, R.len, A.r, stMake, stBuildSlice, litA, repA, rep1, fillA, putP, sing, stMin, stEqA, rowEq, Kind.isScal, -List.reduceReplicate, -List.getD_eq_getElem?_getD, viewM, visOf, memL, tab3, ty3, tab22, ty22, tab25, ty25, tab26, ty26, tab29, ty29, tab23, ty23, tab5, ty5, tab4, ty4, hkW, hkV, hrW, hrV, hbW, hbV, hWr, hVr, hb, hkl, rounds_len, pureL, kOf, rOf2, slOf, nuA, rnewQ]; (repeat' apply And.intro); all_goals first | exact hK | omega)))
                                    refine h3_nil ?_
                                    simp [finL, contL, contAt, stT, List.range, List.range.loop, -List.reduceReplicate]
                                    refine ok_run hB tabOK pureL_ok 100 ?_
                                    repeat (first
    | rw [run_ops0]
    | rw [run_seq]
    | rw [run_region]
    | rw [run_block]
    | rw [run_blk]
    | rw [run_skip]
    | (apply run_go rfl; focus (intro L K hK; simp [step1, evS, est, St.ev, St.put, St.add, St.upd, look_hit, look_miss, okd, stBin, bin, binS, binB, binI, shS, shB, S.num, constS, one, inI, stUn, stNil, stLoad, stAt, stField, stIndexAddr, stStore, wrAt, stAlloc, stBox, stIndex, stPart, stPartRow, stFieldV, stConv, cvS, cvB, cvI, stSlice, optN, SV.num, noMax, stArrPtr, stExtract, stLen, stBuild, A.isRow, A.isAgg, A.noRec, A.len, A.get, A.sub, A.set, A.over, Ent.bound, Kind.isStruct, Kind.isAgg, S.known, A.solid, segAt, segPut, segLen, R.a, R.len, A.r, stMake, stBuildSlice, litA, repA, rep1, fillA, putP, sing, stMin, stEqA, rowEq, Kind.isScal, -List.reduceReplicate, -List.getD_eq_getElem?_getD, tab3, ty3, tab22, ty22, tab25, ty25, tab26, ty26, tab29, ty29, tab23, ty23, tab5, ty5, tab4, ty4, ntmps6]; (repeat' apply And.intro); all_goals first | exact hK | omega)))
                                    rw [run_ret]
                                    simp [finOf, resP, resV, extraOwn, look_hit, look_miss, one, -List.reduceReplicate, -List.getD_eq_getElem?_getD, stLoad, stAt, Ent.bound, A.len, A.isRow, A.isAgg, results6, f6]
                                  · intro h; first | cases h | (simp at h; done)
                                · intro h; first | cases h | (simp at h; done)
                              · intro h; first | cases h | (simp at h; done)
                            · intro h; first | cases h | (simp at h; done)
                          · intro h; first | cases h | (simp at h; done)
                        · intro h; first | cases h | (simp at h; done)
                      · intro h; first | cases h | (simp at h; done)
                    · intro h; first | cases h | (simp at h; done)
                  · intro h; first | cases h | (simp at h; done)
                · intro h; first | cases h | (simp at h; done)
              · intro h; first | cases h | (simp at h; done)
            · intro h; first | cases h | (simp at h; done)
          · intro h; first | cases h | (simp at h; done)
        · intro h; first | cases h | (simp at h; done)
      · intro h; first | cases h | (simp at h; done)
    · -- 32 bytes
      subst hj16
      obtain ⟨W, hWe, hWl, hWr⟩ := newWL (key := key) (nk := 8) (by omega) (by omega)
      obtain ⟨V, hVe, hVl, hVr⟩ := newWL (key := key) (nk := 4) (by omega) (by omega)
      have hkW : kFit b W 15 := kfit hb hWl (by omega)
      have hkV : kFit b V 11 := kfit hb hVl (by omega)
      have hrW : rFit b (tabR 256) (toI W) 60 8 := rfit (nk := 8) hb hWl (by omega)
      have hrV : rFit b (tabR 256) (toI V) 44 4 := rfit (nk := 4) hb hVl (by omega)
      have hbW : outB (rRounds (tabR 256) (toI W) 8 (iniS b (toI W) 16) 14) 16 = rounds b W 15 14 := block_eq tab_ok hb W 8
      have hbV : outB (rRounds (tabR 256) (toI V) 4 (iniS b (toI V) 16) 10) 16 = rounds b V 11 10 := block_eq tab_ok hb V 4
      have hWr : rsch key (tabR 256) 8 60 = toI W := hWr
      have hVr : rsch key (tabR 256) 4 44 = toI V := hVr
      refine ok_call [1] rfl rfl ⟨f21, func21, nofun, by decide⟩ (spec21L key 8 32 (by omega) (by omega) (by omega)) trivial (by simp) (by simp [matchM, ix, renA, belA]) rfl rfl (Nat.le_of_ble_eq_true rfl) ?_
      rintro sv m' ⟨rfl, cap, rfl⟩ _
      simp only [newMem, hWe, afterM, putM, renMk, renA, renSeg, renR, renS, renV, ix, St.put, List.map_cons, List.map_nil, List.drop, List.length_cons, List.length_nil, List.cons_append, List.nil_append, one]
      simp
      refine ok_run hB tabOK pureL_ok 100 ?_
      repeat (first
    | rw [run_ops0]
    | rw [run_seq]
    | rw [run_region]
    | rw [run_block]
    | rw [run_blk]
    | rw [run_skip]
    | (apply run_go rfl; focus (intro L K hK; simp [step1, evS, est, St.ev, St.put, St.add, St.upd, look_hit, look_miss, okd, stBin, bin, binS, binB, binI, shS, shB, S.num, constS, one, inI, stUn, stNil, stLoad, stAt, stField, stIndexAddr, stStore, wrAt, stAlloc, stBox, stIndex, stPart, stPartRow, stFieldV, stConv, cvS, cvB, cvI, stSlice, optN, SV.num, noMax, stArrPtr, stExtract, stLen, stBuild, A.isRow, A.isAgg, A.noRec, A.len, A.get, A.sub, A.set, A.over, Ent.bound, Kind.isStruct, Kind.isAgg, S.known, A.solid, segAt, segPut, segLen, R.a, R.len, A.r, stMake, stBuildSlice, litA, repA, rep1, fillA, putP, sing, stMin, stEqA, rowEq, Kind.isScal, -List.reduceReplicate, -List.getD_eq_getElem?_getD, tab3, ty3, tab22, ty22, tab25, ty25, tab26, ty26, tab29, ty29, tab23, ty23, tab5, ty5, tab4, ty4, ntmps6]; (repeat' apply And.intro); all_goals first | exact hK | omega)))
      apply run_guard rfl rfl rfl rfl
      · intro _
        (apply Exists.intro; apply And.intro; focus (intro L K hK; simp [step1, evS, est, St.ev, St.put, St.add, St.upd, look_hit, look_miss, okd, stBin, bin, binS, binB, binI, shS, shB, S.num, constS, one, inI, stUn, stNil, stLoad, stAt, stField, stIndexAddr, stStore, wrAt, stAlloc, stBox, stIndex, stPart, stPartRow, stFieldV, stConv, cvS, cvB, cvI, stSlice, optN, SV.num, noMax, stArrPtr, stExtract, stLen, stBuild, A.isRow, A.isAgg, A.noRec, A.len, A.get, A.sub, A.set, A.over, Ent.bound, Kind.isStruct, Kind.isAgg, S.known, A.solid, segAt, segPut, segLen, R.a, R.len, A.r, stMake, stBuildSlice, litA, repA, rep1, fillA, putP, sing, stMin, stEqA, rowEq, Kind.isScal, -List.reduceReplicate, -List.getD_eq_getElem?_getD, tab3, ty3, tab22, ty22, tab25, ty25, tab26, ty26, tab29, ty29, tab23, ty23, tab5, ty5, tab4, ty4, ntmps6]; (repeat' apply And.intro); all_goals first | exact hK | omega))
        apply run_guard rfl rfl rfl rfl
        · intro _
          (apply Exists.intro; apply And.intro; focus (intro L K hK; simp [step1, evS, est, St.ev, St.put, St.add, St.upd, look_hit, look_miss, okd, stBin, bin, binS, binB, binI, shS, shB, S.num, constS, one, inI, stUn, stNil, stLoad, stAt, stField, stIndexAddr, stStore, wrAt, stAlloc, stBox, stIndex, stPart, stPartRow, stFieldV, stConv, cvS, cvB, cvI, stSlice, optN, SV.num, noMax, stArrPtr, stExtract, stLen, stBuild, A.isRow, A.isAgg, A.noRec, A.len, A.get, A.sub, A.set, A.over, Ent.bound, Kind.isStruct, Kind.isAgg, S.known, A.solid, segAt, segPut, segLen, R.a, R.len, A.r, stMake, stBuildSlice, litA, repA, rep1, fillA, putP, sing, stMin, stEqA, rowEq, Kind.isScal, -List.reduceReplicate, -List.getD_eq_getElem?_getD, tab3, ty3, tab22, ty22, tab25, ty25, tab26, ty26, tab29, ty29, tab23, ty23, tab5, ty5, tab4, ty4, ntmps6]; (repeat' apply And.intro); all_goals first | exact hK | omega))
          repeat (first
    | rw [run_ops0]
    | rw [run_seq]
    | rw [run_region]
    | rw [run_block]
    | rw [run_blk]
    | rw [run_skip]
    | (apply run_go rfl; focus (intro L K hK; simp [step1, evS, est, St.ev, St.put, St.add, St.upd, look_hit, look_miss, okd, stBin, bin, binS, binB, binI, shS, shB, S.num, constS, one, inI, stUn, stNil, stLoad, stAt, stField, stIndexAddr, stStore, wrAt, stAlloc, stBox, stIndex, stPart, stPartRow, stFieldV, stConv, cvS, cvB, cvI, stSlice, optN, SV.num, noMax, stArrPtr, stExtract, stLen, stBuild, A.isRow, A.isAgg, A.noRec, A.len, A.get, A.sub, A.set, A.over, Ent.bound, Kind.isStruct, Kind.isAgg, S.known, A.solid, segAt, segPut, segLen, R.a, R.len, A.r, stMake, stBuildSlice, litA, repA, rep1, fillA, putP, sing, stMin, stEqA, rowEq, Kind.isScal, -List.reduceReplicate, -List.getD_eq_getElem?_getD, tab3, ty3, tab22, ty22, tab25, ty25, tab26, ty26, tab29, ty29, tab23, ty23, tab5, ty5, tab4, ty4, ntmps6]; (repeat' apply And.intro); all_goals first | exact hK | omega)))
          apply run_cond2 rfl
          · intro h; cases h
          intro _
          repeat (first
    | rw [run_ops0]
    | rw [run_seq]
    | rw [run_region]
    | rw [run_block]
    | rw [run_blk]
    | rw [run_skip]
    | (apply run_go rfl; focus (intro L K hK; simp [step1, evS, est, St.ev, St.put, St.add, St.upd, look_hit, look_miss, okd, stBin, bin, binS, binB, binI, shS, shB, S.num, constS, one, inI, stUn, stNil, stLoad, stAt, stField, stIndexAddr, stStore, wrAt, stAlloc, stBox, stIndex, stPart, stPartRow, stFieldV, stConv, cvS, cvB, cvI, stSlice, optN, SV.num, noMax, stArrPtr, stExtract, stLen, stBuild, A.isRow, A.isAgg, A.noRec, A.len, A.get, A.sub, A.set, A.over, Ent.bound, Kind.isStruct, Kind.isAgg, S.known, A.solid, segAt, segPut, segLen, R.a, R.len, A.r, stMake, stBuildSlice, litA, repA, rep1, fillA, putP, sing, stMin, stEqA, rowEq, Kind.isScal, -List.reduceReplicate, -List.getD_eq_getElem?_getD, tab3, ty3, tab22, ty22, tab25, ty25, tab26, ty26, tab29, ty29, tab23, ty23, tab5, ty5, tab4, ty4, ntmps6]; (repeat' apply And.intro); all_goals first | exact hK | omega)))
          refine run_call rfl rfl rfl rfl ?_
          refine ok_call [1] rfl rfl ⟨f21, func21, nofun, by decide⟩ (spec21L key 4 32 (by omega) (by omega) (by omega)) trivial (by simp) (by simp [matchM, ix, renA, belA]) rfl rfl (Nat.le_of_ble_eq_true rfl) ?_
          rintro sv m' ⟨rfl, cap2, rfl⟩ _
          simp only [newMem, hVe, afterM, putM, renMk, renA, renSeg, renR, renS, renV, ix, St.put, List.map_cons, List.map_nil, List.drop, List.length_cons, List.length_nil, List.cons_append, List.nil_append, one]
          simp
          refine ok_run hB tabOK pureL_ok 100 ?_
          repeat (first
    | rw [run_ops0]
    | rw [run_seq]
    | rw [run_region]
    | rw [run_block]
    | rw [run_blk]
    | rw [run_skip]
    | (apply run_go rfl; focus (intro L K hK; simp [step1, evS, est, St.ev, St.put, St.add, St.upd, look_hit, look_miss, okd, stBin, bin, binS, binB, binI, shS, shB, S.num, constS, one, inI, stUn, stNil, stLoad, stAt, stField, stIndexAddr, stStore, wrAt, stAlloc, stBox, stIndex, stPart, stPartRow, stFieldV, stConv, cvS, cvB, cvI, stSlice, optN, SV.num, noMax, stArrPtr, stExtract, stLen, stBuild, A.isRow, A.isAgg, A.noRec, A.len, A.get, A.sub, A.set, A.over, Ent.bound, Kind.isStruct, Kind.isAgg, S.known, A.solid, segAt, segPut, segLen, R.a, R.len, A.r, stMake, stBuildSlice, litA, repA, rep1, fillA, putP, sing, stMin, stEqA, rowEq, Kind.isScal, -List.reduceReplicate, -List.getD_eq_getElem?_getD, tab3, ty3, tab22, ty22, tab25, ty25, tab26, ty26, tab29, ty29, tab23, ty23, tab5, ty5, tab4, ty4, ntmps6]; (repeat' apply And.intro); all_goals first | exact hK | omega)))
          rw [run_draw]
          refine ok_draw5 9 [] [(8, 6)] tabOK pureL_ok newNone_ok pureL_sub newNone_sub mixed (by decide +kernel) rfl rfl ?_
          repeat (first
    | (apply h3_go rfl rfl rfl rfl rfl (Nat.le_of_ble_eq_true rfl) rfl; focus (intro K' hK; simp [step1, evS, est, St.ev, St.put, St.add, St.upd, look_hit, look_miss, okd, stBin, bin, binS, binB, binI, shS, shB, S.num, constS, one, inI, stUn, stNil, stLoad, stAt, stField, stIndexAddr, stStore, wrAt, stAlloc, stBox, stIndex, stPart, stPartRow, stFieldV, stConv, cvS, cvB, cvI, stSlice, optN, SV.num, noMax, stArrPtr, stExtract, stLen, stBuild, A.isRow, A.isAgg, A.noRec, A.len, A.get, A.sub, A.set, A.over, Ent.bound, Kind.isStruct, Kind.isAgg, S.known, A.solid, segAt, segPut, segLen, R.a, R.len, A.r, stMake, stBuildSlice, litA, repA, rep1, fillA, putP, sing, stMin, stEqA, rowEq, Kind.isScal, -List.reduceReplicate, -List.getD_eq_getElem?_getD, viewM, visOf, memL, tab3, ty3, tab22, ty22, tab25, ty25, tab26, ty26, tab29, ty29, tab23, ty23, tab5, ty5, tab4, ty4, hkW, hkV, hb, pureL, kOf]; (repeat' apply And.intro); all_goals first | exact hK | omega))
    | (apply h3_new rfl rfl rfl rfl rfl (Nat.le_of_ble_eq_true rfl) rfl; focus (intro K' hK; simp [step1, evS, est, St.ev, St.put, St.add, St.upd, look_hit, look_miss, okd, stBin, bin, binS, binB, binI, shS, shB, S.num, constS, one, inI, stUn, stNil, stLoad, stAt, stField, stIndexAddr, stStore, wrAt, stAlloc, stBox, stIndex, stPart, stPartRow, stFieldV, stConv, cvS, cvB, cvI, stSlice, optN, SV.num, noMax, stArrPtr, stExtract, stLen, stBuild, A.isRow, A.isAgg, A.noRec, A.len, A.get, A.sub, A.set, A.over, Ent.bound, Kind.isStruct, Kind.isAgg, S.known, A.solid, segAt, segPut, segLen, R.a, R.len, A.r, stMake, stBuildSlice, litA, repA, rep1, fillA, putP, sing, stMin, stEqA, rowEq, Kind.isScal, -List.reduceReplicate, -List.getD_eq_getElem?_getD, viewM, visOf, memL, tab3, ty3, tab22, ty22, tab25, ty25, tab26, ty26, tab29, ty29, tab23, ty23, tab5, ty5, tab4, ty4, hkW, hkV, hb, pureL, kOf]; (repeat' apply And.intro); all_goals first | exact hK | omega)))
          (apply h3_sto rfl; focus (intro K' hK; simp [stoP, step1, evS, est, St.ev, St.put, St.add, St.upd, look_hit, look_miss, okd, stBin, bin, binS, binB, binI, shS, shB, S.num, constS, one, inI, stUn, stNil, stLoad, stAt, stField, stIndexAddr, stStore, wrAt, stAlloc, stBox, stIndex, stPart, stPartRow, stFieldV, stConv, cvS, cvB, cvI, stSlice, optN, SV.num, noMax, stArrPtr, stExtract, stLen, stBuild, A.isRow, A.isAgg, A.noRec, A.len, A.get, A.sub, A.set, A.over, Ent.bound, Kind.isStruct, Kind.isAgg, S.known, A.solid, segAt, segPut, segLen, R.a, R.len, A.r, stMake, stBuildSlice, litA, repA, rep1, fillA, putP, sing, stMin, stEqA, rowEq, Kind.isScal, -List.reduceReplicate, -List.getD_eq_getElem?_getD, viewM, visOf, memL, tab3, ty3, tab22, ty22, tab25, ty25, tab26, ty26, tab29, ty29, tab23, ty23, tab5, ty5, tab4, ty4, rounds_len, hb]; (repeat' apply And.intro); all_goals first | exact hK | omega))
          refine h3_nil ?_
          simp [finL, contL, contAt, stT, List.range, List.range.loop, -List.reduceReplicate]
          refine ok_run hB tabOK pureL_ok 100 ?_
          repeat (first
    | rw [run_ops0]
    | rw [run_seq]
    | rw [run_region]
    | rw [run_block]
    | rw [run_blk]
    | rw [run_skip]
    | (apply run_go rfl; focus (intro L K hK; simp [step1, evS, est, St.ev, St.put, St.add, St.upd, look_hit, look_miss, okd, stBin, bin, binS, binB, binI, shS, shB, S.num, constS, one, inI, stUn, stNil, stLoad, stAt, stField, stIndexAddr, stStore, wrAt, stAlloc, stBox, stIndex, stPart, stPartRow, stFieldV, stConv, cvS, cvB, cvI, stSlice, optN, SV.num, noMax, stArrPtr, stExtract, stLen, stBuild, A.isRow, A.isAgg, A.noRec, A.len, A.get, A.sub, A.set, A.over, Ent.bound, Kind.isStruct, Kind.isAgg, S.known, A.solid, segAt, segPut, segLen, R.a, R.len, A.r, stMake, stBuildSlice, litA, repA, rep1, fillA, putP, sing, stMin, stEqA, rowEq, Kind.isScal, -List.reduceReplicate, -List.getD_eq_getElem?_getD, tab3, ty3, tab22, ty22, tab25, ty25, tab26, ty26, tab29, ty29, tab23, ty23, tab5, ty5, tab4, ty4, ntmps6, rounds_len, hb]; (repeat' apply And.intro); all_goals first | exact hK | omega)))
          rw [run_draw]
          refine ok_draw5 23 [(11, [9]), (20, [18])] [] tabOK pureL_ok nuA_ok pureL_sub nuA_sub mixed (by decide +kernel) rfl rfl ?_
          repeat (first
    | (apply h3_go rfl rfl rfl rfl rfl (Nat.le_of_ble_eq_true rfl) rfl; focus (intro K' hK; simp [step1, evS, est, St.ev, St.put, St.add, St.upd, look_hit, look_miss, okd, stBin, bin, binS, binB, binI, shS, shB, S.num, constS, one, inI, stUn, stNil, stLoad, stAt, stField, stIndexAddr, stStore, wrAt, stAlloc, stBox, stIndex, stPart, stPartRow, stFieldV, stConv, cvS, cvB, cvI, stSlice, optN, SV.num, noMax, stArrPtr, stExtract, stLen, stBuild, A.isRow, A.isAgg, A.noRec, A.len, A.get, A.sub, A.set, A.over, Ent.bound, Kind.isStruct, Kind.isAgg, S.known, A.solid, segAt, segPut, segLen, R.a, R.len, A.r, stMake, stBuildSlice, litA, repA, rep1, fillA, putP, sing, stMin, stEqA, rowEq, Kind.isScal, -List.reduceReplicate, -List.getD_eq_getElem?_getD, viewM, visOf, memL, tab3, ty3, tab22, ty22, tab25, ty25, tab26, ty26, tab29, ty29, tab23, ty23, tab5, ty5, tab4, ty4, hkW, hkV, hrW, hrV, hbW, hbV, hWr, hVr, hb, hkl, rounds_len, pureL, kOf, rOf2, slOf, nuA, rnewQ]; (repeat' apply And.intro); all_goals first | exact hK | omega))
    | (apply h3_new rfl rfl rfl rfl rfl (Nat.le_of_ble_eq_true rfl) rfl; focus (intro K' hK; simp [step1, evS, est, St.ev, St.put, St.add, St.upd, look_hit, look_miss, okd, stBin, bin, binS, binB, binI, shS, shB, S.num, constS, one, inI, stUn, stNil, stLoad, stAt, stField, stIndexAddr, stStore, wrAt, stAlloc, stBox, stIndex, stPart, stPartRow, stFieldV, stConv, cvS, cvB, cvI, stSlice, optN, SV.num, noMax, stArrPtr, stExtract, stLen, stBuild, A.isRow, A.isAgg, A.noRec, A.len, A.get, A.sub, A.set, A.over, Ent.bound, Kind.isStruct, Kind.isAgg, S.known, A.solid, segAt, segPut, segLen, R.a, R.len, A.r, stMake, stBuildSlice, litA, repA, rep1, fillA, putP, sing, stMin, stEqA, rowEq, Kind.isScal, -List.reduceReplicate, -List.getD_eq_getElem?_getD, viewM, visOf, memL, tab3, ty3, tab22, ty22, tab25, ty25, tab26, ty26, tab29, ty29, tab23, ty23, tab5, ty5, tab4, ty4, hkW, hkV, hrW, hrV, hbW, hbV, hWr, hVr, hb, hkl, rounds_len, pureL, kOf, rOf2, slOf, nuA, rnewQ]; (repeat' apply And.intro); all_goals first | exact hK | omega)))
          apply h3_guard rfl rfl rfl rfl rfl (Nat.le_of_ble_eq_true rfl) rfl
          · intro _
            (apply Exists.intro; apply Exists.intro; apply And.intro; focus (apply hop_go rfl rfl; intro K' hK; simp [step1, evS, est, St.ev, St.put, St.add, St.upd, look_hit, look_miss, okd, stBin, bin, binS, binB, binI, shS, shB, S.num, constS, one, inI, stUn, stNil, stLoad, stAt, stField, stIndexAddr, stStore, wrAt, stAlloc, stBox, stIndex, stPart, stPartRow, stFieldV, stConv, cvS, cvB, cvI, stSlice, optN, SV.num, noMax, stArrPtr, stExtract, stLen, stBuild, A.isRow, A.isAgg, A.noRec, A.len, A.get, A.sub, A.set, A.over, Ent.bound, Kind.isStruct, Kind.isAgg, S.known, A.solid, segAt, segPut, segLen, R.a, R.len, A.r, stMake, stBuildSlice, litA, repA, rep1, fillA, putP, sing, stMin, stEqA, rowEq, Kind.isScal, -List.reduceReplicate, -List.getD_eq_getElem?_getD, viewM, visOf, memL, tab3, ty3, tab22, ty22, tab25, ty25, tab26, ty26, tab29, ty29, tab23, ty23, tab5, ty5, tab4, ty4, hkW, hkV, hrW, hrV, hbW, hbV, hWr, hVr, hb, hkl, rounds_len, pureL, kOf, rOf2, slOf, nuA, rnewQ]; (repeat' apply And.intro); all_goals first | exact hK | omega))
            apply h3_guard rfl rfl rfl rfl rfl (Nat.le_of_ble_eq_true rfl) rfl
            · intro _
              (apply Exists.intro; apply Exists.intro; apply And.intro; focus (apply hop_go rfl rfl; intro K' hK; simp [step1, evS, est, St.ev, St.put, St.add, St.upd, look_hit, look_miss, okd, stBin, bin, binS, binB, binI, shS, shB, S.num, constS, one, inI, stUn, stNil, stLoad, stAt, stField, stIndexAddr, stStore, wrAt, stAlloc, stBox, stIndex, stPart, stPartRow, stFieldV, stConv, cvS, cvB, cvI, stSlice, optN, SV.num, noMax, stArrPtr, stExtract, stLen, stBuild, A.isRow, A.isAgg, A.noRec, A.len, A.get, A.sub, A.set, A.over, Ent.bound, Kind.isStruct, Kind.isAgg, S.known, A.solid, segAt, segPut, segLen, R.a, R.len, A.r, stMake, stBuildSlice, litA, repA, rep1, fillA, putP, sing, stMin, stEqA, rowEq, Kind.isScal, -List.reduceReplicate, -List.getD_eq_getElem?_getD, viewM, visOf, memL, tab3, ty3, tab22, ty22, tab25, ty25, tab26, ty26, tab29, ty29, tab23, ty23, tab5, ty5, tab4, ty4, hkW, hkV, hrW, hrV, hbW, hbV, hWr, hVr, hb, hkl, rounds_len, pureL, kOf, rOf2, slOf, nuA, rnewQ]; (repeat' apply And.intro); all_goals first | exact hK | omega))
              repeat (first
    | (apply h3_go rfl rfl rfl rfl rfl (Nat.le_of_ble_eq_true rfl) rfl; focus (intro K' hK; simp [step1, evS, est, St.ev, St.put, St.add, St.upd, look_hit, look_miss, okd, stBin, bin, binS, binB, binI, shS, shB, S.num, constS, one, inI, stUn, stNil, stLoad, stAt, stField, stIndexAddr, stStore, wrAt, stAlloc, stBox, stIndex, stPart, stPartRow, stFieldV, stConv, cvS, cvB, cvI, stSlice, optN, SV.num, noMax, stArrPtr, stExtract, stLen, stBuild, A.isRow, A.isAgg, A.noRec, A.len, A.get, A.sub, A.set, A.over, Ent.bound, Kind.isStruct, Kind.isAgg, S.known, A.solid, segAt, segPut, segLen, R.a, R.len, A.r, stMake, stBuildSlice, litA, repA, rep1, fillA, putP, sing, stMin, stEqA, rowEq, Kind.isScal, -List.reduceReplicate, -List.getD_eq_getElem?_getD, viewM, visOf, memL, tab3, ty3, tab22, ty22, tab25, ty25, tab26, ty26, tab29, ty29, tab23, ty23, tab5, ty5, tab4, ty4, hkW, hkV, hrW, hrV, hbW, hbV, hWr, hVr, hb, hkl, rounds_len, pureL, kOf, rOf2, slOf, nuA, rnewQ]; (repeat' apply And.intro); all_goals first | exact hK | omega))
    | (apply h3_new rfl rfl rfl rfl rfl (Nat.le_of_ble_eq_true rfl) rfl; focus (intro K' hK; simp [step1, evS, est, St.ev, St.put, St.add, St.upd, look_hit, look_miss, okd, stBin, bin, binS, binB, binI, shS, shB, S.num, constS, one, inI, stUn, stNil, stLoad, stAt, stField, stIndexAddr, stStore, wrAt, stAlloc, stBox, stIndex, stPart, stPartRow, stFieldV, stConv, cvS, cvB, cvI, stSlice, optN, SV.num, noMax, stArrPtr, stExtract, stLen, stBuild, A.isRow, A.isAgg, A.noRec, A.len, A.get, A.sub, A.set, A.over, Ent.bound, Kind.isStruct, Kind.isAgg, S.known, A.solid, segAt, segPut, segLen, R.a, R.len, A.r, stMake, stBuildSlice, litA, repA, rep1, fillA, putP, sing, stMin, stEqA, rowEq, Kind.isScal, -List.reduceReplicate, -List.getD_eq_getElem?_getD, viewM, visOf, memL, tab3, ty3, tab22, ty22, tab25, ty25, tab26, ty26, tab29, ty29, tab23, ty23, tab5, ty5, tab4, ty4, hkW, hkV, hrW, hrV, hbW, hbV, hWr, hVr, hb, hkl, rounds_len, pureL, kOf, rOf2, slOf, nuA, rnewQ]; (repeat' apply And.intro); all_goals first | exact hK | omega)))
              apply h3_guard rfl rfl rfl rfl rfl (Nat.le_of_ble_eq_true rfl) rfl
              · intro _
                (apply Exists.intro; apply Exists.intro; apply And.intro; focus (apply hop_go rfl rfl; intro K' hK; simp [step1, evS, est, St.ev, St.put, St.add, St.upd, look_hit, look_miss, okd, stBin, bin, binS, binB, binI, shS, shB, S.num, constS, one, inI, stUn, stNil, stLoad, stAt, stField, stIndexAddr, stStore, wrAt, stAlloc, stBox, stIndex, stPart, stPartRow, stFieldV, stConv, cvS, cvB, cvI, stSlice, optN, SV.num, noMax, stArrPtr, stExtract, stLen, stBuild, A.isRow, A.isAgg, A.noRec, A.len, A.get, A.sub, A.set, A.over, Ent.bound, Kind.isStruct, Kind.isAgg, S.known, A.solid, segAt, segPut, segLen, R.a, R.len, A.r, stMake, stBuildSlice, litA, repA, rep1, fillA, putP, sing, stMin, stEqA, rowEq, Kind.isScal, -List.reduceReplicate, -List.getD_eq_getElem?_getD, viewM, visOf, memL, tab3, ty3, tab22, ty22, tab25, ty25, tab26, ty26, tab29, ty29, tab23, ty23, tab5, ty5, tab4, ty4, hkW, hkV, hrW, hrV, hbW, hbV, hWr, hVr, hb, hkl, rounds_len, pureL, kOf, rOf2, slOf, nuA, rnewQ]; (repeat' apply And.intro); all_goals first | exact hK | omega))
                apply h3_guard rfl rfl rfl rfl rfl (Nat.le_of_ble_eq_true rfl) rfl
                · intro _
                  (apply Exists.intro; apply Exists.intro; apply And.intro; focus (apply hop_go rfl rfl; intro K' hK; simp [step1, evS, est, St.ev, St.put, St.add, St.upd, look_hit, look_miss, okd, stBin, bin, binS, binB, binI, shS, shB, S.num, constS, one, inI, stUn, stNil, stLoad, stAt, stField, stIndexAddr, stStore, wrAt, stAlloc, stBox, stIndex, stPart, stPartRow, stFieldV, stConv, cvS, cvB, cvI, stSlice, optN, SV.num, noMax, stArrPtr, stExtract, stLen, stBuild, A.isRow, A.isAgg, A.noRec, A.len, A.get, A.sub, A.set, A.over, Ent.bound, Kind.isStruct, Kind.isAgg, S.known, A.solid, segAt, segPut, segLen, R.a, R.len, A.r, stMake, stBuildSlice, litA, repA, rep1, fillA, putP, sing, stMin, stEqA, rowEq, Kind.isScal, -List.reduceReplicate, -List.getD_eq_getElem?_getD, viewM, visOf, memL, tab3, ty3, tab22, ty22, tab25, ty25, tab26, ty26, tab29, ty29, tab23, ty23, tab5, ty5, tab4, ty4, hkW, hkV, hrW, hrV, hbW, hbV, hWr, hVr, hb, hkl, rounds_len, pureL, kOf, rOf2, slOf, nuA, rnewQ]; (repeat' apply And.intro); all_goals first | exact hK | omega))
                  apply h3_guard rfl rfl rfl rfl rfl (Nat.le_of_ble_eq_true rfl) rfl
                  · intro _
                    (apply Exists.intro; apply Exists.intro; apply And.intro; focus (apply hop_call; simp [newOf, step1, evS, est, St.ev, St.put, St.add, St.upd, look_hit, look_miss, okd, stBin, bin, binS, binB, binI, shS, shB, S.num, constS, one, inI, stUn, stNil, stLoad, stAt, stField, stIndexAddr, stStore, wrAt, stAlloc, stBox, stIndex, stPart, stPartRow, stFieldV, stConv, cvS, cvB, cvI, stSlice, optN, SV.num, noMax, stArrPtr, stExtract, stLen, stBuild, A.isRow, A.isAgg, A.noRec, A.len, A.get, A.sub, A.set, A.over, Ent.bound, Kind.isStruct, Kind.isAgg, S.known, A.solid, segAt, segPut, segLen, R.a, R.len, A.r, stMake, stBuildSlice, litA, repA, rep1, fillA, putP, sing, stMin, stEqA, rowEq, Kind.isScal, -List.reduceReplicate, -List.getD_eq_getElem?_getD, viewM, visOf, memL, tab3, ty3, tab22, ty22, tab25, ty25, tab26, ty26, tab29, ty29, tab23, ty23, tab5, ty5, tab4, ty4, hkW, hkV, hrW, hrV, hbW, hbV, hWr, hVr, hb, hkl, rounds_len, pureL, kOf, rOf2, slOf, nuA, rnewQ]; first | done | exact ⟨rfl, rfl⟩ | rfl))
                    apply h3_guard rfl rfl rfl rfl rfl (Nat.le_of_ble_eq_true rfl) rfl
                    · intro _
                      (apply Exists.intro; apply Exists.intro; apply And.intro; focus (apply hop_go rfl rfl; intro K' hK; simp [step1, evS, est, St.ev, St.put, St.add, St.upd, look_hit, look_miss, okd, stBin, bin, binS, binB, binI, shS, shB, S.num, constS, one, inI, stUn, stNil, stLoad, stAt, stField, stIndexAddr, stStore, wrAt, stAlloc, stBox, stIndex, stPart, stPartRow, stFieldV, stConv, cvS, cvB, cvI, stSlice, optN, SV.num, noMax, stArrPtr, stExtract, stLen, stBuild, A.isRow, A.isAgg, A.noRec, A.len, A.get, A.sub, A.set, A.over, Ent.bound, Kind.isStruct, Kind.isAgg, S.known, A.solid, segAt, segPut, segLen, R.a, R.len, A.r, stMake, stBuildSlice, litA, repA, rep1, fillA, putP, sing, stMin, stEqA, rowEq, Kind.isScal, -List.reduceReplicate, -List.getD_eq_getElem?_getD, viewM, visOf, memL, tab3, ty3, tab22, ty22, tab25, ty25, tab26, ty26, tab29, ty29, tab23, ty23, tab5, ty5, tab4, ty4, hkW, hkV, hrW, hrV, hbW, hbV, hWr, hVr, hb, hkl, rounds_len, pureL, kOf, rOf2, slOf, nuA, rnewQ]; (repeat' apply And.intro); all_goals first | exact hK | omega))
                      apply h3_guard rfl rfl rfl rfl rfl (Nat.le_of_ble_eq_true rfl) rfl
                      · intro _
                        (apply Exists.intro; apply Exists.intro; apply And.intro; focus (apply hop_go rfl rfl; intro K' hK; simp [step1, evS, est, St.ev, St.put, St.add, St.upd, look_hit, look_miss, okd, stBin, bin, binS, binB, binI, shS, shB, S.num, constS, one, inI, stUn, stNil, stLoad, stAt, stField, stIndexAddr, stStore, wrAt, stAlloc, stBox, stIndex, stPart, stPartRow, stFieldV, stConv, cvS, cvB, cvI, stSlice, optN, SV.num, noMax, stArrPtr, stExtract, stLen, stBuild, A.isRow, A.isAgg, A.noRec, A.len, A.get, A.sub, A.set, A.over, Ent.bound, Kind.isStruct, Kind.isAgg, S.known, A.solid, segAt, segPut, segLen, R.a, R.len, A.r, stMake, stBuildSlice, litA, repA, rep1, fillA, putP, sing, stMin, stEqA, rowEq, Kind.isScal, -List.reduceReplicate, -List.getD_eq_getElem?_getD, viewM, visOf, memL, tab3, ty3, tab22, ty22, tab25, ty25, tab26, ty26, tab29, ty29, tab23, ty23, tab5, ty5, tab4, ty4, hkW, hkV, hrW, hrV, hbW, hbV, hWr, hVr, hb, hkl, rounds_len, pureL, kOf, rOf2, slOf, nuA, rnewQ]; (repeat' apply And.intro); all_goals first | exact hK | omega))
                        apply h3_guard rfl rfl rfl rfl rfl (Nat.le_of_ble_eq_true rfl) rfl
                        · intro _
                          (apply Exists.intro; apply Exists.intro; apply And.intro; focus (apply hop_go rfl rfl; intro K' hK; simp [step1, evS, est, St.ev, St.put, St.add, St.upd, look_hit, look_miss, okd, stBin, bin, binS, binB, binI, shS, shB, S.num, constS, one, inI, stUn, stNil, stLoad, stAt, stField, stIndexAddr, stStore, wrAt, stAlloc, stBox, stIndex, stPart, stPartRow, stFieldV, stConv, cvS, cvB, cvI, stSlice, optN, SV.num, noMax, stArrPtr, stExtract, stLen, stBuild, A.isRow, A.isAgg, A.noRec, A.len, A.get, A.sub, A.set, A.over, Ent.bound, Kind.isStruct, Kind.isAgg, S.known, A.solid, segAt, segPut, segLen, R.a, R.len, A.r, stMake, stBuildSlice, litA, repA, rep1, fillA, putP, sing, stMin, stEqA, rowEq, Kind.isScal, -List.reduceReplicate, -List.getD_eq_getElem?_getD, viewM, visOf, memL, tab3, ty3, tab22, ty22, tab25, ty25, tab26, ty26, tab29, ty29, tab23, ty23, tab5, ty5, tab4, ty4, hkW, hkV, hrW, hrV, hbW, hbV, hWr, hVr, hb, hkl, rounds_len, pureL, kOf, rOf2, slOf, nuA, rnewQ]; (repeat' apply And.intro); all_goals first | exact hK | omega))
                          repeat (first
    | (apply h3_go rfl rfl rfl rfl rfl (Nat.le_of_ble_eq_true rfl) rfl; focus (intro K' hK; simp [step1, evS, est, St.ev, St.put, St.add, St.upd, look_hit, look_miss, okd, stBin, bin, binS, binB, binI, shS, shB, S.num, constS, one, inI, stUn, stNil, stLoad, stAt, stField, stIndexAddr, stStore, wrAt, stAlloc, stBox, stIndex, stPart, stPartRow, stFieldV, stConv, cvS, cvB, cvI, stSlice, optN, SV.num, noMax, stArrPtr, stExtract, stLen, stBuild, A.isRow, A.isAgg, A.noRec, A.len, A.get, A.sub, A.set, A.over, Ent.bound, Kind.isStruct, Kind.isAgg, S.known, A.solid, segAt, segPut, segLen, R.a, R.len, A.r, stMake, stBuildSlice, litA, repA, rep1, fillA, putP, sing, stMin, stEqA, rowEq, Kind.isScal, -List.reduceReplicate, -List.getD_eq_getElem?_getD, viewM, visOf, memL, tab3, ty3, tab22, ty22, tab25, ty25, tab26, ty26, tab29, ty29, tab23, ty23, tab5, ty5, tab4, ty4, hkW, hkV, hrW, hrV, hbW, hbV, hWr, hVr, hb, hkl, rounds_len, pureL, kOf, rOf2, slOf, nuA, rnewQ]; (repeat' apply And.intro); all_goals first | exact hK | omega))
    | (apply h3_new rfl rfl rfl rfl rfl (Nat.le_of_ble_eq_true rfl) rfl; focus (intro K' hK; simp [step1, evS, est, St.ev, St.put, St.add, St.upd, look_hit, look_miss, okd, stBin, bin, binS, binB, binI, shS, shB, S.num, constS, one, inI, stUn, stNil, stLoad, stAt, stField, stIndexAddr, stStore, wrAt, stAlloc, stBox, stIndex, stPart, stPartRow, stFieldV, stConv, cvS, cvB, cvI, stSlice, optN, SV.num, noMax, stArrPtr, stExtract, stLen, stBuild, A.isRow, A.isAgg, A.noRec, A.len, A.get, A.sub, A.set, A.over, Ent.bound, Kind.isStruct, Kind.isAgg, S.known, A.solid, segAt, segPut, segLen, R.a, R.len, A.r, stMake, stBuildSlice, litA, repA, rep1, fillA, putP, sing, stMin, stEqA, rowEq, Kind.isScal, -List.reduceReplicate, -List.getD_eq_getElem?_getD, viewM, visOf, memL, tab3, ty3, tab22, ty22, tab25, ty25, tab26, ty26, tab29, ty29, tab23, ty23, tab5, ty5, tab4, ty4, hkW, hkV, hrW, hrV, hbW, hbV, hWr, hVr, hb, hkl, rounds_len, pureL, kOf, rOf2, slOf, nuA, rnewQ]; (repeat' apply And.intro); all_goals first | exact hK | omega)))
                          apply h3_guard rfl rfl rfl rfl rfl (Nat.le_of_ble_eq_true rfl) rfl
                          · intro _
                            (apply Exists.intro; apply Exists.intro; apply And.intro; focus (apply hop_go rfl rfl; intro K' hK; simp [step1, evS, est, St.ev, St.put, St.add, St.upd, look_hit, look_miss, okd, stBin, bin, binS, binB, binI, shS, shB, S.num, constS, one, inI, stUn, stNil, stLoad, stAt, stField, stIndexAddr, stStore, wrAt, stAlloc, stBox, stIndex, stPart, stPartRow, stFieldV, stConv, cvS, cvB, cvI, stSlice, optN, SV.num, noMax, stArrPtr, stExtract, stLen, stBuild, A.isRow, A.isAgg, A.noRec, A.len, A.get, A.sub, A.set, A.over, Ent.bound, Kind.isStruct, Kind.isAgg, S.known, A.solid, segAt, segPut, segLen, R.a, R.len, A.r, stMake, stBuildSlice, litA, repA, rep1, fillA, putP, sing, stMin, stEqA, rowEq, Kind.isScal, -List.reduceReplicate, -List.getD_eq_getElem?_getD, viewM, visOf, memL, tab3, ty3, tab22, ty22, tab25, ty25, tab26, ty26, tab29, ty29, tab23, ty23, tab5, ty5, tab4, ty4, hkW, hkV, hrW, hrV, hbW, hbV, hWr, hVr, hb, hkl, rounds_len, pureL, kOf, rOf2, slOf, nuA, rnewQ]; (repeat' apply And.intro); all_goals first | exact hK | omega))
                            apply h3_guard rfl rfl rfl rfl rfl (Nat.le_of_ble_eq_true rfl) rfl
                            · intro _
                              (apply Exists.intro; apply Exists.intro; apply And.intro; focus (apply hop_go rfl rfl; intro K' hK; simp [step1, evS, est, St.ev, St.put, St.add, St.upd, look_hit, look_miss, okd, stBin, bin, binS, binB, binI, shS, shB, S.num, constS, one, inI, stUn, stNil, stLoad, stAt, stField, stIndexAddr, stStore, wrAt, stAlloc, stBox, stIndex, stPart, stPartRow, stFieldV, stConv, cvS, cvB, cvI, stSlice, optN, SV.num, noMax, stArrPtr, stExtract, stLen, stBuild, A.isRow, A.isAgg, A.noRec, A.len, A.get, A.sub, A.set, A.over, Ent.bound, Kind.isStruct, Kind.isAgg, S.known, A.solid, segAt, segPut, segLen, R.a, R.len, A.r, stMake, stBuildSlice, litA, repA, rep1, fillA, putP, sing, stMin, stEqA, rowEq, Kind.isScal, -List.reduceReplicate, -List.getD_eq_getElem?_getD, viewM, visOf, memL, tab3, ty3, tab22, ty22, tab25, ty25, tab26, ty26, tab29, ty29, tab23, ty23, tab5, ty5, tab4, ty4, hkW, hkV, hrW, hrV, hbW, hbV, hWr, hVr, hb, hkl, rounds_len, pureL, kOf, rOf2, slOf, nuA, rnewQ]; (repeat' apply And.intro); all_goals first | exact hK | omega))
                              apply h3_guard rfl rfl rfl rfl rfl (Nat.le_of_ble_eq_true rfl) rfl
                              · intro _
                                (apply Exists.intro; apply Exists.intro; apply And.intro; focus (apply hop_go rfl rfl; intro K' hK; simp [step1, evS, est, St.ev, St.put, St.add, St.upd, look_hit, look_miss, okd, stBin, bin, binS, binB, binI, shS, shB, S.num, constS, one, inI, stUn, stNil, stLoad, stAt, stField, stIndexAddr, stStore, wrAt, stAlloc, stBox, stIndex, stPart, stPartRow, stFieldV, stConv, cvS, cvB, cvI, stSlice, optN, SV.num, noMax, stArrPtr, stExtract, stLen, stBuild, A.isRow, A.isAgg, A.noRec, A.len, A.get, A.sub, A.set, A.over, Ent.bound, Kind.isStruct, Kind.isAgg, S.known, A.solid, segAt, segPut, segLen, R.a, R.len, A.r, stMake, stBuildSlice, litA, repA, rep1, fillA, putP, sing, stMin, stEqA, rowEq, Kind.isScal, -List.reduceReplicate, -List.getD_eq_getElem?_getD, viewM, visOf, memL, tab3, ty3, tab22, ty22, tab25, ty25, tab26, ty26, tab29, ty29, tab23, ty23, tab5, ty5, tab4, ty4, hkW, hkV, hrW, hrV, hbW, hbV, hWr, hVr, hb, hkl, rounds_len, pureL, kOf, rOf2, slOf, nuA, rnewQ]; (repeat' apply And.intro); all_goals first | exact hK | omega))
                                apply h3_guard rfl rfl rfl rfl rfl (Nat.le_of_ble_eq_true rfl) rfl
                                · intro _
                                  (apply Exists.intro; apply Exists.intro; apply And.intro; focus (apply hop_call; simp [newOf, step1, evS, est, St.ev, St.put, St.add, St.upd, look_hit, look_miss, okd, stBin, bin, binS, binB, binI, shS, shB, S.num, constS, one, inI, stUn, stNil, stLoad, stAt, stField, stIndexAddr, stStore, wrAt, stAlloc, stBox, stIndex, stPart, stPartRow, stFieldV, stConv, cvS, cvB, cvI, stSlice, optN, SV.num, noMax, stArrPtr, stExtract, stLen, stBuild, A.isRow, A.isAgg, A.noRec, A.len, A.get, A.sub, A.set, A.over, Ent.bound, Kind.isStruct, Kind.isAgg, S.known, A.solid, segAt, segPut, segLen, R.a, R.len, A.r, stMake, stBuildSlice, litA, repA, rep1, fillA, putP, sing, stMin, stEqA, rowEq, Kind.isScal, -List.reduceReplicate, -List.getD_eq_getElem?_getD, viewM, visOf, memL, tab3, ty3, tab22, ty22, tab25, ty25, tab26, ty26, tab29, ty29, tab23, ty23, tab5, ty5, tab4, ty4, hkW, hkV, hrW, hrV, hbW, hbV, hWr, hVr, hb, hkl, rounds_len, pureL, kOf, rOf2, slOf, nuA, rnewQ]; first | done | exact ⟨rfl, rfl⟩ | rfl))
                                  apply h3_guard rfl rfl rfl rfl rfl (Nat.le_of_ble_eq_true rfl) rfl
                                  · intro _
                                    (apply Exists.intro; apply Exists.intro; apply And.intro; focus (apply hop_go rfl rfl; intro K' hK; simp [step1, evS, est, St.ev, St.put, St.add, St.upd, look_hit, look_miss, okd, stBin, bin, binS, binB, binI, shS, shB, S.num, constS, one, inI, stUn, stNil, stLoad, stAt, stField, stIndexAddr, stStore, wrAt, stAlloc, stBox, stIndex, stPart, stPartRow, stFieldV, stConv, cvS, cvB, cvI, stSlice, optN, SV.num, noMax, stArrPtr, stExtract, stLen, stBuild, A.isRow, A.isAgg, A.noRec, A.len, A.get, A.sub, A.set, A.over, Ent.bound, Kind.isStruct, Kind.isAgg, S.known, A.solid, segAt, segPut, segLen, R.a, R.len, A.r, stMake, stBuildSlice, litA, repA, rep1, fillA, putP, sing, stMin, stEqA, rowEq, Kind.isScal, -List.reduceReplicate, -List.getD_eq_getElem?_getD, viewM, visOf, memL, tab3, ty3, tab22, ty22, tab25, ty25, tab26, ty26, tab29, ty29, tab23, ty23, tab5, ty5, tab4, ty4, hkW, hkV, hrW, hrV, hbW, hbV, hWr, hVr, hb, hkl, rounds_len, pureL, kOf, rOf2, slOf, nuA, rnewQ]; (repeat' apply And.intro); all_goals first | exact hK | omega))
                                    apply h3_guard rfl rfl rfl rfl rfl (Nat.le_of_ble_eq_true rfl) rfl
                                    · intro _
                                      (apply Exists.intro; apply Exists.intro; apply And.intro; focus (apply hop_go rfl rfl; intro K' hK; simp [step1, evS, est, St.ev, St.put, St.add, St.upd, look_hit, look_miss, okd, stBin, bin, binS, binB, binI, shS, shB, S.num, constS, one, inI, stUn, stNil, stLoad, stAt, stField, stIndexAddr, stStore, wrAt, stAlloc, stBox, stIndex, stPart, stPartRow, stFieldV, stConv, cvS, cvB, cvI, stSlice, optN, SV.num, noMax, stArrPtr, stExtract, stLen, stBuild, A.isRow, A.isAgg, A.noRec, A.len, A.get, A.sub, A.set, A.over, Ent.bound, Kind.isStruct, Kind.isAgg, S.known, A.solid, segAt, segPut, segLen, R.a, R.len, A.r, stMake, stBuildSlice, litA, repA, rep1, fillA, putP, sing, stMin, stEqA, rowEq, Kind.isScal, -List.reduceReplicate, -List.getD_eq_getElem?_getD, viewM, visOf, memL, tab3, ty3, tab22, ty22, tab25, ty25, tab26, ty26, tab29, ty29, tab23, ty23, tab5, ty5, tab4, ty4, hkW, hkV, hrW, hrV, hbW, hbV, hWr, hVr, hb, hkl, rounds_len, pureL, kOf, rOf2, slOf, nuA, rnewQ]; (repeat' apply And.intro); all_goals first | exact hK | omega))
                                      apply h3_guard rfl rfl rfl rfl rfl (Nat.le_of_ble_eq_true rfl) rfl
                                      · intro _
                                        (apply Exists.intro; apply Exists.intro; apply And.intro; focus (apply hop_go rfl rfl; intro K' hK; simp [step1, evS, est, St.ev, St.put, St.add, St.upd, look_hit, look_miss, okd, stBin, bin, binS, binB, binI, shS, shB, S.num, constS, one, inI, stUn, stNil, stLoad, stAt, stField, stIndexAddr, stStore, wrAt, stAlloc, stBox, stIndex, stPart, stPartRow, stFieldV, stConv, cvS, cvB, cvI, stSlice, optN, SV.num, noMax, stArrPtr, stExtract, stLen, stBuild, A.isRow, A.isAgg, A.noRec, A.len, A.get, A.sub, A.set, A.over, Ent.bound, Kind.isStruct, Kind.isAgg, S.known, A.solid, segAt, segPut, segLen, R.a, R.len, A.r, stMake, stBuildSlice, litA, repA, rep1, fillA, putP, sing, stMin, stEqA, rowEq, Kind.isScal, -List.reduceReplicate, -List.getD_eq_getElem?_getD, viewM, visOf, memL, tab3, ty3, tab22, ty22, tab25, ty25, tab26, ty26, tab29, ty29, tab23, ty23, tab5, ty5, tab4, ty4, hkW, hkV, hrW, hrV, hbW, hbV, hWr, hVr, hb, hkl, rounds_len, pureL, kOf, rOf2, slOf, nuA, rnewQ]; (repeat' apply And.intro); all_goals first | exact hK | omega))
                                        repeat (first
    | (apply h3_go rfl rfl rfl rfl rfl (Nat.le_of_ble_eq_true rfl) rfl; focus (intro K' hK; simp [step1, evS, est, St.ev, St.put, St.add, St.upd, look_hit, look_miss, okd, stBin, bin, binS, binB, binI, shS, shB, S.num, constS, one, inI, stUn, stNil, stLoad, stAt, stField, stIndexAddr, stStore, wrAt, stAlloc, stBox, stIndex, stPart, stPartRow, stFieldV, stConv, cvS, cvB, cvI, stSlice, optN, SV.num, noMax, stArrPtr, stExtract, stLen, stBuild, A.isRow, A.isAgg, A.noRec, A.len, A.get, A.sub, A.set, A.over, Ent.bound, Kind.isStruct, Kind.isAgg, S.known, A.solid, segAt, segPut, segLen, R.a, R.len, A.r, stMake, stBuildSlice, litA, repA, rep1, fillA, putP, sing, stMin, stEqA, rowEq, Kind.isScal, -List.reduceReplicate, -List.getD_eq_getElem?_getD, viewM, visOf, memL, tab3, ty3, tab22, ty22, tab25, ty25, tab26, ty26, tab29, ty29, tab23, ty23, tab5, ty5, tab4, ty4, hkW, hkV, hrW, hrV, hbW, hbV, hWr, hVr, hb, hkl, rounds_len, pureL, kOf, rOf2, slOf, nuA, rnewQ]; (repeat' apply And.intro); all_goals first | exact hK | omega))
    | (apply h3_new rfl rfl rfl rfl rfl (Nat.le_of_ble_eq_true rfl) rfl; focus (intro K' hK; simp [step1, evS, est, St.ev, St.put, St.add, St.upd, look_hit, look_miss, okd, stBin, bin, binS, binB, binI, shS, shB, S.num, constS, one, inI, stUn, stNil, stLoad, stAt, stField, stIndexAddr, stStore, wrAt, stAlloc, stBox, stIndex, stPart, stPartRow, stFieldV, stConv, cvS, cvB, cvI, stSlice, optN, SV.num, noMax, stArrPtr, stExtract, stLen, stBuild, A.isRow, A.isAgg, A.noRec, A.len, A.get, A.sub, A.set, A.over, Ent.bound, Kind.isStruct, Kind.isAgg, S.known, A.solid, segAt, segPut, segLen, R.a, R.len, A.r, stMake, stBuildSlice, litA, repA, rep1, fillA, putP, sing, stMin, stEqA, rowEq, Kind.isScal, -List.reduceReplicate, -List.getD_eq_getElem?_getD, viewM, visOf, memL, tab3, ty3, tab22, ty22, tab25, ty25, tab26, ty26, tab29, ty29, tab23, ty23, tab5, ty5, tab4, ty4, hkW, hkV, hrW, hrV, hbW, hbV, hWr, hVr, hb, hkl, rounds_len, pureL, kOf, rOf2, slOf, nuA, rnewQ]; (repeat' apply And.intro); all_goals first | exact hK | omega)))
                                        refine h3_nil ?_
                                        simp [finL, contL, contAt, stT, List.range, List.range.loop, -List.reduceReplicate]
                                        refine ok_run hB tabOK pureL_ok 100 ?_
                                        repeat (first
    | rw [run_ops0]
    | rw [run_seq]
    | rw [run_region]
    | rw [run_block]
    | rw [run_blk]
    | rw [run_skip]
    | (apply run_go rfl; focus (intro L K hK; simp [step1, evS, est, St.ev, St.put, St.add, St.upd, look_hit, look_miss, okd, stBin, bin, binS, binB, binI, shS, shB, S.num, constS, one, inI, stUn, stNil, stLoad, stAt, stField, stIndexAddr, stStore, wrAt, stAlloc, stBox, stIndex, stPart, stPartRow, stFieldV, stConv, cvS, cvB, cvI, stSlice, optN, SV.num, noMax, stArrPtr, stExtract, stLen, stBuild, A.isRow, A.isAgg, A.noRec, A.len, A.get, A.sub, A.set, A.over, Ent.bound, Kind.isStruct, Kind.isAgg, S.known, A.solid, segAt, segPut, segLen, R.a, R.len, A.r, stMake, stBuildSlice, litA, repA, rep1, fillA, putP, sing, stMin, stEqA, rowEq, Kind.isScal, -List.reduceReplicate, -List.getD_eq_getElem?_getD, tab3, ty3, tab22, ty22, tab25, ty25, tab26, ty26, tab29, ty29, tab23, ty23, tab5, ty5, tab4, ty4, ntmps6]; (repeat' apply And.intro); all_goals first | exact hK | omega)))
                                        rw [run_ret]
                                        simp [finOf, resP, resV, extraOwn, look_hit, look_miss, one, -List.reduceReplicate, -List.getD_eq_getElem?_getD, stLoad, stAt, Ent.bound, A.len, A.isRow, A.isAgg, results6, f6]
                                      · intro h; first | cases h | (simp at h; done)
                                    · intro h; first | cases h | (simp at h; done)
                                  · intro h; first | cases h | (simp at h; done)
                                · intro h; first | cases h | (simp at h; done)
                              · intro h; first | cases h | (simp at h; done)
                            · intro h; first | cases h | (simp at h; done)
                          · intro h; first | cases h | (simp at h; done)
                        · intro h; first | cases h | (simp at h; done)
                      · intro h; first | cases h | (simp at h; done)
                    · intro h; first | cases h | (simp at h; done)
                  · intro h; first | cases h | (simp at h; done)
                · intro h; first | cases h | (simp at h; done)
              · intro h; first | cases h | (simp at h; done)
            · intro h; first | cases h | (simp at h; done)
          · intro h; first | cases h | (simp at h; done)
          
        · intro h; first | cases h | (simp at h; done) | (simp at h; omega)
      · intro h; first | cases h | (simp at h; done) | (simp at h; omega)
end Go.V
