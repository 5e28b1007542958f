/- Walks: ref05.New. No condition. -/
import Derived.Test.YtlnoehpjchglnaaLb
set_option linter.unusedSimpArgs false
set_option linter.unusedVariables false
set_option maxRecDepth 10000
namespace Go.V
open Go Go.Proofs.Try
def pureF (f : FuncId) (l : List SV) : Option SV :=
  match f, l with
  | 60, [] => some (.one (.ai (tabR 256)))
  | 61, [.one (.s (.i b)), .one (.s (.i n))] => if (0 ≤ b ∧ b < 256) ∧ (0 ≤ n ∧ n < 256) then some (one (.i (powG b n.toNat 8))) else none
  | _, _ => none
theorem pureF_ok : PureOK prog (pureOf pureF) := by
  refine pureOf_ok ?_
  intro f svs sv h
  unfold pureF at h
  split at h
  · cases h
    exact ⟨⟨f60, func60, nofun, by decide⟩, spec60, rfl, rfl⟩
  · split at h
    · rename_i b n hc
      cases h
      have hs := spec61G b n.toNat hc.1 (by omega)
      have e : ((n.toNat : Nat) : Int) = n := by omega
      rw [e] at hs
      exact ⟨⟨f61, func61, nofun, by decide⟩, hs, rfl, rfl⟩
    · cases h
  · cases h
/-- The memory after ref05.New: the key's bytes, the key's block, the words. -/
def rnewMem (key : B8) (nk cap : Nat) : Mem := [.ent ⟨false, 5, none, .a8 key⟩, .ent ⟨true, 110, some 258, .st [⟨1, .s (.sl 2 0 (4 * (nk + 7)) cap 4)⟩, ⟨256, .ai (tabR 256)⟩, ⟨1, .s (.i nk)⟩]⟩, .ent ⟨true, 111, none, .ai (rsch key (tabR 256) nk (4 * (nk + 7)))⟩]
set_option maxHeartbeats 1000000 in
theorem spec22L (key : B8) (nk cap0 : Nat) (hk : 4 * nk ≤ key.length) (hnk : nk = 4 ∨ nk = 8) (hcap0 : 4 * nk ≤ cap0) : Spec prog 22 [one (.sl 0 0 (4 * nk) cap0 1)] [.ent ⟨false, 5, none, .a8 key⟩] [] (fun r m => r = one (.ptr 1 0 0) ∧ ∃ cap, m = rnewMem key nk cap) := by
  refine spec_of_body tabOK func22 rfl (Nat.le_of_ble_eq_true rfl) ?_
  intro E Q0 hB
  refine ok_run hB tabOK pureF_ok 6 ?_
  simp only [argSl]
  have hlt : ∀ x : BitVec 8, x.toNat < 256 := fun x => x.isLt
  have hsl := tabR_len 256
  have hsb := tab_byt
  have hsv : pureF 60 [] = some (.one (.ai (tabR 256))) := rfl
  generalize hsbe : tabR 256 = sb at hsl hsb hsv ⊢
  have d4 : (4 * (nk : Int)).tdiv 4 = nk := by rw [Int.tdiv_eq_ediv_of_nonneg (by omega)]; omega
  repeat (first
    | rw [run_ops0]
    | rw [run_seq]
    | rw [run_region]
    | rw [run_block]
    | rw [run_blk]
    | rw [run_skip]
    | (apply run_go rfl; focus (intro L K hK; simp [step1, evS, est, St.ev, St.put, St.add, St.upd, look_hit, look_miss, okd, stBin, bin, binS, binB, binI, shS, shB, S.num, constS, one, inI, stUn, stNil, stLoad, stAt, stField, stIndexAddr, stStore, wrAt, stAlloc, stBox, stIndex, stPart, stPartRow, stFieldV, stConv, cvS, cvB, cvI, stSlice, optN, SV.num, noMax, stArrPtr, stExtract, stLen, stBuild, A.isRow, A.isAgg, A.noRec, A.len, A.get, A.sub, A.set, A.over, Ent.bound, Kind.isStruct, Kind.isAgg, S.known, A.solid, segAt, segPut, segLen, R.a, R.len, A.r, stMake, stBuildSlice, litA, repA, rep1, fillA, putP, sing, stMin, stEqA, rowEq, Kind.isScal, -List.reduceReplicate, -List.getD_eq_getElem?_getD, tab22, ty22, tab3, ty3, tab29, ty29, ntmps22, d4]; (repeat' apply And.intro); all_goals first | exact hK | omega)))
  rw [run_zero]
  refine ok_join (X := Unit) (fun _ => ⟨[(16, one (.b false)), (0, one (.sl 0 0 (4 * nk) cap0 1))], [.ent ⟨false, 5, none, .a8 key⟩]⟩) (fun _ => True) (fun j i L h => by have := hB.anc i L h; simp at this ⊢; omega) ?_ ?_
  · refine ok_run hB tabOK pureF_ok 100 ?_
    repeat (first
    | rw [run_ops0]
    | rw [run_seq]
    | rw [run_region]
    | rw [run_block]
    | rw [run_blk]
    | rw [run_skip]
    | (apply run_go rfl; focus (intro L K hK; simp [step1, evS, est, St.ev, St.put, St.add, St.upd, look_hit, look_miss, okd, stBin, bin, binS, binB, binI, shS, shB, S.num, constS, one, inI, stUn, stNil, stLoad, stAt, stField, stIndexAddr, stStore, wrAt, stAlloc, stBox, stIndex, stPart, stPartRow, stFieldV, stConv, cvS, cvB, cvI, stSlice, optN, SV.num, noMax, stArrPtr, stExtract, stLen, stBuild, A.isRow, A.isAgg, A.noRec, A.len, A.get, A.sub, A.set, A.over, Ent.bound, Kind.isStruct, Kind.isAgg, S.known, A.solid, segAt, segPut, segLen, R.a, R.len, A.r, stMake, stBuildSlice, litA, repA, rep1, fillA, putP, sing, stMin, stEqA, rowEq, Kind.isScal, -List.reduceReplicate, -List.getD_eq_getElem?_getD, tab22, ty22, tab3, ty3, ntmps22, d4]; (repeat' apply And.intro); all_goals first | exact hK | omega)))
    apply run_guard rfl rfl rfl rfl
    · intro h
      simp at h
      obtain rfl : nk = 8 := by omega
      (apply Exists.intro; apply And.intro; focus (intro L K hK; simp [step1, evS, est, St.ev, St.put, St.add, St.upd, look_hit, look_miss, okd, stBin, bin, binS, binB, binI, shS, shB, S.num, constS, one, inI, stUn, stNil, stLoad, stAt, stField, stIndexAddr, stStore, wrAt, stAlloc, stBox, stIndex, stPart, stPartRow, stFieldV, stConv, cvS, cvB, cvI, stSlice, optN, SV.num, noMax, stArrPtr, stExtract, stLen, stBuild, A.isRow, A.isAgg, A.noRec, A.len, A.get, A.sub, A.set, A.over, Ent.bound, Kind.isStruct, Kind.isAgg, S.known, A.solid, segAt, segPut, segLen, R.a, R.len, A.r, stMake, stBuildSlice, litA, repA, rep1, fillA, putP, sing, stMin, stEqA, rowEq, Kind.isScal, -List.reduceReplicate, -List.getD_eq_getElem?_getD, tab22, ty22, tab3, ty3, ntmps22]; (repeat' apply And.intro); all_goals first | exact hK | omega))
      apply run_guard rfl rfl rfl rfl
      · intro _
        (apply Exists.intro; apply And.intro; focus (intro L K hK; simp [step1, evS, est, St.ev, St.put, St.add, St.upd, look_hit, look_miss, okd, stBin, bin, binS, binB, binI, shS, shB, S.num, constS, one, inI, stUn, stNil, stLoad, stAt, stField, stIndexAddr, stStore, wrAt, stAlloc, stBox, stIndex, stPart, stPartRow, stFieldV, stConv, cvS, cvB, cvI, stSlice, optN, SV.num, noMax, stArrPtr, stExtract, stLen, stBuild, A.isRow, A.isAgg, A.noRec, A.len, A.get, A.sub, A.set, A.over, Ent.bound, Kind.isStruct, Kind.isAgg, S.known, A.solid, segAt, segPut, segLen, R.a, R.len, A.r, stMake, stBuildSlice, litA, repA, rep1, fillA, putP, sing, stMin, stEqA, rowEq, Kind.isScal, -List.reduceReplicate, -List.getD_eq_getElem?_getD, tab22, ty22, tab3, ty3, ntmps22]; (repeat' apply And.intro); all_goals first | exact hK | omega))
        apply run_guard rfl rfl rfl rfl
        · intro _
          (apply Exists.intro; apply And.intro; focus (intro L K hK; simp [step1, evS, est, St.ev, St.put, St.add, St.upd, look_hit, look_miss, okd, stBin, bin, binS, binB, binI, shS, shB, S.num, constS, one, inI, stUn, stNil, stLoad, stAt, stField, stIndexAddr, stStore, wrAt, stAlloc, stBox, stIndex, stPart, stPartRow, stFieldV, stConv, cvS, cvB, cvI, stSlice, optN, SV.num, noMax, stArrPtr, stExtract, stLen, stBuild, A.isRow, A.isAgg, A.noRec, A.len, A.get, A.sub, A.set, A.over, Ent.bound, Kind.isStruct, Kind.isAgg, S.known, A.solid, segAt, segPut, segLen, R.a, R.len, A.r, stMake, stBuildSlice, litA, repA, rep1, fillA, putP, sing, stMin, stEqA, rowEq, Kind.isScal, -List.reduceReplicate, -List.getD_eq_getElem?_getD, tab22, ty22, tab3, ty3, ntmps22]; (repeat' apply And.intro); all_goals first | exact hK | omega))
          repeat (first
    | rw [run_ops0]
    | rw [run_seq]
    | rw [run_region]
    | rw [run_block]
    | rw [run_blk]
    | rw [run_skip]
    | (apply run_go rfl; focus (intro L K hK; simp [step1, evS, est, St.ev, St.put, St.add, St.upd, look_hit, look_miss, okd, stBin, bin, binS, binB, binI, shS, shB, S.num, constS, one, inI, stUn, stNil, stLoad, stAt, stField, stIndexAddr, stStore, wrAt, stAlloc, stBox, stIndex, stPart, stPartRow, stFieldV, stConv, cvS, cvB, cvI, stSlice, optN, SV.num, noMax, stArrPtr, stExtract, stLen, stBuild, A.isRow, A.isAgg, A.noRec, A.len, A.get, A.sub, A.set, A.over, Ent.bound, Kind.isStruct, Kind.isAgg, S.known, A.solid, segAt, segPut, segLen, R.a, R.len, A.r, stMake, stBuildSlice, litA, repA, rep1, fillA, putP, sing, stMin, stEqA, rowEq, Kind.isScal, -List.reduceReplicate, -List.getD_eq_getElem?_getD, tab22, ty22, tab3, ty3, tab4, ty4, ntmps22]; (repeat' apply And.intro); all_goals first | exact hK | omega)))
          rw [run_back]
          refine ⟨(), trivial, ?_⟩
          simp [Ent2, entSl, entM, belSl, belV, belA, belS, belR, belM, look_hit, look_miss, one, -List.getD_eq_getElem?_getD]
        · intro h; cases h
      · intro h; cases h
    · intro h
      simp at h
      obtain rfl : nk = 4 := by omega
      refine ⟨Nat.le_of_ble_eq_true rfl, ?_⟩
      simp only [St.put]
      apply run_guard rfl rfl rfl rfl
      · intro h; cases h
      intro _
      refine ⟨Nat.le_of_ble_eq_true rfl, ?_⟩
      simp only [St.put]
      apply run_guard rfl rfl rfl rfl
      · intro h; cases h
      intro _
      refine ⟨Nat.le_of_ble_eq_true rfl, ?_⟩
      simp only [St.put]
      repeat (first
    | rw [run_ops0]
    | rw [run_seq]
    | rw [run_region]
    | rw [run_block]
    | rw [run_blk]
    | rw [run_skip]
    | (apply run_go rfl; focus (intro L K hK; simp [step1, evS, est, St.ev, St.put, St.add, St.upd, look_hit, look_miss, okd, stBin, bin, binS, binB, binI, shS, shB, S.num, constS, one, inI, stUn, stNil, stLoad, stAt, stField, stIndexAddr, stStore, wrAt, stAlloc, stBox, stIndex, stPart, stPartRow, stFieldV, stConv, cvS, cvB, cvI, stSlice, optN, SV.num, noMax, stArrPtr, stExtract, stLen, stBuild, A.isRow, A.isAgg, A.noRec, A.len, A.get, A.sub, A.set, A.over, Ent.bound, Kind.isStruct, Kind.isAgg, S.known, A.solid, segAt, segPut, segLen, R.a, R.len, A.r, stMake, stBuildSlice, litA, repA, rep1, fillA, putP, sing, stMin, stEqA, rowEq, Kind.isScal, -List.reduceReplicate, -List.getD_eq_getElem?_getD, tab22, ty22, tab3, ty3, tab4, ty4, ntmps22]; (repeat' apply And.intro); all_goals first | exact hK | omega)))
      rw [run_back]
      refine ⟨(), trivial, ?_⟩
      simp [Ent2, entSl, entM, belSl, belV, belA, belS, belR, belM, look_hit, look_miss, one, -List.getD_eq_getElem?_getD]
  · intro _ _
    refine ok_run hB tabOK pureF_ok 100 ?_
    apply run_cond2 rfl
    · intro h; cases h
    intro _
    repeat (first
    | rw [run_ops0]
    | rw [run_seq]
    | rw [run_region]
    | rw [run_block]
    | rw [run_blk]
    | rw [run_skip]
    | (apply run_go rfl; focus (intro L K hK; simp [step1, evS, est, St.ev, St.put, St.add, St.upd, look_hit, look_miss, okd, stBin, bin, binS, binB, binI, shS, shB, S.num, constS, one, inI, stUn, stNil, stLoad, stAt, stField, stIndexAddr, stStore, wrAt, stAlloc, stBox, stIndex, stPart, stPartRow, stFieldV, stConv, cvS, cvB, cvI, stSlice, optN, SV.num, noMax, stArrPtr, stExtract, stLen, stBuild, A.isRow, A.isAgg, A.noRec, A.len, A.get, A.sub, A.set, A.over, Ent.bound, Kind.isStruct, Kind.isAgg, S.known, A.solid, segAt, segPut, segLen, R.a, R.len, A.r, stMake, stBuildSlice, litA, repA, rep1, fillA, putP, sing, stMin, stEqA, rowEq, Kind.isScal, -List.reduceReplicate, -List.getD_eq_getElem?_getD, tab22, ty22, tab3, ty3, tab110, ty110, tab106, ty106, tab29, ty29, ntmps22, d4, hsl, hsv, pureOf, fillS, R.solid, putS]; (repeat' apply And.intro); all_goals first | exact hK | omega)))
    rw [run_loop]
    refine ok_blank_mem 1 _ _ 111 4 (.ai []) rfl trivial rfl rfl ?_
    simp only [List.length_cons, List.length_nil, List.cons_append, List.nil_append, List.set]
    refine ok_loop (X := Nat × Nat) (fun x => ⟨[(5, one (.i x.1)), (4, one (.i nk)), (3, one (.ptr 1 0 0)), (0, one (.sl 0 0 (4 * nk) cap0 1))], [.ent ⟨false, 5, none, .a8 key⟩, .ent ⟨true, 110, some 258, .st [⟨1, .s (.sl 2 0 x.1 x.2 4)⟩, ⟨256, .ai sb⟩, ⟨1, .s (.i nk)⟩]⟩, .ent ⟨true, 111, none, .ai (rsch key sb nk x.1)⟩]⟩) (fun x => x.1 ≤ 4 * (nk + 7)) (fun x => 4 * (nk + 7) - x.1) (fun j i L h => by have := hB.anc i L h; simp at this ⊢; omega) ⟨(0, 0), by omega, by simp [Ent2, entSl, entM, belSl, belV, belA, belS, belR, belM, look_hit, look_miss, one, -List.getD_eq_getElem?_getD, rsch]⟩ ?_
    rintro ⟨i, cap⟩ hi
    refine ok_run hB tabOK pureF_ok 100 ?_
    simp only at hi ⊢
    have hn0 : 0 < nk := by omega
    have hn8 : nk ≤ 8 := by omega
    have hwl := rsch_len key sb nk i
    have hWb := rsch_byt (key := key) (n := nk) hsb i
    repeat (first
    | rw [run_ops0]
    | rw [run_seq]
    | rw [run_region]
    | rw [run_block]
    | rw [run_blk]
    | rw [run_skip]
    | (apply run_go rfl; focus (intro L K hK; simp [step1, evS, est, St.ev, St.put, St.add, St.upd, look_hit, look_miss, okd, stBin, bin, binS, binB, binI, shS, shB, S.num, constS, one, inI, stUn, stNil, stLoad, stAt, stField, stIndexAddr, stStore, wrAt, stAlloc, stBox, stIndex, stPart, stPartRow, stFieldV, stConv, cvS, cvB, cvI, stSlice, optN, SV.num, noMax, stArrPtr, stExtract, stLen, stBuild, A.isRow, A.isAgg, A.noRec, A.len, A.get, A.sub, A.set, A.over, Ent.bound, Kind.isStruct, Kind.isAgg, S.known, A.solid, segAt, segPut, segLen, R.a, R.len, A.r, stMake, stBuildSlice, litA, repA, rep1, fillA, putP, sing, stMin, stEqA, rowEq, Kind.isScal, -List.reduceReplicate, -List.getD_eq_getElem?_getD, tab3, ty3, ntmps22]; (repeat' apply And.intro); all_goals first | exact hK | omega)))
    apply run_cond2 rfl
    · intro h
      simp at h
      have hsn : rsch key sb nk (i + 1) = rsch key sb nk i ++ rschW key sb nk i (rsch key sb nk i) 4 := rfl
      generalize rsch key sb nk i = W at hwl hWb hsn ⊢
      repeat (first
    | rw [run_ops0]
    | rw [run_seq]
    | rw [run_region]
    | rw [run_block]
    | rw [run_blk]
    | rw [run_skip]
    | (apply run_go rfl; focus (intro L K hK; simp [step1, evS, est, St.ev, St.put, St.add, St.upd, look_hit, look_miss, okd, stBin, bin, binS, binB, binI, shS, shB, S.num, constS, one, inI, stUn, stNil, stLoad, stAt, stField, stIndexAddr, stStore, wrAt, stAlloc, stBox, stIndex, stPart, stPartRow, stFieldV, stConv, cvS, cvB, cvI, stSlice, optN, SV.num, noMax, stArrPtr, stExtract, stLen, stBuild, A.isRow, A.isAgg, A.noRec, A.len, A.get, A.sub, A.set, A.over, Ent.bound, Kind.isStruct, Kind.isAgg, S.known, A.solid, segAt, segPut, segLen, R.a, R.len, A.r, stMake, stBuildSlice, litA, repA, rep1, fillA, putP, sing, stMin, stEqA, rowEq, Kind.isScal, -List.reduceReplicate, -List.getD_eq_getElem?_getD, tab3, ty3, tab111, ty111, ntmps22]; (repeat' apply And.intro); all_goals first | exact hK | omega)))
      rw [run_loop]
      refine ok_loop (X := Nat) (fun j => ⟨[(7, one (.i j)), (6, one (.ptr 3 0 0)), (5, one (.i i)), (4, one (.i nk)), (3, one (.ptr 1 0 0)), (0, one (.sl 0 0 (4 * nk) cap0 1))], [.ent ⟨false, 5, none, .a8 key⟩, .ent ⟨true, 110, some 258, .st [⟨1, .s (.sl 2 0 i cap 4)⟩, ⟨256, .ai sb⟩, ⟨1, .s (.i nk)⟩]⟩, .ent ⟨true, 111, none, .ai W⟩, .ent ⟨true, 111, some 4, .ai (rschW key sb nk i W j)⟩]⟩) (fun j => j ≤ 4) (fun j => 4 - j) (fun j i L h => by have := hB.anc i L h; simp at this ⊢; omega) ⟨0, by omega, by simp [Ent2, entSl, entM, belSl, belV, belA, belS, belR, belM, look_hit, look_miss, one, -List.getD_eq_getElem?_getD, rschW]⟩ ?_
      intro j hj
      refine ok_run hB tabOK pureF_ok 100 ?_
      have hrl := rschW_len key sb nk i W j
      repeat (first
    | rw [run_ops0]
    | rw [run_seq]
    | rw [run_region]
    | rw [run_block]
    | rw [run_blk]
    | rw [run_skip]
    | (apply run_go rfl; focus (intro L K hK; simp [step1, evS, est, St.ev, St.put, St.add, St.upd, look_hit, look_miss, okd, stBin, bin, binS, binB, binI, shS, shB, S.num, constS, one, inI, stUn, stNil, stLoad, stAt, stField, stIndexAddr, stStore, wrAt, stAlloc, stBox, stIndex, stPart, stPartRow, stFieldV, stConv, cvS, cvB, cvI, stSlice, optN, SV.num, noMax, stArrPtr, stExtract, stLen, stBuild, A.isRow, A.isAgg, A.noRec, A.len, A.get, A.sub, A.set, A.over, Ent.bound, Kind.isStruct, Kind.isAgg, S.known, A.solid, segAt, segPut, segLen, R.a, R.len, A.r, stMake, stBuildSlice, litA, repA, rep1, fillA, putP, sing, stMin, stEqA, rowEq, Kind.isScal, -List.reduceReplicate, -List.getD_eq_getElem?_getD, tab3, ty3, ntmps22]; (repeat' apply And.intro); all_goals first | exact hK | omega)))
      apply run_cond2 rfl
      · intro h3
        simp at h3
        repeat (first
    | rw [run_ops0]
    | rw [run_seq]
    | rw [run_region]
    | rw [run_block]
    | rw [run_blk]
    | rw [run_skip]
    | (apply run_go rfl; focus (intro L K hK; simp [step1, evS, est, St.ev, St.put, St.add, St.upd, look_hit, look_miss, okd, stBin, bin, binS, binB, binI, shS, shB, S.num, constS, one, inI, stUn, stNil, stLoad, stAt, stField, stIndexAddr, stStore, wrAt, stAlloc, stBox, stIndex, stPart, stPartRow, stFieldV, stConv, cvS, cvB, cvI, stSlice, optN, SV.num, noMax, stArrPtr, stExtract, stLen, stBuild, A.isRow, A.isAgg, A.noRec, A.len, A.get, A.sub, A.set, A.over, Ent.bound, Kind.isStruct, Kind.isAgg, S.known, A.solid, segAt, segPut, segLen, R.a, R.len, A.r, stMake, stBuildSlice, litA, repA, rep1, fillA, putP, sing, stMin, stEqA, rowEq, Kind.isScal, -List.reduceReplicate, -List.getD_eq_getElem?_getD, tab3, ty3, ntmps22]; (repeat' apply And.intro); all_goals first | exact hK | omega)))
        apply run_cond2 rfl
        · intro h4
          simp at h4
          have e4 : (4 * (i : Int) + j).toNat = 4 * i + j := by omega
          have hbk := hlt (key.getD (4 * i + j) 0)
          repeat (first
    | rw [run_ops0]
    | rw [run_seq]
    | rw [run_region]
    | rw [run_block]
    | rw [run_blk]
    | rw [run_skip]
    | (apply run_go rfl; focus (intro L K hK; simp [step1, evS, est, St.ev, St.put, St.add, St.upd, look_hit, look_miss, okd, stBin, bin, binS, binB, binI, shS, shB, S.num, constS, one, inI, stUn, stNil, stLoad, stAt, stField, stIndexAddr, stStore, wrAt, stAlloc, stBox, stIndex, stPart, stPartRow, stFieldV, stConv, cvS, cvB, cvI, stSlice, optN, SV.num, noMax, stArrPtr, stExtract, stLen, stBuild, A.isRow, A.isAgg, A.noRec, A.len, A.get, A.sub, A.set, A.over, Ent.bound, Kind.isStruct, Kind.isAgg, S.known, A.solid, segAt, segPut, segLen, R.a, R.len, A.r, stMake, stBuildSlice, litA, repA, rep1, fillA, putP, sing, stMin, stEqA, rowEq, Kind.isScal, -List.reduceReplicate, -List.getD_eq_getElem?_getD, tab3, ty3, tab22, ty22, tab5, ty5, tab29, ty29, tab110, ty110, tab108, ty108, tab111, ty111, tab106, ty106, ntmps22, e4, hrl]; (repeat' apply And.intro); all_goals first | exact hK | omega)))
          apply run_exit2 rfl
          repeat (first
    | rw [run_ops0]
    | rw [run_seq]
    | rw [run_region]
    | rw [run_block]
    | rw [run_blk]
    | rw [run_skip]
    | (apply run_go rfl; focus (intro L K hK; simp [step1, evS, est, St.ev, St.put, St.add, St.upd, look_hit, look_miss, okd, stBin, bin, binS, binB, binI, shS, shB, S.num, constS, one, inI, stUn, stNil, stLoad, stAt, stField, stIndexAddr, stStore, wrAt, stAlloc, stBox, stIndex, stPart, stPartRow, stFieldV, stConv, cvS, cvB, cvI, stSlice, optN, SV.num, noMax, stArrPtr, stExtract, stLen, stBuild, A.isRow, A.isAgg, A.noRec, A.len, A.get, A.sub, A.set, A.over, Ent.bound, Kind.isStruct, Kind.isAgg, S.known, A.solid, segAt, segPut, segLen, R.a, R.len, A.r, stMake, stBuildSlice, litA, repA, rep1, fillA, putP, sing, stMin, stEqA, rowEq, Kind.isScal, -List.reduceReplicate, -List.getD_eq_getElem?_getD, tab3, ty3, tab22, ty22, tab5, ty5, tab29, ty29, tab110, ty110, tab108, ty108, tab111, ty111, tab106, ty106, ntmps22, e4, hrl]; (repeat' apply And.intro); all_goals first | exact hK | omega)))
          rw [run_back]
          refine ⟨j + 1, by omega, by omega, ?_⟩
          simp [Ent2, entSl, entM, belSl, belV, belA, belS, belR, belM, look_hit, look_miss, one, -List.getD_eq_getElem?_getD, rschW, rcell, h4]
        · intro h4
          simp at h4
          have tm : (i : Int).tmod nk = ((i % nk : Nat) : Int) := rfl
          have e1 : ((i : Int) - 1).toNat = i - 1 := by omega
          have e5 : ((i : Int) - nk).toNat = i - nk := by omega
          have hb1 := hWb ((i - 1) * 4 + j)
          have hbw := hWb ((i - nk) * 4 + j)
          have hi1 : ¬ i < nk := by omega
          have hn0' : ¬ nk = 0 := by omega
          repeat (first
    | rw [run_ops0]
    | rw [run_seq]
    | rw [run_region]
    | rw [run_block]
    | rw [run_blk]
    | rw [run_skip]
    | (apply run_go rfl; focus (intro L K hK; simp [step1, evS, est, St.ev, St.put, St.add, St.upd, look_hit, look_miss, okd, stBin, bin, binS, binB, binI, shS, shB, S.num, constS, one, inI, stUn, stNil, stLoad, stAt, stField, stIndexAddr, stStore, wrAt, stAlloc, stBox, stIndex, stPart, stPartRow, stFieldV, stConv, cvS, cvB, cvI, stSlice, optN, SV.num, noMax, stArrPtr, stExtract, stLen, stBuild, A.isRow, A.isAgg, A.noRec, A.len, A.get, A.sub, A.set, A.over, Ent.bound, Kind.isStruct, Kind.isAgg, S.known, A.solid, segAt, segPut, segLen, R.a, R.len, A.r, stMake, stBuildSlice, litA, repA, rep1, fillA, putP, sing, stMin, stEqA, rowEq, Kind.isScal, -List.reduceReplicate, -List.getD_eq_getElem?_getD, tab3, ty3, tab22, ty22, tab5, ty5, tab29, ty29, tab110, ty110, tab108, ty108, tab111, ty111, tab106, ty106, ntmps22, e1, hwl, tm, hn0']; (repeat' apply And.intro); all_goals first | exact hK | omega)))
          apply run_cond2 rfl
          · intro h5
            simp at h5
            have h5' : i % nk = 0 := by first | exact h5 | omega
            have tm4 : (((j : Int) + 1) % 4).toNat = (j + 1) % 4 := by omega
            have tm5 : ((j : Int) + 1).tmod 4 = ((j : Int) + 1) % 4 := Int.tmod_eq_emod_of_nonneg (by omega)
            have hb2 := hWb ((i - 1) * 4 + (j + 1) % 4)
            have hm4 : (j + 1) % 4 < 4 := Nat.mod_lt _ (by omega)
            have hs2 := hsb (W.getD ((i - 1) * 4 + (j + 1) % 4) 0).toNat
            repeat (first
    | rw [run_ops0]
    | rw [run_seq]
    | rw [run_region]
    | rw [run_block]
    | rw [run_blk]
    | rw [run_skip]
    | (apply run_go rfl; focus (intro L K hK; simp [step1, evS, est, St.ev, St.put, St.add, St.upd, look_hit, look_miss, okd, stBin, bin, binS, binB, binI, shS, shB, S.num, constS, one, inI, stUn, stNil, stLoad, stAt, stField, stIndexAddr, stStore, wrAt, stAlloc, stBox, stIndex, stPart, stPartRow, stFieldV, stConv, cvS, cvB, cvI, stSlice, optN, SV.num, noMax, stArrPtr, stExtract, stLen, stBuild, A.isRow, A.isAgg, A.noRec, A.len, A.get, A.sub, A.set, A.over, Ent.bound, Kind.isStruct, Kind.isAgg, S.known, A.solid, segAt, segPut, segLen, R.a, R.len, A.r, stMake, stBuildSlice, litA, repA, rep1, fillA, putP, sing, stMin, stEqA, rowEq, Kind.isScal, -List.reduceReplicate, -List.getD_eq_getElem?_getD, tab3, ty3, ntmps22]; (repeat' apply And.intro); all_goals first | exact hK | omega)))
            rw [run_draw]
            refine ok_draw2 17 tabOK pureF_ok (pureOf_mono _) mixed (by decide +kernel) rfl rfl ?_
            repeat (first
    | (apply hd_go rfl rfl rfl rfl (Nat.le_of_ble_eq_true rfl); focus (intro K' hK; simp [step1, evS, est, St.ev, St.put, St.add, St.upd, look_hit, look_miss, okd, stBin, bin, binS, binB, binI, shS, shB, S.num, constS, one, inI, stUn, stNil, stLoad, stAt, stField, stIndexAddr, stStore, wrAt, stAlloc, stBox, stIndex, stPart, stPartRow, stFieldV, stConv, cvS, cvB, cvI, stSlice, optN, SV.num, noMax, stArrPtr, stExtract, stLen, stBuild, A.isRow, A.isAgg, A.noRec, A.len, A.get, A.sub, A.set, A.over, Ent.bound, Kind.isStruct, Kind.isAgg, S.known, A.solid, segAt, segPut, segLen, R.a, R.len, A.r, stMake, stBuildSlice, litA, repA, rep1, fillA, putP, sing, stMin, stEqA, rowEq, Kind.isScal, -List.reduceReplicate, -List.getD_eq_getElem?_getD, tab3, ty3, tab22, ty22, tab5, ty5, tab29, ty29, tab110, ty110, tab108, ty108, tab111, ty111, tab106, ty106, tab4, ty4, ntmps22, e1, hwl, hsl, tm4, tm5]; (repeat' apply And.intro); all_goals first | exact hK | omega))
    | (apply hd_new rfl rfl rfl rfl (Nat.le_of_ble_eq_true rfl); focus (intro K' hK; simp [step1, evS, est, St.ev, St.put, St.add, St.upd, look_hit, look_miss, okd, stBin, bin, binS, binB, binI, shS, shB, S.num, constS, one, inI, stUn, stNil, stLoad, stAt, stField, stIndexAddr, stStore, wrAt, stAlloc, stBox, stIndex, stPart, stPartRow, stFieldV, stConv, cvS, cvB, cvI, stSlice, optN, SV.num, noMax, stArrPtr, stExtract, stLen, stBuild, A.isRow, A.isAgg, A.noRec, A.len, A.get, A.sub, A.set, A.over, Ent.bound, Kind.isStruct, Kind.isAgg, S.known, A.solid, segAt, segPut, segLen, R.a, R.len, A.r, stMake, stBuildSlice, litA, repA, rep1, fillA, putP, sing, stMin, stEqA, rowEq, Kind.isScal, -List.reduceReplicate, -List.getD_eq_getElem?_getD, tab3, ty3, tab22, ty22, tab5, ty5, tab29, ty29, tab110, ty110, tab108, ty108, tab111, ty111, tab106, ty106, tab4, ty4, ntmps22, e1, hwl, hsl, tm4, tm5]; (repeat' apply And.intro); all_goals first | exact hK | omega)))
            refine hd_nil ?_
            simp only [List.map_cons, List.map_nil, List.append_nil, List.nil_append, List.cons_append]
            refine ok_run hB tabOK pureF_ok 100 ?_
            repeat (first
    | rw [run_ops0]
    | rw [run_seq]
    | rw [run_region]
    | rw [run_block]
    | rw [run_blk]
    | rw [run_skip]
    | (apply run_go rfl; focus (intro L K hK; simp [step1, evS, est, St.ev, St.put, St.add, St.upd, look_hit, look_miss, okd, stBin, bin, binS, binB, binI, shS, shB, S.num, constS, one, inI, stUn, stNil, stLoad, stAt, stField, stIndexAddr, stStore, wrAt, stAlloc, stBox, stIndex, stPart, stPartRow, stFieldV, stConv, cvS, cvB, cvI, stSlice, optN, SV.num, noMax, stArrPtr, stExtract, stLen, stBuild, A.isRow, A.isAgg, A.noRec, A.len, A.get, A.sub, A.set, A.over, Ent.bound, Kind.isStruct, Kind.isAgg, S.known, A.solid, segAt, segPut, segLen, R.a, R.len, A.r, stMake, stBuildSlice, litA, repA, rep1, fillA, putP, sing, stMin, stEqA, rowEq, Kind.isScal, -List.reduceReplicate, -List.getD_eq_getElem?_getD, tab3, ty3, tab22, ty22, tab5, ty5, tab29, ty29, tab110, ty110, tab108, ty108, tab111, ty111, tab106, ty106, tab4, ty4, ntmps22]; (repeat' apply And.intro); all_goals first | exact hK | omega)))
            apply run_cond2 rfl
            · intro h6
              simp at h6
              obtain rfl : j = 0 := by omega
              have td : (i : Int).tdiv nk = ((i / nk : Nat) : Int) := rfl
              have q1 : 1 ≤ i / nk := (Nat.one_le_div_iff hn0).2 (by omega)
              have q2 : i / nk ≤ i := Nat.div_le_self _ _
              have qe : (i : Int) / (nk : Int) = ((i / nk : Nat) : Int) := rfl
              have qI1 : 1 ≤ (i : Int) / (nk : Int) := by rw [qe]; omega
              have qI2 : (i : Int) / (nk : Int) - 1 < 256 := by rw [qe]; omega
              have qI3 : ((i : Int) / (nk : Int)).toNat = i / nk := by rw [qe]; omega
              have ti : (i : Int).tdiv nk = (i : Int) / nk := Int.tdiv_eq_ediv_of_nonneg (by omega)
              have hpl := powG_lt (b := 2) (by omega) (i / nk - 1) 8
              replace hs2 : 0 ≤ sb.getD (W.getD ((i - 1) * 4 + 1) 0).toNat 0 ∧ sb.getD (W.getD ((i - 1) * 4 + 1) 0).toNat 0 < 256 := hs2
              replace hbw : 0 ≤ W.getD ((i - nk) * 4) 0 ∧ W.getD ((i - nk) * 4) 0 < 256 := hbw
              have hq := xorI_lt hs2 hpl
              unfold xorI at hq
              repeat (first
    | rw [run_ops0]
    | rw [run_seq]
    | rw [run_region]
    | rw [run_block]
    | rw [run_blk]
    | rw [run_skip]
    | (apply run_go rfl; focus (intro L K hK; simp [step1, evS, est, St.ev, St.put, St.add, St.upd, look_hit, look_miss, okd, stBin, bin, binS, binB, binI, shS, shB, S.num, constS, one, inI, stUn, stNil, stLoad, stAt, stField, stIndexAddr, stStore, wrAt, stAlloc, stBox, stIndex, stPart, stPartRow, stFieldV, stConv, cvS, cvB, cvI, stSlice, optN, SV.num, noMax, stArrPtr, stExtract, stLen, stBuild, A.isRow, A.isAgg, A.noRec, A.len, A.get, A.sub, A.set, A.over, Ent.bound, Kind.isStruct, Kind.isAgg, S.known, A.solid, segAt, segPut, segLen, R.a, R.len, A.r, stMake, stBuildSlice, litA, repA, rep1, fillA, putP, sing, stMin, stEqA, rowEq, Kind.isScal, -List.reduceReplicate, -List.getD_eq_getElem?_getD, tab3, ty3, tab22, ty22, tab5, ty5, tab29, ty29, tab110, ty110, tab108, ty108, tab111, ty111, tab106, ty106, tab4, ty4, ntmps22, ti, hn0', qI1, qI2, qI3, pureOf, pureF]; (repeat' apply And.intro); all_goals first | exact hK | omega)))
              have hx := xorI_lt hbw hq
              unfold xorI at hx
              repeat (first
    | rw [run_ops0]
    | rw [run_seq]
    | rw [run_region]
    | rw [run_block]
    | rw [run_blk]
    | rw [run_skip]
    | (apply run_go rfl; focus (intro L K hK; simp [step1, evS, est, St.ev, St.put, St.add, St.upd, look_hit, look_miss, okd, stBin, bin, binS, binB, binI, shS, shB, S.num, constS, one, inI, stUn, stNil, stLoad, stAt, stField, stIndexAddr, stStore, wrAt, stAlloc, stBox, stIndex, stPart, stPartRow, stFieldV, stConv, cvS, cvB, cvI, stSlice, optN, SV.num, noMax, stArrPtr, stExtract, stLen, stBuild, A.isRow, A.isAgg, A.noRec, A.len, A.get, A.sub, A.set, A.over, Ent.bound, Kind.isStruct, Kind.isAgg, S.known, A.solid, segAt, segPut, segLen, R.a, R.len, A.r, stMake, stBuildSlice, litA, repA, rep1, fillA, putP, sing, stMin, stEqA, rowEq, Kind.isScal, -List.reduceReplicate, -List.getD_eq_getElem?_getD, tab3, ty3, tab22, ty22, tab5, ty5, tab29, ty29, tab110, ty110, tab108, ty108, tab111, ty111, tab106, ty106, tab4, ty4, ntmps22, e5, hwl, hrl, hbw, hx]; (repeat' apply And.intro); all_goals first | exact hK | omega)))
              rw [run_back]
              refine ⟨0 + 1, by omega, by omega, ?_⟩
              simp [Ent2, entSl, entM, belSl, belV, belA, belS, belR, belM, look_hit, look_miss, one, -List.getD_eq_getElem?_getD, rschW, rcell, xorI, hi1, h5']
            · intro h6
              simp at h6
              have hx := xorI_lt hbw hs2
              unfold xorI at hx
              repeat (first
    | rw [run_ops0]
    | rw [run_seq]
    | rw [run_region]
    | rw [run_block]
    | rw [run_blk]
    | rw [run_skip]
    | (apply run_go rfl; focus (intro L K hK; simp [step1, evS, est, St.ev, St.put, St.add, St.upd, look_hit, look_miss, okd, stBin, bin, binS, binB, binI, shS, shB, S.num, constS, one, inI, stUn, stNil, stLoad, stAt, stField, stIndexAddr, stStore, wrAt, stAlloc, stBox, stIndex, stPart, stPartRow, stFieldV, stConv, cvS, cvB, cvI, stSlice, optN, SV.num, noMax, stArrPtr, stExtract, stLen, stBuild, A.isRow, A.isAgg, A.noRec, A.len, A.get, A.sub, A.set, A.over, Ent.bound, Kind.isStruct, Kind.isAgg, S.known, A.solid, segAt, segPut, segLen, R.a, R.len, A.r, stMake, stBuildSlice, litA, repA, rep1, fillA, putP, sing, stMin, stEqA, rowEq, Kind.isScal, -List.reduceReplicate, -List.getD_eq_getElem?_getD, tab3, ty3, tab22, ty22, tab5, ty5, tab29, ty29, tab110, ty110, tab108, ty108, tab111, ty111, tab106, ty106, tab4, ty4, ntmps22, e5, hwl, hrl, hbw, hx]; (repeat' apply And.intro); all_goals first | exact hK | omega)))
              rw [run_back]
              refine ⟨j + 1, by omega, by omega, ?_⟩
              simp [Ent2, entSl, entM, belSl, belV, belA, belS, belR, belM, look_hit, look_miss, one, -List.getD_eq_getElem?_getD, rschW, rcell, xorI, hi1, h5', h6]
          · intro h5
            simp at h5
            have h5' : ¬ i % nk = 0 := by first | exact h5 | omega
            rcases hnk with rfl | rfl
            · have e5 : ((i : Int) - 4).toNat = i - 4 := by omega
              repeat (first
    | rw [run_ops0]
    | rw [run_seq]
    | rw [run_region]
    | rw [run_block]
    | rw [run_blk]
    | rw [run_skip]
    | (apply run_go rfl; focus (intro L K hK; simp [step1, evS, est, St.ev, St.put, St.add, St.upd, look_hit, look_miss, okd, stBin, bin, binS, binB, binI, shS, shB, S.num, constS, one, inI, stUn, stNil, stLoad, stAt, stField, stIndexAddr, stStore, wrAt, stAlloc, stBox, stIndex, stPart, stPartRow, stFieldV, stConv, cvS, cvB, cvI, stSlice, optN, SV.num, noMax, stArrPtr, stExtract, stLen, stBuild, A.isRow, A.isAgg, A.noRec, A.len, A.get, A.sub, A.set, A.over, Ent.bound, Kind.isStruct, Kind.isAgg, S.known, A.solid, segAt, segPut, segLen, R.a, R.len, A.r, stMake, stBuildSlice, litA, repA, rep1, fillA, putP, sing, stMin, stEqA, rowEq, Kind.isScal, -List.reduceReplicate, -List.getD_eq_getElem?_getD, tab3, ty3, tab22, ty22, tab5, ty5, tab29, ty29, tab110, ty110, tab108, ty108, tab111, ty111, tab106, ty106, tab4, ty4, ntmps22]; (repeat' apply And.intro); all_goals first | exact hK | omega)))
              apply run_guard rfl rfl rfl rfl
              · intro h; cases h
              intro _
              refine ⟨Nat.le_of_ble_eq_true rfl, ?_⟩
              simp only [St.put]
              apply run_guard rfl rfl rfl rfl
              · intro h; cases h
              intro _
              refine ⟨Nat.le_of_ble_eq_true rfl, ?_⟩
              simp only [St.put]
              apply run_guard rfl rfl rfl rfl
              · intro h; cases h
              intro _
              refine ⟨Nat.le_of_ble_eq_true rfl, ?_⟩
              simp only [St.put]
              repeat (first
    | rw [run_ops0]
    | rw [run_seq]
    | rw [run_region]
    | rw [run_block]
    | rw [run_blk]
    | rw [run_skip]
    | (apply run_go rfl; focus (intro L K hK; simp [step1, evS, est, St.ev, St.put, St.add, St.upd, look_hit, look_miss, okd, stBin, bin, binS, binB, binI, shS, shB, S.num, constS, one, inI, stUn, stNil, stLoad, stAt, stField, stIndexAddr, stStore, wrAt, stAlloc, stBox, stIndex, stPart, stPartRow, stFieldV, stConv, cvS, cvB, cvI, stSlice, optN, SV.num, noMax, stArrPtr, stExtract, stLen, stBuild, A.isRow, A.isAgg, A.noRec, A.len, A.get, A.sub, A.set, A.over, Ent.bound, Kind.isStruct, Kind.isAgg, S.known, A.solid, segAt, segPut, segLen, R.a, R.len, A.r, stMake, stBuildSlice, litA, repA, rep1, fillA, putP, sing, stMin, stEqA, rowEq, Kind.isScal, -List.reduceReplicate, -List.getD_eq_getElem?_getD, tab3, ty3, tab22, ty22, tab5, ty5, tab29, ty29, tab110, ty110, tab108, ty108, tab111, ty111, tab106, ty106, tab4, ty4, ntmps22]; (repeat' apply And.intro); all_goals first | exact hK | omega)))
              apply run_cond2 rfl
              · intro h; cases h
              intro _
              have hx := xorI_lt hbw hb1
              unfold xorI at hx
              repeat (first
    | rw [run_ops0]
    | rw [run_seq]
    | rw [run_region]
    | rw [run_block]
    | rw [run_blk]
    | rw [run_skip]
    | (apply run_go rfl; focus (intro L K hK; simp [step1, evS, est, St.ev, St.put, St.add, St.upd, look_hit, look_miss, okd, stBin, bin, binS, binB, binI, shS, shB, S.num, constS, one, inI, stUn, stNil, stLoad, stAt, stField, stIndexAddr, stStore, wrAt, stAlloc, stBox, stIndex, stPart, stPartRow, stFieldV, stConv, cvS, cvB, cvI, stSlice, optN, SV.num, noMax, stArrPtr, stExtract, stLen, stBuild, A.isRow, A.isAgg, A.noRec, A.len, A.get, A.sub, A.set, A.over, Ent.bound, Kind.isStruct, Kind.isAgg, S.known, A.solid, segAt, segPut, segLen, R.a, R.len, A.r, stMake, stBuildSlice, litA, repA, rep1, fillA, putP, sing, stMin, stEqA, rowEq, Kind.isScal, -List.reduceReplicate, -List.getD_eq_getElem?_getD, tab3, ty3, tab22, ty22, tab5, ty5, tab29, ty29, tab110, ty110, tab108, ty108, tab111, ty111, tab106, ty106, tab4, ty4, ntmps22, e5, hwl, hrl, hbw, hx]; (repeat' apply And.intro); all_goals first | exact hK | omega)))
              rw [run_back]
              refine ⟨j + 1, by omega, by omega, ?_⟩
              simp [Ent2, entSl, entM, belSl, belV, belA, belS, belR, belM, look_hit, look_miss, one, -List.getD_eq_getElem?_getD, rschW, rcell, xorI, hi1, h5']
            · have e5 : ((i : Int) - 8).toNat = i - 8 := by omega
              have tm8 : (i : Int).tmod 8 = ((i % 8 : Nat) : Int) := rfl
              repeat (first
    | rw [run_ops0]
    | rw [run_seq]
    | rw [run_region]
    | rw [run_block]
    | rw [run_blk]
    | rw [run_skip]
    | (apply run_go rfl; focus (intro L K hK; simp [step1, evS, est, St.ev, St.put, St.add, St.upd, look_hit, look_miss, okd, stBin, bin, binS, binB, binI, shS, shB, S.num, constS, one, inI, stUn, stNil, stLoad, stAt, stField, stIndexAddr, stStore, wrAt, stAlloc, stBox, stIndex, stPart, stPartRow, stFieldV, stConv, cvS, cvB, cvI, stSlice, optN, SV.num, noMax, stArrPtr, stExtract, stLen, stBuild, A.isRow, A.isAgg, A.noRec, A.len, A.get, A.sub, A.set, A.over, Ent.bound, Kind.isStruct, Kind.isAgg, S.known, A.solid, segAt, segPut, segLen, R.a, R.len, A.r, stMake, stBuildSlice, litA, repA, rep1, fillA, putP, sing, stMin, stEqA, rowEq, Kind.isScal, -List.reduceReplicate, -List.getD_eq_getElem?_getD, tab3, ty3, tab22, ty22, tab5, ty5, tab29, ty29, tab110, ty110, tab108, ty108, tab111, ty111, tab106, ty106, tab4, ty4, ntmps22]; (repeat' apply And.intro); all_goals first | exact hK | omega)))
              apply run_guard rfl rfl rfl rfl
              · intro _
                (apply Exists.intro; apply And.intro; focus (intro L K hK; simp [step1, evS, est, St.ev, St.put, St.add, St.upd, look_hit, look_miss, okd, stBin, bin, binS, binB, binI, shS, shB, S.num, constS, one, inI, stUn, stNil, stLoad, stAt, stField, stIndexAddr, stStore, wrAt, stAlloc, stBox, stIndex, stPart, stPartRow, stFieldV, stConv, cvS, cvB, cvI, stSlice, optN, SV.num, noMax, stArrPtr, stExtract, stLen, stBuild, A.isRow, A.isAgg, A.noRec, A.len, A.get, A.sub, A.set, A.over, Ent.bound, Kind.isStruct, Kind.isAgg, S.known, A.solid, segAt, segPut, segLen, R.a, R.len, A.r, stMake, stBuildSlice, litA, repA, rep1, fillA, putP, sing, stMin, stEqA, rowEq, Kind.isScal, -List.reduceReplicate, -List.getD_eq_getElem?_getD, tab3, ty3, tab22, ty22, tab5, ty5, tab29, ty29, tab110, ty110, tab108, ty108, tab111, ty111, tab106, ty106, tab4, ty4, ntmps22, tm8]; (repeat' apply And.intro); all_goals first | exact hK | omega))
                apply run_guard rfl rfl rfl rfl
                · intro _
                  (apply Exists.intro; apply And.intro; focus (intro L K hK; simp [step1, evS, est, St.ev, St.put, St.add, St.upd, look_hit, look_miss, okd, stBin, bin, binS, binB, binI, shS, shB, S.num, constS, one, inI, stUn, stNil, stLoad, stAt, stField, stIndexAddr, stStore, wrAt, stAlloc, stBox, stIndex, stPart, stPartRow, stFieldV, stConv, cvS, cvB, cvI, stSlice, optN, SV.num, noMax, stArrPtr, stExtract, stLen, stBuild, A.isRow, A.isAgg, A.noRec, A.len, A.get, A.sub, A.set, A.over, Ent.bound, Kind.isStruct, Kind.isAgg, S.known, A.solid, segAt, segPut, segLen, R.a, R.len, A.r, stMake, stBuildSlice, litA, repA, rep1, fillA, putP, sing, stMin, stEqA, rowEq, Kind.isScal, -List.reduceReplicate, -List.getD_eq_getElem?_getD, tab3, ty3, tab22, ty22, tab5, ty5, tab29, ty29, tab110, ty110, tab108, ty108, tab111, ty111, tab106, ty106, tab4, ty4, ntmps22, tm8]; (repeat' apply And.intro); all_goals first | exact hK | omega))
                  apply run_guard rfl rfl rfl rfl
                  · intro _
                    (apply Exists.intro; apply And.intro; focus (intro L K hK; simp [step1, evS, est, St.ev, St.put, St.add, St.upd, look_hit, look_miss, okd, stBin, bin, binS, binB, binI, shS, shB, S.num, constS, one, inI, stUn, stNil, stLoad, stAt, stField, stIndexAddr, stStore, wrAt, stAlloc, stBox, stIndex, stPart, stPartRow, stFieldV, stConv, cvS, cvB, cvI, stSlice, optN, SV.num, noMax, stArrPtr, stExtract, stLen, stBuild, A.isRow, A.isAgg, A.noRec, A.len, A.get, A.sub, A.set, A.over, Ent.bound, Kind.isStruct, Kind.isAgg, S.known, A.solid, segAt, segPut, segLen, R.a, R.len, A.r, stMake, stBuildSlice, litA, repA, rep1, fillA, putP, sing, stMin, stEqA, rowEq, Kind.isScal, -List.reduceReplicate, -List.getD_eq_getElem?_getD, tab3, ty3, tab22, ty22, tab5, ty5, tab29, ty29, tab110, ty110, tab108, ty108, tab111, ty111, tab106, ty106, tab4, ty4, ntmps22, tm8]; (repeat' apply And.intro); all_goals first | exact hK | omega))
                    repeat (first
    | rw [run_ops0]
    | rw [run_seq]
    | rw [run_region]
    | rw [run_block]
    | rw [run_blk]
    | rw [run_skip]
    | (apply run_go rfl; focus (intro L K hK; simp [step1, evS, est, St.ev, St.put, St.add, St.upd, look_hit, look_miss, okd, stBin, bin, binS, binB, binI, shS, shB, S.num, constS, one, inI, stUn, stNil, stLoad, stAt, stField, stIndexAddr, stStore, wrAt, stAlloc, stBox, stIndex, stPart, stPartRow, stFieldV, stConv, cvS, cvB, cvI, stSlice, optN, SV.num, noMax, stArrPtr, stExtract, stLen, stBuild, A.isRow, A.isAgg, A.noRec, A.len, A.get, A.sub, A.set, A.over, Ent.bound, Kind.isStruct, Kind.isAgg, S.known, A.solid, segAt, segPut, segLen, R.a, R.len, A.r, stMake, stBuildSlice, litA, repA, rep1, fillA, putP, sing, stMin, stEqA, rowEq, Kind.isScal, -List.reduceReplicate, -List.getD_eq_getElem?_getD, tab3, ty3, tab22, ty22, tab5, ty5, tab29, ty29, tab110, ty110, tab108, ty108, tab111, ty111, tab106, ty106, tab4, ty4, ntmps22]; (repeat' apply And.intro); all_goals first | exact hK | omega)))
                    apply run_cond2 rfl
                    · intro h7
                      simp at h7
                      have h7' : i % 8 = 4 := by omega
                      have hs3 := hsb (W.getD ((i - 1) * 4 + j) 0).toNat
                      repeat (first
    | rw [run_ops0]
    | rw [run_seq]
    | rw [run_region]
    | rw [run_block]
    | rw [run_blk]
    | rw [run_skip]
    | (apply run_go rfl; focus (intro L K hK; simp [step1, evS, est, St.ev, St.put, St.add, St.upd, look_hit, look_miss, okd, stBin, bin, binS, binB, binI, shS, shB, S.num, constS, one, inI, stUn, stNil, stLoad, stAt, stField, stIndexAddr, stStore, wrAt, stAlloc, stBox, stIndex, stPart, stPartRow, stFieldV, stConv, cvS, cvB, cvI, stSlice, optN, SV.num, noMax, stArrPtr, stExtract, stLen, stBuild, A.isRow, A.isAgg, A.noRec, A.len, A.get, A.sub, A.set, A.over, Ent.bound, Kind.isStruct, Kind.isAgg, S.known, A.solid, segAt, segPut, segLen, R.a, R.len, A.r, stMake, stBuildSlice, litA, repA, rep1, fillA, putP, sing, stMin, stEqA, rowEq, Kind.isScal, -List.reduceReplicate, -List.getD_eq_getElem?_getD, tab3, ty3, tab22, ty22, tab5, ty5, tab29, ty29, tab110, ty110, tab108, ty108, tab111, ty111, tab106, ty106, tab4, ty4, ntmps22, hsl, hb1]; (repeat' apply And.intro); all_goals first | exact hK | omega)))
                      have hx := xorI_lt hbw hs3
                      unfold xorI at hx
                      repeat (first
    | rw [run_ops0]
    | rw [run_seq]
    | rw [run_region]
    | rw [run_block]
    | rw [run_blk]
    | rw [run_skip]
    | (apply run_go rfl; focus (intro L K hK; simp [step1, evS, est, St.ev, St.put, St.add, St.upd, look_hit, look_miss, okd, stBin, bin, binS, binB, binI, shS, shB, S.num, constS, one, inI, stUn, stNil, stLoad, stAt, stField, stIndexAddr, stStore, wrAt, stAlloc, stBox, stIndex, stPart, stPartRow, stFieldV, stConv, cvS, cvB, cvI, stSlice, optN, SV.num, noMax, stArrPtr, stExtract, stLen, stBuild, A.isRow, A.isAgg, A.noRec, A.len, A.get, A.sub, A.set, A.over, Ent.bound, Kind.isStruct, Kind.isAgg, S.known, A.solid, segAt, segPut, segLen, R.a, R.len, A.r, stMake, stBuildSlice, litA, repA, rep1, fillA, putP, sing, stMin, stEqA, rowEq, Kind.isScal, -List.reduceReplicate, -List.getD_eq_getElem?_getD, tab3, ty3, tab22, ty22, tab5, ty5, tab29, ty29, tab110, ty110, tab108, ty108, tab111, ty111, tab106, ty106, tab4, ty4, ntmps22, e5, hwl, hrl, hbw, hx]; (repeat' apply And.intro); all_goals first | exact hK | omega)))
                      rw [run_back]
                      refine ⟨j + 1, by omega, by omega, ?_⟩
                      simp [Ent2, entSl, entM, belSl, belV, belA, belS, belR, belM, look_hit, look_miss, one, -List.getD_eq_getElem?_getD, rschW, rcell, xorI, hi1, h5', h7']
                    · intro h7
                      simp at h7
                      have h7' : ¬ i % 8 = 4 := by omega
                      have hx := xorI_lt hbw hb1
                      unfold xorI at hx
                      repeat (first
    | rw [run_ops0]
    | rw [run_seq]
    | rw [run_region]
    | rw [run_block]
    | rw [run_blk]
    | rw [run_skip]
    | (apply run_go rfl; focus (intro L K hK; simp [step1, evS, est, St.ev, St.put, St.add, St.upd, look_hit, look_miss, okd, stBin, bin, binS, binB, binI, shS, shB, S.num, constS, one, inI, stUn, stNil, stLoad, stAt, stField, stIndexAddr, stStore, wrAt, stAlloc, stBox, stIndex, stPart, stPartRow, stFieldV, stConv, cvS, cvB, cvI, stSlice, optN, SV.num, noMax, stArrPtr, stExtract, stLen, stBuild, A.isRow, A.isAgg, A.noRec, A.len, A.get, A.sub, A.set, A.over, Ent.bound, Kind.isStruct, Kind.isAgg, S.known, A.solid, segAt, segPut, segLen, R.a, R.len, A.r, stMake, stBuildSlice, litA, repA, rep1, fillA, putP, sing, stMin, stEqA, rowEq, Kind.isScal, -List.reduceReplicate, -List.getD_eq_getElem?_getD, tab3, ty3, tab22, ty22, tab5, ty5, tab29, ty29, tab110, ty110, tab108, ty108, tab111, ty111, tab106, ty106, tab4, ty4, ntmps22, e5, hwl, hrl, hbw, hx]; (repeat' apply And.intro); all_goals first | exact hK | omega)))
                      rw [run_back]
                      refine ⟨j + 1, by omega, by omega, ?_⟩
                      simp [Ent2, entSl, entM, belSl, belV, belA, belS, belR, belM, look_hit, look_miss, one, -List.getD_eq_getElem?_getD, rschW, rcell, xorI, hi1, h5', h7']
                  · intro h; cases h
                · intro h; cases h
              · intro h; cases h
      · intro h3
        simp at h3
        obtain rfl : j = 4 := by omega
        apply run_exit2 rfl
        repeat (first
    | rw [run_ops0]
    | rw [run_seq]
    | rw [run_region]
    | rw [run_block]
    | rw [run_blk]
    | rw [run_skip]
    | (apply run_go rfl; focus (intro L K hK; simp [step1, evS, est, St.ev, St.put, St.add, St.upd, look_hit, look_miss, okd, stBin, bin, binS, binB, binI, shS, shB, S.num, constS, one, inI, stUn, stNil, stLoad, stAt, stField, stIndexAddr, stStore, wrAt, stAlloc, stBox, stIndex, stPart, stPartRow, stFieldV, stConv, cvS, cvB, cvI, stSlice, optN, SV.num, noMax, stArrPtr, stExtract, stLen, stBuild, A.isRow, A.isAgg, A.noRec, A.len, A.get, A.sub, A.set, A.over, Ent.bound, Kind.isStruct, Kind.isAgg, S.known, A.solid, segAt, segPut, segLen, R.a, R.len, A.r, stMake, stBuildSlice, litA, repA, rep1, fillA, putP, sing, stMin, stEqA, rowEq, Kind.isScal, -List.reduceReplicate, -List.getD_eq_getElem?_getD, tab3, ty3, tab111, ty111, ntmps22]; (repeat' apply And.intro); all_goals first | exact hK | omega)))
        rw [run_draw]
        refine ok_draw_app2 7 tabOK pureF_ok (pureOf_mono _) mixed hB.pan (by decide +kernel) rfl rfl ?_
        repeat (first
    | (apply hd_go rfl rfl rfl rfl (Nat.le_of_ble_eq_true rfl); focus (intro K' hK; simp [step1, evS, est, St.ev, St.put, St.add, St.upd, look_hit, look_miss, okd, stBin, bin, binS, binB, binI, shS, shB, S.num, constS, one, inI, stUn, stNil, stLoad, stAt, stField, stIndexAddr, stStore, wrAt, stAlloc, stBox, stIndex, stPart, stPartRow, stFieldV, stConv, cvS, cvB, cvI, stSlice, optN, SV.num, noMax, stArrPtr, stExtract, stLen, stBuild, A.isRow, A.isAgg, A.noRec, A.len, A.get, A.sub, A.set, A.over, Ent.bound, Kind.isStruct, Kind.isAgg, S.known, A.solid, segAt, segPut, segLen, R.a, R.len, A.r, stMake, stBuildSlice, litA, repA, rep1, fillA, putP, sing, stMin, stEqA, rowEq, Kind.isScal, -List.reduceReplicate, -List.getD_eq_getElem?_getD, tab3, ty3, tab29, ty29, tab110, ty110, tab108, ty108, tab111, ty111, hrl]; (repeat' apply And.intro); all_goals first | exact hK | omega))
    | (apply hd_new rfl rfl rfl rfl (Nat.le_of_ble_eq_true rfl); focus (intro K' hK; simp [step1, evS, est, St.ev, St.put, St.add, St.upd, look_hit, look_miss, okd, stBin, bin, binS, binB, binI, shS, shB, S.num, constS, one, inI, stUn, stNil, stLoad, stAt, stField, stIndexAddr, stStore, wrAt, stAlloc, stBox, stIndex, stPart, stPartRow, stFieldV, stConv, cvS, cvB, cvI, stSlice, optN, SV.num, noMax, stArrPtr, stExtract, stLen, stBuild, A.isRow, A.isAgg, A.noRec, A.len, A.get, A.sub, A.set, A.over, Ent.bound, Kind.isStruct, Kind.isAgg, S.known, A.solid, segAt, segPut, segLen, R.a, R.len, A.r, stMake, stBuildSlice, litA, repA, rep1, fillA, putP, sing, stMin, stEqA, rowEq, Kind.isScal, -List.reduceReplicate, -List.getD_eq_getElem?_getD, tab3, ty3, tab29, ty29, tab110, ty110, tab108, ty108, tab111, ty111, hrl]; (repeat' apply And.intro); all_goals first | exact hK | omega)))
        refine hd_nil ?_
        simp only [List.map_cons, List.map_nil, List.nil_append, List.cons_append]
        refine ok_run hB tabOK pureF_ok 100 ?_
        (apply run_app rfl; focus (intro L K hK; simp [step1, evS, est, St.ev, St.put, St.add, St.upd, look_hit, look_miss, okd, stBin, bin, binS, binB, binI, shS, shB, S.num, constS, one, inI, stUn, stNil, stLoad, stAt, stField, stIndexAddr, stStore, wrAt, stAlloc, stBox, stIndex, stPart, stPartRow, stFieldV, stConv, cvS, cvB, cvI, stSlice, optN, SV.num, noMax, stArrPtr, stExtract, stLen, stBuild, A.isRow, A.isAgg, A.noRec, A.len, A.get, A.sub, A.set, A.over, Ent.bound, Kind.isStruct, Kind.isAgg, S.known, A.solid, segAt, segPut, segLen, R.a, R.len, A.r, stMake, stBuildSlice, litA, repA, rep1, fillA, putP, sing, stMin, stEqA, rowEq, Kind.isScal, -List.reduceReplicate, -List.getD_eq_getElem?_getD, stAppend, srcRow, SrcTy, A.cat, killSl, killV, killA, killS, killE, killSeg, killR, tab108, ty108, tab111, ty111, ntmps22, hwl, hrl]; (repeat' apply And.intro); all_goals first | exact hK | omega | (intro cap hcap; exact hK cap hcap)))
        intro cap2 hcap2
        repeat (first
    | rw [run_ops0]
    | rw [run_seq]
    | rw [run_region]
    | rw [run_block]
    | rw [run_blk]
    | rw [run_skip]
    | (apply run_go rfl; focus (intro L K hK; simp [step1, evS, est, St.ev, St.put, St.add, St.upd, look_hit, look_miss, okd, stBin, bin, binS, binB, binI, shS, shB, S.num, constS, one, inI, stUn, stNil, stLoad, stAt, stField, stIndexAddr, stStore, wrAt, stAlloc, stBox, stIndex, stPart, stPartRow, stFieldV, stConv, cvS, cvB, cvI, stSlice, optN, SV.num, noMax, stArrPtr, stExtract, stLen, stBuild, A.isRow, A.isAgg, A.noRec, A.len, A.get, A.sub, A.set, A.over, Ent.bound, Kind.isStruct, Kind.isAgg, S.known, A.solid, segAt, segPut, segLen, R.a, R.len, A.r, stMake, stBuildSlice, litA, repA, rep1, fillA, putP, sing, stMin, stEqA, rowEq, Kind.isScal, -List.reduceReplicate, -List.getD_eq_getElem?_getD, tab3, ty3, tab29, ty29, tab110, ty110, tab108, ty108, tab111, ty111, ntmps22]; (repeat' apply And.intro); all_goals first | exact hK | omega)))
        rw [run_back]
        refine ⟨(i + 1, cap2), by simp only; omega, by simp only; omega, ?_⟩
        simp only [hsn]
        simp [Ent2, entSl, entM, belSl, belV, belA, belS, belR, belM, look_hit, look_miss, one, -List.getD_eq_getElem?_getD, killA]
        first | exact List.take_of_length_le (by omega) | skip
    · intro h
      simp at h
      obtain rfl : i = 4 * (nk + 7) := by omega
      apply run_exit2 rfl
      repeat (first
    | rw [run_ops0]
    | rw [run_seq]
    | rw [run_region]
    | rw [run_block]
    | rw [run_blk]
    | rw [run_skip]
    | (apply run_go rfl; focus (intro L K hK; simp [step1, evS, est, St.ev, St.put, St.add, St.upd, look_hit, look_miss, okd, stBin, bin, binS, binB, binI, shS, shB, S.num, constS, one, inI, stUn, stNil, stLoad, stAt, stField, stIndexAddr, stStore, wrAt, stAlloc, stBox, stIndex, stPart, stPartRow, stFieldV, stConv, cvS, cvB, cvI, stSlice, optN, SV.num, noMax, stArrPtr, stExtract, stLen, stBuild, A.isRow, A.isAgg, A.noRec, A.len, A.get, A.sub, A.set, A.over, Ent.bound, Kind.isStruct, Kind.isAgg, S.known, A.solid, segAt, segPut, segLen, R.a, R.len, A.r, stMake, stBuildSlice, litA, repA, rep1, fillA, putP, sing, stMin, stEqA, rowEq, Kind.isScal, -List.reduceReplicate, -List.getD_eq_getElem?_getD, tab3, ty3, tab29, ty29, ntmps22]; (repeat' apply And.intro); all_goals first | exact hK | omega)))
      rw [run_ret]
      simp [finOf, resP, resV, extraOwn, look_hit, look_miss, one, -List.reduceReplicate, -List.getD_eq_getElem?_getD, stLoad, stAt, Ent.bound, A.len, A.isRow, A.isAgg, results22, f22, rnewMem, hsbe]
theorem spec22 (key : B8) (nk cap0 : Nat) (hk : key.length = 4 * nk) (hnk : nk = 4 ∨ nk = 8) (hcap0 : 4 * nk ≤ cap0) : Spec prog 22 [one (.sl 0 0 (4 * nk) cap0 1)] [.ent ⟨false, 5, none, .a8 key⟩] [] (fun r m => r = one (.ptr 1 0 0) ∧ ∃ cap, m = rnewMem key nk cap) := spec22L key nk cap0 (Nat.le_of_eq hk.symm) hnk hcap0
end Go.V
