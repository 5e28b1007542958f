/- Walks: the New functions at other lengths, Block of nothing; keys in memory as plain calls. No condition. -/
import Derived.Test.YtlnoehpjchglnaaWg
set_option linter.unusedSimpArgs false
set_option linter.unusedVariables false
set_option maxRecDepth 10000
namespace Go.V
open Go Go.Proofs.Try
theorem spec23nil (b : B8) (hb : b.length = 16) : Spec prog 23 [.one (.s .nil), .one (.a8 b)] [] [] (fun r _ => r = .one (.a8 zero16)) := by
  refine spec_of_body tabOK func23 rfl (Nat.le_of_ble_eq_true rfl) ?_
  intro E Q0 hB
  refine ok_run hB tabOK pureE_ok 100 ?_
  simp only [argSl]
  repeat (first
    | rw [run_ops0]
    | rw [run_seq]
    | rw [run_region]
    | rw [run_block]
    | rw [run_blk]
    | rw [run_skip]
    | (apply run_go rfl; focus (intro L K hK; simp [step1, evS, est, St.ev, St.put, St.add, St.upd, look_hit, look_miss, okd, stBin, bin, binS, binB, binI, shS, shB, S.num, constS, one, inI, stUn, stNil, stLoad, stAt, stField, stIndexAddr, stStore, wrAt, stAlloc, stBox, stIndex, stPart, stPartRow, stFieldV, stConv, cvS, cvB, cvI, stSlice, optN, SV.num, noMax, stArrPtr, stExtract, stLen, stBuild, A.isRow, A.isAgg, A.noRec, A.len, A.get, A.sub, A.set, A.over, Ent.bound, Kind.isStruct, Kind.isAgg, S.known, A.solid, segAt, segPut, segLen, R.a, R.len, A.r, stMake, stBuildSlice, litA, repA, rep1, fillA, putP, sing, stMin, stEqA, rowEq, Kind.isScal, -List.reduceReplicate, -List.getD_eq_getElem?_getD, tab23, ty23, tab25, ty25, ntmps23, hb]; (repeat' apply And.intro); all_goals first | exact hK | omega)))
  apply run_cond2 rfl
  · intro _
    repeat (first
    | rw [run_ops0]
    | rw [run_seq]
    | rw [run_region]
    | rw [run_block]
    | rw [run_blk]
    | rw [run_skip]
    | (apply run_go rfl; focus (intro L K hK; simp [step1, evS, est, St.ev, St.put, St.add, St.upd, look_hit, look_miss, okd, stBin, bin, binS, binB, binI, shS, shB, S.num, constS, one, inI, stUn, stNil, stLoad, stAt, stField, stIndexAddr, stStore, wrAt, stAlloc, stBox, stIndex, stPart, stPartRow, stFieldV, stConv, cvS, cvB, cvI, stSlice, optN, SV.num, noMax, stArrPtr, stExtract, stLen, stBuild, A.isRow, A.isAgg, A.noRec, A.len, A.get, A.sub, A.set, A.over, Ent.bound, Kind.isStruct, Kind.isAgg, S.known, A.solid, segAt, segPut, segLen, R.a, R.len, A.r, stMake, stBuildSlice, litA, repA, rep1, fillA, putP, sing, stMin, stEqA, rowEq, Kind.isScal, -List.reduceReplicate, -List.getD_eq_getElem?_getD, tab23, ty23, tab25, ty25, tab3, ty3, ntmps23, hb]; (repeat' apply And.intro); all_goals first | exact hK | omega)))
    rw [run_ret]
    simp [finOf, resP, resV, extraOwn, look_hit, look_miss, one, -List.reduceReplicate, -List.getD_eq_getElem?_getD, stLoad, stAt, Ent.bound, A.len, A.isRow, A.isAgg, results23, f23, tab23, ty23, zero16]
  · intro h; cases h
theorem spec21bad (key : B8) (n cap0 : Nat) (hk : key.length = n) (hcap0 : n ≤ cap0) (h16 : n ≠ 16) (h32 : n ≠ 32) (hn : n < 2 ^ 62) : Spec prog 21 [one (.sl 0 0 n cap0 1)] [.ent ⟨false, 5, none, .a8 key⟩] [] (fun r m => r = .tup [.s .nil, .s (.i 2)] ∧ m = [.ent ⟨false, 5, none, .a8 key⟩]) := by
  refine spec_of_body tabOK func21 rfl (Nat.le_of_ble_eq_true rfl) ?_
  intro E Q0 hB
  refine ok_run hB tabOK pureE_ok 100 ?_
  simp only [argSl]
  have h16' : (n : Int) ≠ 16 := by omega
  have h32' : (n : Int) ≠ 32 := by omega
  have d4 : (n : Int).tdiv 4 = (n : Int) / 4 := by rw [Int.tdiv_eq_ediv_of_nonneg (by omega)]
  repeat (first
    | rw [run_ops0]
    | rw [run_seq]
    | rw [run_region]
    | rw [run_block]
    | rw [run_blk]
    | rw [run_skip]
    | (apply run_go rfl; focus (intro L K hK; simp [step1, evS, est, St.ev, St.put, St.add, St.upd, look_hit, look_miss, okd, stBin, bin, binS, binB, binI, shS, shB, S.num, constS, one, inI, stUn, stNil, stLoad, stAt, stField, stIndexAddr, stStore, wrAt, stAlloc, stBox, stIndex, stPart, stPartRow, stFieldV, stConv, cvS, cvB, cvI, stSlice, optN, SV.num, noMax, stArrPtr, stExtract, stLen, stBuild, A.isRow, A.isAgg, A.noRec, A.len, A.get, A.sub, A.set, A.over, Ent.bound, Kind.isStruct, Kind.isAgg, S.known, A.solid, segAt, segPut, segLen, R.a, R.len, A.r, stMake, stBuildSlice, litA, repA, rep1, fillA, putP, sing, stMin, stEqA, rowEq, Kind.isScal, -List.reduceReplicate, -List.getD_eq_getElem?_getD, tab22, ty22, tab3, ty3, tab26, ty26, ntmps21, d4]; (repeat' apply And.intro); all_goals first | exact hK | omega)))
  apply run_guard rfl rfl rfl rfl
  · intro _
    (apply Exists.intro; apply And.intro; focus (intro L K hK; simp [step1, evS, est, St.ev, St.put, St.add, St.upd, look_hit, look_miss, okd, stBin, bin, binS, binB, binI, shS, shB, S.num, constS, one, inI, stUn, stNil, stLoad, stAt, stField, stIndexAddr, stStore, wrAt, stAlloc, stBox, stIndex, stPart, stPartRow, stFieldV, stConv, cvS, cvB, cvI, stSlice, optN, SV.num, noMax, stArrPtr, stExtract, stLen, stBuild, A.isRow, A.isAgg, A.noRec, A.len, A.get, A.sub, A.set, A.over, Ent.bound, Kind.isStruct, Kind.isAgg, S.known, A.solid, segAt, segPut, segLen, R.a, R.len, A.r, stMake, stBuildSlice, litA, repA, rep1, fillA, putP, sing, stMin, stEqA, rowEq, Kind.isScal, -List.reduceReplicate, -List.getD_eq_getElem?_getD, tab22, ty22, tab3, ty3, ntmps21]; (repeat' apply And.intro); all_goals first | exact hK | omega))
    apply run_guard rfl rfl rfl rfl
    · intro _
      (apply Exists.intro; apply And.intro; focus (intro L K hK; simp [step1, evS, est, St.ev, St.put, St.add, St.upd, look_hit, look_miss, okd, stBin, bin, binS, binB, binI, shS, shB, S.num, constS, one, inI, stUn, stNil, stLoad, stAt, stField, stIndexAddr, stStore, wrAt, stAlloc, stBox, stIndex, stPart, stPartRow, stFieldV, stConv, cvS, cvB, cvI, stSlice, optN, SV.num, noMax, stArrPtr, stExtract, stLen, stBuild, A.isRow, A.isAgg, A.noRec, A.len, A.get, A.sub, A.set, A.over, Ent.bound, Kind.isStruct, Kind.isAgg, S.known, A.solid, segAt, segPut, segLen, R.a, R.len, A.r, stMake, stBuildSlice, litA, repA, rep1, fillA, putP, sing, stMin, stEqA, rowEq, Kind.isScal, -List.reduceReplicate, -List.getD_eq_getElem?_getD, tab22, ty22, tab3, ty3, ntmps21]; (repeat' apply And.intro); all_goals first | exact hK | omega))
      apply run_guard rfl rfl rfl rfl
      · intro _
        (apply Exists.intro; apply And.intro; focus (intro L K hK; simp [step1, evS, est, St.ev, St.put, St.add, St.upd, look_hit, look_miss, okd, stBin, bin, binS, binB, binI, shS, shB, S.num, constS, one, inI, stUn, stNil, stLoad, stAt, stField, stIndexAddr, stStore, wrAt, stAlloc, stBox, stIndex, stPart, stPartRow, stFieldV, stConv, cvS, cvB, cvI, stSlice, optN, SV.num, noMax, stArrPtr, stExtract, stLen, stBuild, A.isRow, A.isAgg, A.noRec, A.len, A.get, A.sub, A.set, A.over, Ent.bound, Kind.isStruct, Kind.isAgg, S.known, A.solid, segAt, segPut, segLen, R.a, R.len, A.r, stMake, stBuildSlice, litA, repA, rep1, fillA, putP, sing, stMin, stEqA, rowEq, Kind.isScal, -List.reduceReplicate, -List.getD_eq_getElem?_getD, tab22, ty22, tab3, ty3, ntmps21]; (repeat' apply And.intro); all_goals first | exact hK | omega))
        repeat (first
    | rw [run_ops0]
    | rw [run_seq]
    | rw [run_region]
    | rw [run_block]
    | rw [run_blk]
    | rw [run_skip]
    | (apply run_go rfl; focus (intro L K hK; simp [step1, evS, est, St.ev, St.put, St.add, St.upd, look_hit, look_miss, okd, stBin, bin, binS, binB, binI, shS, shB, S.num, constS, one, inI, stUn, stNil, stLoad, stAt, stField, stIndexAddr, stStore, wrAt, stAlloc, stBox, stIndex, stPart, stPartRow, stFieldV, stConv, cvS, cvB, cvI, stSlice, optN, SV.num, noMax, stArrPtr, stExtract, stLen, stBuild, A.isRow, A.isAgg, A.noRec, A.len, A.get, A.sub, A.set, A.over, Ent.bound, Kind.isStruct, Kind.isAgg, S.known, A.solid, segAt, segPut, segLen, R.a, R.len, A.r, stMake, stBuildSlice, litA, repA, rep1, fillA, putP, sing, stMin, stEqA, rowEq, Kind.isScal, -List.reduceReplicate, -List.getD_eq_getElem?_getD, tab22, ty22, tab3, ty3, tab4, ty4, ntmps21]; (repeat' apply And.intro); all_goals first | exact hK | omega)))
        apply run_cond2 rfl
        · intro _
          repeat (first
    | rw [run_ops0]
    | rw [run_seq]
    | rw [run_region]
    | rw [run_block]
    | rw [run_blk]
    | rw [run_skip]
    | (apply run_go rfl; focus (intro L K hK; simp [step1, evS, est, St.ev, St.put, St.add, St.upd, look_hit, look_miss, okd, stBin, bin, binS, binB, binI, shS, shB, S.num, constS, one, inI, stUn, stNil, stLoad, stAt, stField, stIndexAddr, stStore, wrAt, stAlloc, stBox, stIndex, stPart, stPartRow, stFieldV, stConv, cvS, cvB, cvI, stSlice, optN, SV.num, noMax, stArrPtr, stExtract, stLen, stBuild, A.isRow, A.isAgg, A.noRec, A.len, A.get, A.sub, A.set, A.over, Ent.bound, Kind.isStruct, Kind.isAgg, S.known, A.solid, segAt, segPut, segLen, R.a, R.len, A.r, stMake, stBuildSlice, litA, repA, rep1, fillA, putP, sing, stMin, stEqA, rowEq, Kind.isScal, -List.reduceReplicate, -List.getD_eq_getElem?_getD, tab22, ty22, tab3, ty3, tab4, ty4, ntmps21, tab25, ty25, tab26, ty26]; (repeat' apply And.intro); all_goals first | exact hK | omega)))
          rw [run_ret]
          simp [finOf, resP, resV, extraOwn, look_hit, look_miss, one, -List.reduceReplicate, -List.getD_eq_getElem?_getD, stLoad, stAt, Ent.bound, A.len, A.isRow, A.isAgg, results21, f21]
        · intro h; first | (simp at h; done) | (simp at h; omega)
      · intro h; first | (simp at h; done) | (simp at h; omega)
    · intro h; first | (simp at h; done) | (simp at h; omega)
  · intro h; first | (simp at h; done) | (simp at h; omega)
theorem spec22bad (key : B8) (n cap0 : Nat) (hk : key.length = n) (hcap0 : n ≤ cap0) (h16 : n ≠ 16) (h32 : n ≠ 32) (hn : n < 2 ^ 62) : Spec prog 22 [one (.sl 0 0 n cap0 1)] [.ent ⟨false, 5, none, .a8 key⟩] [] (fun r m => r = one .nil ∧ m = [.ent ⟨false, 5, none, .a8 key⟩]) := by
  refine spec_of_body tabOK func22 rfl (Nat.le_of_ble_eq_true rfl) ?_
  intro E Q0 hB
  refine ok_run hB tabOK pureE_ok 100 ?_
  simp only [argSl]
  have h16' : (n : Int) ≠ 16 := by omega
  have h32' : (n : Int) ≠ 32 := by omega
  repeat (first
    | rw [run_ops0]
    | rw [run_seq]
    | rw [run_region]
    | rw [run_block]
    | rw [run_blk]
    | rw [run_skip]
    | (apply run_go rfl; focus (intro L K hK; simp [step1, evS, est, St.ev, St.put, St.add, St.upd, look_hit, look_miss, okd, stBin, bin, binS, binB, binI, shS, shB, S.num, constS, one, inI, stUn, stNil, stLoad, stAt, stField, stIndexAddr, stStore, wrAt, stAlloc, stBox, stIndex, stPart, stPartRow, stFieldV, stConv, cvS, cvB, cvI, stSlice, optN, SV.num, noMax, stArrPtr, stExtract, stLen, stBuild, A.isRow, A.isAgg, A.noRec, A.len, A.get, A.sub, A.set, A.over, Ent.bound, Kind.isStruct, Kind.isAgg, S.known, A.solid, segAt, segPut, segLen, R.a, R.len, A.r, stMake, stBuildSlice, litA, repA, rep1, fillA, putP, sing, stMin, stEqA, rowEq, Kind.isScal, -List.reduceReplicate, -List.getD_eq_getElem?_getD, tab22, ty22, tab3, ty3, tab29, ty29, ntmps22]; (repeat' apply And.intro); all_goals first | exact hK | omega)))
  apply run_guard rfl rfl rfl rfl
  · intro _
    (apply Exists.intro; apply And.intro; focus (intro L K hK; simp [step1, evS, est, St.ev, St.put, St.add, St.upd, look_hit, look_miss, okd, stBin, bin, binS, binB, binI, shS, shB, S.num, constS, one, inI, stUn, stNil, stLoad, stAt, stField, stIndexAddr, stStore, wrAt, stAlloc, stBox, stIndex, stPart, stPartRow, stFieldV, stConv, cvS, cvB, cvI, stSlice, optN, SV.num, noMax, stArrPtr, stExtract, stLen, stBuild, A.isRow, A.isAgg, A.noRec, A.len, A.get, A.sub, A.set, A.over, Ent.bound, Kind.isStruct, Kind.isAgg, S.known, A.solid, segAt, segPut, segLen, R.a, R.len, A.r, stMake, stBuildSlice, litA, repA, rep1, fillA, putP, sing, stMin, stEqA, rowEq, Kind.isScal, -List.reduceReplicate, -List.getD_eq_getElem?_getD, tab22, ty22, tab3, ty3, ntmps22]; (repeat' apply And.intro); all_goals first | exact hK | omega))
    apply run_guard rfl rfl rfl rfl
    · intro _
      (apply Exists.intro; apply And.intro; focus (intro L K hK; simp [step1, evS, est, St.ev, St.put, St.add, St.upd, look_hit, look_miss, okd, stBin, bin, binS, binB, binI, shS, shB, S.num, constS, one, inI, stUn, stNil, stLoad, stAt, stField, stIndexAddr, stStore, wrAt, stAlloc, stBox, stIndex, stPart, stPartRow, stFieldV, stConv, cvS, cvB, cvI, stSlice, optN, SV.num, noMax, stArrPtr, stExtract, stLen, stBuild, A.isRow, A.isAgg, A.noRec, A.len, A.get, A.sub, A.set, A.over, Ent.bound, Kind.isStruct, Kind.isAgg, S.known, A.solid, segAt, segPut, segLen, R.a, R.len, A.r, stMake, stBuildSlice, litA, repA, rep1, fillA, putP, sing, stMin, stEqA, rowEq, Kind.isScal, -List.reduceReplicate, -List.getD_eq_getElem?_getD, tab22, ty22, tab3, ty3, ntmps22]; (repeat' apply And.intro); all_goals first | exact hK | omega))
      apply run_guard rfl rfl rfl rfl
      · intro _
        (apply Exists.intro; apply And.intro; focus (intro L K hK; simp [step1, evS, est, St.ev, St.put, St.add, St.upd, look_hit, look_miss, okd, stBin, bin, binS, binB, binI, shS, shB, S.num, constS, one, inI, stUn, stNil, stLoad, stAt, stField, stIndexAddr, stStore, wrAt, stAlloc, stBox, stIndex, stPart, stPartRow, stFieldV, stConv, cvS, cvB, cvI, stSlice, optN, SV.num, noMax, stArrPtr, stExtract, stLen, stBuild, A.isRow, A.isAgg, A.noRec, A.len, A.get, A.sub, A.set, A.over, Ent.bound, Kind.isStruct, Kind.isAgg, S.known, A.solid, segAt, segPut, segLen, R.a, R.len, A.r, stMake, stBuildSlice, litA, repA, rep1, fillA, putP, sing, stMin, stEqA, rowEq, Kind.isScal, -List.reduceReplicate, -List.getD_eq_getElem?_getD, tab22, ty22, tab3, ty3, ntmps22]; (repeat' apply And.intro); all_goals first | exact hK | omega))
        repeat (first
    | rw [run_ops0]
    | rw [run_seq]
    | rw [run_region]
    | rw [run_block]
    | rw [run_blk]
    | rw [run_skip]
    | (apply run_go rfl; focus (intro L K hK; simp [step1, evS, est, St.ev, St.put, St.add, St.upd, look_hit, look_miss, okd, stBin, bin, binS, binB, binI, shS, shB, S.num, constS, one, inI, stUn, stNil, stLoad, stAt, stField, stIndexAddr, stStore, wrAt, stAlloc, stBox, stIndex, stPart, stPartRow, stFieldV, stConv, cvS, cvB, cvI, stSlice, optN, SV.num, noMax, stArrPtr, stExtract, stLen, stBuild, A.isRow, A.isAgg, A.noRec, A.len, A.get, A.sub, A.set, A.over, Ent.bound, Kind.isStruct, Kind.isAgg, S.known, A.solid, segAt, segPut, segLen, R.a, R.len, A.r, stMake, stBuildSlice, litA, repA, rep1, fillA, putP, sing, stMin, stEqA, rowEq, Kind.isScal, -List.reduceReplicate, -List.getD_eq_getElem?_getD, tab22, ty22, tab3, ty3, tab4, ty4, ntmps22]; (repeat' apply And.intro); all_goals first | exact hK | omega)))
        apply run_cond2 rfl
        · intro _
          repeat (first
    | rw [run_ops0]
    | rw [run_seq]
    | rw [run_region]
    | rw [run_block]
    | rw [run_blk]
    | rw [run_skip]
    | (apply run_go rfl; focus (intro L K hK; simp [step1, evS, est, St.ev, St.put, St.add, St.upd, look_hit, look_miss, okd, stBin, bin, binS, binB, binI, shS, shB, S.num, constS, one, inI, stUn, stNil, stLoad, stAt, stField, stIndexAddr, stStore, wrAt, stAlloc, stBox, stIndex, stPart, stPartRow, stFieldV, stConv, cvS, cvB, cvI, stSlice, optN, SV.num, noMax, stArrPtr, stExtract, stLen, stBuild, A.isRow, A.isAgg, A.noRec, A.len, A.get, A.sub, A.set, A.over, Ent.bound, Kind.isStruct, Kind.isAgg, S.known, A.solid, segAt, segPut, segLen, R.a, R.len, A.r, stMake, stBuildSlice, litA, repA, rep1, fillA, putP, sing, stMin, stEqA, rowEq, Kind.isScal, -List.reduceReplicate, -List.getD_eq_getElem?_getD, tab22, ty22, tab3, ty3, tab4, ty4, ntmps22, tab29, ty29]; (repeat' apply And.intro); all_goals first | exact hK | omega)))
          rw [run_ret]
          simp [finOf, resP, resV, extraOwn, look_hit, look_miss, one, -List.reduceReplicate, -List.getD_eq_getElem?_getD, stLoad, stAt, Ent.bound, A.len, A.isRow, A.isAgg, results22, f22]
        · intro h; first | (simp at h; done) | (simp at h; omega)
      · intro h; first | (simp at h; done) | (simp at h; omega)
    · intro h; first | (simp at h; done) | (simp at h; omega)
  · intro h; first | (simp at h; done) | (simp at h; omega)

/-! keys in memory, as plain calls read them -/
/-- A key's block of the program: how many rows, and their bytes. -/
def kOf (m : Mem) (id : Nat) : Option (Nat × Nat × Nat × B8) :=
  match m[id]? with
  | some (.ent e) => match e.c with
    | .st [⟨1, .s (.sl j 0 nr cap 16)⟩] => match m[j]? with
      | some (.ent e2) => match e2.c with
        | .a8 W => some (j, nr, cap, W)
        | _ => none
      | _ => none
    | _ => none
  | _ => none
/-- A key's block of the document. -/
def rOf (m : Mem) (id : Nat) : Option (Nat × Nat × Nat × Int × LI × LI) :=
  match m[id]? with
  | some (.ent e) => match e.c with
    | .st [⟨1, .s (.sl j 0 nw cap 4)⟩, ⟨256, .ai sb⟩, ⟨1, .s (.i N)⟩] => match m[j]? with
      | some (.ent e2) => match e2.c with
        | .ai W => some (j, nw, cap, N, sb, W)
        | _ => none
      | _ => none
    | _ => none
  | _ => none
theorem kOf_get {m : Mem} {id j nr cap : Nat} {W : B8} (h : kOf m id = some (j, nr, cap, W)) : ∃ e e2 : Ent, m[id]? = some (.ent e) ∧ e.c = .st [⟨1, .s (.sl j 0 nr cap 16)⟩] ∧ m[j]? = some (.ent e2) ∧ e2.c = .a8 W := by
  unfold kOf at h
  split at h
  · split at h
    · split at h
      · split at h
        · cases h
          exact ⟨_, _, by assumption, by assumption, by assumption, by assumption⟩
        · cases h
      · cases h
    · cases h
  · cases h
theorem rOf_get {m : Mem} {id j nw cap : Nat} {N : Int} {sb W : LI} (h : rOf m id = some (j, nw, cap, N, sb, W)) : ∃ e e2 : Ent, m[id]? = some (.ent e) ∧ e.c = .st [⟨1, .s (.sl j 0 nw cap 4)⟩, ⟨256, .ai sb⟩, ⟨1, .s (.i N)⟩] ∧ m[j]? = some (.ent e2) ∧ e2.c = .ai W := by
  unfold rOf at h
  split at h
  · split at h
    · split at h
      · split at h
        · cases h
          exact ⟨_, _, by assumption, by assumption, by assumption, by assumption⟩
        · cases h
      · cases h
    · cases h
  · cases h
theorem kOf_app {m : Mem} {id : Nat} {v : Nat × Nat × Nat × B8} (x : Mem) (h : kOf m id = some v) : kOf (m ++ x) id = some v := by
  obtain ⟨j, nr, cap, W⟩ := v
  obtain ⟨e, e2, h1, h2, h3, h4⟩ := kOf_get h
  unfold kOf
  simp only [get_app h1, h2, get_app h3, h4]
theorem rOf_app {m : Mem} {id : Nat} {v : Nat × Nat × Nat × Int × LI × LI} (x : Mem) (h : rOf m id = some v) : rOf (m ++ x) id = some v := by
  obtain ⟨j, nw, cap, N, sb, W⟩ := v
  obtain ⟨e, e2, h1, h2, h3, h4⟩ := rOf_get h
  unfold rOf
  simp only [get_app h1, h2, get_app h3, h4]
/-- A key as it may be handed to Block. -/
def kFit (b W : B8) (nr : Nat) : Prop := b.length = 16 ∧ 16 * nr ≤ W.length ∧ 0 < nr ∧ nr < 1000
def rFit (b : B8) (sb W : LI) (nw : Nat) (N : Int) : Prop := b.length = 16 ∧ 4 * nw ≤ W.length ∧ (nw : Int) = 4 * (N + 7) ∧ 0 ≤ N ∧ N < 100 ∧ sb.length = 256 ∧ Byt W ∧ Byt sb
open Classical in
/-- What Block answers, over keys in memory; the law's own test is passed as it is. -/
noncomputable def pureK (snd : Bool) : Pure := fun m f l =>
  match f, l with
  | 20, [] => if snd = true then some (one (.b true)) else none
  | 23, [.one (.s .nil), .one (.a8 b)] => if b.length = 16 then some (.one (.a8 zero16)) else none
  | 23, [.one (.s (.ptr id 0 0)), .one (.a8 b)] => match kOf m id with
    | some (j, nr, _, W) => if kFit b W nr ∧ id ≠ j then some (.one (.a8 (rounds b W nr (nr - 1)))) else none
    | none => none
  | 24, [.one (.s (.ptr id 0 0)), .one (.a8 b)] => match rOf m id with
    | some (j, nw, _, N, sb, W) => if rFit b sb W nw N ∧ id ≠ j then some (.one (.a8 (outB (rRounds sb W N.toNat (iniS b W 16) (N.toNat + 6)) 16))) else none
    | none => none
  | _, _ => none
theorem pureK_mono (snd : Bool) : PureMono (pureK snd) := by
  intro m x f l v h
  unfold pureK at h ⊢
  split at h
  · exact h
  · exact h
  · split at h
    · rename_i hk
      simp only [kOf_app x hk]
      exact h
    · cases h
  · split at h
    · rename_i hk
      simp only [rOf_app x hk]
      exact h
    · cases h
  · cases h
theorem pureK_ok (snd : Bool) (hs : snd = true → Spec prog 20 [] [] [] (fun r _ => r = one (.b true))) : PureOK prog (pureK snd) := by
  intro m f svs sv h E w ℓ vs hm hd
  unfold pureK at h
  split at h
  · split at h
    · rename_i hc
      cases h
      exact ⟨⟨f20, func20, nofun, by decide⟩, pure_spec (hs hc) rfl rfl w ℓ vs hd⟩
    · cases h
  · split at h
    · rename_i hc
      cases h
      exact ⟨⟨f23, func23, nofun, by decide⟩, pure_spec (spec23nil _ hc) rfl rfl w ℓ vs hd⟩
    · cases h
  · split at h
    · rename_i id b _ j nr cap W hk
      split at h
      · rename_i hc
        obtain ⟨⟨hb, hW, hR, hR2⟩, hne⟩ := hc
        cases h
        obtain ⟨e, e2, h1, h2, h3, h4⟩ := kOf_get hk
        refine ⟨⟨f23, func23, nofun, by decide⟩, pure_use (spec23 b W nr cap hb hW hR hR2) (by simp [kmem]) rfl hm [id, j] (by simp [hne]) ?_ rfl ?_⟩
        · simp [matchM, kmem, h1, h2, h3, h4, renA, renSeg, renR, renS, ix, belA, belR, belS, segLen, A.len]
        · simpa [renV, renA, renS, ix, one] using hd
      · cases h
    · cases h
  · split at h
    · rename_i id b _ j nw cap N sb W hk
      split at h
      · rename_i hc
        obtain ⟨⟨hb, hW, hN, hN0, hN1, hsl, hWb, hsb⟩, hne⟩ := hc
        cases h
        obtain ⟨e, e2, h1, h2, h3, h4⟩ := rOf_get hk
        have hNn : N = (N.toNat : Int) := by omega
        refine ⟨⟨f24, func24, nofun, by decide⟩, pure_use (spec24 b sb W nw cap N.toNat hb hW (by omega) (by omega) hsl hWb hsb) (by simp [rkmem]) rfl hm [id, j] (by simp [hne]) ?_ rfl ?_⟩
        · rw [hNn] at h2
          simp [matchM, rkmem, h1, h2, h3, h4, renA, renSeg, renR, renS, ix, belA, belR, belS, segLen, A.len]
        · simpa [renV, renA, renS, ix, one] using hd
      · cases h
    · cases h
  · cases h
end Go.V
