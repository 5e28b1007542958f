/- Walks: the table of the document, the box of the program. No condition. -/
import Derived.Test.YtlnoehpjchglnaaWa
set_option linter.unusedSimpArgs false
set_option linter.unusedVariables false
set_option maxRecDepth 10000
namespace Go.V
open Go Go.Proofs.Try
def tabR : Nat → List Int
  | 0 => List.replicate 256 0
  | j + 1 => (tabR j).set j (subR j)
theorem tabR_len : ∀ j, (tabR j).length = 256
  | 0 => List.length_replicate
  | j + 1 => by simp [tabR, tabR_len j]
def pureD (f : FuncId) (l : List SV) : Option SV :=
  match f, l with
  | 81, [.one (.s (.i b))] => if 0 ≤ b ∧ b < 256 then some (one (.i (subR b))) else none
  | _, _ => none
theorem pureD_ok : PureOK prog (pureOf pureD) := by
  refine pureOf_ok ?_
  intro f svs sv h
  unfold pureD at h
  split at h
  · split at h
    · rename_i hc
      cases h
      exact ⟨⟨f81, func81, nofun, by decide⟩, spec81 _ hc, rfl, rfl⟩
    · cases h
  · cases h
theorem spec60 : Spec prog 60 [] [] [] (fun r _ => r = .one (.ai (tabR 256))) := by
  refine spec_of_body tabOK func60 rfl (Nat.le_of_ble_eq_true rfl) ?_
  intro E Q0 hB
  refine ok_run hB tabOK pureD_ok 100 ?_
  simp only [argSl]
  repeat (first
    | rw [run_ops0]
    | rw [run_seq]
    | rw [run_region]
    | rw [run_block]
    | rw [run_blk]
    | rw [run_skip]
    | (apply run_go rfl; focus (intro L K hK; simp [step1, evS, est, St.ev, St.put, St.add, St.upd, look_hit, look_miss, okd, stBin, bin, binS, binB, binI, shS, shB, S.num, constS, one, inI, stUn, stNil, stLoad, stAt, stField, stIndexAddr, stStore, wrAt, stAlloc, stBox, stIndex, stPart, stPartRow, stFieldV, stConv, cvS, cvB, cvI, stSlice, optN, SV.num, noMax, stArrPtr, stExtract, stLen, stBuild, A.isRow, A.isAgg, A.noRec, A.len, A.get, A.sub, A.set, A.over, Ent.bound, Kind.isStruct, Kind.isAgg, S.known, A.solid, segAt, segPut, segLen, R.a, R.len, A.r, stMake, stBuildSlice, litA, repA, rep1, fillA, putP, sing, stMin, stEqA, rowEq, Kind.isScal, -List.reduceReplicate, tab106, ty106, tab3, ty3, ntmps60]; (repeat' apply And.intro); all_goals first | exact hK | omega)))
  rw [run_loop]
  refine ok_loop (X := Nat) (fun j => ⟨[(2, one (.i j)), (1, one (.ptr 1 0 0)), (0, one (.ptr 0 0 0))], [.ent ⟨true, 106, some 256, .ai (List.replicate 256 0)⟩, .ent ⟨true, 106, some 256, .ai (tabR j)⟩]⟩) (fun j => j ≤ 256) (fun j => 256 - j) (fun j i L h => absurd (hB.anc i L h) (by simp)) ⟨0, by simp, by simp [Ent2, entSl, entM, belSl, belV, belA, belS, belR, belM, look_hit, look_miss, one, tabR, -List.reduceReplicate]⟩ ?_
  intro j hj
  refine ok_run hB tabOK pureD_ok 100 ?_
  have hlen := tabR_len j
  repeat (first
    | rw [run_ops0]
    | rw [run_seq]
    | rw [run_region]
    | rw [run_block]
    | rw [run_blk]
    | rw [run_skip]
    | (apply run_go rfl; focus (intro L K hK; simp [step1, evS, est, St.ev, St.put, St.add, St.upd, look_hit, look_miss, okd, stBin, bin, binS, binB, binI, shS, shB, S.num, constS, one, inI, stUn, stNil, stLoad, stAt, stField, stIndexAddr, stStore, wrAt, stAlloc, stBox, stIndex, stPart, stPartRow, stFieldV, stConv, cvS, cvB, cvI, stSlice, optN, SV.num, noMax, stArrPtr, stExtract, stLen, stBuild, A.isRow, A.isAgg, A.noRec, A.len, A.get, A.sub, A.set, A.over, Ent.bound, Kind.isStruct, Kind.isAgg, S.known, A.solid, segAt, segPut, segLen, R.a, R.len, A.r, stMake, stBuildSlice, litA, repA, rep1, fillA, putP, sing, stMin, stEqA, rowEq, Kind.isScal, -List.reduceReplicate, tab3, ty3, tab106, ty106, ntmps60]; (repeat' apply And.intro); all_goals first | exact hK | omega)))
  apply run_cond2 rfl
  · intro h
    simp at h
    have hj' : (j : Int) < 256 := by omega
    repeat (first
    | rw [run_ops0]
    | rw [run_seq]
    | rw [run_region]
    | rw [run_block]
    | rw [run_blk]
    | rw [run_skip]
    | (apply run_go rfl; focus (intro L K hK; simp [step1, evS, est, St.ev, St.put, St.add, St.upd, look_hit, look_miss, okd, stBin, bin, binS, binB, binI, shS, shB, S.num, constS, one, inI, stUn, stNil, stLoad, stAt, stField, stIndexAddr, stStore, wrAt, stAlloc, stBox, stIndex, stPart, stPartRow, stFieldV, stConv, cvS, cvB, cvI, stSlice, optN, SV.num, noMax, stArrPtr, stExtract, stLen, stBuild, A.isRow, A.isAgg, A.noRec, A.len, A.get, A.sub, A.set, A.over, Ent.bound, Kind.isStruct, Kind.isAgg, S.known, A.solid, segAt, segPut, segLen, R.a, R.len, A.r, stMake, stBuildSlice, litA, repA, rep1, fillA, putP, sing, stMin, stEqA, rowEq, Kind.isScal, -List.reduceReplicate, tab3, ty3, tab106, ty106, ntmps60, pureOf, pureD, hj', hlen]; (repeat' apply And.intro); all_goals first | exact hK | omega)))
    rw [run_back]
    refine ⟨j + 1, by omega, by omega, ?_⟩
    simp [Ent2, entSl, entM, belSl, belV, belA, belS, belR, belM, look_hit, look_miss, one, tabR, -List.reduceReplicate]
  · intro h
    simp at h
    obtain rfl : j = 256 := by omega
    apply run_exit2 rfl
    repeat (first
    | rw [run_ops0]
    | rw [run_seq]
    | rw [run_region]
    | rw [run_block]
    | rw [run_blk]
    | rw [run_skip]
    | (apply run_go rfl; focus (intro L K hK; simp [step1, evS, est, St.ev, St.put, St.add, St.upd, look_hit, look_miss, okd, stBin, bin, binS, binB, binI, shS, shB, S.num, constS, one, inI, stUn, stNil, stLoad, stAt, stField, stIndexAddr, stStore, wrAt, stAlloc, stBox, stIndex, stPart, stPartRow, stFieldV, stConv, cvS, cvB, cvI, stSlice, optN, SV.num, noMax, stArrPtr, stExtract, stLen, stBuild, A.isRow, A.isAgg, A.noRec, A.len, A.get, A.sub, A.set, A.over, Ent.bound, Kind.isStruct, Kind.isAgg, S.known, A.solid, segAt, segPut, segLen, R.a, R.len, A.r, stMake, stBuildSlice, litA, repA, rep1, fillA, putP, sing, stMin, stEqA, rowEq, Kind.isScal, -List.reduceReplicate, tab3, ty3, tab106, ty106, ntmps60, hlen]; (repeat' apply And.intro); all_goals first | exact hK | omega)))
    rw [run_ret]
    simp [finOf, resP, resV, extraOwn, look_hit, look_miss, one, -List.reduceReplicate, stLoad, stAt, Ent.bound, A.len, A.isRow, A.isAgg, results60, f60, tab106, ty106]

/-! the box -/
def boxL : List (BitVec 8) := [99, 124, 119, 123, 242, 107, 111, 197, 48, 1, 103, 43, 254, 215, 171, 118, 202, 130, 201, 125, 250, 89, 71, 240, 173, 212, 162, 175, 156, 164, 114, 192, 183, 253, 147, 38, 54, 63, 247, 204, 52, 165, 229, 241, 113, 216, 49, 21, 4, 199, 35, 195, 24, 150, 5, 154, 7, 18, 128, 226, 235, 39, 178, 117, 9, 131, 44, 26, 27, 110, 90, 160, 82, 59, 214, 179, 41, 227, 47, 132, 83, 209, 0, 237, 32, 252, 177, 91, 106, 203, 190, 57, 74, 76, 88, 207, 208, 239, 170, 251, 67, 77, 51, 133, 69, 249, 2, 127, 80, 60, 159, 168, 81, 163, 64, 143, 146, 157, 56, 245, 188, 182, 218, 33, 16, 255, 243, 210, 205, 12, 19, 236, 95, 151, 68, 23, 196, 167, 126, 61, 100, 93, 25, 115, 96, 129, 79, 220, 34, 42, 144, 136, 70, 238, 184, 20, 222, 94, 11, 219, 224, 50, 58, 10, 73, 6, 36, 92, 194, 211, 172, 98, 145, 149, 228, 121, 231, 200, 55, 109, 141, 213, 78, 169, 108, 86, 244, 234, 101, 122, 174, 8, 186, 120, 37, 46, 28, 166, 180, 198, 232, 221, 116, 31, 75, 189, 139, 138, 112, 62, 181, 102, 72, 3, 246, 14, 97, 53, 87, 185, 134, 193, 29, 158, 225, 248, 152, 17, 105, 217, 142, 148, 155, 30, 135, 233, 206, 85, 40, 223, 140, 161, 137, 13, 191, 230, 66, 104, 65, 153, 45, 15, 176, 84, 187, 22]
def boxPs : List (Nat × SV) := boxL.zipIdx.map (fun p => (p.2, one (.u8 p.1)))
theorem fill_bytes : ∀ (xs pre post : List (BitVec 8)) (K : A → Prop), post.length = xs.length → K (.a8 (pre ++ xs)) → fillA (.a8 (pre ++ post)) 1 ((xs.zipIdx pre.length).map (fun p => (p.2, one (.u8 p.1)))) K
  | [], pre, [], K, _, h => h
  | x :: xs, pre, y :: post, K, hl, h => by
    have h2 := fill_bytes xs (pre ++ [x]) post K (by simpa using hl) (by simpa using h)
    simp only [List.length_append, List.length_cons, List.length_nil, Nat.zero_add, List.append_assoc, List.cons_append, List.nil_append] at h2
    simp only [List.zipIdx_cons, List.map_cons, fillA, putP, one]
    refine ⟨⟨trivial, by simp [A.len], rfl⟩, ?_⟩
    simp only [A.set]
    rw [List.set_append_right _ _ (Nat.le_refl _), Nat.sub_self]
    exact h2
  | [], pre, y :: post, K, hl, h => by simp at hl
  | x :: xs, pre, [], K, hl, h => by simp at hl
theorem box_build {K : SV → Prop} (h : K (.one (.a8 boxL))) : stBuild tab 100 boxPs K := by
  unfold stBuild
  simp only [tab100, ty100, tab5, ty5]
  refine ⟨rfl, ?_⟩
  have := fill_bytes boxL [] (List.replicate 256 0) (fun a => K (.one a)) (by rw [List.length_replicate]; rfl) h
  simpa [boxPs, -List.reduceReplicate] using this
theorem box_build2 {ps : List (Nat × SV)} (hp : ps = boxPs) {K : SV → Prop} (h : K (.one (.a8 boxL))) : stBuild tab 100 ps K := by
  subst hp; exact box_build h
theorem boxL_len : boxL.length = 256 := rfl
theorem spec58 : Spec prog 58 [] [] [] (fun r _ => r = .one (.a8 boxL)) := by
  refine spec_of_body tabOK func58 rfl (Nat.le_of_ble_eq_true rfl) ?_
  intro E Q0 hB
  refine ok_run hB tabOK pureNone_ok 100 ?_
  simp only [argSl]
  rw [run_seq, run_region]
  apply run_go rfl
  · intro L K hK
    simp [step1, est, stAlloc, tab100, ty100, A.solid, okd, ntmps58, St.add, St.put, one, -List.reduceReplicate]
    exact hK
  rw [run_ops0, run_seq, run_region]
  apply run_go rfl
  · intro L K hK
    simp only [step1, est]
    refine box_build2 (by kernel_rfl) ?_
    simp only [St.add, St.put, okd, ntmps58]
    exact ⟨by decide, hK⟩
  have hl := boxL_len
  generalize boxL = bl at hl ⊢
  repeat (first
    | rw [run_ops0]
    | rw [run_seq]
    | rw [run_region]
    | rw [run_block]
    | rw [run_blk]
    | rw [run_skip]
    | (apply run_go rfl; focus (intro L K hK; simp [step1, evS, est, St.ev, St.put, St.add, St.upd, look_hit, look_miss, okd, stBin, bin, binS, binB, binI, shS, shB, S.num, constS, one, inI, stUn, stNil, stLoad, stAt, stField, stIndexAddr, stStore, wrAt, stAlloc, stBox, stIndex, stPart, stPartRow, stFieldV, stConv, cvS, cvB, cvI, stSlice, optN, SV.num, noMax, stArrPtr, stExtract, stLen, stBuild, A.isRow, A.isAgg, A.noRec, A.len, A.get, A.sub, A.set, A.over, Ent.bound, Kind.isStruct, Kind.isAgg, S.known, A.solid, segAt, segPut, segLen, R.a, R.len, A.r, stMake, stBuildSlice, litA, repA, rep1, fillA, putP, sing, stMin, stEqA, rowEq, Kind.isScal, -List.reduceReplicate, tab100, ty100, ntmps58, hl]; (repeat' apply And.intro); all_goals first | exact hK | omega)))
  rw [run_ret]
  simp [finOf, resP, resV, extraOwn, look_hit, look_miss, one, -List.reduceReplicate, stLoad, stAt, Ent.bound, A.len, A.isRow, A.isAgg, results58, f58, tab100, ty100, hl]
end Go.V
