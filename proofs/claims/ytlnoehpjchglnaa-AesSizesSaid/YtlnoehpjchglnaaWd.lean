/- Walks: the document's Block. No condition. -/
import Derived.Test.YtlnoehpjchglnaaWc
set_option linter.unusedSimpArgs false
set_option linter.unusedVariables false
set_option maxRecDepth 10000
namespace Go.V
open Go Go.Proofs.Try
abbrev LI := List Int
def Byt (l : LI) : Prop := ∀ i, 0 ≤ l.getD i 0 ∧ l.getD i 0 < 256
theorem Byt.set {l : LI} (h : Byt l) {j : Nat} {x : Int} (hx : 0 ≤ x ∧ x < 256) : Byt (l.set j x) := by
  intro i
  have h2 := h i
  simp only [List.getD_eq_getElem?_getD] at h2 ⊢
  rw [List.getElem?_set]
  split
  · split
    · simpa using hx
    · simp
  · exact h2
theorem nat_xor_lt {a b : Nat} (ha : a < 256) (hb : b < 256) : a ^^^ b < 256 := Nat.xor_lt_two_pow (n := 8) ha hb
def zero16I : LI := [0, 0, 0, 0, 0, 0, 0, 0, 0, 0, 0, 0, 0, 0, 0, 0]
theorem zero16I_byt : Byt zero16I := by
  intro i
  by_cases h : i < 16
  · have : ∀ i : Fin 16, 0 ≤ zero16I.getD i.1 0 ∧ zero16I.getD i.1 0 < 256 := by decide
    exact this ⟨i, h⟩
  · rw [List.getD_eq_getElem?_getD, List.getElem?_eq_none (by simp [zero16I]; omega)]; simp
def iniS (b : B8) (W : LI) : Nat → LI
  | 0 => zero16I
  | j + 1 => (iniS b W j).set (j / 4 * 4 + j % 4) (((b.getD j 0).toNat ^^^ (W.getD (j / 4 * 4 + j % 4) 0).toNat : Nat) : Int)
theorem iniS_len (b : B8) (W : LI) : ∀ j, (iniS b W j).length = 16
  | 0 => rfl
  | j + 1 => by simp [iniS, iniS_len b W j]
theorem iniS_byt (b : B8) {W : LI} (hW : Byt W) : ∀ j, Byt (iniS b W j)
  | 0 => zero16I_byt
  | j + 1 => (iniS_byt b hW j).set (by
      have := nat_xor_lt (a := (b.getD j 0).toNat) (b := (W.getD (j / 4 * 4 + j % 4) 0).toNat) (b.getD j 0).isLt (by have := hW (j / 4 * 4 + j % 4); omega)
      omega)
def innT (sb s : LI) (c : Nat) (t : LI) : Nat → LI
  | 0 => t
  | i + 1 => (innT sb s c t i).set (c * 4 + i) (sb.getD (s.getD ((c + i) % 4 * 4 + i) 0).toNat 0)
def outT (sb s : LI) : Nat → LI
  | 0 => zero16I
  | c + 1 => innT sb s c (outT sb s c) 4
theorem innT_len (sb s : LI) (c : Nat) (t : LI) : ∀ i, (innT sb s c t i).length = t.length
  | 0 => rfl
  | i + 1 => by simp [innT, innT_len sb s c t i]
theorem outT_len (sb s : LI) : ∀ c, (outT sb s c).length = 16
  | 0 => rfl
  | c + 1 => by simp [outT, innT_len, outT_len sb s c]
theorem innT_byt {sb : LI} (hs : Byt sb) (s : LI) (c : Nat) {t : LI} (ht : Byt t) : ∀ i, Byt (innT sb s c t i)
  | 0 => ht
  | i + 1 => (innT_byt hs s c ht i).set (hs _)
theorem outT_byt {sb : LI} (hs : Byt sb) (s : LI) : ∀ c, Byt (outT sb s c)
  | 0 => zero16I_byt
  | c + 1 => innT_byt hs s c (outT_byt hs s c) 4
def matL : LI := [2, 3, 1, 1, 1, 2, 3, 1, 1, 1, 2, 3, 3, 1, 1, 2]
theorem matL_byt : Byt matL := by
  intro i
  by_cases h : i < 16
  · have : ∀ i : Fin 16, 0 ≤ matL.getD i.1 0 ∧ matL.getD i.1 0 < 256 := by decide
    exact this ⟨i, h⟩
  · rw [List.getD_eq_getElem?_getD, List.getElem?_eq_none (by simp [matL]; omega)]; simp
def cellX (mx : Bool) (t : LI) (c i : Nat) : Int :=
  if mx = true then xorI (xorI (xorI (timesR (matL.getD (i * 4) 0) (t.getD (c * 4) 0) 8) (timesR (matL.getD (i * 4 + 1) 0) (t.getD (c * 4 + 1) 0) 8)) (timesR (matL.getD (i * 4 + 2) 0) (t.getD (c * 4 + 2) 0) 8)) (timesR (matL.getD (i * 4 + 3) 0) (t.getD (c * 4 + 3) 0) 8)
  else t.getD (c * 4 + i) 0
theorem cellX_lt {t : LI} (ht : Byt t) (mx : Bool) (c i : Nat) : 0 ≤ cellX mx t c i ∧ cellX mx t c i < 256 := by
  unfold cellX
  split
  · exact xorI_lt (xorI_lt (xorI_lt (timesR_lt (matL_byt _) 8) (timesR_lt (matL_byt _) 8)) (timesR_lt (matL_byt _) 8)) (timesR_lt (matL_byt _) 8)
  · exact ht _
def innM (mx : Bool) (t W : LI) (r c : Nat) (s : LI) : Nat → LI
  | 0 => s
  | i + 1 => (innM mx t W r c s i).set (c * 4 + i) (xorI (cellX mx t c i) (W.getD ((4 * r + c) * 4 + i) 0))
def outM (mx : Bool) (t W : LI) (r : Nat) (s : LI) : Nat → LI
  | 0 => s
  | c + 1 => innM mx t W r c (outM mx t W r s c) 4
theorem innM_len (mx : Bool) (t W : LI) (r c : Nat) (s : LI) : ∀ i, (innM mx t W r c s i).length = s.length
  | 0 => rfl
  | i + 1 => by simp [innM, innM_len mx t W r c s i]
theorem outM_len (mx : Bool) (t W : LI) (r : Nat) (s : LI) : ∀ c, (outM mx t W r s c).length = s.length
  | 0 => rfl
  | c + 1 => by simp [outM, innM_len, outM_len mx t W r s c]
theorem innM_byt (mx : Bool) {t W : LI} (ht : Byt t) (hW : Byt W) (r c : Nat) {s : LI} (hs : Byt s) : ∀ i, Byt (innM mx t W r c s i)
  | 0 => hs
  | i + 1 => (innM_byt mx ht hW r c hs i).set (xorI_lt (cellX_lt ht mx c i) (hW _))
theorem outM_byt (mx : Bool) {t W : LI} (ht : Byt t) (hW : Byt W) (r : Nat) {s : LI} (hs : Byt s) : ∀ c, Byt (outM mx t W r s c)
  | 0 => hs
  | c + 1 => innM_byt mx ht hW r c (outM_byt mx ht hW r hs c) 4
def rRounds (sb W : LI) (n : Nat) (s0 : LI) : Nat → LI
  | 0 => s0
  | q + 1 => outM (decide (q + 1 < n + 6)) (outT sb (rRounds sb W n s0 q) 4) W (q + 1) (rRounds sb W n s0 q) 4
theorem rRounds_len (sb W : LI) (n : Nat) (s0 : LI) : ∀ q, (rRounds sb W n s0 q).length = s0.length
  | 0 => rfl
  | q + 1 => by simp [rRounds, outM_len, rRounds_len sb W n s0 q]
theorem rRounds_byt {sb W : LI} (hs : Byt sb) (hW : Byt W) (n : Nat) {s0 : LI} (h0 : Byt s0) : ∀ q, Byt (rRounds sb W n s0 q)
  | 0 => h0
  | q + 1 => outM_byt _ (outT_byt hs _ 4) hW _ (rRounds_byt hs hW n h0 q) 4
def outB (s : LI) : Nat → B8
  | 0 => zero16
  | j + 1 => (outB s j).set j (BitVec.ofInt 8 (s.getD (j / 4 * 4 + j % 4) 0))
theorem outB_len (s : LI) : ∀ j, (outB s j).length = 16
  | 0 => rfl
  | j + 1 => by simp [outB, outB_len s j]
def rkmem (nw cap : Nat) (N : Int) (sb W : LI) : Mem := [.ent ⟨false, 110, some 258, .st [⟨1, .s (.sl 1 0 nw cap 4)⟩, ⟨256, .ai sb⟩, ⟨1, .s (.i N)⟩]⟩, .ent ⟨false, 111, none, .ai W⟩]
set_option maxHeartbeats 1000000 in
theorem spec24 (b : B8) (sb W : LI) (nw cap n : Nat) (hb : b.length = 16) (hW : 4 * nw ≤ W.length) (hN : nw = 4 * (n + 7)) (hn : n < 100) (hsb : sb.length = 256) (hWb : Byt W) (hsbb : Byt sb) : Spec prog 24 [one (.ptr 0 0 0), .one (.a8 b)] (rkmem nw cap n sb W) [] (fun r _ => r = .one (.a8 (outB (rRounds sb W n (iniS b W 16) (n + 6)) 16))) := by
  refine spec_of_body tabOK func24 rfl (Nat.le_of_ble_eq_true rfl) ?_
  intro E Q0 hB
  refine ok_run hB tabOK pureB_ok 100 ?_
  simp only [argSl, rkmem]
  have hlt : ∀ x : BitVec 8, x.toNat < 256 := fun x => x.isLt
  repeat (first
    | rw [run_ops0]
    | rw [run_seq]
    | rw [run_region]
    | rw [run_block]
    | rw [run_blk]
    | rw [run_skip]
    | (apply run_go rfl; focus (intro L K hK; simp [step1, evS, est, St.ev, St.put, St.add, St.upd, look_hit, look_miss, okd, stBin, bin, binS, binB, binI, shS, shB, S.num, constS, one, inI, stUn, stNil, stLoad, stAt, stField, stIndexAddr, stStore, wrAt, stAlloc, stBox, stIndex, stPart, stPartRow, stFieldV, stConv, cvS, cvB, cvI, stSlice, optN, SV.num, noMax, stArrPtr, stExtract, stLen, stBuild, A.isRow, A.isAgg, A.noRec, A.len, A.get, A.sub, A.set, A.over, Ent.bound, Kind.isStruct, Kind.isAgg, S.known, A.solid, segAt, segPut, segLen, R.a, R.len, A.r, stMake, stBuildSlice, litA, repA, rep1, fillA, putP, sing, stMin, stEqA, rowEq, Kind.isScal, -List.reduceReplicate, -List.getD_eq_getElem?_getD, tab23, ty23, tab113, ty113, tab3, ty3, ntmps24, hb]; (repeat' apply And.intro); all_goals first | exact hK | omega)))
  rw [run_loop]
  refine ok_loop (X := Nat) (fun j => ⟨[(6, one (.i j)), (5, one (.ptr 4 0 0)), (0, one (.ptr 0 0 0)), (3, one (.ptr 2 0 0)), (4, one (.ptr 3 0 0))], rkmem nw cap n sb W ++ [.ent ⟨true, 23, some 16, .a8 b⟩, .ent ⟨true, 23, some 16, .a8 zero16⟩, .ent ⟨true, 113, some 16, .ai (iniS b W j)⟩]⟩) (fun j => j ≤ 16) (fun j => 16 - j) (fun j i L h => by have := hB.anc i L h; simp [rkmem] at this ⊢; omega) ⟨0, by simp, by simp [Ent2, entSl, entM, belSl, belV, belA, belS, belR, belM, look_hit, look_miss, one, -List.getD_eq_getElem?_getD, iniS, rkmem, zero16, zero16I]⟩ ?_
  intro j hj
  refine ok_run hB tabOK pureB_ok 100 ?_
  have hxl := iniS_len b W j
  simp only [rkmem, List.cons_append, List.nil_append]
  repeat (first
    | rw [run_ops0]
    | rw [run_seq]
    | rw [run_region]
    | rw [run_block]
    | rw [run_blk]
    | rw [run_skip]
    | (apply run_go rfl; focus (intro L K hK; simp [step1, evS, est, St.ev, St.put, St.add, St.upd, look_hit, look_miss, okd, stBin, bin, binS, binB, binI, shS, shB, S.num, constS, one, inI, stUn, stNil, stLoad, stAt, stField, stIndexAddr, stStore, wrAt, stAlloc, stBox, stIndex, stPart, stPartRow, stFieldV, stConv, cvS, cvB, cvI, stSlice, optN, SV.num, noMax, stArrPtr, stExtract, stLen, stBuild, A.isRow, A.isAgg, A.noRec, A.len, A.get, A.sub, A.set, A.over, Ent.bound, Kind.isStruct, Kind.isAgg, S.known, A.solid, segAt, segPut, segLen, R.a, R.len, A.r, stMake, stBuildSlice, litA, repA, rep1, fillA, putP, sing, stMin, stEqA, rowEq, Kind.isScal, -List.reduceReplicate, -List.getD_eq_getElem?_getD, tab3, ty3, ntmps24]; (repeat' apply And.intro); all_goals first | exact hK | omega)))
  apply run_cond2 rfl
  · intro h
    simp at h
    have q1 : (j : Int).tdiv 4 = (j : Int) / 4 := Int.tdiv_eq_ediv_of_nonneg (by omega)
    have q2 : (j : Int).tmod 4 = (j : Int) % 4 := Int.tmod_eq_emod_of_nonneg (by omega)
    have q3 : ((j : Int) / 4).toNat = j / 4 := by omega
    have q4 : ((j : Int) % 4).toNat = j % 4 := by omega
    repeat (first
    | rw [run_ops0]
    | rw [run_seq]
    | rw [run_region]
    | rw [run_block]
    | rw [run_blk]
    | rw [run_skip]
    | (apply run_go rfl; focus (intro L K hK; simp [step1, evS, est, St.ev, St.put, St.add, St.upd, look_hit, look_miss, okd, stBin, bin, binS, binB, binI, shS, shB, S.num, constS, one, inI, stUn, stNil, stLoad, stAt, stField, stIndexAddr, stStore, wrAt, stAlloc, stBox, stIndex, stPart, stPartRow, stFieldV, stConv, cvS, cvB, cvI, stSlice, optN, SV.num, noMax, stArrPtr, stExtract, stLen, stBuild, A.isRow, A.isAgg, A.noRec, A.len, A.get, A.sub, A.set, A.over, Ent.bound, Kind.isStruct, Kind.isAgg, S.known, A.solid, segAt, segPut, segLen, R.a, R.len, A.r, stMake, stBuildSlice, litA, repA, rep1, fillA, putP, sing, stMin, stEqA, rowEq, Kind.isScal, -List.reduceReplicate, -List.getD_eq_getElem?_getD, tab3, ty3, ntmps24]; (repeat' apply And.intro); all_goals first | exact hK | omega)))
    rw [run_draw]
    refine ok_draw2 21 tabOK pureB_ok (pureOf_mono _) mixed (by decide +kernel) rfl rfl ?_
    have hw := hWb (j / 4 * 4 + j % 4)
    have hx := nat_xor_lt (a := (b.getD j 0).toNat) (b := (W.getD (j / 4 * 4 + j % 4) 0).toNat) (b.getD j 0).isLt (by omega)
    have hbt := hlt (b.getD j 0)
    repeat (first
    | (apply hd_go rfl rfl rfl rfl (Nat.le_of_ble_eq_true rfl); focus (intro K' hK; simp [step1, evS, est, St.ev, St.put, St.add, St.upd, look_hit, look_miss, okd, stBin, bin, binS, binB, binI, shS, shB, S.num, constS, one, inI, stUn, stNil, stLoad, stAt, stField, stIndexAddr, stStore, wrAt, stAlloc, stBox, stIndex, stPart, stPartRow, stFieldV, stConv, cvS, cvB, cvI, stSlice, optN, SV.num, noMax, stArrPtr, stExtract, stLen, stBuild, A.isRow, A.isAgg, A.noRec, A.len, A.get, A.sub, A.set, A.over, Ent.bound, Kind.isStruct, Kind.isAgg, S.known, A.solid, segAt, segPut, segLen, R.a, R.len, A.r, stMake, stBuildSlice, litA, repA, rep1, fillA, putP, sing, stMin, stEqA, rowEq, Kind.isScal, -List.reduceReplicate, -List.getD_eq_getElem?_getD, tab3, ty3, tab5, ty5, tab23, ty23, tab29, ty29, tab110, ty110, tab108, ty108, tab111, ty111, tab106, ty106, tab113, ty113, q1, q2, q3, q4, hb, hw, noCap]; (repeat' apply And.intro); all_goals first | exact hK | omega))
    | (apply hd_new rfl rfl rfl rfl (Nat.le_of_ble_eq_true rfl); focus (intro K' hK; simp [step1, evS, est, St.ev, St.put, St.add, St.upd, look_hit, look_miss, okd, stBin, bin, binS, binB, binI, shS, shB, S.num, constS, one, inI, stUn, stNil, stLoad, stAt, stField, stIndexAddr, stStore, wrAt, stAlloc, stBox, stIndex, stPart, stPartRow, stFieldV, stConv, cvS, cvB, cvI, stSlice, optN, SV.num, noMax, stArrPtr, stExtract, stLen, stBuild, A.isRow, A.isAgg, A.noRec, A.len, A.get, A.sub, A.set, A.over, Ent.bound, Kind.isStruct, Kind.isAgg, S.known, A.solid, segAt, segPut, segLen, R.a, R.len, A.r, stMake, stBuildSlice, litA, repA, rep1, fillA, putP, sing, stMin, stEqA, rowEq, Kind.isScal, -List.reduceReplicate, -List.getD_eq_getElem?_getD, tab3, ty3, tab5, ty5, tab23, ty23, tab29, ty29, tab110, ty110, tab108, ty108, tab111, ty111, tab106, ty106, tab113, ty113, q1, q2, q3, q4, hb, hw, noCap]; (repeat' apply And.intro); all_goals first | exact hK | omega)))
    refine hd_nil ?_
    simp only [List.map_nil, List.append_nil]
    refine ok_run hB tabOK pureB_ok 100 ?_
    repeat (first
    | rw [run_ops0]
    | rw [run_seq]
    | rw [run_region]
    | rw [run_block]
    | rw [run_blk]
    | rw [run_skip]
    | (apply run_go rfl; focus (intro L K hK; simp [step1, evS, est, St.ev, St.put, St.add, St.upd, look_hit, look_miss, okd, stBin, bin, binS, binB, binI, shS, shB, S.num, constS, one, inI, stUn, stNil, stLoad, stAt, stField, stIndexAddr, stStore, wrAt, stAlloc, stBox, stIndex, stPart, stPartRow, stFieldV, stConv, cvS, cvB, cvI, stSlice, optN, SV.num, noMax, stArrPtr, stExtract, stLen, stBuild, A.isRow, A.isAgg, A.noRec, A.len, A.get, A.sub, A.set, A.over, Ent.bound, Kind.isStruct, Kind.isAgg, S.known, A.solid, segAt, segPut, segLen, R.a, R.len, A.r, stMake, stBuildSlice, litA, repA, rep1, fillA, putP, sing, stMin, stEqA, rowEq, Kind.isScal, -List.reduceReplicate, -List.getD_eq_getElem?_getD, tab3, ty3, tab111, ty111, tab113, ty113, ntmps24, q3, q4, hxl]; (repeat' apply And.intro); all_goals first | exact hK | omega)))
    rw [run_back]
    refine ⟨j + 1, by omega, by omega, ?_⟩
    simp [Ent2, entSl, entM, belSl, belV, belA, belS, belR, belM, look_hit, look_miss, one, -List.getD_eq_getElem?_getD, iniS, rkmem]
  · intro h
    simp at h
    obtain rfl : j = 16 := by omega
    apply run_exit2 rfl
    repeat (first
    | rw [run_ops0]
    | rw [run_seq]
    | rw [run_region]
    | rw [run_block]
    | rw [run_blk]
    | rw [run_skip]
    | (apply run_go rfl; focus (intro L K hK; simp [step1, evS, est, St.ev, St.put, St.add, St.upd, look_hit, look_miss, okd, stBin, bin, binS, binB, binI, shS, shB, S.num, constS, one, inI, stUn, stNil, stLoad, stAt, stField, stIndexAddr, stStore, wrAt, stAlloc, stBox, stIndex, stPart, stPartRow, stFieldV, stConv, cvS, cvB, cvI, stSlice, optN, SV.num, noMax, stArrPtr, stExtract, stLen, stBuild, A.isRow, A.isAgg, A.noRec, A.len, A.get, A.sub, A.set, A.over, Ent.bound, Kind.isStruct, Kind.isAgg, S.known, A.solid, segAt, segPut, segLen, R.a, R.len, A.r, stMake, stBuildSlice, litA, repA, rep1, fillA, putP, sing, stMin, stEqA, rowEq, Kind.isScal, -List.reduceReplicate, -List.getD_eq_getElem?_getD, tab3, ty3, tab111, ty111, tab113, ty113, ntmps24]; (repeat' apply And.intro); all_goals first | exact hK | omega)))
    rw [run_loop]
    refine ok_loop (X := Nat) (fun q => ⟨[(8, one (.i (q + 1))), (0, one (.ptr 0 0 0)), (3, one (.ptr 2 0 0)), (4, one (.ptr 3 0 0)), (5, one (.ptr 4 0 0)), (7, one (.ptr 5 0 0))], rkmem nw cap n sb W ++ [.ent ⟨true, 23, some 16, .a8 b⟩, .ent ⟨true, 23, some 16, .a8 zero16⟩, .ent ⟨true, 113, some 16, .ai (rRounds sb W n (iniS b W 16) q)⟩, .ent ⟨true, 113, some 16, .ai matL⟩]⟩) (fun q => q ≤ n + 6) (fun q => n + 6 - q) (fun j i L h => by have := hB.anc i L h; simp [rkmem] at this ⊢; omega) ⟨0, by omega, by simp [Ent2, entSl, entM, belSl, belV, belA, belS, belR, belM, look_hit, look_miss, one, -List.getD_eq_getElem?_getD, rRounds, rkmem, zero16, matL]⟩ ?_
    have hib := iniS_byt b hWb 16
    have hil0 := iniS_len b W 16
    intro q hq
    refine ok_run hB tabOK pureB_ok 100 ?_
    have hsl : (rRounds sb W n (iniS b W 16) q).length = 16 := by rw [rRounds_len, hil0]
    have hsb2 := rRounds_byt hsbb hWb n hib q
    have hml : matL.length = 16 := rfl
    have hrr : rRounds sb W n (iniS b W 16) (q + 1) = outM (decide (q + 1 < n + 6)) (outT sb (rRounds sb W n (iniS b W 16) q) 4) W (q + 1) (rRounds sb W n (iniS b W 16) q) 4 := rfl
    simp only [rkmem, List.cons_append, List.nil_append]
    generalize hs0 : rRounds sb W n (iniS b W 16) q = s at hsl hsb2 hrr ⊢
    obtain ⟨mx, hmx⟩ : ∃ mx, mx = decide (q + 1 < n + 6) := ⟨_, rfl⟩
    rw [← hmx] at hrr
    repeat (first
    | rw [run_ops0]
    | rw [run_seq]
    | rw [run_region]
    | rw [run_block]
    | rw [run_blk]
    | rw [run_skip]
    | (apply run_go rfl; focus (intro L K hK; simp [step1, evS, est, St.ev, St.put, St.add, St.upd, look_hit, look_miss, okd, stBin, bin, binS, binB, binI, shS, shB, S.num, constS, one, inI, stUn, stNil, stLoad, stAt, stField, stIndexAddr, stStore, wrAt, stAlloc, stBox, stIndex, stPart, stPartRow, stFieldV, stConv, cvS, cvB, cvI, stSlice, optN, SV.num, noMax, stArrPtr, stExtract, stLen, stBuild, A.isRow, A.isAgg, A.noRec, A.len, A.get, A.sub, A.set, A.over, Ent.bound, Kind.isStruct, Kind.isAgg, S.known, A.solid, segAt, segPut, segLen, R.a, R.len, A.r, stMake, stBuildSlice, litA, repA, rep1, fillA, putP, sing, stMin, stEqA, rowEq, Kind.isScal, -List.reduceReplicate, -List.getD_eq_getElem?_getD, tab3, ty3, tab29, ty29, tab110, ty110, ntmps24]; (repeat' apply And.intro); all_goals first | exact hK | omega)))
    apply run_cond2 rfl
    · intro h
      simp at h
      have hq6 : q < n + 6 := by omega
      repeat (first
    | rw [run_ops0]
    | rw [run_seq]
    | rw [run_region]
    | rw [run_block]
    | rw [run_blk]
    | rw [run_skip]
    | (apply run_go rfl; focus (intro L K hK; simp [step1, evS, est, St.ev, St.put, St.add, St.upd, look_hit, look_miss, okd, stBin, bin, binS, binB, binI, shS, shB, S.num, constS, one, inI, stUn, stNil, stLoad, stAt, stField, stIndexAddr, stStore, wrAt, stAlloc, stBox, stIndex, stPart, stPartRow, stFieldV, stConv, cvS, cvB, cvI, stSlice, optN, SV.num, noMax, stArrPtr, stExtract, stLen, stBuild, A.isRow, A.isAgg, A.noRec, A.len, A.get, A.sub, A.set, A.over, Ent.bound, Kind.isStruct, Kind.isAgg, S.known, A.solid, segAt, segPut, segLen, R.a, R.len, A.r, stMake, stBuildSlice, litA, repA, rep1, fillA, putP, sing, stMin, stEqA, rowEq, Kind.isScal, -List.reduceReplicate, -List.getD_eq_getElem?_getD, tab3, ty3, tab113, ty113, ntmps24]; (repeat' apply And.intro); all_goals first | exact hK | omega)))
      rw [run_loop]
      refine ok_loop (X := Nat) (fun c => ⟨[(10, one (.i c)), (9, one (.ptr 6 0 0)), (8, one (.i (q + 1))), (0, one (.ptr 0 0 0)), (3, one (.ptr 2 0 0)), (4, one (.ptr 3 0 0)), (5, one (.ptr 4 0 0)), (7, one (.ptr 5 0 0))], rkmem nw cap n sb W ++ [.ent ⟨true, 23, some 16, .a8 b⟩, .ent ⟨true, 23, some 16, .a8 zero16⟩, .ent ⟨true, 113, some 16, .ai (s)⟩, .ent ⟨true, 113, some 16, .ai matL⟩, .ent ⟨true, 113, some 16, .ai (outT sb s c)⟩]⟩) (fun c => c ≤ 4) (fun c => 4 - c) (fun j i L h => by have := hB.anc i L h; simp [rkmem] at this ⊢; omega) ⟨0, by omega, by simp [Ent2, entSl, entM, belSl, belV, belA, belS, belR, belM, look_hit, look_miss, one, -List.getD_eq_getElem?_getD, outT, rkmem, zero16I]⟩ ?_
      intro c hc
      refine ok_run hB tabOK pureB_ok 100 ?_
      simp only [rkmem, List.cons_append, List.nil_append]
      repeat (first
    | rw [run_ops0]
    | rw [run_seq]
    | rw [run_region]
    | rw [run_block]
    | rw [run_blk]
    | rw [run_skip]
    | (apply run_go rfl; focus (intro L K hK; simp [step1, evS, est, St.ev, St.put, St.add, St.upd, look_hit, look_miss, okd, stBin, bin, binS, binB, binI, shS, shB, S.num, constS, one, inI, stUn, stNil, stLoad, stAt, stField, stIndexAddr, stStore, wrAt, stAlloc, stBox, stIndex, stPart, stPartRow, stFieldV, stConv, cvS, cvB, cvI, stSlice, optN, SV.num, noMax, stArrPtr, stExtract, stLen, stBuild, A.isRow, A.isAgg, A.noRec, A.len, A.get, A.sub, A.set, A.over, Ent.bound, Kind.isStruct, Kind.isAgg, S.known, A.solid, segAt, segPut, segLen, R.a, R.len, A.r, stMake, stBuildSlice, litA, repA, rep1, fillA, putP, sing, stMin, stEqA, rowEq, Kind.isScal, -List.reduceReplicate, -List.getD_eq_getElem?_getD, tab3, ty3, ntmps24]; (repeat' apply And.intro); all_goals first | exact hK | omega)))
      apply run_cond2 rfl
      · intro h
        simp at h
        repeat (first
    | rw [run_ops0]
    | rw [run_seq]
    | rw [run_region]
    | rw [run_block]
    | rw [run_blk]
    | rw [run_skip]
    | (apply run_go rfl; focus (intro L K hK; simp [step1, evS, est, St.ev, St.put, St.add, St.upd, look_hit, look_miss, okd, stBin, bin, binS, binB, binI, shS, shB, S.num, constS, one, inI, stUn, stNil, stLoad, stAt, stField, stIndexAddr, stStore, wrAt, stAlloc, stBox, stIndex, stPart, stPartRow, stFieldV, stConv, cvS, cvB, cvI, stSlice, optN, SV.num, noMax, stArrPtr, stExtract, stLen, stBuild, A.isRow, A.isAgg, A.noRec, A.len, A.get, A.sub, A.set, A.over, Ent.bound, Kind.isStruct, Kind.isAgg, S.known, A.solid, segAt, segPut, segLen, R.a, R.len, A.r, stMake, stBuildSlice, litA, repA, rep1, fillA, putP, sing, stMin, stEqA, rowEq, Kind.isScal, -List.reduceReplicate, -List.getD_eq_getElem?_getD, tab3, ty3, ntmps24]; (repeat' apply And.intro); all_goals first | exact hK | omega)))
        rw [run_loop]
        refine ok_loop (X := Nat) (fun i => ⟨[(11, one (.i i)), (10, one (.i c)), (9, one (.ptr 6 0 0)), (8, one (.i (q + 1))), (0, one (.ptr 0 0 0)), (3, one (.ptr 2 0 0)), (4, one (.ptr 3 0 0)), (5, one (.ptr 4 0 0)), (7, one (.ptr 5 0 0))], rkmem nw cap n sb W ++ [.ent ⟨true, 23, some 16, .a8 b⟩, .ent ⟨true, 23, some 16, .a8 zero16⟩, .ent ⟨true, 113, some 16, .ai (s)⟩, .ent ⟨true, 113, some 16, .ai matL⟩, .ent ⟨true, 113, some 16, .ai (innT sb s c (outT sb s c) i)⟩]⟩) (fun i => i ≤ 4) (fun i => 4 - i) (fun j i L h => by have := hB.anc i L h; simp [rkmem] at this ⊢; omega) ⟨0, by omega, by simp [Ent2, entSl, entM, belSl, belV, belA, belS, belR, belM, look_hit, look_miss, one, -List.getD_eq_getElem?_getD, innT, rkmem]⟩ ?_
        intro i hi
        refine ok_run hB tabOK pureB_ok 100 ?_
        simp only [rkmem, List.cons_append, List.nil_append]
        have htl : (innT sb s c (outT sb s c) i).length = 16 := by rw [innT_len, outT_len]
        repeat (first
    | rw [run_ops0]
    | rw [run_seq]
    | rw [run_region]
    | rw [run_block]
    | rw [run_blk]
    | rw [run_skip]
    | (apply run_go rfl; focus (intro L K hK; simp [step1, evS, est, St.ev, St.put, St.add, St.upd, look_hit, look_miss, okd, stBin, bin, binS, binB, binI, shS, shB, S.num, constS, one, inI, stUn, stNil, stLoad, stAt, stField, stIndexAddr, stStore, wrAt, stAlloc, stBox, stIndex, stPart, stPartRow, stFieldV, stConv, cvS, cvB, cvI, stSlice, optN, SV.num, noMax, stArrPtr, stExtract, stLen, stBuild, A.isRow, A.isAgg, A.noRec, A.len, A.get, A.sub, A.set, A.over, Ent.bound, Kind.isStruct, Kind.isAgg, S.known, A.solid, segAt, segPut, segLen, R.a, R.len, A.r, stMake, stBuildSlice, litA, repA, rep1, fillA, putP, sing, stMin, stEqA, rowEq, Kind.isScal, -List.reduceReplicate, -List.getD_eq_getElem?_getD, tab3, ty3, ntmps24]; (repeat' apply And.intro); all_goals first | exact hK | omega)))
        apply run_cond2 rfl
        · intro h
          simp at h
          repeat (first
    | rw [run_ops0]
    | rw [run_seq]
    | rw [run_region]
    | rw [run_block]
    | rw [run_blk]
    | rw [run_skip]
    | (apply run_go rfl; focus (intro L K hK; simp [step1, evS, est, St.ev, St.put, St.add, St.upd, look_hit, look_miss, okd, stBin, bin, binS, binB, binI, shS, shB, S.num, constS, one, inI, stUn, stNil, stLoad, stAt, stField, stIndexAddr, stStore, wrAt, stAlloc, stBox, stIndex, stPart, stPartRow, stFieldV, stConv, cvS, cvB, cvI, stSlice, optN, SV.num, noMax, stArrPtr, stExtract, stLen, stBuild, A.isRow, A.isAgg, A.noRec, A.len, A.get, A.sub, A.set, A.over, Ent.bound, Kind.isStruct, Kind.isAgg, S.known, A.solid, segAt, segPut, segLen, R.a, R.len, A.r, stMake, stBuildSlice, litA, repA, rep1, fillA, putP, sing, stMin, stEqA, rowEq, Kind.isScal, -List.reduceReplicate, -List.getD_eq_getElem?_getD, tab3, ty3, ntmps24]; (repeat' apply And.intro); all_goals first | exact hK | omega)))
          rw [run_draw]
          refine ok_draw2 16 tabOK pureB_ok (pureOf_mono _) mixed (by decide +kernel) rfl rfl ?_
          have q2 : ((c : Int) + i).tmod 4 = ((c : Int) + i) % 4 := Int.tmod_eq_emod_of_nonneg (by omega)
          have q4 : (((c : Int) + i) % 4).toNat = (c + i) % 4 := by omega
          have hv := hsb2 ((c + i) % 4 * 4 + i)
          repeat (first
    | (apply hd_go rfl rfl rfl rfl (Nat.le_of_ble_eq_true rfl); focus (intro K' hK; simp [step1, evS, est, St.ev, St.put, St.add, St.upd, look_hit, look_miss, okd, stBin, bin, binS, binB, binI, shS, shB, S.num, constS, one, inI, stUn, stNil, stLoad, stAt, stField, stIndexAddr, stStore, wrAt, stAlloc, stBox, stIndex, stPart, stPartRow, stFieldV, stConv, cvS, cvB, cvI, stSlice, optN, SV.num, noMax, stArrPtr, stExtract, stLen, stBuild, A.isRow, A.isAgg, A.noRec, A.len, A.get, A.sub, A.set, A.over, Ent.bound, Kind.isStruct, Kind.isAgg, S.known, A.solid, segAt, segPut, segLen, R.a, R.len, A.r, stMake, stBuildSlice, litA, repA, rep1, fillA, putP, sing, stMin, stEqA, rowEq, Kind.isScal, -List.reduceReplicate, -List.getD_eq_getElem?_getD, tab3, ty3, tab29, ty29, tab110, ty110, tab106, ty106, tab111, ty111, tab113, ty113, q2, q4, hsl, hv, hsb]; (repeat' apply And.intro); all_goals first | exact hK | omega))
    | (apply hd_new rfl rfl rfl rfl (Nat.le_of_ble_eq_true rfl); focus (intro K' hK; simp [step1, evS, est, St.ev, St.put, St.add, St.upd, look_hit, look_miss, okd, stBin, bin, binS, binB, binI, shS, shB, S.num, constS, one, inI, stUn, stNil, stLoad, stAt, stField, stIndexAddr, stStore, wrAt, stAlloc, stBox, stIndex, stPart, stPartRow, stFieldV, stConv, cvS, cvB, cvI, stSlice, optN, SV.num, noMax, stArrPtr, stExtract, stLen, stBuild, A.isRow, A.isAgg, A.noRec, A.len, A.get, A.sub, A.set, A.over, Ent.bound, Kind.isStruct, Kind.isAgg, S.known, A.solid, segAt, segPut, segLen, R.a, R.len, A.r, stMake, stBuildSlice, litA, repA, rep1, fillA, putP, sing, stMin, stEqA, rowEq, Kind.isScal, -List.reduceReplicate, -List.getD_eq_getElem?_getD, tab3, ty3, tab29, ty29, tab110, ty110, tab106, ty106, tab111, ty111, tab113, ty113, q2, q4, hsl, hv, hsb]; (repeat' apply And.intro); all_goals first | exact hK | omega)))
          refine hd_nil ?_
          simp only [List.map_nil, List.append_nil]
          refine ok_run hB tabOK pureB_ok 100 ?_
          repeat (first
    | rw [run_ops0]
    | rw [run_seq]
    | rw [run_region]
    | rw [run_block]
    | rw [run_blk]
    | rw [run_skip]
    | (apply run_go rfl; focus (intro L K hK; simp [step1, evS, est, St.ev, St.put, St.add, St.upd, look_hit, look_miss, okd, stBin, bin, binS, binB, binI, shS, shB, S.num, constS, one, inI, stUn, stNil, stLoad, stAt, stField, stIndexAddr, stStore, wrAt, stAlloc, stBox, stIndex, stPart, stPartRow, stFieldV, stConv, cvS, cvB, cvI, stSlice, optN, SV.num, noMax, stArrPtr, stExtract, stLen, stBuild, A.isRow, A.isAgg, A.noRec, A.len, A.get, A.sub, A.set, A.over, Ent.bound, Kind.isStruct, Kind.isAgg, S.known, A.solid, segAt, segPut, segLen, R.a, R.len, A.r, stMake, stBuildSlice, litA, repA, rep1, fillA, putP, sing, stMin, stEqA, rowEq, Kind.isScal, -List.reduceReplicate, -List.getD_eq_getElem?_getD, tab3, ty3, tab111, ty111, tab113, ty113, ntmps24, htl]; (repeat' apply And.intro); all_goals first | exact hK | omega)))
          rw [run_back]
          refine ⟨i + 1, by omega, by omega, ?_⟩
          simp [Ent2, entSl, entM, belSl, belV, belA, belS, belR, belM, look_hit, look_miss, one, -List.getD_eq_getElem?_getD, innT, rkmem]
        · intro h
          simp at h
          obtain rfl : i = 4 := by omega
          apply run_exit2 rfl
          repeat (first
    | rw [run_ops0]
    | rw [run_seq]
    | rw [run_region]
    | rw [run_block]
    | rw [run_blk]
    | rw [run_skip]
    | (apply run_go rfl; focus (intro L K hK; simp [step1, evS, est, St.ev, St.put, St.add, St.upd, look_hit, look_miss, okd, stBin, bin, binS, binB, binI, shS, shB, S.num, constS, one, inI, stUn, stNil, stLoad, stAt, stField, stIndexAddr, stStore, wrAt, stAlloc, stBox, stIndex, stPart, stPartRow, stFieldV, stConv, cvS, cvB, cvI, stSlice, optN, SV.num, noMax, stArrPtr, stExtract, stLen, stBuild, A.isRow, A.isAgg, A.noRec, A.len, A.get, A.sub, A.set, A.over, Ent.bound, Kind.isStruct, Kind.isAgg, S.known, A.solid, segAt, segPut, segLen, R.a, R.len, A.r, stMake, stBuildSlice, litA, repA, rep1, fillA, putP, sing, stMin, stEqA, rowEq, Kind.isScal, -List.reduceReplicate, -List.getD_eq_getElem?_getD, tab3, ty3, ntmps24]; (repeat' apply And.intro); all_goals first | exact hK | omega)))
          rw [run_back]
          refine ⟨c + 1, by omega, by omega, ?_⟩
          simp [Ent2, entSl, entM, belSl, belV, belA, belS, belR, belM, look_hit, look_miss, one, -List.getD_eq_getElem?_getD, outT, rkmem]
      · intro h
        simp at h
        obtain rfl : c = 4 := by omega
        apply run_exit2 rfl
        have htl := outT_len sb s 4
        have htb := outT_byt hsbb s 4
        generalize outT sb s 4 = t at htl htb hrr ⊢
        repeat (first
    | rw [run_ops0]
    | rw [run_seq]
    | rw [run_region]
    | rw [run_block]
    | rw [run_blk]
    | rw [run_skip]
    | (apply run_go rfl; focus (intro L K hK; simp [step1, evS, est, St.ev, St.put, St.add, St.upd, look_hit, look_miss, okd, stBin, bin, binS, binB, binI, shS, shB, S.num, constS, one, inI, stUn, stNil, stLoad, stAt, stField, stIndexAddr, stStore, wrAt, stAlloc, stBox, stIndex, stPart, stPartRow, stFieldV, stConv, cvS, cvB, cvI, stSlice, optN, SV.num, noMax, stArrPtr, stExtract, stLen, stBuild, A.isRow, A.isAgg, A.noRec, A.len, A.get, A.sub, A.set, A.over, Ent.bound, Kind.isStruct, Kind.isAgg, S.known, A.solid, segAt, segPut, segLen, R.a, R.len, A.r, stMake, stBuildSlice, litA, repA, rep1, fillA, putP, sing, stMin, stEqA, rowEq, Kind.isScal, -List.reduceReplicate, -List.getD_eq_getElem?_getD, tab3, ty3, ntmps24]; (repeat' apply And.intro); all_goals first | exact hK | omega)))
        rw [run_loop]
        refine ok_loop (X := Nat) (fun c => ⟨[(12, one (.i c)), (9, one (.ptr 6 0 0)), (8, one (.i (q + 1))), (0, one (.ptr 0 0 0)), (3, one (.ptr 2 0 0)), (4, one (.ptr 3 0 0)), (5, one (.ptr 4 0 0)), (7, one (.ptr 5 0 0))], rkmem nw cap n sb W ++ [.ent ⟨true, 23, some 16, .a8 b⟩, .ent ⟨true, 23, some 16, .a8 zero16⟩, .ent ⟨true, 113, some 16, .ai (outM mx t W (q + 1) s c)⟩, .ent ⟨true, 113, some 16, .ai matL⟩, .ent ⟨true, 113, some 16, .ai t⟩]⟩) (fun c => c ≤ 4) (fun c => 4 - c) (fun j i L h => by have := hB.anc i L h; simp [rkmem] at this ⊢; omega) ⟨0, by omega, by simp [Ent2, entSl, entM, belSl, belV, belA, belS, belR, belM, look_hit, look_miss, one, -List.getD_eq_getElem?_getD, outM, rkmem]⟩ ?_
        intro c hc
        refine ok_run hB tabOK pureB_ok 100 ?_
        simp only [rkmem, List.cons_append, List.nil_append]
        repeat (first
    | rw [run_ops0]
    | rw [run_seq]
    | rw [run_region]
    | rw [run_block]
    | rw [run_blk]
    | rw [run_skip]
    | (apply run_go rfl; focus (intro L K hK; simp [step1, evS, est, St.ev, St.put, St.add, St.upd, look_hit, look_miss, okd, stBin, bin, binS, binB, binI, shS, shB, S.num, constS, one, inI, stUn, stNil, stLoad, stAt, stField, stIndexAddr, stStore, wrAt, stAlloc, stBox, stIndex, stPart, stPartRow, stFieldV, stConv, cvS, cvB, cvI, stSlice, optN, SV.num, noMax, stArrPtr, stExtract, stLen, stBuild, A.isRow, A.isAgg, A.noRec, A.len, A.get, A.sub, A.set, A.over, Ent.bound, Kind.isStruct, Kind.isAgg, S.known, A.solid, segAt, segPut, segLen, R.a, R.len, A.r, stMake, stBuildSlice, litA, repA, rep1, fillA, putP, sing, stMin, stEqA, rowEq, Kind.isScal, -List.reduceReplicate, -List.getD_eq_getElem?_getD, tab3, ty3, ntmps24]; (repeat' apply And.intro); all_goals first | exact hK | omega)))
        apply run_cond2 rfl
        · intro h
          simp at h
          repeat (first
    | rw [run_ops0]
    | rw [run_seq]
    | rw [run_region]
    | rw [run_block]
    | rw [run_blk]
    | rw [run_skip]
    | (apply run_go rfl; focus (intro L K hK; simp [step1, evS, est, St.ev, St.put, St.add, St.upd, look_hit, look_miss, okd, stBin, bin, binS, binB, binI, shS, shB, S.num, constS, one, inI, stUn, stNil, stLoad, stAt, stField, stIndexAddr, stStore, wrAt, stAlloc, stBox, stIndex, stPart, stPartRow, stFieldV, stConv, cvS, cvB, cvI, stSlice, optN, SV.num, noMax, stArrPtr, stExtract, stLen, stBuild, A.isRow, A.isAgg, A.noRec, A.len, A.get, A.sub, A.set, A.over, Ent.bound, Kind.isStruct, Kind.isAgg, S.known, A.solid, segAt, segPut, segLen, R.a, R.len, A.r, stMake, stBuildSlice, litA, repA, rep1, fillA, putP, sing, stMin, stEqA, rowEq, Kind.isScal, -List.reduceReplicate, -List.getD_eq_getElem?_getD, tab3, ty3, ntmps24]; (repeat' apply And.intro); all_goals first | exact hK | omega)))
          rw [run_loop]
          refine ok_loop (X := Nat) (fun i => ⟨[(13, one (.i i)), (12, one (.i c)), (9, one (.ptr 6 0 0)), (8, one (.i (q + 1))), (0, one (.ptr 0 0 0)), (3, one (.ptr 2 0 0)), (4, one (.ptr 3 0 0)), (5, one (.ptr 4 0 0)), (7, one (.ptr 5 0 0))], rkmem nw cap n sb W ++ [.ent ⟨true, 23, some 16, .a8 b⟩, .ent ⟨true, 23, some 16, .a8 zero16⟩, .ent ⟨true, 113, some 16, .ai (innM mx t W (q + 1) c (outM mx t W (q + 1) s c) i)⟩, .ent ⟨true, 113, some 16, .ai matL⟩, .ent ⟨true, 113, some 16, .ai t⟩]⟩) (fun i => i ≤ 4) (fun i => 4 - i) (fun j i L h => by have := hB.anc i L h; simp [rkmem] at this ⊢; omega) ⟨0, by omega, by simp [Ent2, entSl, entM, belSl, belV, belA, belS, belR, belM, look_hit, look_miss, one, -List.getD_eq_getElem?_getD, innM, rkmem]⟩ ?_
          intro i hi
          refine ok_run hB tabOK pureB_ok 30 ?_
          simp only [rkmem, List.cons_append, List.nil_append]
          repeat (first
    | rw [run_ops0]
    | rw [run_seq]
    | rw [run_region]
    | rw [run_block]
    | rw [run_blk]
    | rw [run_skip]
    | (apply run_go rfl; focus (intro L K hK; simp [step1, evS, est, St.ev, St.put, St.add, St.upd, look_hit, look_miss, okd, stBin, bin, binS, binB, binI, shS, shB, S.num, constS, one, inI, stUn, stNil, stLoad, stAt, stField, stIndexAddr, stStore, wrAt, stAlloc, stBox, stIndex, stPart, stPartRow, stFieldV, stConv, cvS, cvB, cvI, stSlice, optN, SV.num, noMax, stArrPtr, stExtract, stLen, stBuild, A.isRow, A.isAgg, A.noRec, A.len, A.get, A.sub, A.set, A.over, Ent.bound, Kind.isStruct, Kind.isAgg, S.known, A.solid, segAt, segPut, segLen, R.a, R.len, A.r, stMake, stBuildSlice, litA, repA, rep1, fillA, putP, sing, stMin, stEqA, rowEq, Kind.isScal, -List.reduceReplicate, -List.getD_eq_getElem?_getD, tab3, ty3, ntmps24]; (repeat' apply And.intro); all_goals first | exact hK | omega)))
          apply run_cond2 rfl
          · intro h
            simp at h
            repeat (first
    | rw [run_ops0]
    | rw [run_seq]
    | rw [run_region]
    | rw [run_block]
    | rw [run_blk]
    | rw [run_skip]
    | (apply run_go rfl; focus (intro L K hK; simp [step1, evS, est, St.ev, St.put, St.add, St.upd, look_hit, look_miss, okd, stBin, bin, binS, binB, binI, shS, shB, S.num, constS, one, inI, stUn, stNil, stLoad, stAt, stField, stIndexAddr, stStore, wrAt, stAlloc, stBox, stIndex, stPart, stPartRow, stFieldV, stConv, cvS, cvB, cvI, stSlice, optN, SV.num, noMax, stArrPtr, stExtract, stLen, stBuild, A.isRow, A.isAgg, A.noRec, A.len, A.get, A.sub, A.set, A.over, Ent.bound, Kind.isStruct, Kind.isAgg, S.known, A.solid, segAt, segPut, segLen, R.a, R.len, A.r, stMake, stBuildSlice, litA, repA, rep1, fillA, putP, sing, stMin, stEqA, rowEq, Kind.isScal, -List.reduceReplicate, -List.getD_eq_getElem?_getD, tab3, ty3, tab29, ty29, tab110, ty110, tab111, ty111, tab113, ty113, ntmps24, htl]; (repeat' apply And.intro); all_goals first | exact hK | omega)))
            rw [run_zero]
            have hnl : (innM mx t W (q + 1) c (outM mx t W (q + 1) s c) i).length = 16 := by rw [innM_len, outM_len, hsl]
            refine ok_join (X := Int) (fun x => ⟨[(14, one (.i x)), (13, one (.i i)), (12, one (.i c)), (9, one (.ptr 6 0 0)), (8, one (.i (q + 1))), (0, one (.ptr 0 0 0)), (3, one (.ptr 2 0 0)), (4, one (.ptr 3 0 0)), (5, one (.ptr 4 0 0)), (7, one (.ptr 5 0 0))], rkmem nw cap n sb W ++ [.ent ⟨true, 23, some 16, .a8 b⟩, .ent ⟨true, 23, some 16, .a8 zero16⟩, .ent ⟨true, 113, some 16, .ai (innM mx t W (q + 1) c (outM mx t W (q + 1) s c) i)⟩, .ent ⟨true, 113, some 16, .ai matL⟩, .ent ⟨true, 113, some 16, .ai t⟩]⟩) (fun x => x = cellX mx t c i) (fun j i L h => by have := hB.anc i L h; simp [rkmem] at this ⊢; omega) ?_ ?_
            · refine ok_run hB tabOK pureB_ok 100 ?_
              apply run_cond2 rfl
              · intro h2
                have hmt : mx = true := by rw [hmx]; simp at h2 ⊢; omega
                rw [run_draw]
                refine ok_draw2 39 tabOK pureB_ok (pureOf_mono _) mixed (by decide +kernel) rfl rfl ?_
                have a0 := matL_byt (i * 4)
                have a1 := matL_byt (i * 4 + 1)
                have a2 := matL_byt (i * 4 + 2)
                have a3 := matL_byt (i * 4 + 3)
                have b0 := htb (c * 4)
                have b1 := htb (c * 4 + 1)
                have b2 := htb (c * 4 + 2)
                have b3 := htb (c * 4 + 3)
                have T0 := timesR_lt a0 (b := t.getD (c * 4) 0) 8
                have T1 := timesR_lt a1 (b := t.getD (c * 4 + 1) 0) 8
                have T2 := timesR_lt a2 (b := t.getD (c * 4 + 2) 0) 8
                have T3 := timesR_lt a3 (b := t.getD (c * 4 + 3) 0) 8
                have x1 := nat_xor_lt (a := (timesR (matL.getD (i * 4) 0) (t.getD (c * 4) 0) 8).toNat) (b := (timesR (matL.getD (i * 4 + 1) 0) (t.getD (c * 4 + 1) 0) 8).toNat) (by omega) (by omega)
                have x2 := nat_xor_lt (b := (timesR (matL.getD (i * 4 + 2) 0) (t.getD (c * 4 + 2) 0) 8).toNat) x1 (by omega)
                have x3 := nat_xor_lt (b := (timesR (matL.getD (i * 4 + 3) 0) (t.getD (c * 4 + 3) 0) 8).toNat) x2 (by omega)
                repeat (first
    | (apply hd_go rfl rfl rfl rfl (Nat.le_of_ble_eq_true rfl); focus (intro K' hK; simp [step1, evS, est, St.ev, St.put, St.add, St.upd, look_hit, look_miss, okd, stBin, bin, binS, binB, binI, shS, shB, S.num, constS, one, inI, stUn, stNil, stLoad, stAt, stField, stIndexAddr, stStore, wrAt, stAlloc, stBox, stIndex, stPart, stPartRow, stFieldV, stConv, cvS, cvB, cvI, stSlice, optN, SV.num, noMax, stArrPtr, stExtract, stLen, stBuild, A.isRow, A.isAgg, A.noRec, A.len, A.get, A.sub, A.set, A.over, Ent.bound, Kind.isStruct, Kind.isAgg, S.known, A.solid, segAt, segPut, segLen, R.a, R.len, A.r, stMake, stBuildSlice, litA, repA, rep1, fillA, putP, sing, stMin, stEqA, rowEq, Kind.isScal, -List.reduceReplicate, -List.getD_eq_getElem?_getD, tab3, ty3, tab111, ty111, tab113, ty113, hml, htl, pureOf, pureB, a0, a1, a2, a3, b0, b1, b2, b3]; (repeat' apply And.intro); all_goals first | exact hK | omega))
    | (apply hd_new rfl rfl rfl rfl (Nat.le_of_ble_eq_true rfl); focus (intro K' hK; simp [step1, evS, est, St.ev, St.put, St.add, St.upd, look_hit, look_miss, okd, stBin, bin, binS, binB, binI, shS, shB, S.num, constS, one, inI, stUn, stNil, stLoad, stAt, stField, stIndexAddr, stStore, wrAt, stAlloc, stBox, stIndex, stPart, stPartRow, stFieldV, stConv, cvS, cvB, cvI, stSlice, optN, SV.num, noMax, stArrPtr, stExtract, stLen, stBuild, A.isRow, A.isAgg, A.noRec, A.len, A.get, A.sub, A.set, A.over, Ent.bound, Kind.isStruct, Kind.isAgg, S.known, A.solid, segAt, segPut, segLen, R.a, R.len, A.r, stMake, stBuildSlice, litA, repA, rep1, fillA, putP, sing, stMin, stEqA, rowEq, Kind.isScal, -List.reduceReplicate, -List.getD_eq_getElem?_getD, tab3, ty3, tab111, ty111, tab113, ty113, hml, htl, pureOf, pureB, a0, a1, a2, a3, b0, b1, b2, b3]; (repeat' apply And.intro); all_goals first | exact hK | omega)))
                refine hd_nil ?_
                simp only [List.map_nil, List.append_nil]
                refine ok_run hB tabOK pureB_ok 100 ?_
                repeat (first
    | rw [run_ops0]
    | rw [run_seq]
    | rw [run_region]
    | rw [run_block]
    | rw [run_blk]
    | rw [run_skip]
    | (apply run_go rfl; focus (intro L K hK; simp [step1, evS, est, St.ev, St.put, St.add, St.upd, look_hit, look_miss, okd, stBin, bin, binS, binB, binI, shS, shB, S.num, constS, one, inI, stUn, stNil, stLoad, stAt, stField, stIndexAddr, stStore, wrAt, stAlloc, stBox, stIndex, stPart, stPartRow, stFieldV, stConv, cvS, cvB, cvI, stSlice, optN, SV.num, noMax, stArrPtr, stExtract, stLen, stBuild, A.isRow, A.isAgg, A.noRec, A.len, A.get, A.sub, A.set, A.over, Ent.bound, Kind.isStruct, Kind.isAgg, S.known, A.solid, segAt, segPut, segLen, R.a, R.len, A.r, stMake, stBuildSlice, litA, repA, rep1, fillA, putP, sing, stMin, stEqA, rowEq, Kind.isScal, -List.reduceReplicate, -List.getD_eq_getElem?_getD, tab3, ty3, ntmps24]; (repeat' apply And.intro); all_goals first | exact hK | omega)))
                rw [run_back]
                refine ⟨_, rfl, ?_⟩
                simp [Ent2, entSl, entM, belSl, belV, belA, belS, belR, belM, look_hit, look_miss, one, -List.getD_eq_getElem?_getD, rkmem, cellX, hmt, xorI]
              · intro h2
                have hmt : mx = false := by rw [hmx]; simp at h2 ⊢; omega
                repeat (first
    | rw [run_ops0]
    | rw [run_seq]
    | rw [run_region]
    | rw [run_block]
    | rw [run_blk]
    | rw [run_skip]
    | (apply run_go rfl; focus (intro L K hK; simp [step1, evS, est, St.ev, St.put, St.add, St.upd, look_hit, look_miss, okd, stBin, bin, binS, binB, binI, shS, shB, S.num, constS, one, inI, stUn, stNil, stLoad, stAt, stField, stIndexAddr, stStore, wrAt, stAlloc, stBox, stIndex, stPart, stPartRow, stFieldV, stConv, cvS, cvB, cvI, stSlice, optN, SV.num, noMax, stArrPtr, stExtract, stLen, stBuild, A.isRow, A.isAgg, A.noRec, A.len, A.get, A.sub, A.set, A.over, Ent.bound, Kind.isStruct, Kind.isAgg, S.known, A.solid, segAt, segPut, segLen, R.a, R.len, A.r, stMake, stBuildSlice, litA, repA, rep1, fillA, putP, sing, stMin, stEqA, rowEq, Kind.isScal, -List.reduceReplicate, -List.getD_eq_getElem?_getD, tab3, ty3, ntmps24]; (repeat' apply And.intro); all_goals first | exact hK | omega)))
                rw [run_back]
                refine ⟨_, rfl, ?_⟩
                simp [Ent2, entSl, entM, belSl, belV, belA, belS, belR, belM, look_hit, look_miss, one, -List.getD_eq_getElem?_getD, rkmem, cellX, hmt]
            · intro x hx
              have hxl := cellX_lt htb mx c i
              rw [← hx] at hxl
              refine ok_run hB tabOK pureB_ok 100 ?_
              simp only [rkmem, List.cons_append, List.nil_append]
              repeat (first
    | rw [run_ops0]
    | rw [run_seq]
    | rw [run_region]
    | rw [run_block]
    | rw [run_blk]
    | rw [run_skip]
    | (apply run_go rfl; focus (intro L K hK; simp [step1, evS, est, St.ev, St.put, St.add, St.upd, look_hit, look_miss, okd, stBin, bin, binS, binB, binI, shS, shB, S.num, constS, one, inI, stUn, stNil, stLoad, stAt, stField, stIndexAddr, stStore, wrAt, stAlloc, stBox, stIndex, stPart, stPartRow, stFieldV, stConv, cvS, cvB, cvI, stSlice, optN, SV.num, noMax, stArrPtr, stExtract, stLen, stBuild, A.isRow, A.isAgg, A.noRec, A.len, A.get, A.sub, A.set, A.over, Ent.bound, Kind.isStruct, Kind.isAgg, S.known, A.solid, segAt, segPut, segLen, R.a, R.len, A.r, stMake, stBuildSlice, litA, repA, rep1, fillA, putP, sing, stMin, stEqA, rowEq, Kind.isScal, -List.reduceReplicate, -List.getD_eq_getElem?_getD, tab3, ty3, ntmps24]; (repeat' apply And.intro); all_goals first | exact hK | omega)))
              rw [run_draw]
              refine ok_draw2 17 tabOK pureB_ok (pureOf_mono _) mixed (by decide +kernel) rfl rfl ?_
              have q5 : (4 * ((q : Int) + 1) + c).toNat = 4 * (q + 1) + c := by omega
              have hw := hWb ((4 * (q + 1) + c) * 4 + i)
              have hxx := nat_xor_lt (a := x.toNat) (b := (W.getD ((4 * (q + 1) + c) * 4 + i) 0).toNat) (by omega) (by omega)
              repeat (first
    | (apply hd_go rfl rfl rfl rfl (Nat.le_of_ble_eq_true rfl); focus (intro K' hK; simp [step1, evS, est, St.ev, St.put, St.add, St.upd, look_hit, look_miss, okd, stBin, bin, binS, binB, binI, shS, shB, S.num, constS, one, inI, stUn, stNil, stLoad, stAt, stField, stIndexAddr, stStore, wrAt, stAlloc, stBox, stIndex, stPart, stPartRow, stFieldV, stConv, cvS, cvB, cvI, stSlice, optN, SV.num, noMax, stArrPtr, stExtract, stLen, stBuild, A.isRow, A.isAgg, A.noRec, A.len, A.get, A.sub, A.set, A.over, Ent.bound, Kind.isStruct, Kind.isAgg, S.known, A.solid, segAt, segPut, segLen, R.a, R.len, A.r, stMake, stBuildSlice, litA, repA, rep1, fillA, putP, sing, stMin, stEqA, rowEq, Kind.isScal, -List.reduceReplicate, -List.getD_eq_getElem?_getD, tab3, ty3, tab29, ty29, tab110, ty110, tab108, ty108, tab111, ty111, tab113, ty113, q5, hsl, hw]; (repeat' apply And.intro); all_goals first | exact hK | omega))
    | (apply hd_new rfl rfl rfl rfl (Nat.le_of_ble_eq_true rfl); focus (intro K' hK; simp [step1, evS, est, St.ev, St.put, St.add, St.upd, look_hit, look_miss, okd, stBin, bin, binS, binB, binI, shS, shB, S.num, constS, one, inI, stUn, stNil, stLoad, stAt, stField, stIndexAddr, stStore, wrAt, stAlloc, stBox, stIndex, stPart, stPartRow, stFieldV, stConv, cvS, cvB, cvI, stSlice, optN, SV.num, noMax, stArrPtr, stExtract, stLen, stBuild, A.isRow, A.isAgg, A.noRec, A.len, A.get, A.sub, A.set, A.over, Ent.bound, Kind.isStruct, Kind.isAgg, S.known, A.solid, segAt, segPut, segLen, R.a, R.len, A.r, stMake, stBuildSlice, litA, repA, rep1, fillA, putP, sing, stMin, stEqA, rowEq, Kind.isScal, -List.reduceReplicate, -List.getD_eq_getElem?_getD, tab3, ty3, tab29, ty29, tab110, ty110, tab108, ty108, tab111, ty111, tab113, ty113, q5, hsl, hw]; (repeat' apply And.intro); all_goals first | exact hK | omega)))
              refine hd_nil ?_
              simp only [List.map_nil, List.append_nil]
              refine ok_run hB tabOK pureB_ok 100 ?_
              repeat (first
    | rw [run_ops0]
    | rw [run_seq]
    | rw [run_region]
    | rw [run_block]
    | rw [run_blk]
    | rw [run_skip]
    | (apply run_go rfl; focus (intro L K hK; simp [step1, evS, est, St.ev, St.put, St.add, St.upd, look_hit, look_miss, okd, stBin, bin, binS, binB, binI, shS, shB, S.num, constS, one, inI, stUn, stNil, stLoad, stAt, stField, stIndexAddr, stStore, wrAt, stAlloc, stBox, stIndex, stPart, stPartRow, stFieldV, stConv, cvS, cvB, cvI, stSlice, optN, SV.num, noMax, stArrPtr, stExtract, stLen, stBuild, A.isRow, A.isAgg, A.noRec, A.len, A.get, A.sub, A.set, A.over, Ent.bound, Kind.isStruct, Kind.isAgg, S.known, A.solid, segAt, segPut, segLen, R.a, R.len, A.r, stMake, stBuildSlice, litA, repA, rep1, fillA, putP, sing, stMin, stEqA, rowEq, Kind.isScal, -List.reduceReplicate, -List.getD_eq_getElem?_getD, tab3, ty3, tab111, ty111, tab113, ty113, ntmps24, hnl]; (repeat' apply And.intro); all_goals first | exact hK | omega)))
              rw [run_back]
              refine ⟨i + 1, by omega, by omega, ?_⟩
              simp [Ent2, entSl, entM, belSl, belV, belA, belS, belR, belM, look_hit, look_miss, one, -List.getD_eq_getElem?_getD, innM, rkmem, xorI, hx]
          · intro h
            simp at h
            obtain rfl : i = 4 := by omega
            apply run_exit2 rfl
            repeat (first
    | rw [run_ops0]
    | rw [run_seq]
    | rw [run_region]
    | rw [run_block]
    | rw [run_blk]
    | rw [run_skip]
    | (apply run_go rfl; focus (intro L K hK; simp [step1, evS, est, St.ev, St.put, St.add, St.upd, look_hit, look_miss, okd, stBin, bin, binS, binB, binI, shS, shB, S.num, constS, one, inI, stUn, stNil, stLoad, stAt, stField, stIndexAddr, stStore, wrAt, stAlloc, stBox, stIndex, stPart, stPartRow, stFieldV, stConv, cvS, cvB, cvI, stSlice, optN, SV.num, noMax, stArrPtr, stExtract, stLen, stBuild, A.isRow, A.isAgg, A.noRec, A.len, A.get, A.sub, A.set, A.over, Ent.bound, Kind.isStruct, Kind.isAgg, S.known, A.solid, segAt, segPut, segLen, R.a, R.len, A.r, stMake, stBuildSlice, litA, repA, rep1, fillA, putP, sing, stMin, stEqA, rowEq, Kind.isScal, -List.reduceReplicate, -List.getD_eq_getElem?_getD, tab3, ty3, ntmps24]; (repeat' apply And.intro); all_goals first | exact hK | omega)))
            rw [run_back]
            refine ⟨c + 1, by omega, by omega, ?_⟩
            simp [Ent2, entSl, entM, belSl, belV, belA, belS, belR, belM, look_hit, look_miss, one, -List.getD_eq_getElem?_getD, outM, rkmem]
        · intro h
          simp at h
          obtain rfl : c = 4 := by omega
          apply run_exit2 rfl
          repeat (first
    | rw [run_ops0]
    | rw [run_seq]
    | rw [run_region]
    | rw [run_block]
    | rw [run_blk]
    | rw [run_skip]
    | (apply run_go rfl; focus (intro L K hK; simp [step1, evS, est, St.ev, St.put, St.add, St.upd, look_hit, look_miss, okd, stBin, bin, binS, binB, binI, shS, shB, S.num, constS, one, inI, stUn, stNil, stLoad, stAt, stField, stIndexAddr, stStore, wrAt, stAlloc, stBox, stIndex, stPart, stPartRow, stFieldV, stConv, cvS, cvB, cvI, stSlice, optN, SV.num, noMax, stArrPtr, stExtract, stLen, stBuild, A.isRow, A.isAgg, A.noRec, A.len, A.get, A.sub, A.set, A.over, Ent.bound, Kind.isStruct, Kind.isAgg, S.known, A.solid, segAt, segPut, segLen, R.a, R.len, A.r, stMake, stBuildSlice, litA, repA, rep1, fillA, putP, sing, stMin, stEqA, rowEq, Kind.isScal, -List.reduceReplicate, -List.getD_eq_getElem?_getD, tab3, ty3, ntmps24]; (repeat' apply And.intro); all_goals first | exact hK | omega)))
          rw [run_back]
          refine ⟨q + 1, by omega, by omega, ?_⟩
          rw [hrr]
          simp [Ent2, entSl, entM, belSl, belV, belA, belS, belR, belM, look_hit, look_miss, one, -List.getD_eq_getElem?_getD, rkmem]
    · intro h
      simp at h
      obtain rfl : q = n + 6 := by omega
      apply run_exit2 rfl
      repeat (first
    | rw [run_ops0]
    | rw [run_seq]
    | rw [run_region]
    | rw [run_block]
    | rw [run_blk]
    | rw [run_skip]
    | (apply run_go rfl; focus (intro L K hK; simp [step1, evS, est, St.ev, St.put, St.add, St.upd, look_hit, look_miss, okd, stBin, bin, binS, binB, binI, shS, shB, S.num, constS, one, inI, stUn, stNil, stLoad, stAt, stField, stIndexAddr, stStore, wrAt, stAlloc, stBox, stIndex, stPart, stPartRow, stFieldV, stConv, cvS, cvB, cvI, stSlice, optN, SV.num, noMax, stArrPtr, stExtract, stLen, stBuild, A.isRow, A.isAgg, A.noRec, A.len, A.get, A.sub, A.set, A.over, Ent.bound, Kind.isStruct, Kind.isAgg, S.known, A.solid, segAt, segPut, segLen, R.a, R.len, A.r, stMake, stBuildSlice, litA, repA, rep1, fillA, putP, sing, stMin, stEqA, rowEq, Kind.isScal, -List.reduceReplicate, -List.getD_eq_getElem?_getD, tab3, ty3, tab23, ty23, ntmps24]; (repeat' apply And.intro); all_goals first | exact hK | omega)))
      rw [run_loop]
      refine ok_loop (X := Nat) (fun j => ⟨[(16, one (.i j)), (15, one (.ptr 6 0 0)), (5, one (.ptr 4 0 0)), (4, one (.ptr 3 0 0))], rkmem nw cap n sb W ++ [.ent ⟨true, 23, some 16, .a8 b⟩, .ent ⟨true, 23, some 16, .a8 zero16⟩, .ent ⟨true, 113, some 16, .ai (s)⟩, .ent ⟨true, 113, some 16, .ai matL⟩, .ent ⟨true, 23, some 16, .a8 (outB s j)⟩]⟩) (fun j => j ≤ 16) (fun j => 16 - j) (fun j i L h => by have := hB.anc i L h; simp [rkmem] at this ⊢; omega) ⟨0, by omega, by simp [Ent2, entSl, entM, belSl, belV, belA, belS, belR, belM, look_hit, look_miss, one, -List.getD_eq_getElem?_getD, outB, rkmem, zero16]⟩ ?_
      intro j hj
      refine ok_run hB tabOK pureB_ok 100 ?_
      simp only [rkmem, List.cons_append, List.nil_append]
      have hol := outB_len s j
      repeat (first
    | rw [run_ops0]
    | rw [run_seq]
    | rw [run_region]
    | rw [run_block]
    | rw [run_blk]
    | rw [run_skip]
    | (apply run_go rfl; focus (intro L K hK; simp [step1, evS, est, St.ev, St.put, St.add, St.upd, look_hit, look_miss, okd, stBin, bin, binS, binB, binI, shS, shB, S.num, constS, one, inI, stUn, stNil, stLoad, stAt, stField, stIndexAddr, stStore, wrAt, stAlloc, stBox, stIndex, stPart, stPartRow, stFieldV, stConv, cvS, cvB, cvI, stSlice, optN, SV.num, noMax, stArrPtr, stExtract, stLen, stBuild, A.isRow, A.isAgg, A.noRec, A.len, A.get, A.sub, A.set, A.over, Ent.bound, Kind.isStruct, Kind.isAgg, S.known, A.solid, segAt, segPut, segLen, R.a, R.len, A.r, stMake, stBuildSlice, litA, repA, rep1, fillA, putP, sing, stMin, stEqA, rowEq, Kind.isScal, -List.reduceReplicate, -List.getD_eq_getElem?_getD, tab3, ty3, ntmps24]; (repeat' apply And.intro); all_goals first | exact hK | omega)))
      apply run_cond2 rfl
      · intro h
        simp at h
        have q1 : (j : Int).tdiv 4 = (j : Int) / 4 := Int.tdiv_eq_ediv_of_nonneg (by omega)
        have q2 : (j : Int).tmod 4 = (j : Int) % 4 := Int.tmod_eq_emod_of_nonneg (by omega)
        have q3 : ((j : Int) / 4).toNat = j / 4 := by omega
        have q4 : ((j : Int) % 4).toNat = j % 4 := by omega
        repeat (first
    | rw [run_ops0]
    | rw [run_seq]
    | rw [run_region]
    | rw [run_block]
    | rw [run_blk]
    | rw [run_skip]
    | (apply run_go rfl; focus (intro L K hK; simp [step1, evS, est, St.ev, St.put, St.add, St.upd, look_hit, look_miss, okd, stBin, bin, binS, binB, binI, shS, shB, S.num, constS, one, inI, stUn, stNil, stLoad, stAt, stField, stIndexAddr, stStore, wrAt, stAlloc, stBox, stIndex, stPart, stPartRow, stFieldV, stConv, cvS, cvB, cvI, stSlice, optN, SV.num, noMax, stArrPtr, stExtract, stLen, stBuild, A.isRow, A.isAgg, A.noRec, A.len, A.get, A.sub, A.set, A.over, Ent.bound, Kind.isStruct, Kind.isAgg, S.known, A.solid, segAt, segPut, segLen, R.a, R.len, A.r, stMake, stBuildSlice, litA, repA, rep1, fillA, putP, sing, stMin, stEqA, rowEq, Kind.isScal, -List.reduceReplicate, -List.getD_eq_getElem?_getD, tab3, ty3, tab5, ty5, tab23, ty23, tab111, ty111, tab113, ty113, ntmps24, q1, q2, q3, q4, hol, hsl]; (repeat' apply And.intro); all_goals first | exact hK | omega)))
        rw [run_back]
        refine ⟨j + 1, by omega, by omega, ?_⟩
        simp [Ent2, entSl, entM, belSl, belV, belA, belS, belR, belM, look_hit, look_miss, one, -List.getD_eq_getElem?_getD, outB, rkmem]
      · intro h
        simp at h
        obtain rfl : j = 16 := by omega
        apply run_exit2 rfl
        have hz : zero16.length = 16 := rfl
        repeat (first
    | rw [run_ops0]
    | rw [run_seq]
    | rw [run_region]
    | rw [run_block]
    | rw [run_blk]
    | rw [run_skip]
    | (apply run_go rfl; focus (intro L K hK; simp [step1, evS, est, St.ev, St.put, St.add, St.upd, look_hit, look_miss, okd, stBin, bin, binS, binB, binI, shS, shB, S.num, constS, one, inI, stUn, stNil, stLoad, stAt, stField, stIndexAddr, stStore, wrAt, stAlloc, stBox, stIndex, stPart, stPartRow, stFieldV, stConv, cvS, cvB, cvI, stSlice, optN, SV.num, noMax, stArrPtr, stExtract, stLen, stBuild, A.isRow, A.isAgg, A.noRec, A.len, A.get, A.sub, A.set, A.over, Ent.bound, Kind.isStruct, Kind.isAgg, S.known, A.solid, segAt, segPut, segLen, R.a, R.len, A.r, stMake, stBuildSlice, litA, repA, rep1, fillA, putP, sing, stMin, stEqA, rowEq, Kind.isScal, -List.reduceReplicate, -List.getD_eq_getElem?_getD, tab3, ty3, tab23, ty23, ntmps24, hol, hz]; (repeat' apply And.intro); all_goals first | exact hK | omega)))
        rw [run_ret]
        subst hs0
        simp [finOf, resP, resV, extraOwn, look_hit, look_miss, one, -List.reduceReplicate, -List.getD_eq_getElem?_getD, stLoad, stAt, Ent.bound, A.len, A.isRow, A.isAgg, results24, f24, tab23, ty23]
end Go.V
