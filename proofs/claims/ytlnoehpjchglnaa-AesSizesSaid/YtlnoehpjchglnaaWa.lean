/- Walks: the bytes of the document (twice, Times). No condition. -/
import Derived.Test.YtlnoehpjchglnaaVs
set_option linter.unusedSimpArgs false
set_option linter.unusedVariables false
set_option maxRecDepth 10000
namespace Go.V
open Go Go.Proofs.Try
theorem spec59 (a : BitVec 8) : Spec prog 59 [one (.u8 a)] [] [] (fun r _ => r = one (.u8 ((a <<< 1) ^^^ ((a >>> 7) * 27#8)))) := by
  refine spec_of_body tabOK func59 rfl (Nat.le_of_ble_eq_true rfl) ?_
  intro E Q0 hb
  refine ok_run hb tabOK pureNone_ok 100 ?_
  simp only [argSl]
  repeat (first
    | rw [run_ops0]
    | rw [run_seq]
    | rw [run_region]
    | rw [run_block]
    | rw [run_blk]
    | rw [run_skip]
    | (apply run_go rfl; focus (intro L K hK; simp [step1, evS, est, St.ev, St.put, St.add, St.upd, look_hit, look_miss, okd, stBin, bin, binS, binB, binI, shS, shB, S.num, constS, one, inI, stUn, stNil, stLoad, stAt, stField, stIndexAddr, stStore, wrAt, stAlloc, stBox, stIndex, stPart, stPartRow, stFieldV, stConv, cvS, cvB, cvI, stSlice, optN, SV.num, noMax, stArrPtr, stExtract, stLen, stBuild, A.isRow, A.isAgg, A.noRec, A.len, A.get, A.sub, A.set, A.over, Ent.bound, Kind.isStruct, Kind.isAgg, S.known, A.solid, segAt, segPut, segLen, R.a, R.len, A.r, stMake, stBuildSlice, litA, repA, rep1, fillA, putP, sing, stMin, stEqA, rowEq, Kind.isScal, -List.reduceReplicate, tab5, ty5, ntmps59]; (repeat' apply And.intro); all_goals first | exact hK | omega)))
  rw [run_ret]
  simp [finOf, resP, resV, extraOwn, look_hit, look_miss, one, -List.reduceReplicate, stLoad, stAt, Ent.bound, A.len, A.isRow, A.isAgg, results59, f59]

def xorI (a b : Int) : Int := ((a.toNat ^^^ b.toNat : Nat) : Int)
def timesStep (a b r : Int) (i : Nat) : Int :=
  let r2 := r * 2
  let r3 := if 255 < r2 then xorI r2 283 else r2
  if (b / 2 ^ i).tmod 2 = 1 then xorI r3 a else r3
def timesR (a b : Int) : Nat → Int
  | 0 => 0
  | j + 1 => timesStep a b (timesR a b j) (7 - j)
theorem xorI_lt {a b : Int} (ha : 0 ≤ a ∧ a < 256) (hb : 0 ≤ b ∧ b < 256) : 0 ≤ xorI a b ∧ xorI a b < 256 := by
  unfold xorI
  have := Nat.xor_lt_two_pow (x := a.toNat) (y := b.toNat) (n := 8) (by omega) (by omega)
  omega
theorem xor283 {r : Int} (hr : 0 ≤ r ∧ r < 256) (h : 255 < r * 2) : (r * 2).toNat ^^^ 283 < 256 := by
  obtain ⟨n, rfl⟩ := Int.eq_ofNat_of_zero_le hr.1
  have key : ∀ m : Fin 256, 255 < m.1 * 2 → (m.1 * 2) ^^^ 283 < 256 := by decide
  have := key ⟨n, by omega⟩ (by simp; omega)
  have e : ((n : Int) * 2).toNat = n * 2 := by omega
  rw [e]
  simpa using this
theorem timesStep_lt {a b r : Int} {i : Nat} (ha : 0 ≤ a ∧ a < 256) (hr : 0 ≤ r ∧ r < 256) : 0 ≤ timesStep a b r i ∧ timesStep a b r i < 256 := by
  have h3 : 0 ≤ (if 255 < r * 2 then xorI (r * 2) 283 else r * 2) ∧ (if 255 < r * 2 then xorI (r * 2) 283 else r * 2) < 256 := by
    split
    · rename_i h
      have := xor283 hr h
      unfold xorI
      have e : (283 : Int).toNat = 283 := rfl
      rw [e]
      omega
    · omega
  unfold timesStep
  simp only
  split
  · exact xorI_lt h3 ha
  · exact h3
theorem timesR_lt {a b : Int} (ha : 0 ≤ a ∧ a < 256) : ∀ j, 0 ≤ timesR a b j ∧ timesR a b j < 256
  | 0 => by simp [timesR]
  | j + 1 => timesStep_lt ha (timesR_lt ha j)
theorem spec62 (a b : Int) (ha : 0 ≤ a ∧ a < 256) (hb : 0 ≤ b ∧ b < 256) : Spec prog 62 [one (.i a), one (.i b)] [] [] (fun r _ => r = one (.i (timesR a b 8))) := by
  refine spec_of_body tabOK func62 rfl (Nat.le_of_ble_eq_true rfl) ?_
  intro E Q0 hB
  refine ok_run hB tabOK pureNone_ok 100 ?_
  simp only [argSl]
  repeat (first
    | rw [run_ops0]
    | rw [run_seq]
    | rw [run_region]
    | rw [run_block]
    | rw [run_blk]
    | rw [run_skip]
    | (apply run_go rfl; focus (intro L K hK; simp [step1, evS, est, St.ev, St.put, St.add, St.upd, look_hit, look_miss, okd, stBin, bin, binS, binB, binI, shS, shB, S.num, constS, one, inI, stUn, stNil, stLoad, stAt, stField, stIndexAddr, stStore, wrAt, stAlloc, stBox, stIndex, stPart, stPartRow, stFieldV, stConv, cvS, cvB, cvI, stSlice, optN, SV.num, noMax, stArrPtr, stExtract, stLen, stBuild, A.isRow, A.isAgg, A.noRec, A.len, A.get, A.sub, A.set, A.over, Ent.bound, Kind.isStruct, Kind.isAgg, S.known, A.solid, segAt, segPut, segLen, R.a, R.len, A.r, stMake, stBuildSlice, litA, repA, rep1, fillA, putP, sing, stMin, stEqA, rowEq, Kind.isScal, -List.reduceReplicate, tab3, ty3, ntmps62]; (repeat' apply And.intro); all_goals first | exact hK | omega)))
  rw [run_loop]
  refine ok_loop (X := Nat) (fun j => ⟨[(6, one (.i (7 - j))), (5, one (.i (timesR a b j))), (1, one (.i b)), (0, one (.i a))], []⟩) (fun j => j ≤ 8) (fun j => 8 - j) (fun j i L h => hB.anc i L h) ⟨0, by simp, by simp [Ent2, entSl, entM, belSl, belV, belA, belS, belR, belM, look_hit, look_miss, one, timesR]⟩ ?_
  intro j hj
  refine ok_run hB tabOK pureNone_ok 100 ?_
  have hr := timesR_lt (a := a) (b := b) ha j
  repeat (first
    | rw [run_ops0]
    | rw [run_seq]
    | rw [run_region]
    | rw [run_block]
    | rw [run_blk]
    | rw [run_skip]
    | (apply run_go rfl; focus (intro L K hK; simp [step1, evS, est, St.ev, St.put, St.add, St.upd, look_hit, look_miss, okd, stBin, bin, binS, binB, binI, shS, shB, S.num, constS, one, inI, stUn, stNil, stLoad, stAt, stField, stIndexAddr, stStore, wrAt, stAlloc, stBox, stIndex, stPart, stPartRow, stFieldV, stConv, cvS, cvB, cvI, stSlice, optN, SV.num, noMax, stArrPtr, stExtract, stLen, stBuild, A.isRow, A.isAgg, A.noRec, A.len, A.get, A.sub, A.set, A.over, Ent.bound, Kind.isStruct, Kind.isAgg, S.known, A.solid, segAt, segPut, segLen, R.a, R.len, A.r, stMake, stBuildSlice, litA, repA, rep1, fillA, putP, sing, stMin, stEqA, rowEq, Kind.isScal, -List.reduceReplicate, tab3, ty3, ntmps62]; (repeat' apply And.intro); all_goals first | exact hK | omega)))
  apply run_cond2 rfl
  · intro h
    simp at h
    repeat (first
    | rw [run_ops0]
    | rw [run_seq]
    | rw [run_region]
    | rw [run_block]
    | rw [run_blk]
    | rw [run_skip]
    | (apply run_go rfl; focus (intro L K hK; simp [step1, evS, est, St.ev, St.put, St.add, St.upd, look_hit, look_miss, okd, stBin, bin, binS, binB, binI, shS, shB, S.num, constS, one, inI, stUn, stNil, stLoad, stAt, stField, stIndexAddr, stStore, wrAt, stAlloc, stBox, stIndex, stPart, stPartRow, stFieldV, stConv, cvS, cvB, cvI, stSlice, optN, SV.num, noMax, stArrPtr, stExtract, stLen, stBuild, A.isRow, A.isAgg, A.noRec, A.len, A.get, A.sub, A.set, A.over, Ent.bound, Kind.isStruct, Kind.isAgg, S.known, A.solid, segAt, segPut, segLen, R.a, R.len, A.r, stMake, stBuildSlice, litA, repA, rep1, fillA, putP, sing, stMin, stEqA, rowEq, Kind.isScal, -List.reduceReplicate, tab3, ty3, ntmps62]; (repeat' apply And.intro); all_goals first | exact hK | omega)))
    have h7 : (7 - (j : Int)).toNat = 7 - j := by omega
    have back : ∀ st : St, look st.sl 6 = one (.i (7 - j - 1)) → look st.sl 5 = one (.i (timesR a b (j + 1))) → look st.sl 1 = one (.i b) → look st.sl 0 = one (.i a) → st.m = [] →
        ∃ x', x' ≤ 8 ∧ 8 - x' < 8 - j ∧ Ent2 st ⟨[(6, one (.i (7 - (x' : Nat)))), (5, one (.i (timesR a b x'))), (1, one (.i b)), (0, one (.i a))], []⟩ := by
      intro st e1 e2 e3 e4 e5
      refine ⟨j + 1, by omega, by omega, ?_⟩
      refine ⟨⟨?_, e2, e3, e4, trivial⟩, trivial, rfl, rfl⟩
      rw [e1]; simp [one]; omega
    apply run_cond2 rfl
    · intro h2
      simp at h2
      have hx := xor283 hr h2
      repeat (first
    | rw [run_ops0]
    | rw [run_seq]
    | rw [run_region]
    | rw [run_block]
    | rw [run_blk]
    | rw [run_skip]
    | (apply run_go rfl; focus (intro L K hK; simp [step1, evS, est, St.ev, St.put, St.add, St.upd, look_hit, look_miss, okd, stBin, bin, binS, binB, binI, shS, shB, S.num, constS, one, inI, stUn, stNil, stLoad, stAt, stField, stIndexAddr, stStore, wrAt, stAlloc, stBox, stIndex, stPart, stPartRow, stFieldV, stConv, cvS, cvB, cvI, stSlice, optN, SV.num, noMax, stArrPtr, stExtract, stLen, stBuild, A.isRow, A.isAgg, A.noRec, A.len, A.get, A.sub, A.set, A.over, Ent.bound, Kind.isStruct, Kind.isAgg, S.known, A.solid, segAt, segPut, segLen, R.a, R.len, A.r, stMake, stBuildSlice, litA, repA, rep1, fillA, putP, sing, stMin, stEqA, rowEq, Kind.isScal, -List.reduceReplicate, tab3, ty3, ntmps62]; (repeat' apply And.intro); all_goals first | exact hK | omega)))
      apply run_cond2 rfl
      · intro h3
        simp at h3
        repeat (first
    | rw [run_ops0]
    | rw [run_seq]
    | rw [run_region]
    | rw [run_block]
    | rw [run_blk]
    | rw [run_skip]
    | (apply run_go rfl; focus (intro L K hK; simp [step1, evS, est, St.ev, St.put, St.add, St.upd, look_hit, look_miss, okd, stBin, bin, binS, binB, binI, shS, shB, S.num, constS, one, inI, stUn, stNil, stLoad, stAt, stField, stIndexAddr, stStore, wrAt, stAlloc, stBox, stIndex, stPart, stPartRow, stFieldV, stConv, cvS, cvB, cvI, stSlice, optN, SV.num, noMax, stArrPtr, stExtract, stLen, stBuild, A.isRow, A.isAgg, A.noRec, A.len, A.get, A.sub, A.set, A.over, Ent.bound, Kind.isStruct, Kind.isAgg, S.known, A.solid, segAt, segPut, segLen, R.a, R.len, A.r, stMake, stBuildSlice, litA, repA, rep1, fillA, putP, sing, stMin, stEqA, rowEq, Kind.isScal, -List.reduceReplicate, tab3, ty3, ntmps62]; (repeat' apply And.intro); all_goals first | exact hK | omega)))
        rw [run_back]
        apply back <;> simp [look_hit, look_miss, one, timesR, timesStep, xorI, h2, h3]
      · intro h3
        simp at h3
        repeat (first
    | rw [run_ops0]
    | rw [run_seq]
    | rw [run_region]
    | rw [run_block]
    | rw [run_blk]
    | rw [run_skip]
    | (apply run_go rfl; focus (intro L K hK; simp [step1, evS, est, St.ev, St.put, St.add, St.upd, look_hit, look_miss, okd, stBin, bin, binS, binB, binI, shS, shB, S.num, constS, one, inI, stUn, stNil, stLoad, stAt, stField, stIndexAddr, stStore, wrAt, stAlloc, stBox, stIndex, stPart, stPartRow, stFieldV, stConv, cvS, cvB, cvI, stSlice, optN, SV.num, noMax, stArrPtr, stExtract, stLen, stBuild, A.isRow, A.isAgg, A.noRec, A.len, A.get, A.sub, A.set, A.over, Ent.bound, Kind.isStruct, Kind.isAgg, S.known, A.solid, segAt, segPut, segLen, R.a, R.len, A.r, stMake, stBuildSlice, litA, repA, rep1, fillA, putP, sing, stMin, stEqA, rowEq, Kind.isScal, -List.reduceReplicate, tab3, ty3, ntmps62]; (repeat' apply And.intro); all_goals first | exact hK | omega)))
        rw [run_back]
        apply back <;> simp [look_hit, look_miss, one, timesR, timesStep, xorI, h2, h3]
    · intro h2
      simp at h2
      have h2' : ¬ 255 < timesR a b j * 2 := by omega
      repeat (first
    | rw [run_ops0]
    | rw [run_seq]
    | rw [run_region]
    | rw [run_block]
    | rw [run_blk]
    | rw [run_skip]
    | (apply run_go rfl; focus (intro L K hK; simp [step1, evS, est, St.ev, St.put, St.add, St.upd, look_hit, look_miss, okd, stBin, bin, binS, binB, binI, shS, shB, S.num, constS, one, inI, stUn, stNil, stLoad, stAt, stField, stIndexAddr, stStore, wrAt, stAlloc, stBox, stIndex, stPart, stPartRow, stFieldV, stConv, cvS, cvB, cvI, stSlice, optN, SV.num, noMax, stArrPtr, stExtract, stLen, stBuild, A.isRow, A.isAgg, A.noRec, A.len, A.get, A.sub, A.set, A.over, Ent.bound, Kind.isStruct, Kind.isAgg, S.known, A.solid, segAt, segPut, segLen, R.a, R.len, A.r, stMake, stBuildSlice, litA, repA, rep1, fillA, putP, sing, stMin, stEqA, rowEq, Kind.isScal, -List.reduceReplicate, tab3, ty3, ntmps62]; (repeat' apply And.intro); all_goals first | exact hK | omega)))
      apply run_cond2 rfl
      · intro h3
        simp at h3
        repeat (first
    | rw [run_ops0]
    | rw [run_seq]
    | rw [run_region]
    | rw [run_block]
    | rw [run_blk]
    | rw [run_skip]
    | (apply run_go rfl; focus (intro L K hK; simp [step1, evS, est, St.ev, St.put, St.add, St.upd, look_hit, look_miss, okd, stBin, bin, binS, binB, binI, shS, shB, S.num, constS, one, inI, stUn, stNil, stLoad, stAt, stField, stIndexAddr, stStore, wrAt, stAlloc, stBox, stIndex, stPart, stPartRow, stFieldV, stConv, cvS, cvB, cvI, stSlice, optN, SV.num, noMax, stArrPtr, stExtract, stLen, stBuild, A.isRow, A.isAgg, A.noRec, A.len, A.get, A.sub, A.set, A.over, Ent.bound, Kind.isStruct, Kind.isAgg, S.known, A.solid, segAt, segPut, segLen, R.a, R.len, A.r, stMake, stBuildSlice, litA, repA, rep1, fillA, putP, sing, stMin, stEqA, rowEq, Kind.isScal, -List.reduceReplicate, tab3, ty3, ntmps62]; (repeat' apply And.intro); all_goals first | exact hK | omega)))
        rw [run_back]
        apply back <;> simp [look_hit, look_miss, one, timesR, timesStep, xorI, h2', h3]
      · intro h3
        simp at h3
        repeat (first
    | rw [run_ops0]
    | rw [run_seq]
    | rw [run_region]
    | rw [run_block]
    | rw [run_blk]
    | rw [run_skip]
    | (apply run_go rfl; focus (intro L K hK; simp [step1, evS, est, St.ev, St.put, St.add, St.upd, look_hit, look_miss, okd, stBin, bin, binS, binB, binI, shS, shB, S.num, constS, one, inI, stUn, stNil, stLoad, stAt, stField, stIndexAddr, stStore, wrAt, stAlloc, stBox, stIndex, stPart, stPartRow, stFieldV, stConv, cvS, cvB, cvI, stSlice, optN, SV.num, noMax, stArrPtr, stExtract, stLen, stBuild, A.isRow, A.isAgg, A.noRec, A.len, A.get, A.sub, A.set, A.over, Ent.bound, Kind.isStruct, Kind.isAgg, S.known, A.solid, segAt, segPut, segLen, R.a, R.len, A.r, stMake, stBuildSlice, litA, repA, rep1, fillA, putP, sing, stMin, stEqA, rowEq, Kind.isScal, -List.reduceReplicate, tab3, ty3, ntmps62]; (repeat' apply And.intro); all_goals first | exact hK | omega)))
        rw [run_back]
        apply back <;> simp [look_hit, look_miss, one, timesR, timesStep, xorI, h2', h3]
  · intro h
    simp at h
    obtain rfl : j = 8 := by omega
    apply run_exit2 rfl
    repeat (first
    | rw [run_ops0]
    | rw [run_seq]
    | rw [run_region]
    | rw [run_block]
    | rw [run_blk]
    | rw [run_skip]
    | (apply run_go rfl; focus (intro L K hK; simp [step1, evS, est, St.ev, St.put, St.add, St.upd, look_hit, look_miss, okd, stBin, bin, binS, binB, binI, shS, shB, S.num, constS, one, inI, stUn, stNil, stLoad, stAt, stField, stIndexAddr, stStore, wrAt, stAlloc, stBox, stIndex, stPart, stPartRow, stFieldV, stConv, cvS, cvB, cvI, stSlice, optN, SV.num, noMax, stArrPtr, stExtract, stLen, stBuild, A.isRow, A.isAgg, A.noRec, A.len, A.get, A.sub, A.set, A.over, Ent.bound, Kind.isStruct, Kind.isAgg, S.known, A.solid, segAt, segPut, segLen, R.a, R.len, A.r, stMake, stBuildSlice, litA, repA, rep1, fillA, putP, sing, stMin, stEqA, rowEq, Kind.isScal, -List.reduceReplicate, tab3, ty3, ntmps62]; (repeat' apply And.intro); all_goals first | exact hK | omega)))
    rw [run_ret]
    simp [finOf, resP, resV, extraOwn, look_hit, look_miss, one, -List.reduceReplicate, stLoad, stAt, Ent.bound, A.len, A.isRow, A.isAgg, results62, f62]

/-! plain calls: Times, twice -/
def pureB (f : FuncId) (l : List SV) : Option SV :=
  match f, l with
  | 62, [.one (.s (.i a)), .one (.s (.i b))] => if (0 ≤ a ∧ a < 256) ∧ (0 ≤ b ∧ b < 256) then some (one (.i (timesR a b 8))) else none
  | 59, [.one (.s (.u8 a))] => some (one (.u8 ((a <<< 1) ^^^ ((a >>> 7) * 27#8))))
  | _, _ => none
theorem pureB_ok : PureOK prog (pureOf pureB) := by
  refine pureOf_ok ?_
  intro f svs sv h
  unfold pureB at h
  split at h
  · split at h
    · rename_i hc
      cases h
      exact ⟨⟨f62, func62, nofun, by decide⟩, spec62 _ _ hc.1 hc.2, rfl, rfl⟩
    · cases h
  · cases h
    exact ⟨⟨f59, func59, nofun, by decide⟩, spec59 _, rfl, rfl⟩
  · cases h

/-! power, at 254 -/
def nAt (j : Nat) : Int := ((254 / 2 ^ j : Nat) : Int)
def sqR (b : Int) : Nat → Int
  | 0 => b
  | j + 1 => timesR (sqR b j) (sqR b j) 8
def powR (b : Int) : Nat → Int
  | 0 => 1
  | j + 1 => if (nAt j).tmod 2 = 1 then timesR (powR b j) (sqR b j) 8 else powR b j
theorem sqR_lt {b : Int} (hb : 0 ≤ b ∧ b < 256) : ∀ j, 0 ≤ sqR b j ∧ sqR b j < 256
  | 0 => hb
  | j + 1 => timesR_lt (sqR_lt hb j) 8
theorem powR_lt {b : Int} (hb : 0 ≤ b ∧ b < 256) : ∀ j, 0 ≤ powR b j ∧ powR b j < 256
  | 0 => by simp [powR]
  | j + 1 => by
    unfold powR
    split
    · exact timesR_lt (powR_lt hb j) 8
    · exact powR_lt hb j
theorem nAt_pos {j : Nat} (h : j < 8) : 0 < nAt j ∧ nAt j ≤ 254 ∧ (nAt j).tdiv 2 = nAt (j + 1) ∧ 0 ≤ (nAt j).tdiv 2 ∧ (nAt j).tdiv 2 ≤ 127 := by
  have : ∀ j : Fin 8, 0 < nAt j.1 ∧ nAt j.1 ≤ 254 ∧ (nAt j.1).tdiv 2 = nAt (j.1 + 1) ∧ 0 ≤ (nAt j.1).tdiv 2 ∧ (nAt j.1).tdiv 2 ≤ 127 := by decide
  exact this ⟨j, h⟩
theorem spec61 (b : Int) (hb : 0 ≤ b ∧ b < 256) : Spec prog 61 [one (.i b), one (.i 254)] [] [] (fun r _ => r = one (.i (powR b 8))) := by
  refine spec_of_body tabOK func61 rfl (Nat.le_of_ble_eq_true rfl) ?_
  intro E Q0 hB
  refine ok_run hB tabOK pureB_ok 100 ?_
  simp only [argSl]
  repeat (first
    | rw [run_ops0]
    | rw [run_seq]
    | rw [run_region]
    | rw [run_block]
    | rw [run_blk]
    | rw [run_skip]
    | (apply run_go rfl; focus (intro L K hK; simp [step1, evS, est, St.ev, St.put, St.add, St.upd, look_hit, look_miss, okd, stBin, bin, binS, binB, binI, shS, shB, S.num, constS, one, inI, stUn, stNil, stLoad, stAt, stField, stIndexAddr, stStore, wrAt, stAlloc, stBox, stIndex, stPart, stPartRow, stFieldV, stConv, cvS, cvB, cvI, stSlice, optN, SV.num, noMax, stArrPtr, stExtract, stLen, stBuild, A.isRow, A.isAgg, A.noRec, A.len, A.get, A.sub, A.set, A.over, Ent.bound, Kind.isStruct, Kind.isAgg, S.known, A.solid, segAt, segPut, segLen, R.a, R.len, A.r, stMake, stBuildSlice, litA, repA, rep1, fillA, putP, sing, stMin, stEqA, rowEq, Kind.isScal, -List.reduceReplicate, tab3, ty3, ntmps61]; (repeat' apply And.intro); all_goals first | exact hK | omega)))
  rw [run_loop]
  refine ok_loop (X := Nat) (fun j => ⟨[(5, one (.i (powR b j))), (1, one (.i (nAt j))), (0, one (.i (sqR b j)))], []⟩) (fun j => j ≤ 8) (fun j => 8 - j) (fun j i L h => hB.anc i L h) ⟨0, by simp, by simp [Ent2, entSl, entM, belSl, belV, belA, belS, belR, belM, look_hit, look_miss, one, powR, sqR, nAt]⟩ ?_
  intro j hj
  refine ok_run hB tabOK pureB_ok 100 ?_
  have hp := powR_lt hb j
  have hs := sqR_lt hb j
  repeat (first
    | rw [run_ops0]
    | rw [run_seq]
    | rw [run_region]
    | rw [run_block]
    | rw [run_blk]
    | rw [run_skip]
    | (apply run_go rfl; focus (intro L K hK; simp [step1, evS, est, St.ev, St.put, St.add, St.upd, look_hit, look_miss, okd, stBin, bin, binS, binB, binI, shS, shB, S.num, constS, one, inI, stUn, stNil, stLoad, stAt, stField, stIndexAddr, stStore, wrAt, stAlloc, stBox, stIndex, stPart, stPartRow, stFieldV, stConv, cvS, cvB, cvI, stSlice, optN, SV.num, noMax, stArrPtr, stExtract, stLen, stBuild, A.isRow, A.isAgg, A.noRec, A.len, A.get, A.sub, A.set, A.over, Ent.bound, Kind.isStruct, Kind.isAgg, S.known, A.solid, segAt, segPut, segLen, R.a, R.len, A.r, stMake, stBuildSlice, litA, repA, rep1, fillA, putP, sing, stMin, stEqA, rowEq, Kind.isScal, -List.reduceReplicate, tab3, ty3, ntmps61]; (repeat' apply And.intro); all_goals first | exact hK | omega)))
  apply run_cond2 rfl
  · intro h
    simp at h
    have hj8 : j < 8 := by
      rcases Nat.lt_or_ge j 8 with h8 | h8
      · exact h8
      · obtain rfl : j = 8 := by omega
        exact absurd h (by decide)
    obtain ⟨n1, n2, n3, n4⟩ := nAt_pos hj8
    repeat (first
    | rw [run_ops0]
    | rw [run_seq]
    | rw [run_region]
    | rw [run_block]
    | rw [run_blk]
    | rw [run_skip]
    | (apply run_go rfl; focus (intro L K hK; simp [step1, evS, est, St.ev, St.put, St.add, St.upd, look_hit, look_miss, okd, stBin, bin, binS, binB, binI, shS, shB, S.num, constS, one, inI, stUn, stNil, stLoad, stAt, stField, stIndexAddr, stStore, wrAt, stAlloc, stBox, stIndex, stPart, stPartRow, stFieldV, stConv, cvS, cvB, cvI, stSlice, optN, SV.num, noMax, stArrPtr, stExtract, stLen, stBuild, A.isRow, A.isAgg, A.noRec, A.len, A.get, A.sub, A.set, A.over, Ent.bound, Kind.isStruct, Kind.isAgg, S.known, A.solid, segAt, segPut, segLen, R.a, R.len, A.r, stMake, stBuildSlice, litA, repA, rep1, fillA, putP, sing, stMin, stEqA, rowEq, Kind.isScal, -List.reduceReplicate, tab3, ty3, ntmps61]; (repeat' apply And.intro); all_goals first | exact hK | omega)))
    apply run_cond2 rfl
    · intro h2
      simp at h2
      repeat (first
    | rw [run_ops0]
    | rw [run_seq]
    | rw [run_region]
    | rw [run_block]
    | rw [run_blk]
    | rw [run_skip]
    | (apply run_go rfl; focus (intro L K hK; simp [step1, evS, est, St.ev, St.put, St.add, St.upd, look_hit, look_miss, okd, stBin, bin, binS, binB, binI, shS, shB, S.num, constS, one, inI, stUn, stNil, stLoad, stAt, stField, stIndexAddr, stStore, wrAt, stAlloc, stBox, stIndex, stPart, stPartRow, stFieldV, stConv, cvS, cvB, cvI, stSlice, optN, SV.num, noMax, stArrPtr, stExtract, stLen, stBuild, A.isRow, A.isAgg, A.noRec, A.len, A.get, A.sub, A.set, A.over, Ent.bound, Kind.isStruct, Kind.isAgg, S.known, A.solid, segAt, segPut, segLen, R.a, R.len, A.r, stMake, stBuildSlice, litA, repA, rep1, fillA, putP, sing, stMin, stEqA, rowEq, Kind.isScal, -List.reduceReplicate, tab3, ty3, ntmps61, pureOf, pureB, hp, hs]; (repeat' apply And.intro); all_goals first | exact hK | omega)))
      rw [run_back]
      refine ⟨j + 1, by omega, by omega, ?_⟩
      simp [Ent2, entSl, entM, belSl, belV, belA, belS, belR, belM, look_hit, look_miss, one, powR, sqR, h2, n3]
    · intro h2
      simp at h2
      repeat (first
    | rw [run_ops0]
    | rw [run_seq]
    | rw [run_region]
    | rw [run_block]
    | rw [run_blk]
    | rw [run_skip]
    | (apply run_go rfl; focus (intro L K hK; simp [step1, evS, est, St.ev, St.put, St.add, St.upd, look_hit, look_miss, okd, stBin, bin, binS, binB, binI, shS, shB, S.num, constS, one, inI, stUn, stNil, stLoad, stAt, stField, stIndexAddr, stStore, wrAt, stAlloc, stBox, stIndex, stPart, stPartRow, stFieldV, stConv, cvS, cvB, cvI, stSlice, optN, SV.num, noMax, stArrPtr, stExtract, stLen, stBuild, A.isRow, A.isAgg, A.noRec, A.len, A.get, A.sub, A.set, A.over, Ent.bound, Kind.isStruct, Kind.isAgg, S.known, A.solid, segAt, segPut, segLen, R.a, R.len, A.r, stMake, stBuildSlice, litA, repA, rep1, fillA, putP, sing, stMin, stEqA, rowEq, Kind.isScal, -List.reduceReplicate, tab3, ty3, ntmps61, pureOf, pureB, hp, hs]; (repeat' apply And.intro); all_goals first | exact hK | omega)))
      rw [run_back]
      refine ⟨j + 1, by omega, by omega, ?_⟩
      simp [Ent2, entSl, entM, belSl, belV, belA, belS, belR, belM, look_hit, look_miss, one, powR, sqR, h2, n3]
  · intro h
    simp at h
    obtain rfl : j = 8 := by
      rcases Nat.lt_or_ge j 8 with h8 | h8
      · have := (nAt_pos h8).1; omega
      · omega
    apply run_exit2 rfl
    repeat (first
    | rw [run_ops0]
    | rw [run_seq]
    | rw [run_region]
    | rw [run_block]
    | rw [run_blk]
    | rw [run_skip]
    | (apply run_go rfl; focus (intro L K hK; simp [step1, evS, est, St.ev, St.put, St.add, St.upd, look_hit, look_miss, okd, stBin, bin, binS, binB, binI, shS, shB, S.num, constS, one, inI, stUn, stNil, stLoad, stAt, stField, stIndexAddr, stStore, wrAt, stAlloc, stBox, stIndex, stPart, stPartRow, stFieldV, stConv, cvS, cvB, cvI, stSlice, optN, SV.num, noMax, stArrPtr, stExtract, stLen, stBuild, A.isRow, A.isAgg, A.noRec, A.len, A.get, A.sub, A.set, A.over, Ent.bound, Kind.isStruct, Kind.isAgg, S.known, A.solid, segAt, segPut, segLen, R.a, R.len, A.r, stMake, stBuildSlice, litA, repA, rep1, fillA, putP, sing, stMin, stEqA, rowEq, Kind.isScal, -List.reduceReplicate, tab3, ty3, ntmps61]; (repeat' apply And.intro); all_goals first | exact hK | omega)))
    rw [run_ret]
    simp [finOf, resP, resV, extraOwn, look_hit, look_miss, one, -List.reduceReplicate, stLoad, stAt, Ent.bound, A.len, A.isRow, A.isAgg, results61, f61]

/-! sub -/
def pureC (f : FuncId) (l : List SV) : Option SV :=
  match f, l with
  | 61, [.one (.s (.i b)), .one (.s (.i 254))] => if 0 ≤ b ∧ b < 256 then some (one (.i (powR b 8))) else none
  | f, l => pureB f l
theorem pureC_ok : PureOK prog (pureOf pureC) := by
  refine pureOf_ok ?_
  intro f svs sv h
  unfold pureC at h
  split at h
  · split at h
    · rename_i hc
      cases h
      exact ⟨⟨f61, func61, nofun, by decide⟩, spec61 _ hc, rfl, rfl⟩
    · cases h
  · unfold pureB at h
    split at h
    · split at h
      · rename_i hc
        cases h
        exact ⟨⟨f62, func62, nofun, by decide⟩, spec62 _ _ hc.1 hc.2, rfl, rfl⟩
      · cases h
    · cases h
      exact ⟨⟨f59, func59, nofun, by decide⟩, spec59 _, rfl, rfl⟩
    · cases h
def rotR (y : Int) : Nat → Int
  | 0 => y
  | j + 1 => xorI (rotR y j) ((y * 2 ^ (j + 1)).tmod 256 + y / 2 ^ (7 - j))
theorem rot_part {y : Int} (hy : 0 ≤ y ∧ y < 256) {j : Nat} (hj : j < 4) : 0 ≤ y * 2 ^ (j + 1) ∧ y * 2 ^ (j + 1) < 4096 ∧ 0 ≤ (y * 2 ^ (j + 1)).tmod 256 + y / 2 ^ (7 - j) ∧ (y * 2 ^ (j + 1)).tmod 256 + y / 2 ^ (7 - j) < 256 ∧ 0 ≤ y / 2 ^ (7 - j) ∧ y / 2 ^ (7 - j) < 256 ∧ 0 ≤ (y * 2 ^ (j + 1)).tmod 256 ∧ (y * 2 ^ (j + 1)).tmod 256 < 256 := by
  obtain ⟨n, rfl⟩ := Int.eq_ofNat_of_zero_le hy.1
  have key : ∀ (j : Fin 4) (n : Fin 256), 0 ≤ (n.1 : Int) * 2 ^ (j.1 + 1) ∧ (n.1 : Int) * 2 ^ (j.1 + 1) < 4096 ∧ 0 ≤ ((n.1 : Int) * 2 ^ (j.1 + 1)).tmod 256 + (n.1 : Int) / 2 ^ (7 - j.1) ∧ ((n.1 : Int) * 2 ^ (j.1 + 1)).tmod 256 + (n.1 : Int) / 2 ^ (7 - j.1) < 256 ∧ 0 ≤ (n.1 : Int) / 2 ^ (7 - j.1) ∧ (n.1 : Int) / 2 ^ (7 - j.1) < 256 ∧ 0 ≤ ((n.1 : Int) * 2 ^ (j.1 + 1)).tmod 256 ∧ ((n.1 : Int) * 2 ^ (j.1 + 1)).tmod 256 < 256 := by decide +kernel
  exact key ⟨j, hj⟩ ⟨n, by omega⟩
theorem rotR_lt {y : Int} (hy : 0 ≤ y ∧ y < 256) : ∀ j, j ≤ 4 → 0 ≤ rotR y j ∧ rotR y j < 256
  | 0, _ => hy
  | j + 1, h => by
    obtain ⟨_, _, h3, h4, _⟩ := rot_part hy (j := j) (by omega)
    exact xorI_lt (rotR_lt hy j (by omega)) ⟨h3, h4⟩
def subR (x : Int) : Int := xorI (rotR (powR x 8) 4) 99
theorem subR_lt {x : Int} (hx : 0 ≤ x ∧ x < 256) : 0 ≤ subR x ∧ subR x < 256 := xorI_lt (rotR_lt (powR_lt hx 8) 4 (by omega)) ⟨by decide, by decide⟩
set_option maxHeartbeats 1000000 in
theorem spec81 (x : Int) (hx : 0 ≤ x ∧ x < 256) : Spec prog 81 [one (.i x)] [] [] (fun r _ => r = one (.i (subR x))) := by
  refine spec_of_body tabOK func81 rfl (Nat.le_of_ble_eq_true rfl) ?_
  intro E Q0 hB
  refine ok_run hB tabOK pureC_ok 100 ?_
  simp only [argSl]
  have hy := powR_lt hx 8
  repeat (first
    | rw [run_ops0]
    | rw [run_seq]
    | rw [run_region]
    | rw [run_block]
    | rw [run_blk]
    | rw [run_skip]
    | (apply run_go rfl; focus (intro L K hK; simp [step1, evS, est, St.ev, St.put, St.add, St.upd, look_hit, look_miss, okd, stBin, bin, binS, binB, binI, shS, shB, S.num, constS, one, inI, stUn, stNil, stLoad, stAt, stField, stIndexAddr, stStore, wrAt, stAlloc, stBox, stIndex, stPart, stPartRow, stFieldV, stConv, cvS, cvB, cvI, stSlice, optN, SV.num, noMax, stArrPtr, stExtract, stLen, stBuild, A.isRow, A.isAgg, A.noRec, A.len, A.get, A.sub, A.set, A.over, Ent.bound, Kind.isStruct, Kind.isAgg, S.known, A.solid, segAt, segPut, segLen, R.a, R.len, A.r, stMake, stBuildSlice, litA, repA, rep1, fillA, putP, sing, stMin, stEqA, rowEq, Kind.isScal, -List.reduceReplicate, tab3, ty3, ntmps81, pureOf, pureC, hx]; (repeat' apply And.intro); all_goals first | exact hK | omega)))
  rw [run_loop]
  refine ok_loop (X := Nat) (fun j => ⟨[(5, one (.i (j + 1))), (4, one (.i (rotR (powR x 8) j))), (3, one (.i (powR x 8)))], []⟩) (fun j => j ≤ 4) (fun j => 4 - j) (fun j i L h => hB.anc i L h) ⟨0, by simp, by simp [Ent2, entSl, entM, belSl, belV, belA, belS, belR, belM, look_hit, look_miss, one, rotR]⟩ ?_
  intro j hj
  refine ok_run hB tabOK pureC_ok 100 ?_
  have hr := rotR_lt hy j hj
  repeat (first
    | rw [run_ops0]
    | rw [run_seq]
    | rw [run_region]
    | rw [run_block]
    | rw [run_blk]
    | rw [run_skip]
    | (apply run_go rfl; focus (intro L K hK; simp [step1, evS, est, St.ev, St.put, St.add, St.upd, look_hit, look_miss, okd, stBin, bin, binS, binB, binI, shS, shB, S.num, constS, one, inI, stUn, stNil, stLoad, stAt, stField, stIndexAddr, stStore, wrAt, stAlloc, stBox, stIndex, stPart, stPartRow, stFieldV, stConv, cvS, cvB, cvI, stSlice, optN, SV.num, noMax, stArrPtr, stExtract, stLen, stBuild, A.isRow, A.isAgg, A.noRec, A.len, A.get, A.sub, A.set, A.over, Ent.bound, Kind.isStruct, Kind.isAgg, S.known, A.solid, segAt, segPut, segLen, R.a, R.len, A.r, stMake, stBuildSlice, litA, repA, rep1, fillA, putP, sing, stMin, stEqA, rowEq, Kind.isScal, -List.reduceReplicate, tab3, ty3, ntmps81]; (repeat' apply And.intro); all_goals first | exact hK | omega)))
  apply run_cond2 rfl
  · intro h
    simp at h
    obtain ⟨p1, p2, p3, p4, p5, p6, p7, p8⟩ := rot_part hy (j := j) (by omega)
    repeat (first
    | rw [run_ops0]
    | rw [run_seq]
    | rw [run_region]
    | rw [run_block]
    | rw [run_blk]
    | rw [run_skip]
    | (apply run_go rfl; focus (intro L K hK; simp [step1, evS, est, St.ev, St.put, St.add, St.upd, look_hit, look_miss, okd, stBin, bin, binS, binB, binI, shS, shB, S.num, constS, one, inI, stUn, stNil, stLoad, stAt, stField, stIndexAddr, stStore, wrAt, stAlloc, stBox, stIndex, stPart, stPartRow, stFieldV, stConv, cvS, cvB, cvI, stSlice, optN, SV.num, noMax, stArrPtr, stExtract, stLen, stBuild, A.isRow, A.isAgg, A.noRec, A.len, A.get, A.sub, A.set, A.over, Ent.bound, Kind.isStruct, Kind.isAgg, S.known, A.solid, segAt, segPut, segLen, R.a, R.len, A.r, stMake, stBuildSlice, litA, repA, rep1, fillA, putP, sing, stMin, stEqA, rowEq, Kind.isScal, -List.reduceReplicate, tab3, ty3, ntmps81]; (repeat' apply And.intro); all_goals first | exact hK | omega)))
    rw [run_draw]
    refine ok_draw2 11 tabOK pureC_ok (pureOf_mono _) mixed (by decide +kernel) rfl rfl ?_
    have e7 : (8 - ((j : Int) + 1)).toNat = 7 - j := by omega
    repeat (first
    | (apply hd_go rfl rfl rfl rfl (Nat.le_of_ble_eq_true rfl); focus (intro K' hK; simp [step1, evS, est, St.ev, St.put, St.add, St.upd, look_hit, look_miss, okd, stBin, bin, binS, binB, binI, shS, shB, S.num, constS, one, inI, stUn, stNil, stLoad, stAt, stField, stIndexAddr, stStore, wrAt, stAlloc, stBox, stIndex, stPart, stPartRow, stFieldV, stConv, cvS, cvB, cvI, stSlice, optN, SV.num, noMax, stArrPtr, stExtract, stLen, stBuild, A.isRow, A.isAgg, A.noRec, A.len, A.get, A.sub, A.set, A.over, Ent.bound, Kind.isStruct, Kind.isAgg, S.known, A.solid, segAt, segPut, segLen, R.a, R.len, A.r, stMake, stBuildSlice, litA, repA, rep1, fillA, putP, sing, stMin, stEqA, rowEq, Kind.isScal, -List.reduceReplicate, tab3, ty3, e7]; (repeat' apply And.intro); all_goals first | exact hK | omega))
    | (apply hd_new rfl rfl rfl rfl (Nat.le_of_ble_eq_true rfl); focus (intro K' hK; simp [step1, evS, est, St.ev, St.put, St.add, St.upd, look_hit, look_miss, okd, stBin, bin, binS, binB, binI, shS, shB, S.num, constS, one, inI, stUn, stNil, stLoad, stAt, stField, stIndexAddr, stStore, wrAt, stAlloc, stBox, stIndex, stPart, stPartRow, stFieldV, stConv, cvS, cvB, cvI, stSlice, optN, SV.num, noMax, stArrPtr, stExtract, stLen, stBuild, A.isRow, A.isAgg, A.noRec, A.len, A.get, A.sub, A.set, A.over, Ent.bound, Kind.isStruct, Kind.isAgg, S.known, A.solid, segAt, segPut, segLen, R.a, R.len, A.r, stMake, stBuildSlice, litA, repA, rep1, fillA, putP, sing, stMin, stEqA, rowEq, Kind.isScal, -List.reduceReplicate, tab3, ty3, e7]; (repeat' apply And.intro); all_goals first | exact hK | omega)))
    refine hd_nil ?_
    simp only [List.map_nil, List.append_nil]
    refine ok_run hB tabOK pureC_ok 100 ?_
    repeat (first
    | rw [run_ops0]
    | rw [run_seq]
    | rw [run_region]
    | rw [run_block]
    | rw [run_blk]
    | rw [run_skip]
    | (apply run_go rfl; focus (intro L K hK; simp [step1, evS, est, St.ev, St.put, St.add, St.upd, look_hit, look_miss, okd, stBin, bin, binS, binB, binI, shS, shB, S.num, constS, one, inI, stUn, stNil, stLoad, stAt, stField, stIndexAddr, stStore, wrAt, stAlloc, stBox, stIndex, stPart, stPartRow, stFieldV, stConv, cvS, cvB, cvI, stSlice, optN, SV.num, noMax, stArrPtr, stExtract, stLen, stBuild, A.isRow, A.isAgg, A.noRec, A.len, A.get, A.sub, A.set, A.over, Ent.bound, Kind.isStruct, Kind.isAgg, S.known, A.solid, segAt, segPut, segLen, R.a, R.len, A.r, stMake, stBuildSlice, litA, repA, rep1, fillA, putP, sing, stMin, stEqA, rowEq, Kind.isScal, -List.reduceReplicate, tab3, ty3, ntmps81]; (repeat' apply And.intro); all_goals first | exact hK | omega)))
    rw [run_back]
    refine ⟨j + 1, by omega, by omega, ?_⟩
    simp [Ent2, entSl, entM, belSl, belV, belA, belS, belR, belM, look_hit, look_miss, one, rotR, xorI]
    trace_state
  · intro h
    simp at h
    obtain rfl : j = 4 := by omega
    apply run_exit2 rfl
    repeat (first
    | rw [run_ops0]
    | rw [run_seq]
    | rw [run_region]
    | rw [run_block]
    | rw [run_blk]
    | rw [run_skip]
    | (apply run_go rfl; focus (intro L K hK; simp [step1, evS, est, St.ev, St.put, St.add, St.upd, look_hit, look_miss, okd, stBin, bin, binS, binB, binI, shS, shB, S.num, constS, one, inI, stUn, stNil, stLoad, stAt, stField, stIndexAddr, stStore, wrAt, stAlloc, stBox, stIndex, stPart, stPartRow, stFieldV, stConv, cvS, cvB, cvI, stSlice, optN, SV.num, noMax, stArrPtr, stExtract, stLen, stBuild, A.isRow, A.isAgg, A.noRec, A.len, A.get, A.sub, A.set, A.over, Ent.bound, Kind.isStruct, Kind.isAgg, S.known, A.solid, segAt, segPut, segLen, R.a, R.len, A.r, stMake, stBuildSlice, litA, repA, rep1, fillA, putP, sing, stMin, stEqA, rowEq, Kind.isScal, -List.reduceReplicate, tab3, ty3, ntmps81]; (repeat' apply And.intro); all_goals first | exact hK | omega)))
    rw [run_ret]
    simp [finOf, resP, resV, extraOwn, look_hit, look_miss, one, -List.reduceReplicate, stLoad, stAt, Ent.bound, A.len, A.isRow, A.isAgg, results81, f81, subR, xorI]
end Go.V
