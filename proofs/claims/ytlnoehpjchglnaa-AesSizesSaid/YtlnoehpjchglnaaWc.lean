/- Walks: the program's Block. No condition. -/
import Derived.Test.YtlnoehpjchglnaaWb
set_option linter.unusedSimpArgs false
set_option linter.unusedVariables false
set_option maxRecDepth 10000
namespace Go.V
open Go Go.Proofs.Try
def pureE (f : FuncId) (l : List SV) : Option SV :=
  match f, l with
  | 58, [] => some (.one (.a8 boxL))
  | 59, [.one (.s (.u8 a))] => some (one (.u8 ((a <<< 1) ^^^ ((a >>> 7) * 27#8))))
  | _, _ => none
theorem pureE_ok : PureOK prog (pureOf pureE) := by
  refine pureOf_ok ?_
  intro f svs sv h
  unfold pureE at h
  split at h
  · cases h
    exact ⟨⟨f58, func58, nofun, by decide⟩, spec58, rfl, rfl⟩
  · cases h
    exact ⟨⟨f59, func59, nofun, by decide⟩, spec59 _, rfl, rfl⟩
  · cases h
abbrev B8 := List (BitVec 8)
def xorAt (b s W : B8) (o : Nat) : Nat → B8
  | 0 => b
  | j + 1 => (xorAt b s W o j).set j (s.getD j 0 ^^^ W.getD (o + j) 0)
def xorIn (b W : B8) : Nat → B8
  | 0 => b
  | j + 1 => (xorIn b W j).set j ((xorIn b W j).getD j 0 ^^^ W.getD j 0)
theorem xorIn_len (b W : B8) : ∀ j, (xorIn b W j).length = b.length
  | 0 => rfl
  | j + 1 => by simp [xorIn, xorIn_len b W j]
theorem xorAt_len (b s W : B8) (o : Nat) : ∀ j, (xorAt b s W o j).length = b.length
  | 0 => rfl
  | j + 1 => by simp [xorAt, xorAt_len b s W o j]
def twice8 (a : BitVec 8) : BitVec 8 := (a <<< 1) ^^^ ((a >>> 7) * 27#8)
def zero16 : B8 := [0, 0, 0, 0, 0, 0, 0, 0, 0, 0, 0, 0, 0, 0, 0, 0]
def subS (b : B8) : Nat → B8
  | 0 => zero16
  | j + 1 => (subS b j).set j (boxL.getD (b.getD (((j : Int) + 4 * ((j : Int) % 4)) % 16).toNat 0).toNat 0)
theorem subS_len (b : B8) : ∀ j, (subS b j).length = 16
  | 0 => rfl
  | j + 1 => by simp [subS, subS_len b j]
def mixIn (x : B8) (all : BitVec 8) (s : B8) (c : Nat) : Nat → B8
  | 0 => s
  | i + 1 => (mixIn x all s c i).set (c + i) (x.getD i 0 ^^^ all ^^^ twice8 (x.getD i 0 ^^^ x.getD ((i + 1) % 4) 0))
theorem mixIn_len (x : B8) (all : BitVec 8) (s : B8) (c : Nat) : ∀ j, (mixIn x all s c j).length = s.length
  | 0 => rfl
  | j + 1 => by simp [mixIn, mixIn_len x all s c j]
def allOf (x : B8) : BitVec 8 := x.getD 0 0 ^^^ x.getD 1 0 ^^^ x.getD 2 0 ^^^ x.getD 3 0
def mixS (s : B8) : Nat → B8
  | 0 => s
  | k + 1 => mixIn (((mixS s k).drop (4 * k)).take 4) (allOf (((mixS s k).drop (4 * k)).take 4)) (mixS s k) (4 * k) 4
theorem mixS_len (s : B8) : ∀ k, (mixS s k).length = s.length
  | 0 => rfl
  | k + 1 => by simp [mixS, mixIn_len, mixS_len s k]
def oneRound (b W : B8) (nr r : Nat) : B8 := xorAt b (if r + 1 < nr then mixS (subS b 16) 4 else subS b 16) W (16 * r) 16
def rounds (b W : B8) (nr : Nat) : Nat → B8
  | 0 => xorIn b W 16
  | q + 1 => oneRound (rounds b W nr q) W nr (q + 1)
theorem xorAt_len2 (b s W : B8) (o : Nat) : ∀ j, (xorAt b s W o j).length = b.length := xorAt_len b s W o
theorem rounds_len (b W : B8) (nr : Nat) : ∀ q, (rounds b W nr q).length = b.length
  | 0 => xorIn_len b W 16
  | q + 1 => by simp [rounds, oneRound, xorAt_len, rounds_len b W nr q]
def kmem (nr cap : Nat) (W : B8) : Mem := [.ent ⟨false, 105, some 1, .st [⟨1, .s (.sl 1 0 nr cap 16)⟩]⟩, .ent ⟨false, 23, none, .a8 W⟩]
theorem spec23 (b W : B8) (nr cap : Nat) (hb : b.length = 16) (hW : 16 * nr ≤ W.length) (hR : 0 < nr) (hR2 : nr < 1000) : Spec prog 23 [one (.ptr 0 0 0), .one (.a8 b)] (kmem nr cap W) [] (fun r _ => r = .one (.a8 (rounds b W nr (nr - 1)))) := by
  refine spec_of_body tabOK func23 rfl (Nat.le_of_ble_eq_true rfl) ?_
  intro E Q0 hB
  refine ok_run hB tabOK pureE_ok 100 ?_
  simp only [argSl, kmem]
  have hlt : ∀ x : BitVec 8, x.toNat < 256 := fun x => x.isLt
  repeat (first
    | rw [run_ops0]
    | rw [run_seq]
    | rw [run_region]
    | rw [run_block]
    | rw [run_blk]
    | rw [run_skip]
    | (apply run_go rfl; focus (intro L K hK; simp [step1, evS, est, St.ev, St.put, St.add, St.upd, look_hit, look_miss, okd, stBin, bin, binS, binB, binI, shS, shB, S.num, constS, one, inI, stUn, stNil, stLoad, stAt, stField, stIndexAddr, stStore, wrAt, stAlloc, stBox, stIndex, stPart, stPartRow, stFieldV, stConv, cvS, cvB, cvI, stSlice, optN, SV.num, noMax, stArrPtr, stExtract, stLen, stBuild, A.isRow, A.isAgg, A.noRec, A.len, A.get, A.sub, A.set, A.over, Ent.bound, Kind.isStruct, Kind.isAgg, S.known, A.solid, segAt, segPut, segLen, R.a, R.len, A.r, stMake, stBuildSlice, litA, repA, rep1, fillA, putP, sing, stMin, stEqA, rowEq, Kind.isScal, -List.reduceReplicate, -List.getD_eq_getElem?_getD, tab23, ty23, tab25, ty25, ntmps23, hb]; (repeat' apply And.intro); all_goals first | exact hK | omega)))
  apply run_cond2 rfl
  · intro h; cases h
  intro _
  repeat (first
    | rw [run_ops0]
    | rw [run_seq]
    | rw [run_region]
    | rw [run_block]
    | rw [run_blk]
    | rw [run_skip]
    | (apply run_go rfl; focus (intro L K hK; simp [step1, evS, est, St.ev, St.put, St.add, St.upd, look_hit, look_miss, okd, stBin, bin, binS, binB, binI, shS, shB, S.num, constS, one, inI, stUn, stNil, stLoad, stAt, stField, stIndexAddr, stStore, wrAt, stAlloc, stBox, stIndex, stPart, stPartRow, stFieldV, stConv, cvS, cvB, cvI, stSlice, optN, SV.num, noMax, stArrPtr, stExtract, stLen, stBuild, A.isRow, A.isAgg, A.noRec, A.len, A.get, A.sub, A.set, A.over, Ent.bound, Kind.isStruct, Kind.isAgg, S.known, A.solid, segAt, segPut, segLen, R.a, R.len, A.r, stMake, stBuildSlice, litA, repA, rep1, fillA, putP, sing, stMin, stEqA, rowEq, Kind.isScal, -List.reduceReplicate, -List.getD_eq_getElem?_getD, tab23, ty23, tab25, ty25, tab3, ty3, ntmps23, hb]; (repeat' apply And.intro); all_goals first | exact hK | omega)))
  rw [run_loop]
  refine ok_loop (X := Nat) (fun j => ⟨[(17, one (.i j)), (0, one (.ptr 0 0 0)), (3, one (.ptr 2 0 0)), (4, one (.ptr 3 0 0))], kmem nr cap W ++ [.ent ⟨true, 23, some 16, .a8 (xorIn b W j)⟩, .ent ⟨true, 23, some 16, .a8 [0, 0, 0, 0, 0, 0, 0, 0, 0, 0, 0, 0, 0, 0, 0, 0]⟩]⟩) (fun j => j ≤ 16) (fun j => 16 - j) (fun j i L h => by have := hB.anc i L h; simp [kmem] at this ⊢; omega) ⟨0, by simp, by simp [Ent2, entSl, entM, belSl, belV, belA, belS, belR, belM, look_hit, look_miss, one, -List.getD_eq_getElem?_getD, xorIn, kmem]⟩ ?_
  · intro j hj
    refine ok_run hB tabOK pureE_ok 100 ?_
    have hxl := xorIn_len b W j
    simp only [kmem, List.cons_append, List.nil_append]
    repeat (first
    | rw [run_ops0]
    | rw [run_seq]
    | rw [run_region]
    | rw [run_block]
    | rw [run_blk]
    | rw [run_skip]
    | (apply run_go rfl; focus (intro L K hK; simp [step1, evS, est, St.ev, St.put, St.add, St.upd, look_hit, look_miss, okd, stBin, bin, binS, binB, binI, shS, shB, S.num, constS, one, inI, stUn, stNil, stLoad, stAt, stField, stIndexAddr, stStore, wrAt, stAlloc, stBox, stIndex, stPart, stPartRow, stFieldV, stConv, cvS, cvB, cvI, stSlice, optN, SV.num, noMax, stArrPtr, stExtract, stLen, stBuild, A.isRow, A.isAgg, A.noRec, A.len, A.get, A.sub, A.set, A.over, Ent.bound, Kind.isStruct, Kind.isAgg, S.known, A.solid, segAt, segPut, segLen, R.a, R.len, A.r, stMake, stBuildSlice, litA, repA, rep1, fillA, putP, sing, stMin, stEqA, rowEq, Kind.isScal, -List.reduceReplicate, -List.getD_eq_getElem?_getD, tab3, ty3, ntmps23]; (repeat' apply And.intro); all_goals first | exact hK | omega)))
    apply run_cond2 rfl
    · intro h
      simp at h
      have hj' : (j : Int) < 16 := by omega
      repeat (first
    | rw [run_ops0]
    | rw [run_seq]
    | rw [run_region]
    | rw [run_block]
    | rw [run_blk]
    | rw [run_skip]
    | (apply run_go rfl; focus (intro L K hK; simp [step1, evS, est, St.ev, St.put, St.add, St.upd, look_hit, look_miss, okd, stBin, bin, binS, binB, binI, shS, shB, S.num, constS, one, inI, stUn, stNil, stLoad, stAt, stField, stIndexAddr, stStore, wrAt, stAlloc, stBox, stIndex, stPart, stPartRow, stFieldV, stConv, cvS, cvB, cvI, stSlice, optN, SV.num, noMax, stArrPtr, stExtract, stLen, stBuild, A.isRow, A.isAgg, A.noRec, A.len, A.get, A.sub, A.set, A.over, Ent.bound, Kind.isStruct, Kind.isAgg, S.known, A.solid, segAt, segPut, segLen, R.a, R.len, A.r, stMake, stBuildSlice, litA, repA, rep1, fillA, putP, sing, stMin, stEqA, rowEq, Kind.isScal, -List.reduceReplicate, -List.getD_eq_getElem?_getD, tab3, ty3, ntmps23]; (repeat' apply And.intro); all_goals first | exact hK | omega)))
      rw [run_draw]
      refine ok_draw2 12 tabOK pureE_ok (pureOf_mono _) mixed (by decide +kernel) rfl rfl ?_
      repeat (first
    | (apply hd_go rfl rfl rfl rfl (Nat.le_of_ble_eq_true rfl); focus (intro K' hK; simp [step1, evS, est, St.ev, St.put, St.add, St.upd, look_hit, look_miss, okd, stBin, bin, binS, binB, binI, shS, shB, S.num, constS, one, inI, stUn, stNil, stLoad, stAt, stField, stIndexAddr, stStore, wrAt, stAlloc, stBox, stIndex, stPart, stPartRow, stFieldV, stConv, cvS, cvB, cvI, stSlice, optN, SV.num, noMax, stArrPtr, stExtract, stLen, stBuild, A.isRow, A.isAgg, A.noRec, A.len, A.get, A.sub, A.set, A.over, Ent.bound, Kind.isStruct, Kind.isAgg, S.known, A.solid, segAt, segPut, segLen, R.a, R.len, A.r, stMake, stBuildSlice, litA, repA, rep1, fillA, putP, sing, stMin, stEqA, rowEq, Kind.isScal, -List.reduceReplicate, -List.getD_eq_getElem?_getD, tab3, ty3, tab5, ty5, tab23, ty23, tab25, ty25, tab105, ty105, tab103, ty103, hxl, hb, hj', h, pureOf, pureE]; (repeat' apply And.intro); all_goals first | exact hK | omega))
    | (apply hd_new rfl rfl rfl rfl (Nat.le_of_ble_eq_true rfl); focus (intro K' hK; simp [step1, evS, est, St.ev, St.put, St.add, St.upd, look_hit, look_miss, okd, stBin, bin, binS, binB, binI, shS, shB, S.num, constS, one, inI, stUn, stNil, stLoad, stAt, stField, stIndexAddr, stStore, wrAt, stAlloc, stBox, stIndex, stPart, stPartRow, stFieldV, stConv, cvS, cvB, cvI, stSlice, optN, SV.num, noMax, stArrPtr, stExtract, stLen, stBuild, A.isRow, A.isAgg, A.noRec, A.len, A.get, A.sub, A.set, A.over, Ent.bound, Kind.isStruct, Kind.isAgg, S.known, A.solid, segAt, segPut, segLen, R.a, R.len, A.r, stMake, stBuildSlice, litA, repA, rep1, fillA, putP, sing, stMin, stEqA, rowEq, Kind.isScal, -List.reduceReplicate, -List.getD_eq_getElem?_getD, tab3, ty3, tab5, ty5, tab23, ty23, tab25, ty25, tab105, ty105, tab103, ty103, hxl, hb, hj', h, pureOf, pureE]; (repeat' apply And.intro); all_goals first | exact hK | omega)))
      refine hd_nil ?_
      simp only [List.map_nil, List.append_nil]
      refine ok_run hB tabOK pureE_ok 100 ?_
      repeat (first
    | rw [run_ops0]
    | rw [run_seq]
    | rw [run_region]
    | rw [run_block]
    | rw [run_blk]
    | rw [run_skip]
    | (apply run_go rfl; focus (intro L K hK; simp [step1, evS, est, St.ev, St.put, St.add, St.upd, look_hit, look_miss, okd, stBin, bin, binS, binB, binI, shS, shB, S.num, constS, one, inI, stUn, stNil, stLoad, stAt, stField, stIndexAddr, stStore, wrAt, stAlloc, stBox, stIndex, stPart, stPartRow, stFieldV, stConv, cvS, cvB, cvI, stSlice, optN, SV.num, noMax, stArrPtr, stExtract, stLen, stBuild, A.isRow, A.isAgg, A.noRec, A.len, A.get, A.sub, A.set, A.over, Ent.bound, Kind.isStruct, Kind.isAgg, S.known, A.solid, segAt, segPut, segLen, R.a, R.len, A.r, stMake, stBuildSlice, litA, repA, rep1, fillA, putP, sing, stMin, stEqA, rowEq, Kind.isScal, -List.reduceReplicate, -List.getD_eq_getElem?_getD, tab3, ty3, tab5, ty5, tab23, ty23, ntmps23, hxl, hb, hj', h]; (repeat' apply And.intro); all_goals first | exact hK | omega)))
      rw [run_back]
      refine ⟨j + 1, by omega, by omega, ?_⟩
      simp [Ent2, entSl, entM, belSl, belV, belA, belS, belR, belM, look_hit, look_miss, one, -List.getD_eq_getElem?_getD, xorIn, kmem]
    · intro h
      simp at h
      obtain rfl : j = 16 := by omega
      apply run_exit2 rfl
      repeat (first
    | rw [run_ops0]
    | rw [run_seq]
    | rw [run_region]
    | rw [run_block]
    | rw [run_blk]
    | rw [run_skip]
    | (apply run_go rfl; focus (intro L K hK; simp [step1, evS, est, St.ev, St.put, St.add, St.upd, look_hit, look_miss, okd, stBin, bin, binS, binB, binI, shS, shB, S.num, constS, one, inI, stUn, stNil, stLoad, stAt, stField, stIndexAddr, stStore, wrAt, stAlloc, stBox, stIndex, stPart, stPartRow, stFieldV, stConv, cvS, cvB, cvI, stSlice, optN, SV.num, noMax, stArrPtr, stExtract, stLen, stBuild, A.isRow, A.isAgg, A.noRec, A.len, A.get, A.sub, A.set, A.over, Ent.bound, Kind.isStruct, Kind.isAgg, S.known, A.solid, segAt, segPut, segLen, R.a, R.len, A.r, stMake, stBuildSlice, litA, repA, rep1, fillA, putP, sing, stMin, stEqA, rowEq, Kind.isScal, -List.reduceReplicate, -List.getD_eq_getElem?_getD, tab3, ty3, ntmps23]; (repeat' apply And.intro); all_goals first | exact hK | omega)))
      rw [run_loop]
      refine ok_loop (X := Nat) (fun q => ⟨[(6, one (.i (q + 1))), (0, one (.ptr 0 0 0)), (3, one (.ptr 2 0 0)), (4, one (.ptr 3 0 0))], kmem nr cap W ++ [.ent ⟨true, 23, some 16, .a8 (rounds b W nr q)⟩, .ent ⟨true, 23, some 16, .a8 zero16⟩]⟩) (fun q => q + 1 ≤ nr) (fun q => nr - q) (fun j i L h => by have := hB.anc i L h; simp [kmem] at this ⊢; omega) ⟨0, by omega, by simp [Ent2, entSl, entM, belSl, belV, belA, belS, belR, belM, look_hit, look_miss, one, -List.getD_eq_getElem?_getD, rounds, kmem, zero16]⟩ ?_
      intro q hq
      refine ok_run hB tabOK pureE_ok 100 ?_
      have hbl := rounds_len b W nr q
      have hz : zero16.length = 16 := rfl
      simp only [kmem, List.cons_append, List.nil_append]
      generalize hbq : rounds b W nr q = bq at hbl ⊢
      repeat (first
    | rw [run_ops0]
    | rw [run_seq]
    | rw [run_region]
    | rw [run_block]
    | rw [run_blk]
    | rw [run_skip]
    | (apply run_go rfl; focus (intro L K hK; simp [step1, evS, est, St.ev, St.put, St.add, St.upd, look_hit, look_miss, okd, stBin, bin, binS, binB, binI, shS, shB, S.num, constS, one, inI, stUn, stNil, stLoad, stAt, stField, stIndexAddr, stStore, wrAt, stAlloc, stBox, stIndex, stPart, stPartRow, stFieldV, stConv, cvS, cvB, cvI, stSlice, optN, SV.num, noMax, stArrPtr, stExtract, stLen, stBuild, A.isRow, A.isAgg, A.noRec, A.len, A.get, A.sub, A.set, A.over, Ent.bound, Kind.isStruct, Kind.isAgg, S.known, A.solid, segAt, segPut, segLen, R.a, R.len, A.r, stMake, stBuildSlice, litA, repA, rep1, fillA, putP, sing, stMin, stEqA, rowEq, Kind.isScal, -List.reduceReplicate, -List.getD_eq_getElem?_getD, tab3, ty3, tab105, ty105, tab103, ty103, ntmps23]; (repeat' apply And.intro); all_goals first | exact hK | omega)))
      apply run_cond2 rfl
      · intro h
        simp at h
        have hq2 : q + 1 < nr := by omega
        repeat (first
    | rw [run_ops0]
    | rw [run_seq]
    | rw [run_region]
    | rw [run_block]
    | rw [run_blk]
    | rw [run_skip]
    | (apply run_go rfl; focus (intro L K hK; simp [step1, evS, est, St.ev, St.put, St.add, St.upd, look_hit, look_miss, okd, stBin, bin, binS, binB, binI, shS, shB, S.num, constS, one, inI, stUn, stNil, stLoad, stAt, stField, stIndexAddr, stStore, wrAt, stAlloc, stBox, stIndex, stPart, stPartRow, stFieldV, stConv, cvS, cvB, cvI, stSlice, optN, SV.num, noMax, stArrPtr, stExtract, stLen, stBuild, A.isRow, A.isAgg, A.noRec, A.len, A.get, A.sub, A.set, A.over, Ent.bound, Kind.isStruct, Kind.isAgg, S.known, A.solid, segAt, segPut, segLen, R.a, R.len, A.r, stMake, stBuildSlice, litA, repA, rep1, fillA, putP, sing, stMin, stEqA, rowEq, Kind.isScal, -List.reduceReplicate, -List.getD_eq_getElem?_getD, tab3, ty3, tab23, ty23, ntmps23]; (repeat' apply And.intro); all_goals first | exact hK | omega)))
        rw [run_loop]
        refine ok_loop (X := Nat) (fun j => ⟨[(43, one (.i j)), (7, one (.ptr 4 0 0)), (6, one (.i (q + 1))), (0, one (.ptr 0 0 0)), (3, one (.ptr 2 0 0)), (4, one (.ptr 3 0 0))], kmem nr cap W ++ [.ent ⟨true, 23, some 16, .a8 bq⟩, .ent ⟨true, 23, some 16, .a8 zero16⟩, .ent ⟨true, 23, some 16, .a8 (subS bq j)⟩]⟩) (fun j => j ≤ 16) (fun j => 16 - j) (fun j i L h => by have := hB.anc i L h; simp [kmem] at this ⊢; omega) ⟨0, by omega, by simp [Ent2, entSl, entM, belSl, belV, belA, belS, belR, belM, look_hit, look_miss, one, -List.getD_eq_getElem?_getD, subS, kmem, zero16]⟩ ?_
        intro j hj
        refine ok_run hB tabOK pureE_ok 19 ?_
        simp only [kmem, List.cons_append, List.nil_append]
        have hsl := subS_len bq j
        repeat (first
    | rw [run_ops0]
    | rw [run_seq]
    | rw [run_region]
    | rw [run_block]
    | rw [run_blk]
    | rw [run_skip]
    | (apply run_go rfl; focus (intro L K hK; simp [step1, evS, est, St.ev, St.put, St.add, St.upd, look_hit, look_miss, okd, stBin, bin, binS, binB, binI, shS, shB, S.num, constS, one, inI, stUn, stNil, stLoad, stAt, stField, stIndexAddr, stStore, wrAt, stAlloc, stBox, stIndex, stPart, stPartRow, stFieldV, stConv, cvS, cvB, cvI, stSlice, optN, SV.num, noMax, stArrPtr, stExtract, stLen, stBuild, A.isRow, A.isAgg, A.noRec, A.len, A.get, A.sub, A.set, A.over, Ent.bound, Kind.isStruct, Kind.isAgg, S.known, A.solid, segAt, segPut, segLen, R.a, R.len, A.r, stMake, stBuildSlice, litA, repA, rep1, fillA, putP, sing, stMin, stEqA, rowEq, Kind.isScal, -List.reduceReplicate, -List.getD_eq_getElem?_getD, tab3, ty3, ntmps23]; (repeat' apply And.intro); all_goals first | exact hK | omega)))
        apply run_cond2 rfl
        · intro h
          simp at h
          repeat (first
    | rw [run_ops0]
    | rw [run_seq]
    | rw [run_region]
    | rw [run_block]
    | rw [run_blk]
    | rw [run_skip]
    | (apply run_go rfl; focus (intro L K hK; simp [step1, evS, est, St.ev, St.put, St.add, St.upd, look_hit, look_miss, okd, stBin, bin, binS, binB, binI, shS, shB, S.num, constS, one, inI, stUn, stNil, stLoad, stAt, stField, stIndexAddr, stStore, wrAt, stAlloc, stBox, stIndex, stPart, stPartRow, stFieldV, stConv, cvS, cvB, cvI, stSlice, optN, SV.num, noMax, stArrPtr, stExtract, stLen, stBuild, A.isRow, A.isAgg, A.noRec, A.len, A.get, A.sub, A.set, A.over, Ent.bound, Kind.isStruct, Kind.isAgg, S.known, A.solid, segAt, segPut, segLen, R.a, R.len, A.r, stMake, stBuildSlice, litA, repA, rep1, fillA, putP, sing, stMin, stEqA, rowEq, Kind.isScal, -List.reduceReplicate, -List.getD_eq_getElem?_getD, tab3, ty3, ntmps23]; (repeat' apply And.intro); all_goals first | exact hK | omega)))
          rw [run_draw]
          refine ok_draw2 11 tabOK pureE_ok (pureOf_mono _) mixed (by decide +kernel) rfl rfl ?_
          have t4 : (j : Int).tmod 4 = (j : Int) % 4 := Int.tmod_eq_emod_of_nonneg (by omega)
          have t16 : ((j : Int) + 4 * ((j : Int) % 4)).tmod 16 = ((j : Int) + 4 * ((j : Int) % 4)) % 16 := Int.tmod_eq_emod_of_nonneg (by omega)
          have hbx := boxL_len
          repeat (first
    | (apply hd_go rfl rfl rfl rfl (Nat.le_of_ble_eq_true rfl); focus (intro K' hK; simp [step1, evS, est, St.ev, St.put, St.add, St.upd, look_hit, look_miss, okd, stBin, bin, binS, binB, binI, shS, shB, S.num, constS, one, inI, stUn, stNil, stLoad, stAt, stField, stIndexAddr, stStore, wrAt, stAlloc, stBox, stIndex, stPart, stPartRow, stFieldV, stConv, cvS, cvB, cvI, stSlice, optN, SV.num, noMax, stArrPtr, stExtract, stLen, stBuild, A.isRow, A.isAgg, A.noRec, A.len, A.get, A.sub, A.set, A.over, Ent.bound, Kind.isStruct, Kind.isAgg, S.known, A.solid, segAt, segPut, segLen, R.a, R.len, A.r, stMake, stBuildSlice, litA, repA, rep1, fillA, putP, sing, stMin, stEqA, rowEq, Kind.isScal, -List.reduceReplicate, -List.getD_eq_getElem?_getD, tab3, ty3, tab5, ty5, tab23, ty23, tab100, ty100, hbl, hb, hsl, t4, t16, hbx, hlt, pureOf, pureE]; (repeat' apply And.intro); all_goals first | exact hK | omega))
    | (apply hd_new rfl rfl rfl rfl (Nat.le_of_ble_eq_true rfl); focus (intro K' hK; simp [step1, evS, est, St.ev, St.put, St.add, St.upd, look_hit, look_miss, okd, stBin, bin, binS, binB, binI, shS, shB, S.num, constS, one, inI, stUn, stNil, stLoad, stAt, stField, stIndexAddr, stStore, wrAt, stAlloc, stBox, stIndex, stPart, stPartRow, stFieldV, stConv, cvS, cvB, cvI, stSlice, optN, SV.num, noMax, stArrPtr, stExtract, stLen, stBuild, A.isRow, A.isAgg, A.noRec, A.len, A.get, A.sub, A.set, A.over, Ent.bound, Kind.isStruct, Kind.isAgg, S.known, A.solid, segAt, segPut, segLen, R.a, R.len, A.r, stMake, stBuildSlice, litA, repA, rep1, fillA, putP, sing, stMin, stEqA, rowEq, Kind.isScal, -List.reduceReplicate, -List.getD_eq_getElem?_getD, tab3, ty3, tab5, ty5, tab23, ty23, tab100, ty100, hbl, hb, hsl, t4, t16, hbx, hlt, pureOf, pureE]; (repeat' apply And.intro); all_goals first | exact hK | omega)))
          refine hd_nil ?_
          simp only [List.map_nil, List.append_nil]
          refine ok_run hB tabOK pureE_ok 100 ?_
          repeat (first
    | rw [run_ops0]
    | rw [run_seq]
    | rw [run_region]
    | rw [run_block]
    | rw [run_blk]
    | rw [run_skip]
    | (apply run_go rfl; focus (intro L K hK; simp [step1, evS, est, St.ev, St.put, St.add, St.upd, look_hit, look_miss, okd, stBin, bin, binS, binB, binI, shS, shB, S.num, constS, one, inI, stUn, stNil, stLoad, stAt, stField, stIndexAddr, stStore, wrAt, stAlloc, stBox, stIndex, stPart, stPartRow, stFieldV, stConv, cvS, cvB, cvI, stSlice, optN, SV.num, noMax, stArrPtr, stExtract, stLen, stBuild, A.isRow, A.isAgg, A.noRec, A.len, A.get, A.sub, A.set, A.over, Ent.bound, Kind.isStruct, Kind.isAgg, S.known, A.solid, segAt, segPut, segLen, R.a, R.len, A.r, stMake, stBuildSlice, litA, repA, rep1, fillA, putP, sing, stMin, stEqA, rowEq, Kind.isScal, -List.reduceReplicate, -List.getD_eq_getElem?_getD, tab3, ty3, tab5, ty5, tab23, ty23, ntmps23, hsl]; (repeat' apply And.intro); all_goals first | exact hK | omega)))
          rw [run_back]
          refine ⟨j + 1, by omega, by omega, ?_⟩
          simp [Ent2, entSl, entM, belSl, belV, belA, belS, belR, belM, look_hit, look_miss, one, -List.getD_eq_getElem?_getD, subS, kmem]
        · intro h
          simp at h
          obtain rfl : j = 16 := by omega
          apply run_exit2 rfl
          repeat (first
    | rw [run_ops0]
    | rw [run_seq]
    | rw [run_region]
    | rw [run_block]
    | rw [run_blk]
    | rw [run_skip]
    | (apply run_go rfl; focus (intro L K hK; simp [step1, evS, est, St.ev, St.put, St.add, St.upd, look_hit, look_miss, okd, stBin, bin, binS, binB, binI, shS, shB, S.num, constS, one, inI, stUn, stNil, stLoad, stAt, stField, stIndexAddr, stStore, wrAt, stAlloc, stBox, stIndex, stPart, stPartRow, stFieldV, stConv, cvS, cvB, cvI, stSlice, optN, SV.num, noMax, stArrPtr, stExtract, stLen, stBuild, A.isRow, A.isAgg, A.noRec, A.len, A.get, A.sub, A.set, A.over, Ent.bound, Kind.isStruct, Kind.isAgg, S.known, A.solid, segAt, segPut, segLen, R.a, R.len, A.r, stMake, stBuildSlice, litA, repA, rep1, fillA, putP, sing, stMin, stEqA, rowEq, Kind.isScal, -List.reduceReplicate, -List.getD_eq_getElem?_getD, tab3, ty3, tab105, ty105, tab103, ty103, ntmps23]; (repeat' apply And.intro); all_goals first | exact hK | omega)))
          rw [run_zero]
          have hsl16 := subS_len bq 16
          generalize hsq : subS bq 16 = sq at hsl16 ⊢
          refine ok_join (X := B8) (fun s => ⟨[(7, one (.ptr 4 0 0)), (6, one (.i (q + 1))), (0, one (.ptr 0 0 0)), (3, one (.ptr 2 0 0)), (4, one (.ptr 3 0 0))], kmem nr cap W ++ [.ent ⟨true, 23, some 16, .a8 bq⟩, .ent ⟨true, 23, some 16, .a8 zero16⟩, .ent ⟨true, 23, some 16, .a8 s⟩]⟩) (fun s => s = if q + 1 + 1 < nr then mixS sq 4 else sq) (fun s i L h => by have := hB.anc i L h; simp [kmem] at this ⊢; omega) ?_ ?_
          · refine ok_run hB tabOK pureE_ok 100 ?_
            apply run_cond2 rfl
            · intro h
              simp at h
              have hq3 : q + 1 + 1 < nr := by omega
              repeat (first
    | rw [run_ops0]
    | rw [run_seq]
    | rw [run_region]
    | rw [run_block]
    | rw [run_blk]
    | rw [run_skip]
    | (apply run_go rfl; focus (intro L K hK; simp [step1, evS, est, St.ev, St.put, St.add, St.upd, look_hit, look_miss, okd, stBin, bin, binS, binB, binI, shS, shB, S.num, constS, one, inI, stUn, stNil, stLoad, stAt, stField, stIndexAddr, stStore, wrAt, stAlloc, stBox, stIndex, stPart, stPartRow, stFieldV, stConv, cvS, cvB, cvI, stSlice, optN, SV.num, noMax, stArrPtr, stExtract, stLen, stBuild, A.isRow, A.isAgg, A.noRec, A.len, A.get, A.sub, A.set, A.over, Ent.bound, Kind.isStruct, Kind.isAgg, S.known, A.solid, segAt, segPut, segLen, R.a, R.len, A.r, stMake, stBuildSlice, litA, repA, rep1, fillA, putP, sing, stMin, stEqA, rowEq, Kind.isScal, -List.reduceReplicate, -List.getD_eq_getElem?_getD, tab3, ty3, ntmps23]; (repeat' apply And.intro); all_goals first | exact hK | omega)))
              rw [run_loop]
              refine ok_loop (X := Nat) (fun k => ⟨[(9, one (.i (4 * k : Nat))), (7, one (.ptr 4 0 0)), (6, one (.i (q + 1))), (0, one (.ptr 0 0 0)), (3, one (.ptr 2 0 0)), (4, one (.ptr 3 0 0))], kmem nr cap W ++ [.ent ⟨true, 23, some 16, .a8 bq⟩, .ent ⟨true, 23, some 16, .a8 zero16⟩, .ent ⟨true, 23, some 16, .a8 (mixS sq k)⟩]⟩) (fun k => k ≤ 4) (fun k => 4 - k) (fun j i L h => by have := hB.anc i L h; simp [kmem] at this ⊢; omega) ⟨0, by omega, by simp [Ent2, entSl, entM, belSl, belV, belA, belS, belR, belM, look_hit, look_miss, one, -List.getD_eq_getElem?_getD, mixS, kmem]⟩ ?_
              intro c hc
              refine ok_run hB tabOK pureE_ok 100 ?_
              simp only [kmem, List.cons_append, List.nil_append]
              have hml := mixS_len sq c
              repeat (first
    | rw [run_ops0]
    | rw [run_seq]
    | rw [run_region]
    | rw [run_block]
    | rw [run_blk]
    | rw [run_skip]
    | (apply run_go rfl; focus (intro L K hK; simp [step1, evS, est, St.ev, St.put, St.add, St.upd, look_hit, look_miss, okd, stBin, bin, binS, binB, binI, shS, shB, S.num, constS, one, inI, stUn, stNil, stLoad, stAt, stField, stIndexAddr, stStore, wrAt, stAlloc, stBox, stIndex, stPart, stPartRow, stFieldV, stConv, cvS, cvB, cvI, stSlice, optN, SV.num, noMax, stArrPtr, stExtract, stLen, stBuild, A.isRow, A.isAgg, A.noRec, A.len, A.get, A.sub, A.set, A.over, Ent.bound, Kind.isStruct, Kind.isAgg, S.known, A.solid, segAt, segPut, segLen, R.a, R.len, A.r, stMake, stBuildSlice, litA, repA, rep1, fillA, putP, sing, stMin, stEqA, rowEq, Kind.isScal, -List.reduceReplicate, -List.getD_eq_getElem?_getD, tab3, ty3, ntmps23]; (repeat' apply And.intro); all_goals first | exact hK | omega)))
              apply run_cond2 rfl
              · intro h
                simp at h
                have hc4 : c < 4 := by omega
                have e4 : (4 * (c : Int)).toNat = 4 * c := by omega
                repeat (first
    | rw [run_ops0]
    | rw [run_seq]
    | rw [run_region]
    | rw [run_block]
    | rw [run_blk]
    | rw [run_skip]
    | (apply run_go rfl; focus (intro L K hK; simp [step1, evS, est, St.ev, St.put, St.add, St.upd, look_hit, look_miss, okd, stBin, bin, binS, binB, binI, shS, shB, S.num, constS, one, inI, stUn, stNil, stLoad, stAt, stField, stIndexAddr, stStore, wrAt, stAlloc, stBox, stIndex, stPart, stPartRow, stFieldV, stConv, cvS, cvB, cvI, stSlice, optN, SV.num, noMax, stArrPtr, stExtract, stLen, stBuild, A.isRow, A.isAgg, A.noRec, A.len, A.get, A.sub, A.set, A.over, Ent.bound, Kind.isStruct, Kind.isAgg, S.known, A.solid, segAt, segPut, segLen, R.a, R.len, A.r, stMake, stBuildSlice, litA, repA, rep1, fillA, putP, sing, stMin, stEqA, rowEq, Kind.isScal, -List.reduceReplicate, -List.getD_eq_getElem?_getD, tab3, ty3, tab5, ty5, tab23, ty23, tab22, ty22, tab99, ty99, ntmps23, hml, hsl16, e4]; (repeat' apply And.intro); all_goals first | exact hK | omega)))
                rw [run_loop]
                have hxx : (((mixS sq c).drop (4 * c)).take 4).length = 4 := by simp [hml, hsl16]; omega
                have hmix : mixS sq (c + 1) = mixIn (((mixS sq c).drop (4 * c)).take 4) (allOf (((mixS sq c).drop (4 * c)).take 4)) (mixS sq c) (4 * c) 4 := rfl
                generalize ((mixS sq c).drop (4 * c)).take 4 = x at hxx hmix ⊢
                generalize mixS sq c = sc at hml hmix ⊢
                refine ok_loop (X := Nat) (fun i => ⟨[(86, one (.i i)), (10, one (.ptr 5 0 0)), (11, one (.u8 (allOf x))), (9, one (.i (4 * c : Nat))), (7, one (.ptr 4 0 0)), (6, one (.i (q + 1))), (0, one (.ptr 0 0 0)), (3, one (.ptr 2 0 0)), (4, one (.ptr 3 0 0))], kmem nr cap W ++ [.ent ⟨true, 23, some 16, .a8 bq⟩, .ent ⟨true, 23, some 16, .a8 zero16⟩, .ent ⟨true, 23, some 16, .a8 (mixIn x (allOf x) sc (4 * c) i)⟩, .ent ⟨true, 99, some 4, .a8 x⟩]⟩) (fun i => i ≤ 4) (fun i => 4 - i) (fun j i L h => by have := hB.anc i L h; simp [kmem] at this ⊢; omega) ⟨0, by omega, by simp [Ent2, entSl, entM, belSl, belV, belA, belS, belR, belM, look_hit, look_miss, one, -List.getD_eq_getElem?_getD, mixIn, kmem, allOf]⟩ ?_
                intro i hi
                refine ok_run hB tabOK pureE_ok 100 ?_
                simp only [kmem, List.cons_append, List.nil_append]
                have hil := mixIn_len x (allOf x) sc (4 * c) i
                repeat (first
    | rw [run_ops0]
    | rw [run_seq]
    | rw [run_region]
    | rw [run_block]
    | rw [run_blk]
    | rw [run_skip]
    | (apply run_go rfl; focus (intro L K hK; simp [step1, evS, est, St.ev, St.put, St.add, St.upd, look_hit, look_miss, okd, stBin, bin, binS, binB, binI, shS, shB, S.num, constS, one, inI, stUn, stNil, stLoad, stAt, stField, stIndexAddr, stStore, wrAt, stAlloc, stBox, stIndex, stPart, stPartRow, stFieldV, stConv, cvS, cvB, cvI, stSlice, optN, SV.num, noMax, stArrPtr, stExtract, stLen, stBuild, A.isRow, A.isAgg, A.noRec, A.len, A.get, A.sub, A.set, A.over, Ent.bound, Kind.isStruct, Kind.isAgg, S.known, A.solid, segAt, segPut, segLen, R.a, R.len, A.r, stMake, stBuildSlice, litA, repA, rep1, fillA, putP, sing, stMin, stEqA, rowEq, Kind.isScal, -List.reduceReplicate, -List.getD_eq_getElem?_getD, tab3, ty3, ntmps23]; (repeat' apply And.intro); all_goals first | exact hK | omega)))
                apply run_cond2 rfl
                · intro h
                  simp at h
                  repeat (first
    | rw [run_ops0]
    | rw [run_seq]
    | rw [run_region]
    | rw [run_block]
    | rw [run_blk]
    | rw [run_skip]
    | (apply run_go rfl; focus (intro L K hK; simp [step1, evS, est, St.ev, St.put, St.add, St.upd, look_hit, look_miss, okd, stBin, bin, binS, binB, binI, shS, shB, S.num, constS, one, inI, stUn, stNil, stLoad, stAt, stField, stIndexAddr, stStore, wrAt, stAlloc, stBox, stIndex, stPart, stPartRow, stFieldV, stConv, cvS, cvB, cvI, stSlice, optN, SV.num, noMax, stArrPtr, stExtract, stLen, stBuild, A.isRow, A.isAgg, A.noRec, A.len, A.get, A.sub, A.set, A.over, Ent.bound, Kind.isStruct, Kind.isAgg, S.known, A.solid, segAt, segPut, segLen, R.a, R.len, A.r, stMake, stBuildSlice, litA, repA, rep1, fillA, putP, sing, stMin, stEqA, rowEq, Kind.isScal, -List.reduceReplicate, -List.getD_eq_getElem?_getD, tab3, ty3, ntmps23]; (repeat' apply And.intro); all_goals first | exact hK | omega)))
                  rw [run_draw]
                  refine ok_draw2 19 tabOK pureE_ok (pureOf_mono _) mixed (by decide +kernel) rfl rfl ?_
                  have t4 : ((i : Int) + 1).tmod 4 = ((i : Int) + 1) % 4 := Int.tmod_eq_emod_of_nonneg (by omega)
                  have e5 : (((i : Int) + 1) % 4).toNat = (i + 1) % 4 := by omega
                  have e6 : (4 * (c : Int) + i).toNat = 4 * c + i := by omega
                  repeat (first
    | (apply hd_go rfl rfl rfl rfl (Nat.le_of_ble_eq_true rfl); focus (intro K' hK; simp [step1, evS, est, St.ev, St.put, St.add, St.upd, look_hit, look_miss, okd, stBin, bin, binS, binB, binI, shS, shB, S.num, constS, one, inI, stUn, stNil, stLoad, stAt, stField, stIndexAddr, stStore, wrAt, stAlloc, stBox, stIndex, stPart, stPartRow, stFieldV, stConv, cvS, cvB, cvI, stSlice, optN, SV.num, noMax, stArrPtr, stExtract, stLen, stBuild, A.isRow, A.isAgg, A.noRec, A.len, A.get, A.sub, A.set, A.over, Ent.bound, Kind.isStruct, Kind.isAgg, S.known, A.solid, segAt, segPut, segLen, R.a, R.len, A.r, stMake, stBuildSlice, litA, repA, rep1, fillA, putP, sing, stMin, stEqA, rowEq, Kind.isScal, -List.reduceReplicate, -List.getD_eq_getElem?_getD, tab3, ty3, tab5, ty5, tab99, ty99, hxx, t4, e5, h, pureOf, pureE]; (repeat' apply And.intro); all_goals first | exact hK | omega))
    | (apply hd_new rfl rfl rfl rfl (Nat.le_of_ble_eq_true rfl); focus (intro K' hK; simp [step1, evS, est, St.ev, St.put, St.add, St.upd, look_hit, look_miss, okd, stBin, bin, binS, binB, binI, shS, shB, S.num, constS, one, inI, stUn, stNil, stLoad, stAt, stField, stIndexAddr, stStore, wrAt, stAlloc, stBox, stIndex, stPart, stPartRow, stFieldV, stConv, cvS, cvB, cvI, stSlice, optN, SV.num, noMax, stArrPtr, stExtract, stLen, stBuild, A.isRow, A.isAgg, A.noRec, A.len, A.get, A.sub, A.set, A.over, Ent.bound, Kind.isStruct, Kind.isAgg, S.known, A.solid, segAt, segPut, segLen, R.a, R.len, A.r, stMake, stBuildSlice, litA, repA, rep1, fillA, putP, sing, stMin, stEqA, rowEq, Kind.isScal, -List.reduceReplicate, -List.getD_eq_getElem?_getD, tab3, ty3, tab5, ty5, tab99, ty99, hxx, t4, e5, h, pureOf, pureE]; (repeat' apply And.intro); all_goals first | exact hK | omega)))
                  refine hd_nil ?_
                  simp only [List.map_nil, List.append_nil]
                  refine ok_run hB tabOK pureE_ok 100 ?_
                  repeat (first
    | rw [run_ops0]
    | rw [run_seq]
    | rw [run_region]
    | rw [run_block]
    | rw [run_blk]
    | rw [run_skip]
    | (apply run_go rfl; focus (intro L K hK; simp [step1, evS, est, St.ev, St.put, St.add, St.upd, look_hit, look_miss, okd, stBin, bin, binS, binB, binI, shS, shB, S.num, constS, one, inI, stUn, stNil, stLoad, stAt, stField, stIndexAddr, stStore, wrAt, stAlloc, stBox, stIndex, stPart, stPartRow, stFieldV, stConv, cvS, cvB, cvI, stSlice, optN, SV.num, noMax, stArrPtr, stExtract, stLen, stBuild, A.isRow, A.isAgg, A.noRec, A.len, A.get, A.sub, A.set, A.over, Ent.bound, Kind.isStruct, Kind.isAgg, S.known, A.solid, segAt, segPut, segLen, R.a, R.len, A.r, stMake, stBuildSlice, litA, repA, rep1, fillA, putP, sing, stMin, stEqA, rowEq, Kind.isScal, -List.reduceReplicate, -List.getD_eq_getElem?_getD, tab3, ty3, tab5, ty5, tab23, ty23, ntmps23, hil, hml, hsl16, e6]; (repeat' apply And.intro); all_goals first | exact hK | omega)))
                  rw [run_back]
                  refine ⟨i + 1, by omega, by omega, ?_⟩
                  simp [Ent2, entSl, entM, belSl, belV, belA, belS, belR, belM, look_hit, look_miss, one, -List.getD_eq_getElem?_getD, mixIn, kmem, twice8]
                · intro h
                  simp at h
                  obtain rfl : i = 4 := by omega
                  apply run_exit2 rfl
                  repeat (first
    | rw [run_ops0]
    | rw [run_seq]
    | rw [run_region]
    | rw [run_block]
    | rw [run_blk]
    | rw [run_skip]
    | (apply run_go rfl; focus (intro L K hK; simp [step1, evS, est, St.ev, St.put, St.add, St.upd, look_hit, look_miss, okd, stBin, bin, binS, binB, binI, shS, shB, S.num, constS, one, inI, stUn, stNil, stLoad, stAt, stField, stIndexAddr, stStore, wrAt, stAlloc, stBox, stIndex, stPart, stPartRow, stFieldV, stConv, cvS, cvB, cvI, stSlice, optN, SV.num, noMax, stArrPtr, stExtract, stLen, stBuild, A.isRow, A.isAgg, A.noRec, A.len, A.get, A.sub, A.set, A.over, Ent.bound, Kind.isStruct, Kind.isAgg, S.known, A.solid, segAt, segPut, segLen, R.a, R.len, A.r, stMake, stBuildSlice, litA, repA, rep1, fillA, putP, sing, stMin, stEqA, rowEq, Kind.isScal, -List.reduceReplicate, -List.getD_eq_getElem?_getD, tab3, ty3, ntmps23]; (repeat' apply And.intro); all_goals first | exact hK | omega)))
                  rw [run_back]
                  refine ⟨c + 1, by omega, by omega, ?_⟩
                  rw [hmix]
                  simp [Ent2, entSl, entM, belSl, belV, belA, belS, belR, belM, look_hit, look_miss, one, -List.getD_eq_getElem?_getD, kmem]
                  omega
              · intro h
                simp at h
                obtain rfl : c = 4 := by omega
                apply run_exit2 rfl
                repeat (first
    | rw [run_ops0]
    | rw [run_seq]
    | rw [run_region]
    | rw [run_block]
    | rw [run_blk]
    | rw [run_skip]
    | (apply run_go rfl; focus (intro L K hK; simp [step1, evS, est, St.ev, St.put, St.add, St.upd, look_hit, look_miss, okd, stBin, bin, binS, binB, binI, shS, shB, S.num, constS, one, inI, stUn, stNil, stLoad, stAt, stField, stIndexAddr, stStore, wrAt, stAlloc, stBox, stIndex, stPart, stPartRow, stFieldV, stConv, cvS, cvB, cvI, stSlice, optN, SV.num, noMax, stArrPtr, stExtract, stLen, stBuild, A.isRow, A.isAgg, A.noRec, A.len, A.get, A.sub, A.set, A.over, Ent.bound, Kind.isStruct, Kind.isAgg, S.known, A.solid, segAt, segPut, segLen, R.a, R.len, A.r, stMake, stBuildSlice, litA, repA, rep1, fillA, putP, sing, stMin, stEqA, rowEq, Kind.isScal, -List.reduceReplicate, -List.getD_eq_getElem?_getD, tab3, ty3, ntmps23]; (repeat' apply And.intro); all_goals first | exact hK | omega)))
                rw [run_back]
                refine ⟨mixS sq 4, by rw [if_pos hq3], ?_⟩
                simp [Ent2, entSl, entM, belSl, belV, belA, belS, belR, belM, look_hit, look_miss, one, -List.getD_eq_getElem?_getD, kmem]
            · intro h
              simp at h
              have hq3 : ¬ q + 1 + 1 < nr := by omega
              repeat (first
    | rw [run_ops0]
    | rw [run_seq]
    | rw [run_region]
    | rw [run_block]
    | rw [run_blk]
    | rw [run_skip]
    | (apply run_go rfl; focus (intro L K hK; simp [step1, evS, est, St.ev, St.put, St.add, St.upd, look_hit, look_miss, okd, stBin, bin, binS, binB, binI, shS, shB, S.num, constS, one, inI, stUn, stNil, stLoad, stAt, stField, stIndexAddr, stStore, wrAt, stAlloc, stBox, stIndex, stPart, stPartRow, stFieldV, stConv, cvS, cvB, cvI, stSlice, optN, SV.num, noMax, stArrPtr, stExtract, stLen, stBuild, A.isRow, A.isAgg, A.noRec, A.len, A.get, A.sub, A.set, A.over, Ent.bound, Kind.isStruct, Kind.isAgg, S.known, A.solid, segAt, segPut, segLen, R.a, R.len, A.r, stMake, stBuildSlice, litA, repA, rep1, fillA, putP, sing, stMin, stEqA, rowEq, Kind.isScal, -List.reduceReplicate, -List.getD_eq_getElem?_getD, tab3, ty3, ntmps23]; (repeat' apply And.intro); all_goals first | exact hK | omega)))
              rw [run_back]
              refine ⟨sq, by rw [if_neg hq3], ?_⟩
              simp [Ent2, entSl, entM, belSl, belV, belA, belS, belR, belM, look_hit, look_miss, one, -List.getD_eq_getElem?_getD, kmem]
          · intro s hs
            have hsl3 : s.length = 16 := by
              subst hs
              split
              · rw [mixS_len, hsl16]
              · exact hsl16
            refine ok_run hB tabOK pureE_ok 100 ?_
            simp only [kmem, List.cons_append, List.nil_append]
            repeat (first
    | rw [run_ops0]
    | rw [run_seq]
    | rw [run_region]
    | rw [run_block]
    | rw [run_blk]
    | rw [run_skip]
    | (apply run_go rfl; focus (intro L K hK; simp [step1, evS, est, St.ev, St.put, St.add, St.upd, look_hit, look_miss, okd, stBin, bin, binS, binB, binI, shS, shB, S.num, constS, one, inI, stUn, stNil, stLoad, stAt, stField, stIndexAddr, stStore, wrAt, stAlloc, stBox, stIndex, stPart, stPartRow, stFieldV, stConv, cvS, cvB, cvI, stSlice, optN, SV.num, noMax, stArrPtr, stExtract, stLen, stBuild, A.isRow, A.isAgg, A.noRec, A.len, A.get, A.sub, A.set, A.over, Ent.bound, Kind.isStruct, Kind.isAgg, S.known, A.solid, segAt, segPut, segLen, R.a, R.len, A.r, stMake, stBuildSlice, litA, repA, rep1, fillA, putP, sing, stMin, stEqA, rowEq, Kind.isScal, -List.reduceReplicate, -List.getD_eq_getElem?_getD, tab3, ty3, ntmps23]; (repeat' apply And.intro); all_goals first | exact hK | omega)))
            rw [run_loop]
            refine ok_loop (X := Nat) (fun j => ⟨[(110, one (.i j)), (7, one (.ptr 4 0 0)), (6, one (.i (q + 1))), (0, one (.ptr 0 0 0)), (3, one (.ptr 2 0 0)), (4, one (.ptr 3 0 0))], kmem nr cap W ++ [.ent ⟨true, 23, some 16, .a8 (xorAt bq s W (16 * (q + 1)) j)⟩, .ent ⟨true, 23, some 16, .a8 zero16⟩, .ent ⟨true, 23, some 16, .a8 s⟩]⟩) (fun j => j ≤ 16) (fun j => 16 - j) (fun j i L h => by have := hB.anc i L h; simp [kmem] at this ⊢; omega) ⟨0, by omega, by simp [Ent2, entSl, entM, belSl, belV, belA, belS, belR, belM, look_hit, look_miss, one, -List.getD_eq_getElem?_getD, xorAt, kmem]⟩ ?_
            intro j hj
            refine ok_run hB tabOK pureE_ok 100 ?_
            simp only [kmem, List.cons_append, List.nil_append]
            have hxl := xorAt_len bq s W (16 * (q + 1)) j
            repeat (first
    | rw [run_ops0]
    | rw [run_seq]
    | rw [run_region]
    | rw [run_block]
    | rw [run_blk]
    | rw [run_skip]
    | (apply run_go rfl; focus (intro L K hK; simp [step1, evS, est, St.ev, St.put, St.add, St.upd, look_hit, look_miss, okd, stBin, bin, binS, binB, binI, shS, shB, S.num, constS, one, inI, stUn, stNil, stLoad, stAt, stField, stIndexAddr, stStore, wrAt, stAlloc, stBox, stIndex, stPart, stPartRow, stFieldV, stConv, cvS, cvB, cvI, stSlice, optN, SV.num, noMax, stArrPtr, stExtract, stLen, stBuild, A.isRow, A.isAgg, A.noRec, A.len, A.get, A.sub, A.set, A.over, Ent.bound, Kind.isStruct, Kind.isAgg, S.known, A.solid, segAt, segPut, segLen, R.a, R.len, A.r, stMake, stBuildSlice, litA, repA, rep1, fillA, putP, sing, stMin, stEqA, rowEq, Kind.isScal, -List.reduceReplicate, -List.getD_eq_getElem?_getD, tab3, ty3, ntmps23]; (repeat' apply And.intro); all_goals first | exact hK | omega)))
            apply run_cond2 rfl
            · intro h
              simp at h
              repeat (first
    | rw [run_ops0]
    | rw [run_seq]
    | rw [run_region]
    | rw [run_block]
    | rw [run_blk]
    | rw [run_skip]
    | (apply run_go rfl; focus (intro L K hK; simp [step1, evS, est, St.ev, St.put, St.add, St.upd, look_hit, look_miss, okd, stBin, bin, binS, binB, binI, shS, shB, S.num, constS, one, inI, stUn, stNil, stLoad, stAt, stField, stIndexAddr, stStore, wrAt, stAlloc, stBox, stIndex, stPart, stPartRow, stFieldV, stConv, cvS, cvB, cvI, stSlice, optN, SV.num, noMax, stArrPtr, stExtract, stLen, stBuild, A.isRow, A.isAgg, A.noRec, A.len, A.get, A.sub, A.set, A.over, Ent.bound, Kind.isStruct, Kind.isAgg, S.known, A.solid, segAt, segPut, segLen, R.a, R.len, A.r, stMake, stBuildSlice, litA, repA, rep1, fillA, putP, sing, stMin, stEqA, rowEq, Kind.isScal, -List.reduceReplicate, -List.getD_eq_getElem?_getD, tab3, ty3, ntmps23]; (repeat' apply And.intro); all_goals first | exact hK | omega)))
              rw [run_draw]
              refine ok_draw2 14 tabOK pureE_ok (pureOf_mono _) mixed (by decide +kernel) rfl rfl ?_
              repeat (first
    | (apply hd_go rfl rfl rfl rfl (Nat.le_of_ble_eq_true rfl); focus (intro K' hK; simp [step1, evS, est, St.ev, St.put, St.add, St.upd, look_hit, look_miss, okd, stBin, bin, binS, binB, binI, shS, shB, S.num, constS, one, inI, stUn, stNil, stLoad, stAt, stField, stIndexAddr, stStore, wrAt, stAlloc, stBox, stIndex, stPart, stPartRow, stFieldV, stConv, cvS, cvB, cvI, stSlice, optN, SV.num, noMax, stArrPtr, stExtract, stLen, stBuild, A.isRow, A.isAgg, A.noRec, A.len, A.get, A.sub, A.set, A.over, Ent.bound, Kind.isStruct, Kind.isAgg, S.known, A.solid, segAt, segPut, segLen, R.a, R.len, A.r, stMake, stBuildSlice, litA, repA, rep1, fillA, putP, sing, stMin, stEqA, rowEq, Kind.isScal, -List.reduceReplicate, -List.getD_eq_getElem?_getD, tab3, ty3, tab5, ty5, tab23, ty23, tab25, ty25, tab105, ty105, tab103, ty103, hxl, hbl, hb, hsl3, h]; (repeat' apply And.intro); all_goals first | exact hK | omega))
    | (apply hd_new rfl rfl rfl rfl (Nat.le_of_ble_eq_true rfl); focus (intro K' hK; simp [step1, evS, est, St.ev, St.put, St.add, St.upd, look_hit, look_miss, okd, stBin, bin, binS, binB, binI, shS, shB, S.num, constS, one, inI, stUn, stNil, stLoad, stAt, stField, stIndexAddr, stStore, wrAt, stAlloc, stBox, stIndex, stPart, stPartRow, stFieldV, stConv, cvS, cvB, cvI, stSlice, optN, SV.num, noMax, stArrPtr, stExtract, stLen, stBuild, A.isRow, A.isAgg, A.noRec, A.len, A.get, A.sub, A.set, A.over, Ent.bound, Kind.isStruct, Kind.isAgg, S.known, A.solid, segAt, segPut, segLen, R.a, R.len, A.r, stMake, stBuildSlice, litA, repA, rep1, fillA, putP, sing, stMin, stEqA, rowEq, Kind.isScal, -List.reduceReplicate, -List.getD_eq_getElem?_getD, tab3, ty3, tab5, ty5, tab23, ty23, tab25, ty25, tab105, ty105, tab103, ty103, hxl, hbl, hb, hsl3, h]; (repeat' apply And.intro); all_goals first | exact hK | omega)))
              refine hd_nil ?_
              simp only [List.map_nil, List.append_nil]
              refine ok_run hB tabOK pureE_ok 100 ?_
              repeat (first
    | rw [run_ops0]
    | rw [run_seq]
    | rw [run_region]
    | rw [run_block]
    | rw [run_blk]
    | rw [run_skip]
    | (apply run_go rfl; focus (intro L K hK; simp [step1, evS, est, St.ev, St.put, St.add, St.upd, look_hit, look_miss, okd, stBin, bin, binS, binB, binI, shS, shB, S.num, constS, one, inI, stUn, stNil, stLoad, stAt, stField, stIndexAddr, stStore, wrAt, stAlloc, stBox, stIndex, stPart, stPartRow, stFieldV, stConv, cvS, cvB, cvI, stSlice, optN, SV.num, noMax, stArrPtr, stExtract, stLen, stBuild, A.isRow, A.isAgg, A.noRec, A.len, A.get, A.sub, A.set, A.over, Ent.bound, Kind.isStruct, Kind.isAgg, S.known, A.solid, segAt, segPut, segLen, R.a, R.len, A.r, stMake, stBuildSlice, litA, repA, rep1, fillA, putP, sing, stMin, stEqA, rowEq, Kind.isScal, -List.reduceReplicate, -List.getD_eq_getElem?_getD, tab3, ty3, tab5, ty5, tab23, ty23, ntmps23, hxl, hbl, hb]; (repeat' apply And.intro); all_goals first | exact hK | omega)))
              rw [run_back]
              refine ⟨j + 1, by omega, by omega, ?_⟩
              simp [Ent2, entSl, entM, belSl, belV, belA, belS, belR, belM, look_hit, look_miss, one, -List.getD_eq_getElem?_getD, xorAt, kmem]
              rw [Nat.mul_comm 16 (q + 1)]
            · intro h
              simp at h
              obtain rfl : j = 16 := by omega
              apply run_exit2 rfl
              repeat (first
    | rw [run_ops0]
    | rw [run_seq]
    | rw [run_region]
    | rw [run_block]
    | rw [run_blk]
    | rw [run_skip]
    | (apply run_go rfl; focus (intro L K hK; simp [step1, evS, est, St.ev, St.put, St.add, St.upd, look_hit, look_miss, okd, stBin, bin, binS, binB, binI, shS, shB, S.num, constS, one, inI, stUn, stNil, stLoad, stAt, stField, stIndexAddr, stStore, wrAt, stAlloc, stBox, stIndex, stPart, stPartRow, stFieldV, stConv, cvS, cvB, cvI, stSlice, optN, SV.num, noMax, stArrPtr, stExtract, stLen, stBuild, A.isRow, A.isAgg, A.noRec, A.len, A.get, A.sub, A.set, A.over, Ent.bound, Kind.isStruct, Kind.isAgg, S.known, A.solid, segAt, segPut, segLen, R.a, R.len, A.r, stMake, stBuildSlice, litA, repA, rep1, fillA, putP, sing, stMin, stEqA, rowEq, Kind.isScal, -List.reduceReplicate, -List.getD_eq_getElem?_getD, tab3, ty3, ntmps23]; (repeat' apply And.intro); all_goals first | exact hK | omega)))
              rw [run_back]
              refine ⟨q + 1, by omega, by omega, ?_⟩
              simp [Ent2, entSl, entM, belSl, belV, belA, belS, belR, belM, look_hit, look_miss, one, -List.getD_eq_getElem?_getD, kmem, rounds, oneRound, hbq, hsq, hs]
      · intro h
        simp at h
        obtain rfl : nr = q + 1 := by omega
        apply run_exit2 rfl
        subst hbq
        repeat (first
    | rw [run_ops0]
    | rw [run_seq]
    | rw [run_region]
    | rw [run_block]
    | rw [run_blk]
    | rw [run_skip]
    | (apply run_go rfl; focus (intro L K hK; simp [step1, evS, est, St.ev, St.put, St.add, St.upd, look_hit, look_miss, okd, stBin, bin, binS, binB, binI, shS, shB, S.num, constS, one, inI, stUn, stNil, stLoad, stAt, stField, stIndexAddr, stStore, wrAt, stAlloc, stBox, stIndex, stPart, stPartRow, stFieldV, stConv, cvS, cvB, cvI, stSlice, optN, SV.num, noMax, stArrPtr, stExtract, stLen, stBuild, A.isRow, A.isAgg, A.noRec, A.len, A.get, A.sub, A.set, A.over, Ent.bound, Kind.isStruct, Kind.isAgg, S.known, A.solid, segAt, segPut, segLen, R.a, R.len, A.r, stMake, stBuildSlice, litA, repA, rep1, fillA, putP, sing, stMin, stEqA, rowEq, Kind.isScal, -List.reduceReplicate, -List.getD_eq_getElem?_getD, tab3, ty3, tab23, ty23, ntmps23, hbl, hz, hb]; (repeat' apply And.intro); all_goals first | exact hK | omega)))
        rw [run_ret]
        simp [finOf, resP, resV, extraOwn, look_hit, look_miss, one, -List.reduceReplicate, -List.getD_eq_getElem?_getD, stLoad, stAt, Ent.bound, A.len, A.isRow, A.isAgg, results23, f23, tab23, ty23, hbl, hb]
end Go.V
