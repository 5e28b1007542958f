/- The law GcmOpens returns true for every input, and writes nothing that was there. No condition. -/
import Derived.Test.YtlnoehpjchglnaaRows
import Derived.Test.YtlnoehpjchglnaaPf
import Derived.Test.YtlnoehpjchglnaaMjg
import Derived.WalkKit
import Derived.ProofKit
import Derived.OpenShut
import Derived.ShutString
import Derived.ChangeOld
import Derived.Below
namespace Go.Proofs.Ytlnoehpjchglnaa.gcmOpensDone
open Go.ChangeShapes Go.WideShapes Go.ChangeAt Go.RowKit
open Go.ChangeMaps (open_string shut_string)
open Go.V (open_row8 open_arr8 row_bytes den_arr8 calls_of_spec spec10)
set_option linter.unusedVariables false
set_option linter.unusedSimpArgs false
set_option maxRecDepth 100000 in
theorem lifted (os : Os) (started : os.Started) (H : Type) (enc : TypeId × Value → H) :
    ReturnsInHanded {} Try.checked os 10 .any (Rows.gcmOpensSpec.pre6 enc Try.prog Try.f10 Rows.gcmOpensRow.domain false) (Rows.gcmOpensSpec.post enc Try.prog Try.f10 false true false false) := by
  refine returnsInHanded_of_change_sized (C := Try.checked) f_own started (by kernel_rfl) Try.func10
    (ChangeSpec.witness6 (enc := enc) (C := Try.checked) false ⟨#[], #[.agg #[.slice none 0 0, .slice none 0 0, .slice none 0 0, .slice none 0 0], .slice none 0 0, .int .i64 0], []⟩ 8 (by kernel_rfl) (by kernel_rfl) (by kernel_rfl) (by kernel_rfl)) ?_
  intro W base args ds gs before hval0 hW hcnd hsz _
  have hval : ∀ (j : Nat) t v, Try.f10.params[j]? = some t → args[j]? = some v → Value.okWide Try.prog W .any base t v := hval0
  have hW' := hW
  obtain ⟨p, q, hA0, hV, rfl, hfz, hnd⟩ := hW
  have hA : DataW.TrodAll enc Try.prog W 0 (fun _ => true) true Try.f10.params.toList args.toList ds p := hA0
  rw [Try.params10] at hA hval
  obtain ⟨v0, vs0, d0, ds0, p0, q0, hargs, rfl, rfl, h0, r0⟩ := trodAll_cons hA
  obtain ⟨v1, vs1, d1, ds1, p1, q1, rfl, rfl, rfl, h1, r1⟩ := trodAll_cons r0
  obtain ⟨v2, vs2, d2, ds2, p2, q2, rfl, rfl, rfl, h2, r2⟩ := trodAll_cons r1
  obtain ⟨rfl, rfl, rfl⟩ := trodAll_nil r2
  obtain rfl : args = #[v0, v1, v2] := by cases args; simp_all
  obtain ⟨rfl, rfl⟩ := trodVars_none hV
  have k0 := h0
  have lt0 : ∀ x ∈ p0, x.block < W.heap.size := by obtain ⟨m, hm⟩ := k0; exact DataW.trod_lt m _ _ _ hm
  obtain ⟨a1, len1, cap1, rfl⟩ := okWide_slice Try.underlying22 (hval 1 22 v1 rfl rfl)
  have k1 := h1
  have lt1 : ∀ x ∈ p1, x.block < W.heap.size := by obtain ⟨m, hm⟩ := k1; exact DataW.trod_lt m _ _ _ hm
  have k2 := h2
  have fit0 : Go.V.Fits Try.prog 38 d0 := Go.V.fits_of hsz (j := 0) rfl rfl
  obtain ⟨a00, len00, cap00, z00, a01, len01, cap01, z01, a02, len02, cap02, z02, a03, len03, cap03, z03, rfl, ⟨w00, hm00⟩, ⟨w01, hm01⟩, ⟨w02, hm02⟩, ⟨w03, hm03⟩⟩ := Go.V.open_jobS Try.underlying38 Try.underlying22 Try.underlying5 (by kernel_rfl) (by kernel_rfl) (by kernel_rfl) (by kernel_rfl) rfl (hval 0 38 v0 rfl rfl) h0 fit0
  obtain ⟨key00, L00, hk00, hc00, _, hd00, he00⟩ := row_bytes w00
  obtain ⟨key01, L01, hk01, hc01, _, hd01, he01⟩ := row_bytes w01
  obtain ⟨key02, L02, hk02, hc02, _, hd02, he02⟩ := row_bytes w02
  obtain ⟨key03, L03, hk03, hc03, _, hd03, he03⟩ := row_bytes w03
  have fit1 : Go.V.Fits Try.prog 22 d1 := Go.V.fits_of hsz (j := 1) rfl rfl
  obtain ⟨z1, w1, hm1⟩ := Go.V.open_row8S Try.underlying22 Try.underlying5 (by kernel_rfl) (by kernel_rfl) h1 fit1
  obtain ⟨key1, L1, hk1, hc1, _, hd1, he1⟩ := row_bytes w1
  have fit2 : Go.V.Fits Try.prog 3 d2 := Go.V.fits_of hsz (j := 2) rfl rfl
  obtain ⟨n2, rfl, rfl, rfl, hw2⟩ := open_int Try.underlying3 (hval 2 3 v2 rfl rfl) h2
  have ro : Go.V.ROK [.ent ⟨false, 5, none, .a8 key00⟩, .ent ⟨false, 5, none, .a8 key01⟩, .ent ⟨false, 5, none, .a8 key02⟩, .ent ⟨false, 5, none, .a8 key03⟩, .ent ⟨false, 5, none, .a8 key1⟩] (fun i => if i = 0 then some L00 else if i = 1 then some L01 else if i = 2 then some L02 else if i = 3 then some L03 else if i = 4 then some L1 else none) W := by
    refine ⟨?_, fun i hi => ?_⟩
    · intro id x hx
      match id with
      | 0 =>
        simp at hx
        exact ⟨_, L00, hx.symm, rfl, rfl, he00 _ _⟩
      | 1 =>
        simp at hx
        exact ⟨_, L01, hx.symm, rfl, rfl, he01 _ _⟩
      | 2 =>
        simp at hx
        exact ⟨_, L02, hx.symm, rfl, rfl, he02 _ _⟩
      | 3 =>
        simp at hx
        exact ⟨_, L03, hx.symm, rfl, rfl, he03 _ _⟩
      | 4 =>
        simp at hx
        exact ⟨_, L1, hx.symm, rfl, rfl, he1 _ _⟩
      | n + 5 => simp at hx
    · have : 5 ≤ i := hi
      simp [show i ≠ 0 by omega, show i ≠ 1 by omega, show i ≠ 2 by omega, show i ≠ 3 by omega, show i ≠ 4 by omega]
  refine (calls_of_spec (spec10 key00 key01 key02 key03 key1 n2 len00 cap00 len01 cap01 len02 cap02 len03 cap03 len1 cap1 hk00 hc00 hk01 hc01 hk02 hc02 hk03 hc03 hk1 hc1 (Go.V.int_inS hw2) hm00 hm01 hm02 hm03 hm1) (vs := [_, _, _]) ⟨Go.V.den_job (hd00 _ 0 rfl) (hd01 _ 1 rfl) (hd02 _ 2 rfl) (hd03 _ 3 rfl), hd1 _ 4 rfl, rfl, trivial⟩ ro).mono fun e W' ⟨he, bel⟩ => ?_
  subst he
  exact ⟨_, rfl, _, _, _, [], _, [], hW', trodAll_mk1 (shut_bool Try.underlying4 _), (trodAll_cons_mk (Below.trod f_laid (by kernel_rfl) (of_decide_eq_true (by kernel_rfl)) k0 bel lt0) (trodAll_cons_mk (Below.trod f_laid (by kernel_rfl) (of_decide_eq_true (by kernel_rfl)) k1 bel lt1) (trodAll_cons_mk (shut_int Try.underlying3 hw2) trodAll_mk0))), rfl, bel.frame _, fun h => by cases h⟩
set_option maxRecDepth 100000 in
set_option maxHeartbeats 4000000 in
theorem closed : joinedFacts Try.prog 10 Try.f10 Rows.gcmOpensSpec Rows.gcmOpensRow = true := by
  unfold joinedFacts
  iterate 4 (refine f_and ?_ (by as_aux_lemma => kernel_rfl))
  refine f_and ?_ f_make
  refine f_and ?_ f_lift
  refine f_and ?_ f_may
  iterate 24 (refine f_and ?_ (by as_aux_lemma => kernel_rfl))
  as_aux_lemma => kernel_rfl
theorem named : Try.prog.funcNamed "cartouche/cartouchelaw06.GcmOpens" = some 10 := by kernel_rfl
theorem over : Rows.gcmOpensRow.holds Try.pinned (OpenSpec.ofChange Rows.gcmOpensSpec) :=
  OpenClaim.holds_of_wide 10 Try.f10 rfl rfl rfl rfl rfl rfl rfl ⟨rfl, rfl, rfl, rfl, rfl⟩ rfl rfl rfl rfl rfl named Try.func10 closed
    (of_decide_eq_true (by kernel_rfl)) (by unfold Func.isWrapper; first | (rw [if_pos (by decide +kernel)]; kernel_rfl) | (rw [if_neg (by decide +kernel)]; exact ⟨rfl, rfl⟩))
    (fun os started H enc _ => lifted os started H enc)
theorem proved : Rows.GcmOpensSaid := over
end Go.Proofs.Ytlnoehpjchglnaa.gcmOpensDone
