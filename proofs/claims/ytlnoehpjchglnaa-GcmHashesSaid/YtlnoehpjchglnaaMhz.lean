/- The law GcmHashes returns true for every input, and writes nothing that was there. No condition. -/
import Derived.Test.YtlnoehpjchglnaaRows
import Derived.Test.YtlnoehpjchglnaaPf
import Derived.Test.YtlnoehpjchglnaaMhf
import Derived.WalkKit
import Derived.ProofKit
import Derived.OpenShut
import Derived.ShutString
import Derived.ChangeOld
import Derived.Below
namespace Go.Proofs.Ytlnoehpjchglnaa.gcmHashesDone
open Go.ChangeShapes Go.WideShapes Go.ChangeAt Go.RowKit
open Go.ChangeMaps (open_string shut_string)
open Go.V (open_row8 open_arr8 row_bytes den_arr8 calls_of_spec spec7)
set_option linter.unusedVariables false
set_option linter.unusedSimpArgs false
set_option maxRecDepth 100000 in
theorem lifted (os : Os) (started : os.Started) (H : Type) (enc : TypeId × Value → H) :
    ReturnsInHanded {} Try.checked os 7 .any (Rows.gcmHashesSpec.pre6 enc Try.prog Try.f7 Rows.gcmHashesRow.domain false) (Rows.gcmHashesSpec.post enc Try.prog Try.f7 false true false false) := by
  refine returnsInHanded_of_change_sized (C := Try.checked) f_own started (by kernel_rfl) Try.func7
    (ChangeSpec.witness6 (enc := enc) (C := Try.checked) false ⟨#[], #[.agg (Array.replicate 16 (.int .u8 0)), .slice none 0 0, .slice none 0 0], []⟩ 8 (by kernel_rfl) (by kernel_rfl) (by kernel_rfl) (by kernel_rfl)) ?_
  intro W base args ds gs before hval0 hW hcnd hsz _
  have hval : ∀ (j : Nat) t v, Try.f7.params[j]? = some t → args[j]? = some v → Value.okWide Try.prog W .any base t v := hval0
  have hW' := hW
  obtain ⟨p, q, hA0, hV, rfl, hfz, hnd⟩ := hW
  have hA : DataW.TrodAll enc Try.prog W 0 (fun _ => true) true Try.f7.params.toList args.toList ds p := hA0
  rw [Try.params7] at hA hval
  obtain ⟨v0, vs0, d0, ds0, p0, q0, hargs, rfl, rfl, h0, r0⟩ := trodAll_cons hA
  obtain ⟨v1, vs1, d1, ds1, p1, q1, rfl, rfl, rfl, h1, r1⟩ := trodAll_cons r0
  obtain ⟨v2, vs2, d2, ds2, p2, q2, rfl, rfl, rfl, h2, r2⟩ := trodAll_cons r1
  obtain ⟨rfl, rfl, rfl⟩ := trodAll_nil r2
  obtain rfl : args = #[v0, v1, v2] := by cases args; simp_all
  obtain ⟨rfl, rfl⟩ := trodVars_none hV
  have k0 := h0
  have lt0 : ∀ x ∈ p0, x.block < W.heap.size := by obtain ⟨m, hm⟩ := k0; exact DataW.trod_lt m _ _ _ hm
  obtain ⟨a1, len1, cap1, rfl⟩ := okWide_slice Try.underlying22 (hval 1 22 v1 rfl rfl)
  have k1 := h1
  have lt1 : ∀ x ∈ p1, x.block < W.heap.size := by obtain ⟨m, hm⟩ := k1; exact DataW.trod_lt m _ _ _ hm
  obtain ⟨a2, len2, cap2, rfl⟩ := okWide_slice Try.underlying22 (hval 2 22 v2 rfl rfl)
  have k2 := h2
  have lt2 : ∀ x ∈ p2, x.block < W.heap.size := by obtain ⟨m, hm⟩ := k2; exact DataW.trod_lt m _ _ _ hm
  have fit0 : Go.V.Fits Try.prog 23 d0 := Go.V.fits_of hsz (j := 0) rfl rfl
  obtain ⟨b0, hb0, rfl⟩ := open_arr8 Try.underlying23 Try.underlying5 (by kernel_rfl) (by kernel_rfl) (hval 0 23 v0 rfl rfl) h0
  have fit1 : Go.V.Fits Try.prog 22 d1 := Go.V.fits_of hsz (j := 1) rfl rfl
  obtain ⟨z1, w1, hm1⟩ := Go.V.open_row8S Try.underlying22 Try.underlying5 (by kernel_rfl) (by kernel_rfl) h1 fit1
  obtain ⟨key1, L1, hk1, hc1, _, hd1, he1⟩ := row_bytes w1
  have fit2 : Go.V.Fits Try.prog 22 d2 := Go.V.fits_of hsz (j := 2) rfl rfl
  obtain ⟨z2, w2, hm2⟩ := Go.V.open_row8S Try.underlying22 Try.underlying5 (by kernel_rfl) (by kernel_rfl) h2 fit2
  obtain ⟨key2, L2, hk2, hc2, _, hd2, he2⟩ := row_bytes w2
  have ro : Go.V.ROK [.ent ⟨false, 5, none, .a8 key1⟩, .ent ⟨false, 5, none, .a8 key2⟩] (fun i => if i = 0 then some L1 else if i = 1 then some L2 else none) W := by
    refine ⟨?_, fun i hi => ?_⟩
    · intro id x hx
      match id with
      | 0 =>
        simp at hx
        exact ⟨_, L1, hx.symm, rfl, rfl, he1 _ _⟩
      | 1 =>
        simp at hx
        exact ⟨_, L2, hx.symm, rfl, rfl, he2 _ _⟩
      | n + 2 => simp at hx
    · have : 2 ≤ i := hi
      simp [show i ≠ 0 by omega, show i ≠ 1 by omega]
  refine (calls_of_spec (spec7 b0 key1 key2 len1 cap1 len2 cap2 hb0 hk1 hc1 hk2 hc2 hm1 hm2) (vs := [_, _, _]) ⟨den_arr8 _ b0, hd1 _ 0 rfl, hd2 _ 1 rfl, trivial⟩ ro).mono fun e W' ⟨he, bel⟩ => ?_
  subst he
  exact ⟨_, rfl, _, _, _, [], _, [], hW', trodAll_mk1 (shut_bool Try.underlying4 _), (trodAll_cons_mk (Below.trod f_laid (by kernel_rfl) (of_decide_eq_true (by kernel_rfl)) k0 bel lt0) (trodAll_cons_mk (Below.trod f_laid (by kernel_rfl) (of_decide_eq_true (by kernel_rfl)) k1 bel lt1) (trodAll_cons_mk (Below.trod f_laid (by kernel_rfl) (of_decide_eq_true (by kernel_rfl)) k2 bel lt2) trodAll_mk0))), rfl, bel.frame _, fun h => by cases h⟩
set_option maxRecDepth 100000 in
theorem closed : joinedFacts Try.prog 7 Try.f7 Rows.gcmHashesSpec Rows.gcmHashesRow = true := by
  unfold joinedFacts
  iterate 4 (refine f_and ?_ (by as_aux_lemma => kernel_rfl))
  refine f_and ?_ f_make
  refine f_and ?_ f_lift
  refine f_and ?_ f_may
  iterate 24 (refine f_and ?_ (by as_aux_lemma => kernel_rfl))
  as_aux_lemma => kernel_rfl
theorem named : Try.prog.funcNamed "cartouche/cartouchelaw06.GcmHashes" = some 7 := by kernel_rfl
theorem over : Rows.gcmHashesRow.holds Try.pinned (OpenSpec.ofChange Rows.gcmHashesSpec) :=
  OpenClaim.holds_of_wide 7 Try.f7 rfl rfl rfl rfl rfl rfl rfl ⟨rfl, rfl, rfl, rfl, rfl⟩ rfl rfl rfl rfl rfl named Try.func7 closed
    (of_decide_eq_true (by kernel_rfl)) (by unfold Func.isWrapper; first | (rw [if_pos (by decide +kernel)]; kernel_rfl) | (rw [if_neg (by decide +kernel)]; exact ⟨rfl, rfl⟩))
    (fun os started H enc _ => lifted os started H enc)
theorem proved : Rows.GcmHashesSaid := over
end Go.Proofs.Ytlnoehpjchglnaa.gcmHashesDone
