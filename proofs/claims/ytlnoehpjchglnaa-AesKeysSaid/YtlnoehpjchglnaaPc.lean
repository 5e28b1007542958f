/- The law AesKeys returns true for every input, and writes nothing that was there. No condition. -/
import Derived.Test.YtlnoehpjchglnaaRows
import Derived.Test.YtlnoehpjchglnaaPf
import Derived.Test.YtlnoehpjchglnaaBr
import Derived.Test.YtlnoehpjchglnaaWl
import Derived.WalkKit
import Derived.ProofKit
import Derived.OpenShut
import Derived.ShutString
import Derived.ChangeOld
import Derived.Below
namespace Go.Proofs.Ytlnoehpjchglnaa.aesKeysDone
open Go.ChangeShapes Go.WideShapes Go.ChangeAt Go.RowKit
open Go.ChangeMaps (open_string shut_string)
open Go.V (open_row8 open_arr8 row_bytes den_arr8 calls_of_spec spec5)
set_option linter.unusedVariables false
set_option linter.unusedSimpArgs false
set_option maxRecDepth 100000 in
theorem lifted (os : Os) (started : os.Started) (H : Type) (enc : TypeId × Value → H) :
    ReturnsInHanded {} Try.checked os 5 .any (Rows.aesKeysSpec.pre6 enc Try.prog Try.f5 Rows.aesKeysRow.domain false) (Rows.aesKeysSpec.post enc Try.prog Try.f5 false true false false) := by
  refine returnsInHanded_of_change (C := Try.checked) f_own started (by kernel_rfl) Try.func5
    (ChangeSpec.witness6 (enc := enc) (C := Try.checked) false ⟨#[], #[.slice none 0 0, .agg (Array.replicate 16 (.int .u8 0))], []⟩ 8 (by kernel_rfl) (by kernel_rfl) (by kernel_rfl) (by kernel_rfl)) ?_
  intro W base args ds gs before hval0 hW hcnd _
  have hval : ∀ (j : Nat) t v, Try.f5.params[j]? = some t → args[j]? = some v → Value.okWide Try.prog W .any base t v := hval0
  have hW' := hW
  obtain ⟨p, q, hA0, hV, rfl, hfz, hnd⟩ := hW
  have hA : DataW.TrodAll enc Try.prog W 0 (fun _ => true) true Try.f5.params.toList args.toList ds p := hA0
  rw [Try.params5] at hA hval
  obtain ⟨v0, vs0, d0, ds0, p0, q0, hargs, rfl, rfl, h0, r0⟩ := trodAll_cons hA
  obtain ⟨v1, vs1, d1, ds1, p1, q1, rfl, rfl, rfl, h1, r1⟩ := trodAll_cons r0
  obtain ⟨rfl, rfl, rfl⟩ := trodAll_nil r1
  obtain rfl : args = #[v0, v1] := by cases args; simp_all
  obtain ⟨rfl, rfl⟩ := trodVars_none hV
  obtain ⟨a0, len0, cap0, rfl⟩ := okWide_slice Try.underlying22 (hval 0 22 v0 rfl rfl)
  have k0 := h0
  have lt0 : ∀ x ∈ p0, x.block < W.heap.size := by obtain ⟨m, hm⟩ := k0; exact DataW.trod_lt m _ _ _ hm
  have k1 := h1
  have lt1 : ∀ x ∈ p1, x.block < W.heap.size := by obtain ⟨m, hm⟩ := k1; exact DataW.trod_lt m _ _ _ hm
  obtain ⟨z0, w0⟩ := open_row8 Try.underlying22 Try.underlying5 (by kernel_rfl) h0
  obtain ⟨key0, L0, hk0, hc0, hm0, hd0, he0⟩ := row_bytes w0
  obtain ⟨b1, hb1, rfl⟩ := open_arr8 Try.underlying23 Try.underlying5 (by kernel_rfl) (by kernel_rfl) (hval 1 23 v1 rfl rfl) h1
  have ro : Go.V.ROK [.ent ⟨false, 5, none, .a8 key0⟩] (fun i => if i = 0 then some L0 else none) W := by
    refine ⟨?_, fun i hi => ?_⟩
    · intro id x hx
      match id with
      | 0 =>
        simp at hx
        exact ⟨_, L0, hx.symm, rfl, rfl, he0 _ _⟩
      | n + 1 => simp at hx
    · have : 1 ≤ i := hi
      simp
      omega
  refine (calls_of_spec (spec5 key0 b1 len0 cap0 hk0 hc0 hb1) (vs := [_, _]) ⟨hd0 _ 0 rfl, den_arr8 _ b1, trivial⟩ ro).mono fun e W' ⟨he, bel⟩ => ?_
  subst he
  exact ⟨_, rfl, _, _, _, [], _, [], hW', trodAll_mk1 (shut_bool Try.underlying4 _), (trodAll_cons_mk (Below.trod f_laid (by kernel_rfl) (of_decide_eq_true (by kernel_rfl)) k0 bel lt0) (trodAll_cons_mk (Below.trod f_laid (by kernel_rfl) (of_decide_eq_true (by kernel_rfl)) k1 bel lt1) trodAll_mk0)), rfl, bel.frame _, fun h => by cases h⟩
set_option maxRecDepth 100000 in
theorem closed : joinedFacts Try.prog 5 Try.f5 Rows.aesKeysSpec Rows.aesKeysRow = true := by
  unfold joinedFacts
  iterate 4 (refine f_and ?_ (by as_aux_lemma => kernel_rfl))
  refine f_and ?_ f_make
  refine f_and ?_ f_lift
  refine f_and ?_ f_may
  iterate 24 (refine f_and ?_ (by as_aux_lemma => kernel_rfl))
  as_aux_lemma => kernel_rfl
theorem named : Try.prog.funcNamed "cartouche/cartouchelaw05.AesKeys" = some 5 := by kernel_rfl
theorem over : Rows.aesKeysRow.holds Try.pinned (OpenSpec.ofChange Rows.aesKeysSpec) :=
  OpenClaim.holds_of_wide 5 Try.f5 rfl rfl rfl rfl rfl rfl rfl ⟨rfl, rfl, rfl, rfl, rfl⟩ rfl rfl rfl rfl rfl named Try.func5 closed
    (of_decide_eq_true (by kernel_rfl)) (by unfold Func.isWrapper; first | (rw [if_pos (by decide +kernel)]; kernel_rfl) | (rw [if_neg (by decide +kernel)]; exact ⟨rfl, rfl⟩))
    (fun os started H enc _ => lifted os started H enc)
theorem proved : Rows.AesKeysSaid := over
end Go.Proofs.Ytlnoehpjchglnaa.aesKeysDone
