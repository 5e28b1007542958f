/- Texts of the walks, put together: Xw. No condition. -/
import Derived.Test.YtlnoehpjchglnaaMjf
section
set_option linter.unusedSimpArgs false
set_option linter.unusedVariables false
set_option maxRecDepth 10000
namespace Go.V
open Go Go.Proofs.Try
theorem sealed_len {W N A B : B8} {nr nb : Nat} (hB : B.length = nb) : (stO W nr N B nb ++ tagB W nr N A (stO W nr N B nb)).length = nb + 16 := by
  have hl := stO_len W nr N B nb (by omega)
  rw [List.length_append, hl, hB, tagB, tagX_len, hashG_len]
@[simp] def jm5 (K N D B Y : B8) : Mem := [.ent ⟨false, 5, none, .a8 K⟩, .ent ⟨false, 5, none, .a8 N⟩, .ent ⟨false, 5, none, .a8 D⟩, .ent ⟨false, 5, none, .a8 B⟩, .ent ⟨false, 5, none, .a8 Y⟩]
@[simp] noncomputable def nuGO : New := NAt 22 nuA nuTg
theorem bit_pos (bit : Int) (L : Nat) (hL : 0 < L) (hm : L < 100000) : ∃ (x1 : Int) (X : Nat), bit.tmod (8 * (L : Int)) = x1 ∧ -(8 * (L : Int)) < x1 ∧ x1 < 8 * (L : Int) ∧ (x1 + 8 * (L : Int)).tmod (8 * (L : Int)) = (X : Int) ∧ X < 8 * L := by
  have h8 : (0 : Int) < 8 * (L : Int) := by omega
  have l1 := Int.lt_tmod_of_pos bit h8
  have u1 := Int.tmod_lt_of_pos bit h8
  refine ⟨_, ((bit.tmod (8 * (L : Int)) + 8 * (L : Int)).tmod (8 * (L : Int))).toNat, rfl, l1, u1, ?_, ?_⟩
  · have := Int.tmod_nonneg (8 * (L : Int)) (a := bit.tmod (8 * (L : Int)) + 8 * (L : Int)) (by omega)
    omega
  · have u2 := Int.tmod_lt_of_pos (bit.tmod (8 * (L : Int)) + 8 * (L : Int)) h8
    omega
theorem pureGS_mono : PureMono pureGS := mono_of_sub pureGS_sub
set_option maxHeartbeats 20000000 in
theorem spec10 (K N D B Y : B8) (bit : Int) (nk ck nn cn na ca nb cb ny cy : Nat) (hK : K.length = nk) (hck : nk ≤ ck) (hN : N.length = nn) (hcn : nn ≤ cn) (hD : D.length = na) (hca : na ≤ ca) (hBl : B.length = nb) (hcb : nb ≤ cb) (hYl : Y.length = ny) (hcy : ny ≤ cy) (hbit : inI bit) (hmk : ck ≤ 140737488351232) (hmn : cn ≤ 140737488351232) (hma : ca ≤ 140737488351232) (hmb : cb ≤ 140737488351232) (hmy : cy ≤ 140737488351232) : Spec prog 10 [.one (jobA nk ck nn cn na ca nb cb), one (.sl 4 0 ny cy 1), one (.i bit)] (jm5 K N D B Y) [] (fun r _ => r = one (.b true)) := by
  
  
  refine spec_of_body tabOK func10 rfl (Nat.le_of_ble_eq_true rfl) ?_; intro E Q0 hB; refine ok_run hB tabOK pureGS_ok 100 ?_; simp only [argSl]
  simp only [jm5, jobA]
  cases hf : fit6 nk nn na nb
  · repeat (first
    | rw [run_ops0]
    | rw [run_seq]
    | rw [run_region]
    | rw [run_block]
    | rw [run_blk]
    | rw [run_skip]
    | apply run_exit2 rfl
    | apply run_cyes rfl
    | apply run_cno rfl
    | (rw [run_zero]; refine ok_run hB tabOK pureGS_ok 100 ?_)
    | (apply run_go rfl; focus (intro L K hK; simp [-List.reduceReplicate, -List.getD_eq_getElem?_getD, hf, pFit, datOf]; (repeat' apply And.intro); all_goals first | exact hK | omega))
    | (apply run_gyes rfl rfl rfl rfl; focus (intro L K hK; simp [-List.reduceReplicate, -List.getD_eq_getElem?_getD, hf, pFit, datOf]; (repeat' apply And.intro); all_goals first | exact hK | omega))
    | (apply run_gno rfl rfl rfl rfl rfl (Nat.le_of_ble_eq_true rfl); simp only [St.put])
    | (apply run_gtup rfl rfl rfl rfl (Nat.le_of_ble_eq_true rfl); simp only [St.put]))
    rw [run_ret]
    simp [-List.reduceReplicate, -List.getD_eq_getElem?_getD, results10, f10]
  by_cases h300 : 300 < ny
  · have hI3 : 300 < (ny : Int) := by omega
    repeat (first
    | rw [run_ops0]
    | rw [run_seq]
    | rw [run_region]
    | rw [run_block]
    | rw [run_blk]
    | rw [run_skip]
    | apply run_exit2 rfl
    | apply run_cyes rfl
    | apply run_cno rfl
    | (rw [run_zero]; refine ok_run hB tabOK pureGS_ok 100 ?_)
    | (apply run_go rfl; focus (intro L K hK; simp [-List.reduceReplicate, -List.getD_eq_getElem?_getD, hf, pFit, datOf, hI3]; (repeat' apply And.intro); all_goals first | exact hK | omega))
    | (apply run_gyes rfl rfl rfl rfl; focus (intro L K hK; simp [-List.reduceReplicate, -List.getD_eq_getElem?_getD, hf, pFit, datOf, hI3]; (repeat' apply And.intro); all_goals first | exact hK | omega))
    | (apply run_gno rfl rfl rfl rfl rfl (Nat.le_of_ble_eq_true rfl); simp only [St.put])
    | (apply run_gtup rfl rfl rfl rfl (Nat.le_of_ble_eq_true rfl); simp only [St.put]))
    rw [run_ret]
    simp [-List.reduceReplicate, -List.getD_eq_getElem?_getD, results10, f10]
  have hI3 : ¬ 300 < (ny : Int) := by omega
  repeat (first
    | rw [run_ops0]
    | rw [run_seq]
    | rw [run_region]
    | rw [run_block]
    | rw [run_blk]
    | rw [run_skip]
    | apply run_exit2 rfl
    | apply run_cyes rfl
    | apply run_cno rfl
    | (rw [run_zero]; refine ok_run hB tabOK pureGS_ok 100 ?_)
    | (apply run_go rfl; focus (intro L K hK; simp [-List.reduceReplicate, -List.getD_eq_getElem?_getD, hf, pFit, datOf, hI3]; (repeat' apply And.intro); all_goals first | exact hK | omega))
    | (apply run_gyes rfl rfl rfl rfl; focus (intro L K hK; simp [-List.reduceReplicate, -List.getD_eq_getElem?_getD, hf, pFit, datOf, hI3]; (repeat' apply And.intro); all_goals first | exact hK | omega))
    | (apply run_gno rfl rfl rfl rfl rfl (Nat.le_of_ble_eq_true rfl); simp only [St.put])
    | (apply run_gtup rfl rfl rfl rfl (Nat.le_of_ble_eq_true rfl); simp only [St.put]))
  obtain ⟨hk4, h12, hna, hnb⟩ := fit6_true hf
  obtain ⟨q, hq0, hq⟩ : ∃ q, nk = 4 * q ∧ (q = 4 ∨ q = 8) := by
    rcases hk4 with h | h
    · exact ⟨4, h, .inl rfl⟩
    · exact ⟨8, h, .inr rfl⟩
  subst h12
  subst hq0
  refine run_call rfl rfl rfl rfl ?_; refine ok_call [0] rfl rfl ⟨f21, func21, nofun, by decide⟩ (spec21 K q ck hK hq hck) trivial (by simp) (by simp [newMem, matchM, ix, renA, renSeg, renR, renS, belA, belR, belS, A.len, segLen]) rfl rfl (Nat.le_of_ble_eq_true rfl) ?_; rintro sv m' ⟨rfl, cap, rfl⟩ _; simp only [newMem, afterM, putM, renMk, renA, renSeg, renR, renS, renV, ix, St.put, List.map_cons, List.map_nil, List.drop, List.length_cons, List.length_nil, List.cons_append, List.nil_append, one]; simp [-List.reduceReplicate]; refine ok_run hB tabOK pureGS_ok 100 ?_
  obtain ⟨W, hWe, hWl, hWr⟩ := newW hK hq
  rw [hWe]
  repeat (first
    | rw [run_ops0]
    | rw [run_seq]
    | rw [run_region]
    | rw [run_block]
    | rw [run_blk]
    | rw [run_skip]
    | apply run_exit2 rfl
    | apply run_cyes rfl
    | apply run_cno rfl
    | (rw [run_zero]; refine ok_run hB tabOK pureGS_ok 100 ?_)
    | (apply run_go rfl; focus (intro L K hK; simp [-List.reduceReplicate, -List.getD_eq_getElem?_getD]; (repeat' apply And.intro); all_goals first | exact hK | omega))
    | (apply run_gyes rfl rfl rfl rfl; focus (intro L K hK; simp [-List.reduceReplicate, -List.getD_eq_getElem?_getD]; (repeat' apply And.intro); all_goals first | exact hK | omega))
    | (apply run_gno rfl rfl rfl rfl rfl (Nat.le_of_ble_eq_true rfl); simp only [St.put])
    | (apply run_gtup rfl rfl rfl rfl (Nat.le_of_ble_eq_true rfl); simp only [St.put]))
  refine run_call rfl rfl rfl rfl ?_; refine ok_call [0] rfl rfl ⟨f22, func22, nofun, by decide⟩ (spec22Q K q ck (by omega) hq hck) trivial (by simp) (by simp [rnewQ, matchM, ix, renA, renSeg, renR, renS, belA, belR, belS, A.len, segLen]) rfl rfl (Nat.le_of_ble_eq_true rfl) ?_; rintro sv m' ⟨rfl, rfl⟩ _; simp only [rnewQ, afterM, putM, renMk, renA, renSeg, renR, renS, renV, ix, St.put, List.map_cons, List.map_nil, List.drop, List.length_cons, List.length_nil, List.cons_append, List.nil_append, one]; simp [-List.reduceReplicate]; refine ok_run hB tabOK pureGS_ok 100 ?_
  rw [hWr]
  have hdk := dkfit hq hWl
  have hl2 : lFit2 D 0 na ca := ⟨by omega, by omega, by omega⟩
  have hN0 : (N.drop 0).take 12 = N := List.take_of_length_le (by simp; omega)
  have hD0 : (D.drop 0).take na = D := List.take_of_length_le (by simp; omega)
  have hN1 : N.take 12 = N := List.take_of_length_le (by omega)
  have hD1 : D.take na = D := List.take_of_length_le (by omega)
  have hB1 : B.take nb = B := List.take_of_length_le (by omega)
  obtain ⟨x1, X, hx1, hx3, hx4, hX, hX2⟩ := bit_pos bit (nb + 16) (by omega) (by omega)
  have hx5 : ((nb + 16 : Nat) : Int) = (nb : Int) + 16 := by omega
  rw [hx5] at hx1 hx3 hx4 hX
  have hx2 : True := trivial
  have hl1 : lFit N 0 cn B 0 nb cb := ⟨by omega, by omega, by omega, by omega, by omega⟩
  repeat (first
    | rw [run_ops0]
    | rw [run_seq]
    | rw [run_region]
    | rw [run_block]
    | rw [run_blk]
    | rw [run_skip]
    | apply run_exit2 rfl
    | apply run_cyes rfl
    | apply run_cno rfl
    | (rw [run_zero]; refine ok_run hB tabOK pureGS_ok 100 ?_)
    | (apply run_go rfl; focus (intro L K hK; simp [-List.reduceReplicate, -List.getD_eq_getElem?_getD]; (repeat' apply And.intro); all_goals first | exact hK | omega))
    | (apply run_gyes rfl rfl rfl rfl; focus (intro L K hK; simp [-List.reduceReplicate, -List.getD_eq_getElem?_getD]; (repeat' apply And.intro); all_goals first | exact hK | omega))
    | (apply run_gno rfl rfl rfl rfl rfl (Nat.le_of_ble_eq_true rfl); simp only [St.put])
    | (apply run_gtup rfl rfl rfl rfl (Nat.le_of_ble_eq_true rfl); simp only [St.put]))
  by_cases hy16 : ny < 16
  · refine run_call rfl rfl rfl rfl ?_; refine ok_call [7, 8, 1, 4, 2] rfl rfl ⟨f29, func29, nofun, by decide⟩ (spec29S W N Y (q + 7) cap 0 cn 0 ny cy D 0 na ca (by omega) hca (by omega) (by omega) (by omega) (by omega) (by omega) (by omega) (by omega) hcy (by omega) hy16) trivial (by simp) (by simp [smem, matchM, ix, renA, renSeg, renR, renS, belA, belR, belS, A.len, segLen]) rfl rfl (Nat.le_of_ble_eq_true rfl) ?_; rintro sv m' ⟨rfl, rfl⟩ _; simp only [smem, afterM, putM, renMk, renA, renSeg, renR, renS, renV, ix, St.put, List.map_cons, List.map_nil, List.drop, List.length_cons, List.length_nil, List.cons_append, List.nil_append, one]; simp [-List.reduceReplicate]; refine ok_run hB tabOK pureGS_ok 100 ?_
    have hI : ¬ 0 ≤ (ny : Int) - 16 := by omega
    have hI2 : ¬ 16 ≤ (ny : Int) := by omega
    repeat (first
    | rw [run_ops0]
    | rw [run_seq]
    | rw [run_region]
    | rw [run_block]
    | rw [run_blk]
    | rw [run_skip]
    | apply run_exit2 rfl
    | apply run_cyes rfl
    | apply run_cno rfl
    | (rw [run_zero]; refine ok_run hB tabOK pureGS_ok 100 ?_)
    | (apply run_go rfl; focus (intro L K hK; simp [-List.reduceReplicate, -List.getD_eq_getElem?_getD]; (repeat' apply And.intro); all_goals first | exact hK | omega))
    | (apply run_gyes rfl rfl rfl rfl; focus (intro L K hK; simp [-List.reduceReplicate, -List.getD_eq_getElem?_getD]; (repeat' apply And.intro); all_goals first | exact hK | omega))
    | (apply run_gno rfl rfl rfl rfl rfl (Nat.le_of_ble_eq_true rfl); simp only [St.put])
    | (apply run_gtup rfl rfl rfl rfl (Nat.le_of_ble_eq_true rfl); simp only [St.put]))
    rw [run_draw]; refine ok_draw5 19 [] [] tabOK pureGS_ok nuTg_ok pureGS_sub nuTg_sub mixed (by decide +kernel) rfl rfl ?_
    repeat (first
    | (apply h3_go rfl rfl rfl rfl rfl (Nat.le_of_ble_eq_true rfl) rfl; focus (intro K' hK; simp [-List.reduceReplicate, -List.getD_eq_getElem?_getD, hI, hI2]; (repeat' apply And.intro); all_goals first | exact hK | omega))
    | (apply h3_new rfl rfl rfl rfl rfl (Nat.le_of_ble_eq_true rfl) rfl; focus (intro K' hK; simp [-List.reduceReplicate, -List.getD_eq_getElem?_getD, hI, hI2]; (repeat' apply And.intro); all_goals first | exact hK | omega))
    | (apply h3_call rfl rfl rfl rfl (Nat.le_of_ble_eq_true rfl); focus (simp [newOf, -List.reduceReplicate, -List.getD_eq_getElem?_getD, hI, hI2]; first | done | exact ⟨rfl, rfl⟩ | rfl))
    | (apply h3_gyes rfl rfl rfl rfl rfl (Nat.le_of_ble_eq_true rfl) rfl; focus (apply hop_go rfl rfl; intro K' hK; simp [-List.reduceReplicate, -List.getD_eq_getElem?_getD, hI, hI2]; (repeat' apply And.intro); all_goals first | exact hK | omega))
    | (apply h3_gyes rfl rfl rfl rfl rfl (Nat.le_of_ble_eq_true rfl) rfl; focus (apply hop_new rfl rfl; intro K' hK; simp [-List.reduceReplicate, -List.getD_eq_getElem?_getD, hI, hI2]; (repeat' apply And.intro); all_goals first | exact hK | omega))
    | (apply h3_gyes rfl rfl rfl rfl rfl (Nat.le_of_ble_eq_true rfl) rfl; focus (apply hop_call; simp [newOf, -List.reduceReplicate, -List.getD_eq_getElem?_getD, hI, hI2]; first | done | exact ⟨rfl, rfl⟩ | rfl))
    | apply h3_gno rfl rfl rfl rfl rfl (Nat.le_of_ble_eq_true rfl) rfl rfl
    | apply h3_past rfl rfl rfl rfl rfl (Nat.le_of_ble_eq_true rfl) rfl
    | (apply h3_sto rfl; focus (intro K' hK; simp [-List.reduceReplicate, -List.getD_eq_getElem?_getD, hI, hI2]; (repeat' apply And.intro); all_goals first | exact hK | omega)))
    refine h3_nil ?_; simp [finL, contL, contAt, stT, List.range, List.range.loop, -List.reduceReplicate, -List.getD_eq_getElem?_getD]; refine ok_run hB tabOK pureGS_ok 100 ?_
    repeat (first
    | rw [run_ops0]
    | rw [run_seq]
    | rw [run_region]
    | rw [run_block]
    | rw [run_blk]
    | rw [run_skip]
    | apply run_exit2 rfl
    | apply run_cyes rfl
    | apply run_cno rfl
    | (rw [run_zero]; refine ok_run hB tabOK pureGS_ok 100 ?_)
    | (apply run_go rfl; focus (intro L K hK; simp [-List.reduceReplicate, -List.getD_eq_getElem?_getD, hI, hI2]; (repeat' apply And.intro); all_goals first | exact hK | omega))
    | (apply run_gyes rfl rfl rfl rfl; focus (intro L K hK; simp [-List.reduceReplicate, -List.getD_eq_getElem?_getD, hI, hI2]; (repeat' apply And.intro); all_goals first | exact hK | omega))
    | (apply run_gno rfl rfl rfl rfl rfl (Nat.le_of_ble_eq_true rfl); simp only [St.put])
    | (apply run_gtup rfl rfl rfl rfl (Nat.le_of_ble_eq_true rfl); simp only [St.put]))
    rw [run_draw]; refine ok_draw5 32 [] [] tabOK pureGS_ok nuTg_ok pureGS_sub nuTg_sub mixed (by decide +kernel) rfl rfl ?_
    repeat (first
    | (apply h3_go rfl rfl rfl rfl rfl (Nat.le_of_ble_eq_true rfl) rfl; focus (intro K' hK; simp [-List.reduceReplicate, -List.getD_eq_getElem?_getD, hI, hI2]; (repeat' apply And.intro); all_goals first | exact hK | omega))
    | (apply h3_new rfl rfl rfl rfl rfl (Nat.le_of_ble_eq_true rfl) rfl; focus (intro K' hK; simp [-List.reduceReplicate, -List.getD_eq_getElem?_getD, hI, hI2]; (repeat' apply And.intro); all_goals first | exact hK | omega))
    | (apply h3_call rfl rfl rfl rfl (Nat.le_of_ble_eq_true rfl); focus (simp [newOf, -List.reduceReplicate, -List.getD_eq_getElem?_getD, hI, hI2]; first | done | exact ⟨rfl, rfl⟩ | rfl))
    | (apply h3_gyes rfl rfl rfl rfl rfl (Nat.le_of_ble_eq_true rfl) rfl; focus (apply hop_go rfl rfl; intro K' hK; simp [-List.reduceReplicate, -List.getD_eq_getElem?_getD, hI, hI2]; (repeat' apply And.intro); all_goals first | exact hK | omega))
    | (apply h3_gyes rfl rfl rfl rfl rfl (Nat.le_of_ble_eq_true rfl) rfl; focus (apply hop_new rfl rfl; intro K' hK; simp [-List.reduceReplicate, -List.getD_eq_getElem?_getD, hI, hI2]; (repeat' apply And.intro); all_goals first | exact hK | omega))
    | (apply h3_gyes rfl rfl rfl rfl rfl (Nat.le_of_ble_eq_true rfl) rfl; focus (apply hop_call; simp [newOf, -List.reduceReplicate, -List.getD_eq_getElem?_getD, hI, hI2]; first | done | exact ⟨rfl, rfl⟩ | rfl))
    | apply h3_gno rfl rfl rfl rfl rfl (Nat.le_of_ble_eq_true rfl) rfl rfl
    | apply h3_past rfl rfl rfl rfl rfl (Nat.le_of_ble_eq_true rfl) rfl
    | (apply h3_sto rfl; focus (intro K' hK; simp [-List.reduceReplicate, -List.getD_eq_getElem?_getD, hI, hI2]; (repeat' apply And.intro); all_goals first | exact hK | omega)))
    refine h3_nil ?_; simp [finL, contL, contAt, stT, List.range, List.range.loop, -List.reduceReplicate, -List.getD_eq_getElem?_getD]; refine ok_run hB tabOK pureGS_ok 100 ?_
    repeat (first
    | rw [run_ops0]
    | rw [run_seq]
    | rw [run_region]
    | rw [run_block]
    | rw [run_blk]
    | rw [run_skip]
    | apply run_exit2 rfl
    | apply run_cyes rfl
    | apply run_cno rfl
    | (rw [run_zero]; refine ok_run hB tabOK pureGS_ok 100 ?_)
    | (apply run_go rfl; focus (intro L K hK; simp [-List.reduceReplicate, -List.getD_eq_getElem?_getD, hI, hI2]; (repeat' apply And.intro); all_goals first | exact hK | omega))
    | (apply run_gyes rfl rfl rfl rfl; focus (intro L K hK; simp [-List.reduceReplicate, -List.getD_eq_getElem?_getD, hI, hI2]; (repeat' apply And.intro); all_goals first | exact hK | omega))
    | (apply run_gno rfl rfl rfl rfl rfl (Nat.le_of_ble_eq_true rfl); simp only [St.put])
    | (apply run_gtup rfl rfl rfl rfl (Nat.le_of_ble_eq_true rfl); simp only [St.put]))
    refine run_call rfl rfl rfl rfl ?_; refine ok_call [7, 8, 1, 3, 2] rfl rfl ⟨f28, func28, nofun, by decide⟩ (spec28 W N (q + 7) cap 0 cn D B 0 na ca 0 nb cb (by omega) hca (by omega) (by omega) hcb (by omega) (by omega) (by omega) (by omega) (by omega) (by omega)) trivial (by simp) (by simp [smem, tagE, matchM, ix, renA, renSeg, renR, renS, belA, belR, belS, A.len, segLen]) rfl rfl (Nat.le_of_ble_eq_true rfl) ?_; rintro sv m' ⟨cap2, hcap2, rfl, rfl⟩ _; simp only [smem, tagE, afterM, putM, renMk, renA, renSeg, renR, renS, renV, ix, St.put, List.map_cons, List.map_nil, List.drop, List.length_cons, List.length_nil, List.cons_append, List.nil_append, one]; simp [-List.reduceReplicate]; refine ok_run hB tabOK pureGS_ok 100 ?_
    rw [hN1, hD1, hB1]
    have hsl := sealed_len (W := W) (N := N) (A := D) (nr := q + 7) hBl
    generalize stO W (q + 7) N B nb ++ tagB W (q + 7) N D (stO W (q + 7) N B nb) = SG at hsl ⊢
    repeat (first
    | rw [run_ops0]
    | rw [run_seq]
    | rw [run_region]
    | rw [run_block]
    | rw [run_blk]
    | rw [run_skip]
    | apply run_exit2 rfl
    | apply run_cyes rfl
    | apply run_cno rfl
    | (rw [run_zero]; refine ok_run hB tabOK pureGS_ok 100 ?_)
    | (apply run_go rfl; focus (intro L K hK; simp [-List.reduceReplicate, -List.getD_eq_getElem?_getD, hx1, hx2, hX, tdiv8, tmod8]; (repeat' apply And.intro); all_goals first | exact hK | omega))
    | (apply run_gyes rfl rfl rfl rfl; focus (intro L K hK; simp [-List.reduceReplicate, -List.getD_eq_getElem?_getD, hx1, hx2, hX, tdiv8, tmod8]; (repeat' apply And.intro); all_goals first | exact hK | omega))
    | (apply run_gno rfl rfl rfl rfl rfl (Nat.le_of_ble_eq_true rfl); simp only [St.put])
    | (apply run_gtup rfl rfl rfl rfl (Nat.le_of_ble_eq_true rfl); simp only [St.put]))
    have e1 : ((X : Int) / 8).toNat = X / 8 := by omega
    have e2 : ((X : Int) % 8).toNat = X % 8 := by omega
    have e3 : X / 8 < nb + 16 := by omega
    rw [run_draw]; refine ok_draw2 10 tabOK pureGS_ok pureGS_mono mixed (by decide +kernel) rfl rfl ?_; (repeat (first
    | (apply hd_go rfl rfl rfl rfl (Nat.le_of_ble_eq_true rfl); focus (intro K' hK; simp [-List.reduceReplicate, -List.getD_eq_getElem?_getD, tdiv8, tmod8, e1, e2, e3, hsl]; (repeat' apply And.intro); all_goals first | exact hK | omega))
    | (apply hd_new rfl rfl rfl rfl (Nat.le_of_ble_eq_true rfl); focus (intro K' hK; simp [-List.reduceReplicate, -List.getD_eq_getElem?_getD, tdiv8, tmod8, e1, e2, e3, hsl]; (repeat' apply And.intro); all_goals first | exact hK | omega)))); refine hd_nil ?_; simp only [List.map_nil, List.map_cons, List.append_nil]; refine ok_run hB tabOK pureGS_ok 100 ?_; (repeat (first
    | rw [run_ops0]
    | rw [run_seq]
    | rw [run_region]
    | rw [run_block]
    | rw [run_blk]
    | rw [run_skip]
    | (apply run_go rfl; focus (intro L K hK; simp [-List.reduceReplicate, -List.getD_eq_getElem?_getD, tdiv8, tmod8, e1, e2, e3, hsl]; (repeat' apply And.intro); all_goals first | exact hK | omega))))
    have hSl2 : (SG.set (X / 8) (SG.getD (X / 8) 0#8 ^^^ 1#8 <<< (X % 8))).length = nb + 16 := by rw [List.length_set, hsl]
    generalize SG.set (X / 8) (SG.getD (X / 8) 0#8 ^^^ 1#8 <<< (X % 8)) = Sx at hSl2 ⊢
    have hT2 := dTag_eq W (q + 7) D (Sx.take nb) hN
    have hT2l : (dTag W (q + 7) N D (Sx.take nb)).length = 16 := by rw [dTag, tagX_len]; exact dOut_len _ _
    have hU2l : (Sx.drop nb).length = 16 := by simp; omega
    have hU2t : (Sx.drop nb).take 16 = Sx.drop nb := List.take_of_length_le (by omega)
    have hT2t : (dTag W (q + 7) N D (Sx.take nb)).take 16 = dTag W (q + 7) N D (Sx.take nb) := List.take_of_length_le (by omega)
    have hl3 : lFit N 0 cn Sx 0 nb cap2 := ⟨by omega, by omega, by omega, by omega, by omega⟩
    have hdec := eqAns_dec hT2l hU2l
    have e4 : nb ≤ cap2 := by omega
    have e5 : nb + 16 ≤ cap2 := by omega
    have e6 : 16 ≤ cap2 - nb := by omega
    have e7 : ((nb : Int) + 16).toNat - nb = 16 := by omega
    rw [hT2] at hdec
    by_cases hE2 : dTag W (q + 7) N D (Sx.take nb) = Sx.drop nb
    · have he2 : eqAns (tagB W (q + 7) ((N.drop 0).take 12) ((D.drop 0).take na) ((Sx.drop 0).take nb)) (Sx.drop (0 + nb)) 16 16 = true := by
        rw [hN0, hD0, List.drop_zero, Nat.zero_add, hdec, ← hT2]
        simp [hE2]
      refine run_call rfl rfl rfl rfl ?_; refine ok_call [7, 8, 1, 11, 2] rfl rfl ⟨f29, func29, nofun, by decide⟩ (spec29O W N Sx (q + 7) cap 0 cn 0 nb cap2 D 0 na ca (by omega) hca (by omega) (by omega) (by omega) (by omega) (by omega) (by omega) (by omega) e5 (by omega) he2) trivial (by simp) (by simp [smem, tagE, matchM, ix, renA, renSeg, renR, renS, belA, belR, belS, A.len, segLen]) rfl rfl (Nat.le_of_ble_eq_true rfl) ?_; rintro sv m' ⟨rfl, rfl⟩ _; simp only [smem, tagE, afterM, putM, renMk, renA, renSeg, renR, renS, renV, ix, St.put, List.map_cons, List.map_nil, List.drop, List.length_cons, List.length_nil, List.cons_append, List.nil_append, one]; simp [-List.reduceReplicate]; refine ok_run hB tabOK pureGS_ok 100 ?_
      repeat (first
    | rw [run_ops0]
    | rw [run_seq]
    | rw [run_region]
    | rw [run_block]
    | rw [run_blk]
    | rw [run_skip]
    | apply run_exit2 rfl
    | apply run_cyes rfl
    | apply run_cno rfl
    | (rw [run_zero]; refine ok_run hB tabOK pureGS_ok 100 ?_)
    | (apply run_go rfl; focus (intro L K hK; simp [-List.reduceReplicate, -List.getD_eq_getElem?_getD, hsl]; (repeat' apply And.intro); all_goals first | exact hK | omega))
    | (apply run_gyes rfl rfl rfl rfl; focus (intro L K hK; simp [-List.reduceReplicate, -List.getD_eq_getElem?_getD, hsl]; (repeat' apply And.intro); all_goals first | exact hK | omega))
    | (apply run_gno rfl rfl rfl rfl rfl (Nat.le_of_ble_eq_true rfl); simp only [St.put])
    | (apply run_gtup rfl rfl rfl rfl (Nat.le_of_ble_eq_true rfl); simp only [St.put]))
      rw [run_draw]; refine ok_draw5 18 [(10, [9]), (11, [10])] [] tabOK pureGS_ok nuTg_ok pureGS_sub nuTg_sub mixed (by decide +kernel) rfl rfl ?_
      repeat (first
    | (apply h3_go rfl rfl rfl rfl rfl (Nat.le_of_ble_eq_true rfl) rfl; focus (intro K' hK; simp [-List.reduceReplicate, -List.getD_eq_getElem?_getD, hdk, hl1, hl2, hN1, hD1, ofI_toI, nuTg, rOfQ, datOf, hl3, hE2, hSl2, hU2l, hU2t, hT2t, hT2l, e4, e5, e6, e7]; (repeat' apply And.intro); all_goals first | exact hK | omega))
    | (apply h3_new rfl rfl rfl rfl rfl (Nat.le_of_ble_eq_true rfl) rfl; focus (intro K' hK; simp [-List.reduceReplicate, -List.getD_eq_getElem?_getD, hdk, hl1, hl2, hN1, hD1, ofI_toI, nuTg, rOfQ, datOf, hl3, hE2, hSl2, hU2l, hU2t, hT2t, hT2l, e4, e5, e6, e7]; (repeat' apply And.intro); all_goals first | exact hK | omega))
    | (apply h3_call rfl rfl rfl rfl (Nat.le_of_ble_eq_true rfl); focus (simp [newOf, -List.reduceReplicate, -List.getD_eq_getElem?_getD, hdk, hl1, hl2, hN1, hD1, ofI_toI, nuTg, rOfQ, datOf, hl3, hE2, hSl2, hU2l, hU2t, hT2t, hT2l, e4, e5, e6, e7]; first | done | exact ⟨rfl, rfl⟩ | rfl))
    | (apply h3_gyes rfl rfl rfl rfl rfl (Nat.le_of_ble_eq_true rfl) rfl; focus (apply hop_go rfl rfl; intro K' hK; simp [-List.reduceReplicate, -List.getD_eq_getElem?_getD, hdk, hl1, hl2, hN1, hD1, ofI_toI, nuTg, rOfQ, datOf, hl3, hE2, hSl2, hU2l, hU2t, hT2t, hT2l, e4, e5, e6, e7]; (repeat' apply And.intro); all_goals first | exact hK | omega))
    | (apply h3_gyes rfl rfl rfl rfl rfl (Nat.le_of_ble_eq_true rfl) rfl; focus (apply hop_new rfl rfl; intro K' hK; simp [-List.reduceReplicate, -List.getD_eq_getElem?_getD, hdk, hl1, hl2, hN1, hD1, ofI_toI, nuTg, rOfQ, datOf, hl3, hE2, hSl2, hU2l, hU2t, hT2t, hT2l, e4, e5, e6, e7]; (repeat' apply And.intro); all_goals first | exact hK | omega))
    | (apply h3_gyes rfl rfl rfl rfl rfl (Nat.le_of_ble_eq_true rfl) rfl; focus (apply hop_call; simp [newOf, -List.reduceReplicate, -List.getD_eq_getElem?_getD, hdk, hl1, hl2, hN1, hD1, ofI_toI, nuTg, rOfQ, datOf, hl3, hE2, hSl2, hU2l, hU2t, hT2t, hT2l, e4, e5, e6, e7]; first | done | exact ⟨rfl, rfl⟩ | rfl))
    | apply h3_gno rfl rfl rfl rfl rfl (Nat.le_of_ble_eq_true rfl) rfl rfl
    | apply h3_past rfl rfl rfl rfl rfl (Nat.le_of_ble_eq_true rfl) rfl
    | (apply h3_sto rfl; focus (intro K' hK; simp [-List.reduceReplicate, -List.getD_eq_getElem?_getD, hdk, hl1, hl2, hN1, hD1, ofI_toI, nuTg, rOfQ, datOf, hl3, hE2, hSl2, hU2l, hU2t, hT2t, hT2l, e4, e5, e6, e7]; (repeat' apply And.intro); all_goals first | exact hK | omega)))
      refine h3_nil ?_; simp [finL, contL, contAt, stT, List.range, List.range.loop, -List.reduceReplicate, -List.getD_eq_getElem?_getD]; refine ok_run hB tabOK pureGS_ok 100 ?_
      repeat (first
    | rw [run_ops0]
    | rw [run_seq]
    | rw [run_region]
    | rw [run_block]
    | rw [run_blk]
    | rw [run_skip]
    | apply run_exit2 rfl
    | apply run_cyes rfl
    | apply run_cno rfl
    | (rw [run_zero]; refine ok_run hB tabOK pureGS_ok 100 ?_)
    | (apply run_go rfl; focus (intro L K hK; simp [-List.reduceReplicate, -List.getD_eq_getElem?_getD, hdk, hl1, hl2, hN1, hD1, ofI_toI, nuTg, rOfQ, datOf, hl3, hE2, hSl2, hU2l, hU2t, hT2t, hT2l, e4, e5, e6, e7]; (repeat' apply And.intro); all_goals first | exact hK | omega))
    | (apply run_gyes rfl rfl rfl rfl; focus (intro L K hK; simp [-List.reduceReplicate, -List.getD_eq_getElem?_getD, hdk, hl1, hl2, hN1, hD1, ofI_toI, nuTg, rOfQ, datOf, hl3, hE2, hSl2, hU2l, hU2t, hT2t, hT2l, e4, e5, e6, e7]; (repeat' apply And.intro); all_goals first | exact hK | omega))
    | (apply run_gno rfl rfl rfl rfl rfl (Nat.le_of_ble_eq_true rfl); simp only [St.put])
    | (apply run_gtup rfl rfl rfl rfl (Nat.le_of_ble_eq_true rfl); simp only [St.put]))
      rw [run_ret]
      simp [-List.reduceReplicate, -List.getD_eq_getElem?_getD, results10, f10]
    · have he2 : eqAns (tagB W (q + 7) ((N.drop 0).take 12) ((D.drop 0).take na) ((Sx.drop 0).take nb)) (Sx.drop (0 + nb)) 16 16 = false := by
        rw [hN0, hD0, List.drop_zero, Nat.zero_add, hdec, ← hT2]
        simp [hE2]
      refine run_call rfl rfl rfl rfl ?_; refine ok_call [7, 8, 1, 11, 2] rfl rfl ⟨f29, func29, nofun, by decide⟩ (spec29B W N Sx (q + 7) cap 0 cn 0 nb cap2 D 0 na ca (by omega) hca (by omega) (by omega) (by omega) (by omega) (by omega) (by omega) (by omega) e5 (by omega) he2) trivial (by simp) (by simp [smem, tagE, matchM, ix, renA, renSeg, renR, renS, belA, belR, belS, A.len, segLen]) rfl rfl (Nat.le_of_ble_eq_true rfl) ?_; rintro sv m' ⟨rfl, rfl⟩ _; simp only [smem, tagE, afterM, putM, renMk, renA, renSeg, renR, renS, renV, ix, St.put, List.map_cons, List.map_nil, List.drop, List.length_cons, List.length_nil, List.cons_append, List.nil_append, one]; simp [-List.reduceReplicate]; refine ok_run hB tabOK pureGS_ok 100 ?_
      repeat (first
    | rw [run_ops0]
    | rw [run_seq]
    | rw [run_region]
    | rw [run_block]
    | rw [run_blk]
    | rw [run_skip]
    | apply run_exit2 rfl
    | apply run_cyes rfl
    | apply run_cno rfl
    | (rw [run_zero]; refine ok_run hB tabOK pureGS_ok 100 ?_)
    | (apply run_go rfl; focus (intro L K hK; simp [-List.reduceReplicate, -List.getD_eq_getElem?_getD, hsl]; (repeat' apply And.intro); all_goals first | exact hK | omega))
    | (apply run_gyes rfl rfl rfl rfl; focus (intro L K hK; simp [-List.reduceReplicate, -List.getD_eq_getElem?_getD, hsl]; (repeat' apply And.intro); all_goals first | exact hK | omega))
    | (apply run_gno rfl rfl rfl rfl rfl (Nat.le_of_ble_eq_true rfl); simp only [St.put])
    | (apply run_gtup rfl rfl rfl rfl (Nat.le_of_ble_eq_true rfl); simp only [St.put]))
      rw [run_draw]; refine ok_draw5 18 [(10, [9]), (11, [10])] [] tabOK pureGS_ok nuTg_ok pureGS_sub nuTg_sub mixed (by decide +kernel) rfl rfl ?_
      repeat (first
    | (apply h3_go rfl rfl rfl rfl rfl (Nat.le_of_ble_eq_true rfl) rfl; focus (intro K' hK; simp [-List.reduceReplicate, -List.getD_eq_getElem?_getD, hdk, hl1, hl2, hN1, hD1, ofI_toI, nuTg, rOfQ, datOf, hl3, hE2, hSl2, hU2l, hU2t, hT2t, hT2l, e4, e5, e6, e7]; (repeat' apply And.intro); all_goals first | exact hK | omega))
    | (apply h3_new rfl rfl rfl rfl rfl (Nat.le_of_ble_eq_true rfl) rfl; focus (intro K' hK; simp [-List.reduceReplicate, -List.getD_eq_getElem?_getD, hdk, hl1, hl2, hN1, hD1, ofI_toI, nuTg, rOfQ, datOf, hl3, hE2, hSl2, hU2l, hU2t, hT2t, hT2l, e4, e5, e6, e7]; (repeat' apply And.intro); all_goals first | exact hK | omega))
    | (apply h3_call rfl rfl rfl rfl (Nat.le_of_ble_eq_true rfl); focus (simp [newOf, -List.reduceReplicate, -List.getD_eq_getElem?_getD, hdk, hl1, hl2, hN1, hD1, ofI_toI, nuTg, rOfQ, datOf, hl3, hE2, hSl2, hU2l, hU2t, hT2t, hT2l, e4, e5, e6, e7]; first | done | exact ⟨rfl, rfl⟩ | rfl))
    | (apply h3_gyes rfl rfl rfl rfl rfl (Nat.le_of_ble_eq_true rfl) rfl; focus (apply hop_go rfl rfl; intro K' hK; simp [-List.reduceReplicate, -List.getD_eq_getElem?_getD, hdk, hl1, hl2, hN1, hD1, ofI_toI, nuTg, rOfQ, datOf, hl3, hE2, hSl2, hU2l, hU2t, hT2t, hT2l, e4, e5, e6, e7]; (repeat' apply And.intro); all_goals first | exact hK | omega))
    | (apply h3_gyes rfl rfl rfl rfl rfl (Nat.le_of_ble_eq_true rfl) rfl; focus (apply hop_new rfl rfl; intro K' hK; simp [-List.reduceReplicate, -List.getD_eq_getElem?_getD, hdk, hl1, hl2, hN1, hD1, ofI_toI, nuTg, rOfQ, datOf, hl3, hE2, hSl2, hU2l, hU2t, hT2t, hT2l, e4, e5, e6, e7]; (repeat' apply And.intro); all_goals first | exact hK | omega))
    | (apply h3_gyes rfl rfl rfl rfl rfl (Nat.le_of_ble_eq_true rfl) rfl; focus (apply hop_call; simp [newOf, -List.reduceReplicate, -List.getD_eq_getElem?_getD, hdk, hl1, hl2, hN1, hD1, ofI_toI, nuTg, rOfQ, datOf, hl3, hE2, hSl2, hU2l, hU2t, hT2t, hT2l, e4, e5, e6, e7]; first | done | exact ⟨rfl, rfl⟩ | rfl))
    | apply h3_gno rfl rfl rfl rfl rfl (Nat.le_of_ble_eq_true rfl) rfl rfl
    | apply h3_past rfl rfl rfl rfl rfl (Nat.le_of_ble_eq_true rfl) rfl
    | (apply h3_sto rfl; focus (intro K' hK; simp [-List.reduceReplicate, -List.getD_eq_getElem?_getD, hdk, hl1, hl2, hN1, hD1, ofI_toI, nuTg, rOfQ, datOf, hl3, hE2, hSl2, hU2l, hU2t, hT2t, hT2l, e4, e5, e6, e7]; (repeat' apply And.intro); all_goals first | exact hK | omega)))
      refine h3_nil ?_; simp [finL, contL, contAt, stT, List.range, List.range.loop, -List.reduceReplicate, -List.getD_eq_getElem?_getD]; refine ok_run hB tabOK pureGS_ok 100 ?_
      repeat (first
    | rw [run_ops0]
    | rw [run_seq]
    | rw [run_region]
    | rw [run_block]
    | rw [run_blk]
    | rw [run_skip]
    | apply run_exit2 rfl
    | apply run_cyes rfl
    | apply run_cno rfl
    | (rw [run_zero]; refine ok_run hB tabOK pureGS_ok 100 ?_)
    | (apply run_go rfl; focus (intro L K hK; simp [-List.reduceReplicate, -List.getD_eq_getElem?_getD, hdk, hl1, hl2, hN1, hD1, ofI_toI, nuTg, rOfQ, datOf, hl3, hE2, hSl2, hU2l, hU2t, hT2t, hT2l, e4, e5, e6, e7]; (repeat' apply And.intro); all_goals first | exact hK | omega))
    | (apply run_gyes rfl rfl rfl rfl; focus (intro L K hK; simp [-List.reduceReplicate, -List.getD_eq_getElem?_getD, hdk, hl1, hl2, hN1, hD1, ofI_toI, nuTg, rOfQ, datOf, hl3, hE2, hSl2, hU2l, hU2t, hT2t, hT2l, e4, e5, e6, e7]; (repeat' apply And.intro); all_goals first | exact hK | omega))
    | (apply run_gno rfl rfl rfl rfl rfl (Nat.le_of_ble_eq_true rfl); simp only [St.put])
    | (apply run_gtup rfl rfl rfl rfl (Nat.le_of_ble_eq_true rfl); simp only [St.put]))
      rw [run_ret]
      simp [-List.reduceReplicate, -List.getD_eq_getElem?_getD, results10, f10]
  obtain ⟨n, rfl⟩ : ∃ n, ny = n + 16 := ⟨ny - 16, by omega⟩
  have hT1 := dTag_eq W (q + 7) D (Y.take n) hN
  have hT1l : (dTag W (q + 7) N D (Y.take n)).length = 16 := by rw [dTag, tagX_len]; exact dOut_len _ _
  have hU1l : (Y.drop n).length = 16 := by simp; omega
  have hU1t : (Y.drop n).take 16 = Y.drop n := List.take_of_length_le (by omega)
  have hT1t : (dTag W (q + 7) N D (Y.take n)).take 16 = dTag W (q + 7) N D (Y.take n) := List.take_of_length_le (by omega)
  have hl4 : lFit N 0 cn Y 0 n cy := ⟨by omega, by omega, by omega, by omega, by omega⟩
  have hdec1 := eqAns_dec hT1l hU1l
  have y4 : n ≤ cy := by omega
  have y5 : n + 16 ≤ cy := by omega
  have y6 : 16 ≤ cy - n := by omega
  have y7 : ((n : Int) + 16).toNat - n = 16 := by omega
  have hYn : (Y.take n).length = n := by simp; omega
  have hTu1 := dTurn_eq W (q + 7) (Y.take n) hN hYn
  have hTl1 := dTurn_len W (q + 7) N (Y.take n) n
  have hsol : (stO W (q + 7) N (Y.take n) n).length = n := by rw [← hTu1]; exact hTl1
  have hso : (stO W (q + 7) N (Y.take n) n).take n = stO W (q + 7) N (Y.take n) n := List.take_of_length_le (by rw [← hTu1]; omega)
  rw [hT1] at hdec1
  by_cases hE1 : dTag W (q + 7) N D (Y.take n) = Y.drop n
  · have he1 : eqAns (tagB W (q + 7) ((N.drop 0).take 12) ((D.drop 0).take na) ((Y.drop 0).take n)) (Y.drop (0 + n)) 16 16 = true := by
      rw [hN0, hD0, List.drop_zero, Nat.zero_add, hdec1, ← hT1]
      simp [hE1]
    refine run_call rfl rfl rfl rfl ?_; refine ok_call [7, 8, 1, 4, 2] rfl rfl ⟨f29, func29, nofun, by decide⟩ (spec29O W N Y (q + 7) cap 0 cn 0 n cy D 0 na ca (by omega) hca (by omega) (by omega) (by omega) (by omega) (by omega) (by omega) (by omega) hcy (by omega) he1) trivial (by simp) (by simp [smem, tagE, matchM, ix, renA, renSeg, renR, renS, belA, belR, belS, A.len, segLen]) rfl rfl (Nat.le_of_ble_eq_true rfl) ?_; rintro sv m' ⟨rfl, rfl⟩ _; simp only [smem, tagE, afterM, putM, renMk, renA, renSeg, renR, renS, renV, ix, St.put, List.map_cons, List.map_nil, List.drop, List.length_cons, List.length_nil, List.cons_append, List.nil_append, one]; simp [-List.reduceReplicate]; refine ok_run hB tabOK pureGS_ok 100 ?_
    have hI : ((n + 16 : Nat) : Int) - 16 = (n : Int) := by omega
    repeat (first
    | rw [run_ops0]
    | rw [run_seq]
    | rw [run_region]
    | rw [run_block]
    | rw [run_blk]
    | rw [run_skip]
    | apply run_exit2 rfl
    | apply run_cyes rfl
    | apply run_cno rfl
    | (rw [run_zero]; refine ok_run hB tabOK pureGS_ok 100 ?_)
    | (apply run_go rfl; focus (intro L K hK; simp [-List.reduceReplicate, -List.getD_eq_getElem?_getD]; (repeat' apply And.intro); all_goals first | exact hK | omega))
    | (apply run_gyes rfl rfl rfl rfl; focus (intro L K hK; simp [-List.reduceReplicate, -List.getD_eq_getElem?_getD]; (repeat' apply And.intro); all_goals first | exact hK | omega))
    | (apply run_gno rfl rfl rfl rfl rfl (Nat.le_of_ble_eq_true rfl); simp only [St.put])
    | (apply run_gtup rfl rfl rfl rfl (Nat.le_of_ble_eq_true rfl); simp only [St.put]))
    rw [run_draw]; refine ok_draw5 19 [(12, [11])] [] tabOK pureGS_ok nuTg_ok pureGS_sub nuTg_sub mixed (by decide +kernel) rfl rfl ?_
    repeat (first
    | (apply h3_go rfl rfl rfl rfl rfl (Nat.le_of_ble_eq_true rfl) rfl; focus (intro K' hK; simp [-List.reduceReplicate, -List.getD_eq_getElem?_getD, hI, hdk, hl1, hl2, hN1, hD1, ofI_toI, nuTg, rOfQ, datOf, hl4, hE1, hYl, hU1l, hU1t, hT1t, hT1l, y4, y5, y6, y7]; (repeat' apply And.intro); all_goals first | exact hK | omega))
    | (apply h3_new rfl rfl rfl rfl rfl (Nat.le_of_ble_eq_true rfl) rfl; focus (intro K' hK; simp [-List.reduceReplicate, -List.getD_eq_getElem?_getD, hI, hdk, hl1, hl2, hN1, hD1, ofI_toI, nuTg, rOfQ, datOf, hl4, hE1, hYl, hU1l, hU1t, hT1t, hT1l, y4, y5, y6, y7]; (repeat' apply And.intro); all_goals first | exact hK | omega))
    | (apply h3_call rfl rfl rfl rfl (Nat.le_of_ble_eq_true rfl); focus (simp [newOf, -List.reduceReplicate, -List.getD_eq_getElem?_getD, hI, hdk, hl1, hl2, hN1, hD1, ofI_toI, nuTg, rOfQ, datOf, hl4, hE1, hYl, hU1l, hU1t, hT1t, hT1l, y4, y5, y6, y7]; first | done | exact ⟨rfl, rfl⟩ | rfl))
    | (apply h3_gyes rfl rfl rfl rfl rfl (Nat.le_of_ble_eq_true rfl) rfl; focus (apply hop_go rfl rfl; intro K' hK; simp [-List.reduceReplicate, -List.getD_eq_getElem?_getD, hI, hdk, hl1, hl2, hN1, hD1, ofI_toI, nuTg, rOfQ, datOf, hl4, hE1, hYl, hU1l, hU1t, hT1t, hT1l, y4, y5, y6, y7]; (repeat' apply And.intro); all_goals first | exact hK | omega))
    | (apply h3_gyes rfl rfl rfl rfl rfl (Nat.le_of_ble_eq_true rfl) rfl; focus (apply hop_new rfl rfl; intro K' hK; simp [-List.reduceReplicate, -List.getD_eq_getElem?_getD, hI, hdk, hl1, hl2, hN1, hD1, ofI_toI, nuTg, rOfQ, datOf, hl4, hE1, hYl, hU1l, hU1t, hT1t, hT1l, y4, y5, y6, y7]; (repeat' apply And.intro); all_goals first | exact hK | omega))
    | (apply h3_gyes rfl rfl rfl rfl rfl (Nat.le_of_ble_eq_true rfl) rfl; focus (apply hop_call; simp [newOf, -List.reduceReplicate, -List.getD_eq_getElem?_getD, hI, hdk, hl1, hl2, hN1, hD1, ofI_toI, nuTg, rOfQ, datOf, hl4, hE1, hYl, hU1l, hU1t, hT1t, hT1l, y4, y5, y6, y7]; first | done | exact ⟨rfl, rfl⟩ | rfl))
    | apply h3_gno rfl rfl rfl rfl rfl (Nat.le_of_ble_eq_true rfl) rfl rfl
    | apply h3_past rfl rfl rfl rfl rfl (Nat.le_of_ble_eq_true rfl) rfl
    | (apply h3_sto rfl; focus (intro K' hK; simp [-List.reduceReplicate, -List.getD_eq_getElem?_getD, hI, hdk, hl1, hl2, hN1, hD1, ofI_toI, nuTg, rOfQ, datOf, hl4, hE1, hYl, hU1l, hU1t, hT1t, hT1l, y4, y5, y6, y7]; (repeat' apply And.intro); all_goals first | exact hK | omega)))
    refine h3_nil ?_; simp [finL, contL, contAt, stT, List.range, List.range.loop, -List.reduceReplicate, -List.getD_eq_getElem?_getD]; refine ok_run hB tabOK pureGS_ok 100 ?_
    repeat (first
    | rw [run_ops0]
    | rw [run_seq]
    | rw [run_region]
    | rw [run_block]
    | rw [run_blk]
    | rw [run_skip]
    | apply run_exit2 rfl
    | apply run_cyes rfl
    | apply run_cno rfl
    | (rw [run_zero]; refine ok_run hB tabOK pureGS_ok 100 ?_)
    | (apply run_go rfl; focus (intro L K hK; simp [-List.reduceReplicate, -List.getD_eq_getElem?_getD, hI, hdk, hl1, hl2, hN1, hD1, ofI_toI, nuTg, rOfQ, datOf, hl4, hE1, hYl, hU1l, hU1t, hT1t, hT1l, y4, y5, y6, y7]; (repeat' apply And.intro); all_goals first | exact hK | omega))
    | (apply run_gyes rfl rfl rfl rfl; focus (intro L K hK; simp [-List.reduceReplicate, -List.getD_eq_getElem?_getD, hI, hdk, hl1, hl2, hN1, hD1, ofI_toI, nuTg, rOfQ, datOf, hl4, hE1, hYl, hU1l, hU1t, hT1t, hT1l, y4, y5, y6, y7]; (repeat' apply And.intro); all_goals first | exact hK | omega))
    | (apply run_gno rfl rfl rfl rfl rfl (Nat.le_of_ble_eq_true rfl); simp only [St.put])
    | (apply run_gtup rfl rfl rfl rfl (Nat.le_of_ble_eq_true rfl); simp only [St.put]))
    rw [run_draw]; refine ok_draw5 32 [(16, [15])] [] tabOK pureGS_ok nuTg_ok pureGS_sub nuTg_sub mixed (by decide +kernel) rfl rfl ?_
    repeat (first
    | (apply h3_go rfl rfl rfl rfl rfl (Nat.le_of_ble_eq_true rfl) rfl; focus (intro K' hK; simp [-List.reduceReplicate, -List.getD_eq_getElem?_getD, hI, hdk, hl1, hl2, hN1, hD1, ofI_toI, nuTg, rOfQ, datOf, hl4, hE1, hYl, hTu1, hTl1, y4, y5, y6, y7, hso, hsol]; (repeat' apply And.intro); all_goals first | exact hK | omega))
    | (apply h3_new rfl rfl rfl rfl rfl (Nat.le_of_ble_eq_true rfl) rfl; focus (intro K' hK; simp [-List.reduceReplicate, -List.getD_eq_getElem?_getD, hI, hdk, hl1, hl2, hN1, hD1, ofI_toI, nuTg, rOfQ, datOf, hl4, hE1, hYl, hTu1, hTl1, y4, y5, y6, y7, hso, hsol]; (repeat' apply And.intro); all_goals first | exact hK | omega))
    | (apply h3_call rfl rfl rfl rfl (Nat.le_of_ble_eq_true rfl); focus (simp [newOf, -List.reduceReplicate, -List.getD_eq_getElem?_getD, hI, hdk, hl1, hl2, hN1, hD1, ofI_toI, nuTg, rOfQ, datOf, hl4, hE1, hYl, hTu1, hTl1, y4, y5, y6, y7, hso, hsol]; first | done | exact ⟨rfl, rfl⟩ | rfl))
    | (apply h3_gyes rfl rfl rfl rfl rfl (Nat.le_of_ble_eq_true rfl) rfl; focus (apply hop_go rfl rfl; intro K' hK; simp [-List.reduceReplicate, -List.getD_eq_getElem?_getD, hI, hdk, hl1, hl2, hN1, hD1, ofI_toI, nuTg, rOfQ, datOf, hl4, hE1, hYl, hTu1, hTl1, y4, y5, y6, y7, hso, hsol]; (repeat' apply And.intro); all_goals first | exact hK | omega))
    | (apply h3_gyes rfl rfl rfl rfl rfl (Nat.le_of_ble_eq_true rfl) rfl; focus (apply hop_new rfl rfl; intro K' hK; simp [-List.reduceReplicate, -List.getD_eq_getElem?_getD, hI, hdk, hl1, hl2, hN1, hD1, ofI_toI, nuTg, rOfQ, datOf, hl4, hE1, hYl, hTu1, hTl1, y4, y5, y6, y7, hso, hsol]; (repeat' apply And.intro); all_goals first | exact hK | omega))
    | (apply h3_gyes rfl rfl rfl rfl rfl (Nat.le_of_ble_eq_true rfl) rfl; focus (apply hop_call; simp [newOf, -List.reduceReplicate, -List.getD_eq_getElem?_getD, hI, hdk, hl1, hl2, hN1, hD1, ofI_toI, nuTg, rOfQ, datOf, hl4, hE1, hYl, hTu1, hTl1, y4, y5, y6, y7, hso, hsol]; first | done | exact ⟨rfl, rfl⟩ | rfl))
    | apply h3_gno rfl rfl rfl rfl rfl (Nat.le_of_ble_eq_true rfl) rfl rfl
    | apply h3_past rfl rfl rfl rfl rfl (Nat.le_of_ble_eq_true rfl) rfl
    | (apply h3_sto rfl; focus (intro K' hK; simp [-List.reduceReplicate, -List.getD_eq_getElem?_getD, hI, hdk, hl1, hl2, hN1, hD1, ofI_toI, nuTg, rOfQ, datOf, hl4, hE1, hYl, hTu1, hTl1, y4, y5, y6, y7, hso, hsol]; (repeat' apply And.intro); all_goals first | exact hK | omega)))
    refine h3_nil ?_; simp [finL, contL, contAt, stT, List.range, List.range.loop, -List.reduceReplicate, -List.getD_eq_getElem?_getD]; refine ok_run hB tabOK pureGS_ok 100 ?_
    repeat (first
    | rw [run_ops0]
    | rw [run_seq]
    | rw [run_region]
    | rw [run_block]
    | rw [run_blk]
    | rw [run_skip]
    | apply run_exit2 rfl
    | apply run_cyes rfl
    | apply run_cno rfl
    | (rw [run_zero]; refine ok_run hB tabOK pureGS_ok 100 ?_)
    | (apply run_go rfl; focus (intro L K hK; simp [-List.reduceReplicate, -List.getD_eq_getElem?_getD, hI, hdk, hl1, hl2, hN1, hD1, ofI_toI, nuTg, rOfQ, datOf, hl4, hE1, hYl, hTu1, hTl1, y4, y5, y6, y7, hso, hsol]; (repeat' apply And.intro); all_goals first | exact hK | omega))
    | (apply run_gyes rfl rfl rfl rfl; focus (intro L K hK; simp [-List.reduceReplicate, -List.getD_eq_getElem?_getD, hI, hdk, hl1, hl2, hN1, hD1, ofI_toI, nuTg, rOfQ, datOf, hl4, hE1, hYl, hTu1, hTl1, y4, y5, y6, y7, hso, hsol]; (repeat' apply And.intro); all_goals first | exact hK | omega))
    | (apply run_gno rfl rfl rfl rfl rfl (Nat.le_of_ble_eq_true rfl); simp only [St.put])
    | (apply run_gtup rfl rfl rfl rfl (Nat.le_of_ble_eq_true rfl); simp only [St.put]))
    refine run_call rfl rfl rfl rfl ?_; refine ok_call [7, 8, 1, 3, 2] rfl rfl ⟨f28, func28, nofun, by decide⟩ (spec28 W N (q + 7) cap 0 cn D B 0 na ca 0 nb cb (by omega) hca (by omega) (by omega) hcb (by omega) (by omega) (by omega) (by omega) (by omega) (by omega)) trivial (by simp) (by simp [smem, tagE, matchM, ix, renA, renSeg, renR, renS, belA, belR, belS, A.len, segLen]) rfl rfl (Nat.le_of_ble_eq_true rfl) ?_; rintro sv m' ⟨cap2, hcap2, rfl, rfl⟩ _; simp only [smem, tagE, afterM, putM, renMk, renA, renSeg, renR, renS, renV, ix, St.put, List.map_cons, List.map_nil, List.drop, List.length_cons, List.length_nil, List.cons_append, List.nil_append, one]; simp [-List.reduceReplicate]; refine ok_run hB tabOK pureGS_ok 100 ?_
    rw [hN1, hD1, hB1]
    have hsl := sealed_len (W := W) (N := N) (A := D) (nr := q + 7) hBl
    generalize stO W (q + 7) N B nb ++ tagB W (q + 7) N D (stO W (q + 7) N B nb) = SG at hsl ⊢
    repeat (first
    | rw [run_ops0]
    | rw [run_seq]
    | rw [run_region]
    | rw [run_block]
    | rw [run_blk]
    | rw [run_skip]
    | apply run_exit2 rfl
    | apply run_cyes rfl
    | apply run_cno rfl
    | (rw [run_zero]; refine ok_run hB tabOK pureGS_ok 100 ?_)
    | (apply run_go rfl; focus (intro L K hK; simp [-List.reduceReplicate, -List.getD_eq_getElem?_getD, hx1, hx2, hX, tdiv8, tmod8]; (repeat' apply And.intro); all_goals first | exact hK | omega))
    | (apply run_gyes rfl rfl rfl rfl; focus (intro L K hK; simp [-List.reduceReplicate, -List.getD_eq_getElem?_getD, hx1, hx2, hX, tdiv8, tmod8]; (repeat' apply And.intro); all_goals first | exact hK | omega))
    | (apply run_gno rfl rfl rfl rfl rfl (Nat.le_of_ble_eq_true rfl); simp only [St.put])
    | (apply run_gtup rfl rfl rfl rfl (Nat.le_of_ble_eq_true rfl); simp only [St.put]))
    have e1 : ((X : Int) / 8).toNat = X / 8 := by omega
    have e2 : ((X : Int) % 8).toNat = X % 8 := by omega
    have e3 : X / 8 < nb + 16 := by omega
    rw [run_draw]; refine ok_draw2 10 tabOK pureGS_ok pureGS_mono mixed (by decide +kernel) rfl rfl ?_; (repeat (first
    | (apply hd_go rfl rfl rfl rfl (Nat.le_of_ble_eq_true rfl); focus (intro K' hK; simp [-List.reduceReplicate, -List.getD_eq_getElem?_getD, tdiv8, tmod8, e1, e2, e3, hsl]; (repeat' apply And.intro); all_goals first | exact hK | omega))
    | (apply hd_new rfl rfl rfl rfl (Nat.le_of_ble_eq_true rfl); focus (intro K' hK; simp [-List.reduceReplicate, -List.getD_eq_getElem?_getD, tdiv8, tmod8, e1, e2, e3, hsl]; (repeat' apply And.intro); all_goals first | exact hK | omega)))); refine hd_nil ?_; simp only [List.map_nil, List.map_cons, List.append_nil]; refine ok_run hB tabOK pureGS_ok 100 ?_; (repeat (first
    | rw [run_ops0]
    | rw [run_seq]
    | rw [run_region]
    | rw [run_block]
    | rw [run_blk]
    | rw [run_skip]
    | (apply run_go rfl; focus (intro L K hK; simp [-List.reduceReplicate, -List.getD_eq_getElem?_getD, tdiv8, tmod8, e1, e2, e3, hsl]; (repeat' apply And.intro); all_goals first | exact hK | omega))))
    have hSl2 : (SG.set (X / 8) (SG.getD (X / 8) 0#8 ^^^ 1#8 <<< (X % 8))).length = nb + 16 := by rw [List.length_set, hsl]
    generalize SG.set (X / 8) (SG.getD (X / 8) 0#8 ^^^ 1#8 <<< (X % 8)) = Sx at hSl2 ⊢
    have hT2 := dTag_eq W (q + 7) D (Sx.take nb) hN
    have hT2l : (dTag W (q + 7) N D (Sx.take nb)).length = 16 := by rw [dTag, tagX_len]; exact dOut_len _ _
    have hU2l : (Sx.drop nb).length = 16 := by simp; omega
    have hU2t : (Sx.drop nb).take 16 = Sx.drop nb := List.take_of_length_le (by omega)
    have hT2t : (dTag W (q + 7) N D (Sx.take nb)).take 16 = dTag W (q + 7) N D (Sx.take nb) := List.take_of_length_le (by omega)
    have hl3 : lFit N 0 cn Sx 0 nb cap2 := ⟨by omega, by omega, by omega, by omega, by omega⟩
    have hdec := eqAns_dec hT2l hU2l
    have e4 : nb ≤ cap2 := by omega
    have e5 : nb + 16 ≤ cap2 := by omega
    have e6 : 16 ≤ cap2 - nb := by omega
    have e7 : ((nb : Int) + 16).toNat - nb = 16 := by omega
    rw [hT2] at hdec
    by_cases hE2 : dTag W (q + 7) N D (Sx.take nb) = Sx.drop nb
    · have he2 : eqAns (tagB W (q + 7) ((N.drop 0).take 12) ((D.drop 0).take na) ((Sx.drop 0).take nb)) (Sx.drop (0 + nb)) 16 16 = true := by
        rw [hN0, hD0, List.drop_zero, Nat.zero_add, hdec, ← hT2]
        simp [hE2]
      refine run_call rfl rfl rfl rfl ?_; refine ok_call [7, 8, 1, 21, 2] rfl rfl ⟨f29, func29, nofun, by decide⟩ (spec29O W N Sx (q + 7) cap 0 cn 0 nb cap2 D 0 na ca (by omega) hca (by omega) (by omega) (by omega) (by omega) (by omega) (by omega) (by omega) e5 (by omega) he2) trivial (by simp) (by simp [smem, tagE, matchM, ix, renA, renSeg, renR, renS, belA, belR, belS, A.len, segLen]) rfl rfl (Nat.le_of_ble_eq_true rfl) ?_; rintro sv m' ⟨rfl, rfl⟩ _; simp only [smem, tagE, afterM, putM, renMk, renA, renSeg, renR, renS, renV, ix, St.put, List.map_cons, List.map_nil, List.drop, List.length_cons, List.length_nil, List.cons_append, List.nil_append, one]; simp [-List.reduceReplicate]; refine ok_run hB tabOK pureGS_ok 100 ?_
      repeat (first
    | rw [run_ops0]
    | rw [run_seq]
    | rw [run_region]
    | rw [run_block]
    | rw [run_blk]
    | rw [run_skip]
    | apply run_exit2 rfl
    | apply run_cyes rfl
    | apply run_cno rfl
    | (rw [run_zero]; refine ok_run hB tabOK pureGS_ok 100 ?_)
    | (apply run_go rfl; focus (intro L K hK; simp [-List.reduceReplicate, -List.getD_eq_getElem?_getD, hsl]; (repeat' apply And.intro); all_goals first | exact hK | omega))
    | (apply run_gyes rfl rfl rfl rfl; focus (intro L K hK; simp [-List.reduceReplicate, -List.getD_eq_getElem?_getD, hsl]; (repeat' apply And.intro); all_goals first | exact hK | omega))
    | (apply run_gno rfl rfl rfl rfl rfl (Nat.le_of_ble_eq_true rfl); simp only [St.put])
    | (apply run_gtup rfl rfl rfl rfl (Nat.le_of_ble_eq_true rfl); simp only [St.put]))
      rw [run_draw]; refine ok_draw5 18 [(10, [9]), (11, [10])] [] tabOK pureGS_ok nuTg_ok pureGS_sub nuTg_sub mixed (by decide +kernel) rfl rfl ?_
      repeat (first
    | (apply h3_go rfl rfl rfl rfl rfl (Nat.le_of_ble_eq_true rfl) rfl; focus (intro K' hK; simp [-List.reduceReplicate, -List.getD_eq_getElem?_getD, hdk, hl1, hl2, hN1, hD1, ofI_toI, nuTg, rOfQ, datOf, hl3, hE2, hSl2, hU2l, hU2t, hT2t, hT2l, e4, e5, e6, e7]; (repeat' apply And.intro); all_goals first | exact hK | omega))
    | (apply h3_new rfl rfl rfl rfl rfl (Nat.le_of_ble_eq_true rfl) rfl; focus (intro K' hK; simp [-List.reduceReplicate, -List.getD_eq_getElem?_getD, hdk, hl1, hl2, hN1, hD1, ofI_toI, nuTg, rOfQ, datOf, hl3, hE2, hSl2, hU2l, hU2t, hT2t, hT2l, e4, e5, e6, e7]; (repeat' apply And.intro); all_goals first | exact hK | omega))
    | (apply h3_call rfl rfl rfl rfl (Nat.le_of_ble_eq_true rfl); focus (simp [newOf, -List.reduceReplicate, -List.getD_eq_getElem?_getD, hdk, hl1, hl2, hN1, hD1, ofI_toI, nuTg, rOfQ, datOf, hl3, hE2, hSl2, hU2l, hU2t, hT2t, hT2l, e4, e5, e6, e7]; first | done | exact ⟨rfl, rfl⟩ | rfl))
    | (apply h3_gyes rfl rfl rfl rfl rfl (Nat.le_of_ble_eq_true rfl) rfl; focus (apply hop_go rfl rfl; intro K' hK; simp [-List.reduceReplicate, -List.getD_eq_getElem?_getD, hdk, hl1, hl2, hN1, hD1, ofI_toI, nuTg, rOfQ, datOf, hl3, hE2, hSl2, hU2l, hU2t, hT2t, hT2l, e4, e5, e6, e7]; (repeat' apply And.intro); all_goals first | exact hK | omega))
    | (apply h3_gyes rfl rfl rfl rfl rfl (Nat.le_of_ble_eq_true rfl) rfl; focus (apply hop_new rfl rfl; intro K' hK; simp [-List.reduceReplicate, -List.getD_eq_getElem?_getD, hdk, hl1, hl2, hN1, hD1, ofI_toI, nuTg, rOfQ, datOf, hl3, hE2, hSl2, hU2l, hU2t, hT2t, hT2l, e4, e5, e6, e7]; (repeat' apply And.intro); all_goals first | exact hK | omega))
    | (apply h3_gyes rfl rfl rfl rfl rfl (Nat.le_of_ble_eq_true rfl) rfl; focus (apply hop_call; simp [newOf, -List.reduceReplicate, -List.getD_eq_getElem?_getD, hdk, hl1, hl2, hN1, hD1, ofI_toI, nuTg, rOfQ, datOf, hl3, hE2, hSl2, hU2l, hU2t, hT2t, hT2l, e4, e5, e6, e7]; first | done | exact ⟨rfl, rfl⟩ | rfl))
    | apply h3_gno rfl rfl rfl rfl rfl (Nat.le_of_ble_eq_true rfl) rfl rfl
    | apply h3_past rfl rfl rfl rfl rfl (Nat.le_of_ble_eq_true rfl) rfl
    | (apply h3_sto rfl; focus (intro K' hK; simp [-List.reduceReplicate, -List.getD_eq_getElem?_getD, hdk, hl1, hl2, hN1, hD1, ofI_toI, nuTg, rOfQ, datOf, hl3, hE2, hSl2, hU2l, hU2t, hT2t, hT2l, e4, e5, e6, e7]; (repeat' apply And.intro); all_goals first | exact hK | omega)))
      refine h3_nil ?_; simp [finL, contL, contAt, stT, List.range, List.range.loop, -List.reduceReplicate, -List.getD_eq_getElem?_getD]; refine ok_run hB tabOK pureGS_ok 100 ?_
      repeat (first
    | rw [run_ops0]
    | rw [run_seq]
    | rw [run_region]
    | rw [run_block]
    | rw [run_blk]
    | rw [run_skip]
    | apply run_exit2 rfl
    | apply run_cyes rfl
    | apply run_cno rfl
    | (rw [run_zero]; refine ok_run hB tabOK pureGS_ok 100 ?_)
    | (apply run_go rfl; focus (intro L K hK; simp [-List.reduceReplicate, -List.getD_eq_getElem?_getD, hdk, hl1, hl2, hN1, hD1, ofI_toI, nuTg, rOfQ, datOf, hl3, hE2, hSl2, hU2l, hU2t, hT2t, hT2l, e4, e5, e6, e7]; (repeat' apply And.intro); all_goals first | exact hK | omega))
    | (apply run_gyes rfl rfl rfl rfl; focus (intro L K hK; simp [-List.reduceReplicate, -List.getD_eq_getElem?_getD, hdk, hl1, hl2, hN1, hD1, ofI_toI, nuTg, rOfQ, datOf, hl3, hE2, hSl2, hU2l, hU2t, hT2t, hT2l, e4, e5, e6, e7]; (repeat' apply And.intro); all_goals first | exact hK | omega))
    | (apply run_gno rfl rfl rfl rfl rfl (Nat.le_of_ble_eq_true rfl); simp only [St.put])
    | (apply run_gtup rfl rfl rfl rfl (Nat.le_of_ble_eq_true rfl); simp only [St.put]))
      rw [run_ret]
      simp [-List.reduceReplicate, -List.getD_eq_getElem?_getD, results10, f10]
    · have he2 : eqAns (tagB W (q + 7) ((N.drop 0).take 12) ((D.drop 0).take na) ((Sx.drop 0).take nb)) (Sx.drop (0 + nb)) 16 16 = false := by
        rw [hN0, hD0, List.drop_zero, Nat.zero_add, hdec, ← hT2]
        simp [hE2]
      refine run_call rfl rfl rfl rfl ?_; refine ok_call [7, 8, 1, 21, 2] rfl rfl ⟨f29, func29, nofun, by decide⟩ (spec29B W N Sx (q + 7) cap 0 cn 0 nb cap2 D 0 na ca (by omega) hca (by omega) (by omega) (by omega) (by omega) (by omega) (by omega) (by omega) e5 (by omega) he2) trivial (by simp) (by simp [smem, tagE, matchM, ix, renA, renSeg, renR, renS, belA, belR, belS, A.len, segLen]) rfl rfl (Nat.le_of_ble_eq_true rfl) ?_; rintro sv m' ⟨rfl, rfl⟩ _; simp only [smem, tagE, afterM, putM, renMk, renA, renSeg, renR, renS, renV, ix, St.put, List.map_cons, List.map_nil, List.drop, List.length_cons, List.length_nil, List.cons_append, List.nil_append, one]; simp [-List.reduceReplicate]; refine ok_run hB tabOK pureGS_ok 100 ?_
      repeat (first
    | rw [run_ops0]
    | rw [run_seq]
    | rw [run_region]
    | rw [run_block]
    | rw [run_blk]
    | rw [run_skip]
    | apply run_exit2 rfl
    | apply run_cyes rfl
    | apply run_cno rfl
    | (rw [run_zero]; refine ok_run hB tabOK pureGS_ok 100 ?_)
    | (apply run_go rfl; focus (intro L K hK; simp [-List.reduceReplicate, -List.getD_eq_getElem?_getD, hsl]; (repeat' apply And.intro); all_goals first | exact hK | omega))
    | (apply run_gyes rfl rfl rfl rfl; focus (intro L K hK; simp [-List.reduceReplicate, -List.getD_eq_getElem?_getD, hsl]; (repeat' apply And.intro); all_goals first | exact hK | omega))
    | (apply run_gno rfl rfl rfl rfl rfl (Nat.le_of_ble_eq_true rfl); simp only [St.put])
    | (apply run_gtup rfl rfl rfl rfl (Nat.le_of_ble_eq_true rfl); simp only [St.put]))
      rw [run_draw]; refine ok_draw5 18 [(10, [9]), (11, [10])] [] tabOK pureGS_ok nuTg_ok pureGS_sub nuTg_sub mixed (by decide +kernel) rfl rfl ?_
      repeat (first
    | (apply h3_go rfl rfl rfl rfl rfl (Nat.le_of_ble_eq_true rfl) rfl; focus (intro K' hK; simp [-List.reduceReplicate, -List.getD_eq_getElem?_getD, hdk, hl1, hl2, hN1, hD1, ofI_toI, nuTg, rOfQ, datOf, hl3, hE2, hSl2, hU2l, hU2t, hT2t, hT2l, e4, e5, e6, e7]; (repeat' apply And.intro); all_goals first | exact hK | omega))
    | (apply h3_new rfl rfl rfl rfl rfl (Nat.le_of_ble_eq_true rfl) rfl; focus (intro K' hK; simp [-List.reduceReplicate, -List.getD_eq_getElem?_getD, hdk, hl1, hl2, hN1, hD1, ofI_toI, nuTg, rOfQ, datOf, hl3, hE2, hSl2, hU2l, hU2t, hT2t, hT2l, e4, e5, e6, e7]; (repeat' apply And.intro); all_goals first | exact hK | omega))
    | (apply h3_call rfl rfl rfl rfl (Nat.le_of_ble_eq_true rfl); focus (simp [newOf, -List.reduceReplicate, -List.getD_eq_getElem?_getD, hdk, hl1, hl2, hN1, hD1, ofI_toI, nuTg, rOfQ, datOf, hl3, hE2, hSl2, hU2l, hU2t, hT2t, hT2l, e4, e5, e6, e7]; first | done | exact ⟨rfl, rfl⟩ | rfl))
    | (apply h3_gyes rfl rfl rfl rfl rfl (Nat.le_of_ble_eq_true rfl) rfl; focus (apply hop_go rfl rfl; intro K' hK; simp [-List.reduceReplicate, -List.getD_eq_getElem?_getD, hdk, hl1, hl2, hN1, hD1, ofI_toI, nuTg, rOfQ, datOf, hl3, hE2, hSl2, hU2l, hU2t, hT2t, hT2l, e4, e5, e6, e7]; (repeat' apply And.intro); all_goals first | exact hK | omega))
    | (apply h3_gyes rfl rfl rfl rfl rfl (Nat.le_of_ble_eq_true rfl) rfl; focus (apply hop_new rfl rfl; intro K' hK; simp [-List.reduceReplicate, -List.getD_eq_getElem?_getD, hdk, hl1, hl2, hN1, hD1, ofI_toI, nuTg, rOfQ, datOf, hl3, hE2, hSl2, hU2l, hU2t, hT2t, hT2l, e4, e5, e6, e7]; (repeat' apply And.intro); all_goals first | exact hK | omega))
    | (apply h3_gyes rfl rfl rfl rfl rfl (Nat.le_of_ble_eq_true rfl) rfl; focus (apply hop_call; simp [newOf, -List.reduceReplicate, -List.getD_eq_getElem?_getD, hdk, hl1, hl2, hN1, hD1, ofI_toI, nuTg, rOfQ, datOf, hl3, hE2, hSl2, hU2l, hU2t, hT2t, hT2l, e4, e5, e6, e7]; first | done | exact ⟨rfl, rfl⟩ | rfl))
    | apply h3_gno rfl rfl rfl rfl rfl (Nat.le_of_ble_eq_true rfl) rfl rfl
    | apply h3_past rfl rfl rfl rfl rfl (Nat.le_of_ble_eq_true rfl) rfl
    | (apply h3_sto rfl; focus (intro K' hK; simp [-List.reduceReplicate, -List.getD_eq_getElem?_getD, hdk, hl1, hl2, hN1, hD1, ofI_toI, nuTg, rOfQ, datOf, hl3, hE2, hSl2, hU2l, hU2t, hT2t, hT2l, e4, e5, e6, e7]; (repeat' apply And.intro); all_goals first | exact hK | omega)))
      refine h3_nil ?_; simp [finL, contL, contAt, stT, List.range, List.range.loop, -List.reduceReplicate, -List.getD_eq_getElem?_getD]; refine ok_run hB tabOK pureGS_ok 100 ?_
      repeat (first
    | rw [run_ops0]
    | rw [run_seq]
    | rw [run_region]
    | rw [run_block]
    | rw [run_blk]
    | rw [run_skip]
    | apply run_exit2 rfl
    | apply run_cyes rfl
    | apply run_cno rfl
    | (rw [run_zero]; refine ok_run hB tabOK pureGS_ok 100 ?_)
    | (apply run_go rfl; focus (intro L K hK; simp [-List.reduceReplicate, -List.getD_eq_getElem?_getD, hdk, hl1, hl2, hN1, hD1, ofI_toI, nuTg, rOfQ, datOf, hl3, hE2, hSl2, hU2l, hU2t, hT2t, hT2l, e4, e5, e6, e7]; (repeat' apply And.intro); all_goals first | exact hK | omega))
    | (apply run_gyes rfl rfl rfl rfl; focus (intro L K hK; simp [-List.reduceReplicate, -List.getD_eq_getElem?_getD, hdk, hl1, hl2, hN1, hD1, ofI_toI, nuTg, rOfQ, datOf, hl3, hE2, hSl2, hU2l, hU2t, hT2t, hT2l, e4, e5, e6, e7]; (repeat' apply And.intro); all_goals first | exact hK | omega))
    | (apply run_gno rfl rfl rfl rfl rfl (Nat.le_of_ble_eq_true rfl); simp only [St.put])
    | (apply run_gtup rfl rfl rfl rfl (Nat.le_of_ble_eq_true rfl); simp only [St.put]))
      rw [run_ret]
      simp [-List.reduceReplicate, -List.getD_eq_getElem?_getD, results10, f10]
  · have he1 : eqAns (tagB W (q + 7) ((N.drop 0).take 12) ((D.drop 0).take na) ((Y.drop 0).take n)) (Y.drop (0 + n)) 16 16 = false := by
      rw [hN0, hD0, List.drop_zero, Nat.zero_add, hdec1, ← hT1]
      simp [hE1]
    refine run_call rfl rfl rfl rfl ?_; refine ok_call [7, 8, 1, 4, 2] rfl rfl ⟨f29, func29, nofun, by decide⟩ (spec29B W N Y (q + 7) cap 0 cn 0 n cy D 0 na ca (by omega) hca (by omega) (by omega) (by omega) (by omega) (by omega) (by omega) (by omega) hcy (by omega) he1) trivial (by simp) (by simp [smem, tagE, matchM, ix, renA, renSeg, renR, renS, belA, belR, belS, A.len, segLen]) rfl rfl (Nat.le_of_ble_eq_true rfl) ?_; rintro sv m' ⟨rfl, rfl⟩ _; simp only [smem, tagE, afterM, putM, renMk, renA, renSeg, renR, renS, renV, ix, St.put, List.map_cons, List.map_nil, List.drop, List.length_cons, List.length_nil, List.cons_append, List.nil_append, one]; simp [-List.reduceReplicate]; refine ok_run hB tabOK pureGS_ok 100 ?_
    have hI : ((n + 16 : Nat) : Int) - 16 = (n : Int) := by omega
    repeat (first
    | rw [run_ops0]
    | rw [run_seq]
    | rw [run_region]
    | rw [run_block]
    | rw [run_blk]
    | rw [run_skip]
    | apply run_exit2 rfl
    | apply run_cyes rfl
    | apply run_cno rfl
    | (rw [run_zero]; refine ok_run hB tabOK pureGS_ok 100 ?_)
    | (apply run_go rfl; focus (intro L K hK; simp [-List.reduceReplicate, -List.getD_eq_getElem?_getD]; (repeat' apply And.intro); all_goals first | exact hK | omega))
    | (apply run_gyes rfl rfl rfl rfl; focus (intro L K hK; simp [-List.reduceReplicate, -List.getD_eq_getElem?_getD]; (repeat' apply And.intro); all_goals first | exact hK | omega))
    | (apply run_gno rfl rfl rfl rfl rfl (Nat.le_of_ble_eq_true rfl); simp only [St.put])
    | (apply run_gtup rfl rfl rfl rfl (Nat.le_of_ble_eq_true rfl); simp only [St.put]))
    rw [run_draw]; refine ok_draw5 19 [(12, [11])] [] tabOK pureGS_ok nuTg_ok pureGS_sub nuTg_sub mixed (by decide +kernel) rfl rfl ?_
    repeat (first
    | (apply h3_go rfl rfl rfl rfl rfl (Nat.le_of_ble_eq_true rfl) rfl; focus (intro K' hK; simp [-List.reduceReplicate, -List.getD_eq_getElem?_getD, hI, hdk, hl1, hl2, hN1, hD1, ofI_toI, nuTg, rOfQ, datOf, hl4, hE1, hYl, hU1l, hU1t, hT1t, hT1l, y4, y5, y6, y7]; (repeat' apply And.intro); all_goals first | exact hK | omega))
    | (apply h3_new rfl rfl rfl rfl rfl (Nat.le_of_ble_eq_true rfl) rfl; focus (intro K' hK; simp [-List.reduceReplicate, -List.getD_eq_getElem?_getD, hI, hdk, hl1, hl2, hN1, hD1, ofI_toI, nuTg, rOfQ, datOf, hl4, hE1, hYl, hU1l, hU1t, hT1t, hT1l, y4, y5, y6, y7]; (repeat' apply And.intro); all_goals first | exact hK | omega))
    | (apply h3_call rfl rfl rfl rfl (Nat.le_of_ble_eq_true rfl); focus (simp [newOf, -List.reduceReplicate, -List.getD_eq_getElem?_getD, hI, hdk, hl1, hl2, hN1, hD1, ofI_toI, nuTg, rOfQ, datOf, hl4, hE1, hYl, hU1l, hU1t, hT1t, hT1l, y4, y5, y6, y7]; first | done | exact ⟨rfl, rfl⟩ | rfl))
    | (apply h3_gyes rfl rfl rfl rfl rfl (Nat.le_of_ble_eq_true rfl) rfl; focus (apply hop_go rfl rfl; intro K' hK; simp [-List.reduceReplicate, -List.getD_eq_getElem?_getD, hI, hdk, hl1, hl2, hN1, hD1, ofI_toI, nuTg, rOfQ, datOf, hl4, hE1, hYl, hU1l, hU1t, hT1t, hT1l, y4, y5, y6, y7]; (repeat' apply And.intro); all_goals first | exact hK | omega))
    | (apply h3_gyes rfl rfl rfl rfl rfl (Nat.le_of_ble_eq_true rfl) rfl; focus (apply hop_new rfl rfl; intro K' hK; simp [-List.reduceReplicate, -List.getD_eq_getElem?_getD, hI, hdk, hl1, hl2, hN1, hD1, ofI_toI, nuTg, rOfQ, datOf, hl4, hE1, hYl, hU1l, hU1t, hT1t, hT1l, y4, y5, y6, y7]; (repeat' apply And.intro); all_goals first | exact hK | omega))
    | (apply h3_gyes rfl rfl rfl rfl rfl (Nat.le_of_ble_eq_true rfl) rfl; focus (apply hop_call; simp [newOf, -List.reduceReplicate, -List.getD_eq_getElem?_getD, hI, hdk, hl1, hl2, hN1, hD1, ofI_toI, nuTg, rOfQ, datOf, hl4, hE1, hYl, hU1l, hU1t, hT1t, hT1l, y4, y5, y6, y7]; first | done | exact ⟨rfl, rfl⟩ | rfl))
    | apply h3_gno rfl rfl rfl rfl rfl (Nat.le_of_ble_eq_true rfl) rfl rfl
    | apply h3_past rfl rfl rfl rfl rfl (Nat.le_of_ble_eq_true rfl) rfl
    | (apply h3_sto rfl; focus (intro K' hK; simp [-List.reduceReplicate, -List.getD_eq_getElem?_getD, hI, hdk, hl1, hl2, hN1, hD1, ofI_toI, nuTg, rOfQ, datOf, hl4, hE1, hYl, hU1l, hU1t, hT1t, hT1l, y4, y5, y6, y7]; (repeat' apply And.intro); all_goals first | exact hK | omega)))
    refine h3_nil ?_; simp [finL, contL, contAt, stT, List.range, List.range.loop, -List.reduceReplicate, -List.getD_eq_getElem?_getD]; refine ok_run hB tabOK pureGS_ok 100 ?_
    repeat (first
    | rw [run_ops0]
    | rw [run_seq]
    | rw [run_region]
    | rw [run_block]
    | rw [run_blk]
    | rw [run_skip]
    | apply run_exit2 rfl
    | apply run_cyes rfl
    | apply run_cno rfl
    | (rw [run_zero]; refine ok_run hB tabOK pureGS_ok 100 ?_)
    | (apply run_go rfl; focus (intro L K hK; simp [-List.reduceReplicate, -List.getD_eq_getElem?_getD, hI, hdk, hl1, hl2, hN1, hD1, ofI_toI, nuTg, rOfQ, datOf, hl4, hE1, hYl, hU1l, hU1t, hT1t, hT1l, y4, y5, y6, y7]; (repeat' apply And.intro); all_goals first | exact hK | omega))
    | (apply run_gyes rfl rfl rfl rfl; focus (intro L K hK; simp [-List.reduceReplicate, -List.getD_eq_getElem?_getD, hI, hdk, hl1, hl2, hN1, hD1, ofI_toI, nuTg, rOfQ, datOf, hl4, hE1, hYl, hU1l, hU1t, hT1t, hT1l, y4, y5, y6, y7]; (repeat' apply And.intro); all_goals first | exact hK | omega))
    | (apply run_gno rfl rfl rfl rfl rfl (Nat.le_of_ble_eq_true rfl); simp only [St.put])
    | (apply run_gtup rfl rfl rfl rfl (Nat.le_of_ble_eq_true rfl); simp only [St.put]))
    rw [run_draw]; refine ok_draw5 32 [(16, [15])] [] tabOK pureGS_ok nuTg_ok pureGS_sub nuTg_sub mixed (by decide +kernel) rfl rfl ?_
    repeat (first
    | (apply h3_go rfl rfl rfl rfl rfl (Nat.le_of_ble_eq_true rfl) rfl; focus (intro K' hK; simp [-List.reduceReplicate, -List.getD_eq_getElem?_getD, hI, hdk, hl1, hl2, hN1, hD1, ofI_toI, nuTg, rOfQ, datOf, hl4, hE1, hYl, hTu1, hTl1, y4, y5, y6, y7, hso, hsol]; (repeat' apply And.intro); all_goals first | exact hK | omega))
    | (apply h3_new rfl rfl rfl rfl rfl (Nat.le_of_ble_eq_true rfl) rfl; focus (intro K' hK; simp [-List.reduceReplicate, -List.getD_eq_getElem?_getD, hI, hdk, hl1, hl2, hN1, hD1, ofI_toI, nuTg, rOfQ, datOf, hl4, hE1, hYl, hTu1, hTl1, y4, y5, y6, y7, hso, hsol]; (repeat' apply And.intro); all_goals first | exact hK | omega))
    | (apply h3_call rfl rfl rfl rfl (Nat.le_of_ble_eq_true rfl); focus (simp [newOf, -List.reduceReplicate, -List.getD_eq_getElem?_getD, hI, hdk, hl1, hl2, hN1, hD1, ofI_toI, nuTg, rOfQ, datOf, hl4, hE1, hYl, hTu1, hTl1, y4, y5, y6, y7, hso, hsol]; first | done | exact ⟨rfl, rfl⟩ | rfl))
    | (apply h3_gyes rfl rfl rfl rfl rfl (Nat.le_of_ble_eq_true rfl) rfl; focus (apply hop_go rfl rfl; intro K' hK; simp [-List.reduceReplicate, -List.getD_eq_getElem?_getD, hI, hdk, hl1, hl2, hN1, hD1, ofI_toI, nuTg, rOfQ, datOf, hl4, hE1, hYl, hTu1, hTl1, y4, y5, y6, y7, hso, hsol]; (repeat' apply And.intro); all_goals first | exact hK | omega))
    | (apply h3_gyes rfl rfl rfl rfl rfl (Nat.le_of_ble_eq_true rfl) rfl; focus (apply hop_new rfl rfl; intro K' hK; simp [-List.reduceReplicate, -List.getD_eq_getElem?_getD, hI, hdk, hl1, hl2, hN1, hD1, ofI_toI, nuTg, rOfQ, datOf, hl4, hE1, hYl, hTu1, hTl1, y4, y5, y6, y7, hso, hsol]; (repeat' apply And.intro); all_goals first | exact hK | omega))
    | (apply h3_gyes rfl rfl rfl rfl rfl (Nat.le_of_ble_eq_true rfl) rfl; focus (apply hop_call; simp [newOf, -List.reduceReplicate, -List.getD_eq_getElem?_getD, hI, hdk, hl1, hl2, hN1, hD1, ofI_toI, nuTg, rOfQ, datOf, hl4, hE1, hYl, hTu1, hTl1, y4, y5, y6, y7, hso, hsol]; first | done | exact ⟨rfl, rfl⟩ | rfl))
    | apply h3_gno rfl rfl rfl rfl rfl (Nat.le_of_ble_eq_true rfl) rfl rfl
    | apply h3_past rfl rfl rfl rfl rfl (Nat.le_of_ble_eq_true rfl) rfl
    | (apply h3_sto rfl; focus (intro K' hK; simp [-List.reduceReplicate, -List.getD_eq_getElem?_getD, hI, hdk, hl1, hl2, hN1, hD1, ofI_toI, nuTg, rOfQ, datOf, hl4, hE1, hYl, hTu1, hTl1, y4, y5, y6, y7, hso, hsol]; (repeat' apply And.intro); all_goals first | exact hK | omega)))
    refine h3_nil ?_; simp [finL, contL, contAt, stT, List.range, List.range.loop, -List.reduceReplicate, -List.getD_eq_getElem?_getD]; refine ok_run hB tabOK pureGS_ok 100 ?_
    repeat (first
    | rw [run_ops0]
    | rw [run_seq]
    | rw [run_region]
    | rw [run_block]
    | rw [run_blk]
    | rw [run_skip]
    | apply run_exit2 rfl
    | apply run_cyes rfl
    | apply run_cno rfl
    | (rw [run_zero]; refine ok_run hB tabOK pureGS_ok 100 ?_)
    | (apply run_go rfl; focus (intro L K hK; simp [-List.reduceReplicate, -List.getD_eq_getElem?_getD, hI, hdk, hl1, hl2, hN1, hD1, ofI_toI, nuTg, rOfQ, datOf, hl4, hE1, hYl, hTu1, hTl1, y4, y5, y6, y7, hso, hsol]; (repeat' apply And.intro); all_goals first | exact hK | omega))
    | (apply run_gyes rfl rfl rfl rfl; focus (intro L K hK; simp [-List.reduceReplicate, -List.getD_eq_getElem?_getD, hI, hdk, hl1, hl2, hN1, hD1, ofI_toI, nuTg, rOfQ, datOf, hl4, hE1, hYl, hTu1, hTl1, y4, y5, y6, y7, hso, hsol]; (repeat' apply And.intro); all_goals first | exact hK | omega))
    | (apply run_gno rfl rfl rfl rfl rfl (Nat.le_of_ble_eq_true rfl); simp only [St.put])
    | (apply run_gtup rfl rfl rfl rfl (Nat.le_of_ble_eq_true rfl); simp only [St.put]))
    refine run_call rfl rfl rfl rfl ?_; refine ok_call [7, 8, 1, 3, 2] rfl rfl ⟨f28, func28, nofun, by decide⟩ (spec28 W N (q + 7) cap 0 cn D B 0 na ca 0 nb cb (by omega) hca (by omega) (by omega) hcb (by omega) (by omega) (by omega) (by omega) (by omega) (by omega)) trivial (by simp) (by simp [smem, tagE, matchM, ix, renA, renSeg, renR, renS, belA, belR, belS, A.len, segLen]) rfl rfl (Nat.le_of_ble_eq_true rfl) ?_; rintro sv m' ⟨cap2, hcap2, rfl, rfl⟩ _; simp only [smem, tagE, afterM, putM, renMk, renA, renSeg, renR, renS, renV, ix, St.put, List.map_cons, List.map_nil, List.drop, List.length_cons, List.length_nil, List.cons_append, List.nil_append, one]; simp [-List.reduceReplicate]; refine ok_run hB tabOK pureGS_ok 100 ?_
    rw [hN1, hD1, hB1]
    have hsl := sealed_len (W := W) (N := N) (A := D) (nr := q + 7) hBl
    generalize stO W (q + 7) N B nb ++ tagB W (q + 7) N D (stO W (q + 7) N B nb) = SG at hsl ⊢
    repeat (first
    | rw [run_ops0]
    | rw [run_seq]
    | rw [run_region]
    | rw [run_block]
    | rw [run_blk]
    | rw [run_skip]
    | apply run_exit2 rfl
    | apply run_cyes rfl
    | apply run_cno rfl
    | (rw [run_zero]; refine ok_run hB tabOK pureGS_ok 100 ?_)
    | (apply run_go rfl; focus (intro L K hK; simp [-List.reduceReplicate, -List.getD_eq_getElem?_getD, hx1, hx2, hX, tdiv8, tmod8]; (repeat' apply And.intro); all_goals first | exact hK | omega))
    | (apply run_gyes rfl rfl rfl rfl; focus (intro L K hK; simp [-List.reduceReplicate, -List.getD_eq_getElem?_getD, hx1, hx2, hX, tdiv8, tmod8]; (repeat' apply And.intro); all_goals first | exact hK | omega))
    | (apply run_gno rfl rfl rfl rfl rfl (Nat.le_of_ble_eq_true rfl); simp only [St.put])
    | (apply run_gtup rfl rfl rfl rfl (Nat.le_of_ble_eq_true rfl); simp only [St.put]))
    have e1 : ((X : Int) / 8).toNat = X / 8 := by omega
    have e2 : ((X : Int) % 8).toNat = X % 8 := by omega
    have e3 : X / 8 < nb + 16 := by omega
    rw [run_draw]; refine ok_draw2 10 tabOK pureGS_ok pureGS_mono mixed (by decide +kernel) rfl rfl ?_; (repeat (first
    | (apply hd_go rfl rfl rfl rfl (Nat.le_of_ble_eq_true rfl); focus (intro K' hK; simp [-List.reduceReplicate, -List.getD_eq_getElem?_getD, tdiv8, tmod8, e1, e2, e3, hsl]; (repeat' apply And.intro); all_goals first | exact hK | omega))
    | (apply hd_new rfl rfl rfl rfl (Nat.le_of_ble_eq_true rfl); focus (intro K' hK; simp [-List.reduceReplicate, -List.getD_eq_getElem?_getD, tdiv8, tmod8, e1, e2, e3, hsl]; (repeat' apply And.intro); all_goals first | exact hK | omega)))); refine hd_nil ?_; simp only [List.map_nil, List.map_cons, List.append_nil]; refine ok_run hB tabOK pureGS_ok 100 ?_; (repeat (first
    | rw [run_ops0]
    | rw [run_seq]
    | rw [run_region]
    | rw [run_block]
    | rw [run_blk]
    | rw [run_skip]
    | (apply run_go rfl; focus (intro L K hK; simp [-List.reduceReplicate, -List.getD_eq_getElem?_getD, tdiv8, tmod8, e1, e2, e3, hsl]; (repeat' apply And.intro); all_goals first | exact hK | omega))))
    have hSl2 : (SG.set (X / 8) (SG.getD (X / 8) 0#8 ^^^ 1#8 <<< (X % 8))).length = nb + 16 := by rw [List.length_set, hsl]
    generalize SG.set (X / 8) (SG.getD (X / 8) 0#8 ^^^ 1#8 <<< (X % 8)) = Sx at hSl2 ⊢
    have hT2 := dTag_eq W (q + 7) D (Sx.take nb) hN
    have hT2l : (dTag W (q + 7) N D (Sx.take nb)).length = 16 := by rw [dTag, tagX_len]; exact dOut_len _ _
    have hU2l : (Sx.drop nb).length = 16 := by simp; omega
    have hU2t : (Sx.drop nb).take 16 = Sx.drop nb := List.take_of_length_le (by omega)
    have hT2t : (dTag W (q + 7) N D (Sx.take nb)).take 16 = dTag W (q + 7) N D (Sx.take nb) := List.take_of_length_le (by omega)
    have hl3 : lFit N 0 cn Sx 0 nb cap2 := ⟨by omega, by omega, by omega, by omega, by omega⟩
    have hdec := eqAns_dec hT2l hU2l
    have e4 : nb ≤ cap2 := by omega
    have e5 : nb + 16 ≤ cap2 := by omega
    have e6 : 16 ≤ cap2 - nb := by omega
    have e7 : ((nb : Int) + 16).toNat - nb = 16 := by omega
    rw [hT2] at hdec
    by_cases hE2 : dTag W (q + 7) N D (Sx.take nb) = Sx.drop nb
    · have he2 : eqAns (tagB W (q + 7) ((N.drop 0).take 12) ((D.drop 0).take na) ((Sx.drop 0).take nb)) (Sx.drop (0 + nb)) 16 16 = true := by
        rw [hN0, hD0, List.drop_zero, Nat.zero_add, hdec, ← hT2]
        simp [hE2]
      refine run_call rfl rfl rfl rfl ?_; refine ok_call [7, 8, 1, 18, 2] rfl rfl ⟨f29, func29, nofun, by decide⟩ (spec29O W N Sx (q + 7) cap 0 cn 0 nb cap2 D 0 na ca (by omega) hca (by omega) (by omega) (by omega) (by omega) (by omega) (by omega) (by omega) e5 (by omega) he2) trivial (by simp) (by simp [smem, tagE, matchM, ix, renA, renSeg, renR, renS, belA, belR, belS, A.len, segLen]) rfl rfl (Nat.le_of_ble_eq_true rfl) ?_; rintro sv m' ⟨rfl, rfl⟩ _; simp only [smem, tagE, afterM, putM, renMk, renA, renSeg, renR, renS, renV, ix, St.put, List.map_cons, List.map_nil, List.drop, List.length_cons, List.length_nil, List.cons_append, List.nil_append, one]; simp [-List.reduceReplicate]; refine ok_run hB tabOK pureGS_ok 100 ?_
      repeat (first
    | rw [run_ops0]
    | rw [run_seq]
    | rw [run_region]
    | rw [run_block]
    | rw [run_blk]
    | rw [run_skip]
    | apply run_exit2 rfl
    | apply run_cyes rfl
    | apply run_cno rfl
    | (rw [run_zero]; refine ok_run hB tabOK pureGS_ok 100 ?_)
    | (apply run_go rfl; focus (intro L K hK; simp [-List.reduceReplicate, -List.getD_eq_getElem?_getD, hsl]; (repeat' apply And.intro); all_goals first | exact hK | omega))
    | (apply run_gyes rfl rfl rfl rfl; focus (intro L K hK; simp [-List.reduceReplicate, -List.getD_eq_getElem?_getD, hsl]; (repeat' apply And.intro); all_goals first | exact hK | omega))
    | (apply run_gno rfl rfl rfl rfl rfl (Nat.le_of_ble_eq_true rfl); simp only [St.put])
    | (apply run_gtup rfl rfl rfl rfl (Nat.le_of_ble_eq_true rfl); simp only [St.put]))
      rw [run_draw]; refine ok_draw5 18 [(10, [9]), (11, [10])] [] tabOK pureGS_ok nuTg_ok pureGS_sub nuTg_sub mixed (by decide +kernel) rfl rfl ?_
      repeat (first
    | (apply h3_go rfl rfl rfl rfl rfl (Nat.le_of_ble_eq_true rfl) rfl; focus (intro K' hK; simp [-List.reduceReplicate, -List.getD_eq_getElem?_getD, hdk, hl1, hl2, hN1, hD1, ofI_toI, nuTg, rOfQ, datOf, hl3, hE2, hSl2, hU2l, hU2t, hT2t, hT2l, e4, e5, e6, e7]; (repeat' apply And.intro); all_goals first | exact hK | omega))
    | (apply h3_new rfl rfl rfl rfl rfl (Nat.le_of_ble_eq_true rfl) rfl; focus (intro K' hK; simp [-List.reduceReplicate, -List.getD_eq_getElem?_getD, hdk, hl1, hl2, hN1, hD1, ofI_toI, nuTg, rOfQ, datOf, hl3, hE2, hSl2, hU2l, hU2t, hT2t, hT2l, e4, e5, e6, e7]; (repeat' apply And.intro); all_goals first | exact hK | omega))
    | (apply h3_call rfl rfl rfl rfl (Nat.le_of_ble_eq_true rfl); focus (simp [newOf, -List.reduceReplicate, -List.getD_eq_getElem?_getD, hdk, hl1, hl2, hN1, hD1, ofI_toI, nuTg, rOfQ, datOf, hl3, hE2, hSl2, hU2l, hU2t, hT2t, hT2l, e4, e5, e6, e7]; first | done | exact ⟨rfl, rfl⟩ | rfl))
    | (apply h3_gyes rfl rfl rfl rfl rfl (Nat.le_of_ble_eq_true rfl) rfl; focus (apply hop_go rfl rfl; intro K' hK; simp [-List.reduceReplicate, -List.getD_eq_getElem?_getD, hdk, hl1, hl2, hN1, hD1, ofI_toI, nuTg, rOfQ, datOf, hl3, hE2, hSl2, hU2l, hU2t, hT2t, hT2l, e4, e5, e6, e7]; (repeat' apply And.intro); all_goals first | exact hK | omega))
    | (apply h3_gyes rfl rfl rfl rfl rfl (Nat.le_of_ble_eq_true rfl) rfl; focus (apply hop_new rfl rfl; intro K' hK; simp [-List.reduceReplicate, -List.getD_eq_getElem?_getD, hdk, hl1, hl2, hN1, hD1, ofI_toI, nuTg, rOfQ, datOf, hl3, hE2, hSl2, hU2l, hU2t, hT2t, hT2l, e4, e5, e6, e7]; (repeat' apply And.intro); all_goals first | exact hK | omega))
    | (apply h3_gyes rfl rfl rfl rfl rfl (Nat.le_of_ble_eq_true rfl) rfl; focus (apply hop_call; simp [newOf, -List.reduceReplicate, -List.getD_eq_getElem?_getD, hdk, hl1, hl2, hN1, hD1, ofI_toI, nuTg, rOfQ, datOf, hl3, hE2, hSl2, hU2l, hU2t, hT2t, hT2l, e4, e5, e6, e7]; first | done | exact ⟨rfl, rfl⟩ | rfl))
    | apply h3_gno rfl rfl rfl rfl rfl (Nat.le_of_ble_eq_true rfl) rfl rfl
    | apply h3_past rfl rfl rfl rfl rfl (Nat.le_of_ble_eq_true rfl) rfl
    | (apply h3_sto rfl; focus (intro K' hK; simp [-List.reduceReplicate, -List.getD_eq_getElem?_getD, hdk, hl1, hl2, hN1, hD1, ofI_toI, nuTg, rOfQ, datOf, hl3, hE2, hSl2, hU2l, hU2t, hT2t, hT2l, e4, e5, e6, e7]; (repeat' apply And.intro); all_goals first | exact hK | omega)))
      refine h3_nil ?_; simp [finL, contL, contAt, stT, List.range, List.range.loop, -List.reduceReplicate, -List.getD_eq_getElem?_getD]; refine ok_run hB tabOK pureGS_ok 100 ?_
      repeat (first
    | rw [run_ops0]
    | rw [run_seq]
    | rw [run_region]
    | rw [run_block]
    | rw [run_blk]
    | rw [run_skip]
    | apply run_exit2 rfl
    | apply run_cyes rfl
    | apply run_cno rfl
    | (rw [run_zero]; refine ok_run hB tabOK pureGS_ok 100 ?_)
    | (apply run_go rfl; focus (intro L K hK; simp [-List.reduceReplicate, -List.getD_eq_getElem?_getD, hdk, hl1, hl2, hN1, hD1, ofI_toI, nuTg, rOfQ, datOf, hl3, hE2, hSl2, hU2l, hU2t, hT2t, hT2l, e4, e5, e6, e7]; (repeat' apply And.intro); all_goals first | exact hK | omega))
    | (apply run_gyes rfl rfl rfl rfl; focus (intro L K hK; simp [-List.reduceReplicate, -List.getD_eq_getElem?_getD, hdk, hl1, hl2, hN1, hD1, ofI_toI, nuTg, rOfQ, datOf, hl3, hE2, hSl2, hU2l, hU2t, hT2t, hT2l, e4, e5, e6, e7]; (repeat' apply And.intro); all_goals first | exact hK | omega))
    | (apply run_gno rfl rfl rfl rfl rfl (Nat.le_of_ble_eq_true rfl); simp only [St.put])
    | (apply run_gtup rfl rfl rfl rfl (Nat.le_of_ble_eq_true rfl); simp only [St.put]))
      rw [run_ret]
      simp [-List.reduceReplicate, -List.getD_eq_getElem?_getD, results10, f10]
    · have he2 : eqAns (tagB W (q + 7) ((N.drop 0).take 12) ((D.drop 0).take na) ((Sx.drop 0).take nb)) (Sx.drop (0 + nb)) 16 16 = false := by
        rw [hN0, hD0, List.drop_zero, Nat.zero_add, hdec, ← hT2]
        simp [hE2]
      refine run_call rfl rfl rfl rfl ?_; refine ok_call [7, 8, 1, 18, 2] rfl rfl ⟨f29, func29, nofun, by decide⟩ (spec29B W N Sx (q + 7) cap 0 cn 0 nb cap2 D 0 na ca (by omega) hca (by omega) (by omega) (by omega) (by omega) (by omega) (by omega) (by omega) e5 (by omega) he2) trivial (by simp) (by simp [smem, tagE, matchM, ix, renA, renSeg, renR, renS, belA, belR, belS, A.len, segLen]) rfl rfl (Nat.le_of_ble_eq_true rfl) ?_; rintro sv m' ⟨rfl, rfl⟩ _; simp only [smem, tagE, afterM, putM, renMk, renA, renSeg, renR, renS, renV, ix, St.put, List.map_cons, List.map_nil, List.drop, List.length_cons, List.length_nil, List.cons_append, List.nil_append, one]; simp [-List.reduceReplicate]; refine ok_run hB tabOK pureGS_ok 100 ?_
      repeat (first
    | rw [run_ops0]
    | rw [run_seq]
    | rw [run_region]
    | rw [run_block]
    | rw [run_blk]
    | rw [run_skip]
    | apply run_exit2 rfl
    | apply run_cyes rfl
    | apply run_cno rfl
    | (rw [run_zero]; refine ok_run hB tabOK pureGS_ok 100 ?_)
    | (apply run_go rfl; focus (intro L K hK; simp [-List.reduceReplicate, -List.getD_eq_getElem?_getD, hsl]; (repeat' apply And.intro); all_goals first | exact hK | omega))
    | (apply run_gyes rfl rfl rfl rfl; focus (intro L K hK; simp [-List.reduceReplicate, -List.getD_eq_getElem?_getD, hsl]; (repeat' apply And.intro); all_goals first | exact hK | omega))
    | (apply run_gno rfl rfl rfl rfl rfl (Nat.le_of_ble_eq_true rfl); simp only [St.put])
    | (apply run_gtup rfl rfl rfl rfl (Nat.le_of_ble_eq_true rfl); simp only [St.put]))
      rw [run_draw]; refine ok_draw5 18 [(10, [9]), (11, [10])] [] tabOK pureGS_ok nuTg_ok pureGS_sub nuTg_sub mixed (by decide +kernel) rfl rfl ?_
      repeat (first
    | (apply h3_go rfl rfl rfl rfl rfl (Nat.le_of_ble_eq_true rfl) rfl; focus (intro K' hK; simp [-List.reduceReplicate, -List.getD_eq_getElem?_getD, hdk, hl1, hl2, hN1, hD1, ofI_toI, nuTg, rOfQ, datOf, hl3, hE2, hSl2, hU2l, hU2t, hT2t, hT2l, e4, e5, e6, e7]; (repeat' apply And.intro); all_goals first | exact hK | omega))
    | (apply h3_new rfl rfl rfl rfl rfl (Nat.le_of_ble_eq_true rfl) rfl; focus (intro K' hK; simp [-List.reduceReplicate, -List.getD_eq_getElem?_getD, hdk, hl1, hl2, hN1, hD1, ofI_toI, nuTg, rOfQ, datOf, hl3, hE2, hSl2, hU2l, hU2t, hT2t, hT2l, e4, e5, e6, e7]; (repeat' apply And.intro); all_goals first | exact hK | omega))
    | (apply h3_call rfl rfl rfl rfl (Nat.le_of_ble_eq_true rfl); focus (simp [newOf, -List.reduceReplicate, -List.getD_eq_getElem?_getD, hdk, hl1, hl2, hN1, hD1, ofI_toI, nuTg, rOfQ, datOf, hl3, hE2, hSl2, hU2l, hU2t, hT2t, hT2l, e4, e5, e6, e7]; first | done | exact ⟨rfl, rfl⟩ | rfl))
    | (apply h3_gyes rfl rfl rfl rfl rfl (Nat.le_of_ble_eq_true rfl) rfl; focus (apply hop_go rfl rfl; intro K' hK; simp [-List.reduceReplicate, -List.getD_eq_getElem?_getD, hdk, hl1, hl2, hN1, hD1, ofI_toI, nuTg, rOfQ, datOf, hl3, hE2, hSl2, hU2l, hU2t, hT2t, hT2l, e4, e5, e6, e7]; (repeat' apply And.intro); all_goals first | exact hK | omega))
    | (apply h3_gyes rfl rfl rfl rfl rfl (Nat.le_of_ble_eq_true rfl) rfl; focus (apply hop_new rfl rfl; intro K' hK; simp [-List.reduceReplicate, -List.getD_eq_getElem?_getD, hdk, hl1, hl2, hN1, hD1, ofI_toI, nuTg, rOfQ, datOf, hl3, hE2, hSl2, hU2l, hU2t, hT2t, hT2l, e4, e5, e6, e7]; (repeat' apply And.intro); all_goals first | exact hK | omega))
    | (apply h3_gyes rfl rfl rfl rfl rfl (Nat.le_of_ble_eq_true rfl) rfl; focus (apply hop_call; simp [newOf, -List.reduceReplicate, -List.getD_eq_getElem?_getD, hdk, hl1, hl2, hN1, hD1, ofI_toI, nuTg, rOfQ, datOf, hl3, hE2, hSl2, hU2l, hU2t, hT2t, hT2l, e4, e5, e6, e7]; first | done | exact ⟨rfl, rfl⟩ | rfl))
    | apply h3_gno rfl rfl rfl rfl rfl (Nat.le_of_ble_eq_true rfl) rfl rfl
    | apply h3_past rfl rfl rfl rfl rfl (Nat.le_of_ble_eq_true rfl) rfl
    | (apply h3_sto rfl; focus (intro K' hK; simp [-List.reduceReplicate, -List.getD_eq_getElem?_getD, hdk, hl1, hl2, hN1, hD1, ofI_toI, nuTg, rOfQ, datOf, hl3, hE2, hSl2, hU2l, hU2t, hT2t, hT2l, e4, e5, e6, e7]; (repeat' apply And.intro); all_goals first | exact hK | omega)))
      refine h3_nil ?_; simp [finL, contL, contAt, stT, List.range, List.range.loop, -List.reduceReplicate, -List.getD_eq_getElem?_getD]; refine ok_run hB tabOK pureGS_ok 100 ?_
      repeat (first
    | rw [run_ops0]
    | rw [run_seq]
    | rw [run_region]
    | rw [run_block]
    | rw [run_blk]
    | rw [run_skip]
    | apply run_exit2 rfl
    | apply run_cyes rfl
    | apply run_cno rfl
    | (rw [run_zero]; refine ok_run hB tabOK pureGS_ok 100 ?_)
    | (apply run_go rfl; focus (intro L K hK; simp [-List.reduceReplicate, -List.getD_eq_getElem?_getD, hdk, hl1, hl2, hN1, hD1, ofI_toI, nuTg, rOfQ, datOf, hl3, hE2, hSl2, hU2l, hU2t, hT2t, hT2l, e4, e5, e6, e7]; (repeat' apply And.intro); all_goals first | exact hK | omega))
    | (apply run_gyes rfl rfl rfl rfl; focus (intro L K hK; simp [-List.reduceReplicate, -List.getD_eq_getElem?_getD, hdk, hl1, hl2, hN1, hD1, ofI_toI, nuTg, rOfQ, datOf, hl3, hE2, hSl2, hU2l, hU2t, hT2t, hT2l, e4, e5, e6, e7]; (repeat' apply And.intro); all_goals first | exact hK | omega))
    | (apply run_gno rfl rfl rfl rfl rfl (Nat.le_of_ble_eq_true rfl); simp only [St.put])
    | (apply run_gtup rfl rfl rfl rfl (Nat.le_of_ble_eq_true rfl); simp only [St.put]))
      rw [run_ret]
      simp [-List.reduceReplicate, -List.getD_eq_getElem?_getD, results10, f10]
end Go.V
end
