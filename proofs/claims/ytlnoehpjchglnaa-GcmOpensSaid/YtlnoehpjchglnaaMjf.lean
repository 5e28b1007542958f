/- Texts of the walks, put together: Xj Xk Xq Xr Xs Xt Xu Xv. No condition. -/
import Derived.Test.YtlnoehpjchglnaaMje
section
set_option linter.unusedSimpArgs false
set_option linter.unusedVariables false
set_option maxRecDepth 10000
namespace Go.V
open Go Go.Proofs.Try
theorem spec29S (W N B : B8) (nr cap on cn ob nb cb : Nat) (D : B8) (oa na ca : Nat) (ha : oa + na ≤ D.length) (hca : na ≤ ca) (hma : na ≤ 140737488355328) (hW : 16 * nr ≤ W.length) (hR : 0 < nr) (hR2 : nr < 1000) (hN : on + 12 ≤ N.length) (hcn : 12 ≤ cn) (hb : ob + nb ≤ B.length) (hcb : nb ≤ cb) (hmx : nb ≤ 140737488351232) (hs : nb < 16) :
    Spec prog 29 [one (.ptr 0 0 0), one (.sl 2 on 12 cn 1), one (.sl 4 oa na ca 1), one (.sl 3 ob nb cb 1)] (smem nr cap W N B ++ [.ent ⟨false, 5, none, .a8 D⟩]) [] (fun r m => r = .tup [.s .snil, .s (.i 5)] ∧ m = smem nr cap W N B ++ [.ent ⟨false, 5, none, .a8 D⟩]) := by
  refine spec_of_body tabOK func29 rfl (Nat.le_of_ble_eq_true rfl) ?_
  intro E Q0 hB
  refine ok_run hB tabOK pureQ_ok 100 ?_
  simp only [argSl, smem, List.cons_append, List.nil_append]
  repeat (first
    | rw [run_ops0]
    | rw [run_seq]
    | rw [run_region]
    | rw [run_block]
    | rw [run_blk]
    | rw [run_skip]
    | (apply run_go rfl; focus (intro L K hK; simp [-List.reduceReplicate, -List.getD_eq_getElem?_getD]; (repeat' apply And.intro); all_goals first | exact hK | omega)))
  apply run_guard rfl rfl rfl rfl
  · intro _
    (apply Exists.intro; apply And.intro; focus (intro L K hK; simp [-List.reduceReplicate, -List.getD_eq_getElem?_getD]; (repeat' apply And.intro); all_goals first | exact hK | omega))
    apply run_guard rfl rfl rfl rfl
    · intro _
      (apply Exists.intro; apply And.intro; focus (intro L K hK; simp [-List.reduceReplicate, -List.getD_eq_getElem?_getD]; (repeat' apply And.intro); all_goals first | exact hK | omega))
      apply run_guard rfl rfl rfl rfl
      · intro _
        (apply Exists.intro; apply And.intro; focus (intro L K hK; simp [-List.reduceReplicate, -List.getD_eq_getElem?_getD]; (repeat' apply And.intro); all_goals first | exact hK | omega))
        repeat (first
    | rw [run_ops0]
    | rw [run_seq]
    | rw [run_region]
    | rw [run_block]
    | rw [run_blk]
    | rw [run_skip]
    | (apply run_go rfl; focus (intro L K hK; simp [-List.reduceReplicate, -List.getD_eq_getElem?_getD]; (repeat' apply And.intro); all_goals first | exact hK | omega)))
        apply run_cond2 rfl
        · intro h; first | cases h | (simp at h; done)
        intro _
        repeat (first
    | rw [run_ops0]
    | rw [run_seq]
    | rw [run_region]
    | rw [run_block]
    | rw [run_blk]
    | rw [run_skip]
    | (apply run_go rfl; focus (intro L K hK; simp [-List.reduceReplicate, -List.getD_eq_getElem?_getD]; (repeat' apply And.intro); all_goals first | exact hK | omega)))
        rw [run_draw]
        refine ok_draw5 15 [(13, [9])] [] tabOK pureQ_ok nuT_ok pureQ_sub nuT_sub mixed (by decide +kernel) rfl rfl ?_
        have hlt : (nb : Int) - 16 < 0 := by omega
        repeat (first
    | (apply h3_go rfl rfl rfl rfl rfl (Nat.le_of_ble_eq_true rfl) rfl; focus (intro K' hK; simp [-List.reduceReplicate, -List.getD_eq_getElem?_getD, viewM, visOf, memL, hlt]; (repeat' apply And.intro); all_goals first | exact hK | omega))
    | (apply h3_new rfl rfl rfl rfl rfl (Nat.le_of_ble_eq_true rfl) rfl; focus (intro K' hK; simp [-List.reduceReplicate, -List.getD_eq_getElem?_getD, viewM, visOf, memL, hlt]; (repeat' apply And.intro); all_goals first | exact hK | omega)))
        apply h3_guard rfl rfl rfl rfl rfl (Nat.le_of_ble_eq_true rfl) rfl
        · intro h; first | cases h | (simp [hs] at h; done) | (simp at h; omega)
        intro _
        apply h3_guard rfl rfl rfl rfl rfl (Nat.le_of_ble_eq_true rfl) rfl
        · intro h; first | cases h | (simp [hs] at h; done) | (simp at h; omega)
        intro _
        apply h3_guard rfl rfl rfl rfl rfl (Nat.le_of_ble_eq_true rfl) rfl
        · intro h; first | cases h | (simp [hs] at h; done) | (simp at h; omega)
        intro _
        apply h3_guard rfl rfl rfl rfl rfl (Nat.le_of_ble_eq_true rfl) rfl
        · intro h; first | cases h | (simp [hs] at h; done) | (simp at h; omega)
        intro _
        apply h3_guard rfl rfl rfl rfl rfl (Nat.le_of_ble_eq_true rfl) rfl
        · intro h; first | cases h | (simp [hs] at h; done) | (simp at h; omega)
        intro _
        apply h3_guard rfl rfl rfl rfl rfl (Nat.le_of_ble_eq_true rfl) rfl
        · intro h; first | cases h | (simp [hs] at h; done) | (simp at h; omega)
        intro _
        apply h3_guard rfl rfl rfl rfl rfl (Nat.le_of_ble_eq_true rfl) rfl
        · intro h; first | cases h | (simp [hs] at h; done) | (simp at h; omega)
        intro _
        apply h3_guard rfl rfl rfl rfl rfl (Nat.le_of_ble_eq_true rfl) rfl
        · intro h; first | cases h | (simp [hs] at h; done) | (simp at h; omega)
        intro _
        apply h3_guard rfl rfl rfl rfl rfl (Nat.le_of_ble_eq_true rfl) rfl
        · intro h; first | cases h | (simp [hs] at h; done) | (simp at h; omega)
        intro _
        apply h3_guard rfl rfl rfl rfl rfl (Nat.le_of_ble_eq_true rfl) rfl
        · intro h; first | cases h | (simp [hs] at h; done) | (simp at h; omega)
        intro _
        apply h3_guard rfl rfl rfl rfl rfl (Nat.le_of_ble_eq_true rfl) rfl
        · intro h; first | cases h | (simp [hs] at h; done) | (simp at h; omega)
        intro _
        apply h3_guard rfl rfl rfl rfl rfl (Nat.le_of_ble_eq_true rfl) rfl
        · intro h; first | cases h | (simp [hs] at h; done) | (simp at h; omega)
        intro _
        refine h3_nil ?_
        simp [finL, contL, contAt, stT, List.range, List.range.loop, -List.reduceReplicate]
        refine ok_run hB tabOK pureQ_ok 100 ?_
        repeat (first
    | rw [run_ops0]
    | rw [run_seq]
    | rw [run_region]
    | rw [run_block]
    | rw [run_blk]
    | rw [run_skip]
    | (apply run_go rfl; focus (intro L K hK; simp [-List.reduceReplicate, -List.getD_eq_getElem?_getD, hs]; (repeat' apply And.intro); all_goals first | exact hK | omega)))
        apply run_cond2 rfl
        · intro _
          repeat (first
    | rw [run_ops0]
    | rw [run_seq]
    | rw [run_region]
    | rw [run_block]
    | rw [run_blk]
    | rw [run_skip]
    | (apply run_go rfl; focus (intro L K hK; simp [-List.reduceReplicate, -List.getD_eq_getElem?_getD]; (repeat' apply And.intro); all_goals first | exact hK | omega)))
          rw [run_ret]
          simp [-List.reduceReplicate, -List.getD_eq_getElem?_getD, results29, f29, smem]
        · intro h; first | cases h | (simp [hs] at h; done) | (simp at h; omega)
      · intro h; first | cases h | (simp at h; done)
    · intro h; first | cases h | (simp at h; done)
  · intro h; first | cases h | (simp at h; done)
theorem spec29B (W N B : B8) (nr cap on cn ob n cb : Nat) (D : B8) (oa na ca : Nat) (ha : oa + na ≤ D.length) (hca : na ≤ ca) (hma : na ≤ 140737488355328) (hW : 16 * nr ≤ W.length) (hR : 0 < nr) (hR2 : nr < 1000) (hN : on + 12 ≤ N.length) (hcn : 12 ≤ cn) (hb : ob + (n + 16) ≤ B.length) (hcb : (n + 16) ≤ cb) (hmx : (n + 16) ≤ 140737488351232) (he : eqAns (tagB W nr ((N.drop on).take 12) ((D.drop oa).take na) ((B.drop ob).take n)) (B.drop (ob + n)) 16 16 = false) :
    Spec prog 29 [one (.ptr 0 0 0), one (.sl 2 on 12 cn 1), one (.sl 4 oa na ca 1), one (.sl 3 ob (n + 16) cb 1)] (smem nr cap W N B ++ [.ent ⟨false, 5, none, .a8 D⟩]) [] (fun r m => r = .tup [.s .snil, .s (.i 5)] ∧ m = smem nr cap W N B ++ [.ent ⟨false, 5, none, .a8 D⟩] ++ (tagE W nr ((N.drop on).take 12) ((D.drop oa).take na) ((B.drop ob).take n)).map .ent) := by
  refine spec_of_body tabOK func29 rfl (Nat.le_of_ble_eq_true rfl) ?_
  intro E Q0 hB
  refine ok_run hB tabOK pureQ_ok 100 ?_
  simp only [argSl, smem, List.cons_append, List.nil_append]
  have hfa : aFit D oa na ca := ⟨ha, hca, hma⟩
  have hft : tFit W N B nr on cn ob n cb := ⟨hW, hR, hR2, hN, hcn, by omega, by omega, by omega⟩
  have hft2 : ((n : Int) + 16).toNat = n + 16 := by omega
  have hcb3 : (n : Int) + 16 ≤ ((cb - n : Nat) : Int) + (n : Int) := by omega
  obtain ⟨TG, hTG⟩ : ∃ TG, tagB W nr ((N.drop on).take 12) ((D.drop oa).take na) ((B.drop ob).take n) = TG := ⟨_, rfl⟩
  have htl : TG.length = 16 := by rw [← hTG]; unfold tagB; rw [tagX_len, hashG_len]
  rw [hTG] at he
  have ht0 := hTG
  have hcb2 : 16 ≤ cb - n := by omega
  have hB2 : ob + n + 16 ≤ B.length := by omega
  repeat (first
    | rw [run_ops0]
    | rw [run_seq]
    | rw [run_region]
    | rw [run_block]
    | rw [run_blk]
    | rw [run_skip]
    | (apply run_go rfl; focus (intro L K hK; simp [-List.reduceReplicate, -List.getD_eq_getElem?_getD]; (repeat' apply And.intro); all_goals first | exact hK | omega)))
  apply run_guard rfl rfl rfl rfl
  · intro _
    (apply Exists.intro; apply And.intro; focus (intro L K hK; simp [-List.reduceReplicate, -List.getD_eq_getElem?_getD]; (repeat' apply And.intro); all_goals first | exact hK | omega))
    apply run_guard rfl rfl rfl rfl
    · intro _
      (apply Exists.intro; apply And.intro; focus (intro L K hK; simp [-List.reduceReplicate, -List.getD_eq_getElem?_getD]; (repeat' apply And.intro); all_goals first | exact hK | omega))
      apply run_guard rfl rfl rfl rfl
      · intro _
        (apply Exists.intro; apply And.intro; focus (intro L K hK; simp [-List.reduceReplicate, -List.getD_eq_getElem?_getD]; (repeat' apply And.intro); all_goals first | exact hK | omega))
        repeat (first
    | rw [run_ops0]
    | rw [run_seq]
    | rw [run_region]
    | rw [run_block]
    | rw [run_blk]
    | rw [run_skip]
    | (apply run_go rfl; focus (intro L K hK; simp [-List.reduceReplicate, -List.getD_eq_getElem?_getD]; (repeat' apply And.intro); all_goals first | exact hK | omega)))
        apply run_cond2 rfl
        · intro h; first | cases h | (simp at h; done)
        intro _
        repeat (first
    | rw [run_ops0]
    | rw [run_seq]
    | rw [run_region]
    | rw [run_block]
    | rw [run_blk]
    | rw [run_skip]
    | (apply run_go rfl; focus (intro L K hK; simp [-List.reduceReplicate, -List.getD_eq_getElem?_getD]; (repeat' apply And.intro); all_goals first | exact hK | omega)))
        rw [run_draw]
        refine ok_draw5 15 [(13, [9])] [] tabOK pureQ_ok nuT_ok pureQ_sub nuT_sub mixed (by decide +kernel) rfl rfl ?_
        repeat (first
    | (apply h3_go rfl rfl rfl rfl rfl (Nat.le_of_ble_eq_true rfl) rfl; focus (intro K' hK; simp [-List.reduceReplicate, -List.getD_eq_getElem?_getD, viewM, visOf, memL, hft, hft2, hcb3, ht0, htl, he, hcb2, hB2, Nat.add_sub_cancel_left, nuT, kOf, datOf, pureQ, pure71, pureG, pureL, pureH, smem, tagE, hfa]; (repeat' apply And.intro); all_goals first | exact hK | omega))
    | (apply h3_new rfl rfl rfl rfl rfl (Nat.le_of_ble_eq_true rfl) rfl; focus (intro K' hK; simp [-List.reduceReplicate, -List.getD_eq_getElem?_getD, viewM, visOf, memL, hft, hft2, hcb3, ht0, htl, he, hcb2, hB2, Nat.add_sub_cancel_left, nuT, kOf, datOf, pureQ, pure71, pureG, pureL, pureH, smem, tagE, hfa]; (repeat' apply And.intro); all_goals first | exact hK | omega)))
        apply h3_guard rfl rfl rfl rfl rfl (Nat.le_of_ble_eq_true rfl) rfl
        · intro _
          (apply Exists.intro; apply Exists.intro; apply And.intro; focus (apply hop_go rfl rfl; intro K' hK; simp [-List.reduceReplicate, -List.getD_eq_getElem?_getD, viewM, visOf, memL, hft, hft2, hcb3, ht0, htl, he, hcb2, hB2, Nat.add_sub_cancel_left, nuT, kOf, datOf, pureQ, pure71, pureG, pureL, pureH, smem, tagE, hfa]; (repeat' apply And.intro); all_goals first | exact hK | omega))
          apply h3_guard rfl rfl rfl rfl rfl (Nat.le_of_ble_eq_true rfl) rfl
          · intro _
            (apply Exists.intro; apply Exists.intro; apply And.intro; focus (apply hop_go rfl rfl; intro K' hK; simp [-List.reduceReplicate, -List.getD_eq_getElem?_getD, viewM, visOf, memL, hft, hft2, hcb3, ht0, htl, he, hcb2, hB2, Nat.add_sub_cancel_left, nuT, kOf, datOf, pureQ, pure71, pureG, pureL, pureH, smem, tagE, hfa]; (repeat' apply And.intro); all_goals first | exact hK | omega))
            apply h3_guard rfl rfl rfl rfl rfl (Nat.le_of_ble_eq_true rfl) rfl
            · intro _
              (apply Exists.intro; apply Exists.intro; apply And.intro; focus (apply hop_go rfl rfl; intro K' hK; simp [-List.reduceReplicate, -List.getD_eq_getElem?_getD, viewM, visOf, memL, hft, hft2, hcb3, ht0, htl, he, hcb2, hB2, Nat.add_sub_cancel_left, nuT, kOf, datOf, pureQ, pure71, pureG, pureL, pureH, smem, tagE, hfa]; (repeat' apply And.intro); all_goals first | exact hK | omega))
              apply h3_guard rfl rfl rfl rfl rfl (Nat.le_of_ble_eq_true rfl) rfl
              · intro _
                (apply Exists.intro; apply Exists.intro; apply And.intro; focus (apply hop_go rfl rfl; intro K' hK; simp [-List.reduceReplicate, -List.getD_eq_getElem?_getD, viewM, visOf, memL, hft, hft2, hcb3, ht0, htl, he, hcb2, hB2, Nat.add_sub_cancel_left, nuT, kOf, datOf, pureQ, pure71, pureG, pureL, pureH, smem, tagE, hfa]; (repeat' apply And.intro); all_goals first | exact hK | omega))
                apply h3_guard rfl rfl rfl rfl rfl (Nat.le_of_ble_eq_true rfl) rfl
                · intro _
                  (apply Exists.intro; apply Exists.intro; apply And.intro; focus (apply hop_go rfl rfl; intro K' hK; simp [-List.reduceReplicate, -List.getD_eq_getElem?_getD, viewM, visOf, memL, hft, hft2, hcb3, ht0, htl, he, hcb2, hB2, Nat.add_sub_cancel_left, nuT, kOf, datOf, pureQ, pure71, pureG, pureL, pureH, smem, tagE, hfa]; (repeat' apply And.intro); all_goals first | exact hK | omega))
                  apply h3_guard rfl rfl rfl rfl rfl (Nat.le_of_ble_eq_true rfl) rfl
                  · intro _
                    (apply Exists.intro; apply Exists.intro; apply And.intro; focus (apply hop_go rfl rfl; intro K' hK; simp [-List.reduceReplicate, -List.getD_eq_getElem?_getD, viewM, visOf, memL, hft, hft2, hcb3, ht0, htl, he, hcb2, hB2, Nat.add_sub_cancel_left, nuT, kOf, datOf, pureQ, pure71, pureG, pureL, pureH, smem, tagE, hfa]; (repeat' apply And.intro); all_goals first | exact hK | omega))
                    apply h3_guard rfl rfl rfl rfl rfl (Nat.le_of_ble_eq_true rfl) rfl
                    · intro _
                      (apply Exists.intro; apply Exists.intro; apply And.intro; focus (apply hop_call; simp [newOf, -List.reduceReplicate, -List.getD_eq_getElem?_getD, viewM, visOf, memL, hft, hft2, hcb3, ht0, htl, he, hcb2, hB2, Nat.add_sub_cancel_left, nuT, kOf, datOf, pureQ, pure71, pureG, pureL, pureH, smem, tagE, hfa]; first | done | exact ⟨rfl, rfl⟩ | rfl))
                      apply h3_guard rfl rfl rfl rfl rfl (Nat.le_of_ble_eq_true rfl) rfl
                      · intro _
                        (apply Exists.intro; apply Exists.intro; apply And.intro; focus (apply hop_go rfl rfl; intro K' hK; simp [-List.reduceReplicate, -List.getD_eq_getElem?_getD, viewM, visOf, memL, hft, hft2, hcb3, ht0, htl, he, hcb2, hB2, Nat.add_sub_cancel_left, nuT, kOf, datOf, pureQ, pure71, pureG, pureL, pureH, smem, tagE, hfa]; (repeat' apply And.intro); all_goals first | exact hK | omega))
                        apply h3_guard rfl rfl rfl rfl rfl (Nat.le_of_ble_eq_true rfl) rfl
                        · intro _
                          (apply Exists.intro; apply Exists.intro; apply And.intro; focus (apply hop_go rfl rfl; intro K' hK; simp [-List.reduceReplicate, -List.getD_eq_getElem?_getD, viewM, visOf, memL, hft, hft2, hcb3, ht0, htl, he, hcb2, hB2, Nat.add_sub_cancel_left, nuT, kOf, datOf, pureQ, pure71, pureG, pureL, pureH, smem, tagE, hfa]; (repeat' apply And.intro); all_goals first | exact hK | omega))
                          apply h3_guard rfl rfl rfl rfl rfl (Nat.le_of_ble_eq_true rfl) rfl
                          · intro _
                            (apply Exists.intro; apply Exists.intro; apply And.intro; focus (apply hop_go rfl rfl; intro K' hK; simp [-List.reduceReplicate, -List.getD_eq_getElem?_getD, viewM, visOf, memL, hft, hft2, hcb3, ht0, htl, he, hcb2, hB2, Nat.add_sub_cancel_left, nuT, kOf, datOf, pureQ, pure71, pureG, pureL, pureH, smem, tagE, hfa]; (repeat' apply And.intro); all_goals first | exact hK | omega))
                            apply h3_guard rfl rfl rfl rfl rfl (Nat.le_of_ble_eq_true rfl) rfl
                            · intro _
                              (apply Exists.intro; apply Exists.intro; apply And.intro; focus (apply hop_go rfl rfl; intro K' hK; simp [-List.reduceReplicate, -List.getD_eq_getElem?_getD, viewM, visOf, memL, hft, hft2, hcb3, ht0, htl, he, hcb2, hB2, Nat.add_sub_cancel_left, nuT, kOf, datOf, pureQ, pure71, pureG, pureL, pureH, smem, tagE, hfa]; (repeat' apply And.intro); all_goals first | exact hK | omega))
                              apply h3_guard rfl rfl rfl rfl rfl (Nat.le_of_ble_eq_true rfl) rfl
                              · intro _
                                (apply Exists.intro; apply Exists.intro; apply And.intro; focus (apply hop_go rfl rfl; intro K' hK; simp [-List.reduceReplicate, -List.getD_eq_getElem?_getD, viewM, visOf, memL, hft, hft2, hcb3, ht0, htl, he, hcb2, hB2, Nat.add_sub_cancel_left, nuT, kOf, datOf, pureQ, pure71, pureG, pureL, pureH, smem, tagE, hfa]; (repeat' apply And.intro); all_goals first | exact hK | omega))
                                refine h3_nil ?_
                                simp [finL, contL, contAt, stT, List.range, List.range.loop, -List.reduceReplicate]
                                refine ok_run hB tabOK pureQ_ok 100 ?_
                                repeat (first
    | rw [run_ops0]
    | rw [run_seq]
    | rw [run_region]
    | rw [run_block]
    | rw [run_blk]
    | rw [run_skip]
    | (apply run_go rfl; focus (intro L K hK; simp [-List.reduceReplicate, -List.getD_eq_getElem?_getD, he]; (repeat' apply And.intro); all_goals first | exact hK | omega)))
                                apply run_cond2 rfl
                                · intro _
                                  repeat (first
    | rw [run_ops0]
    | rw [run_seq]
    | rw [run_region]
    | rw [run_block]
    | rw [run_blk]
    | rw [run_skip]
    | (apply run_go rfl; focus (intro L K hK; simp [-List.reduceReplicate, -List.getD_eq_getElem?_getD]; (repeat' apply And.intro); all_goals first | exact hK | omega)))
                                  rw [run_ret]
                                  simp [-List.reduceReplicate, -List.getD_eq_getElem?_getD, results29, f29, smem, tagE, hTG]
                                · intro h; first | cases h | (simp [he] at h; done)
                              · intro h; first | cases h | (simp at h; done)
                            · intro h; first | cases h | (simp at h; done)
                          · intro h; first | cases h | (simp at h; done)
                        · intro h; first | cases h | (simp at h; done)
                      · intro h; first | cases h | (simp at h; done)
                    · intro h; first | cases h | (simp at h; done)
                  · intro h; first | cases h | (simp at h; done)
                · intro h; first | cases h | (simp at h; done)
              · intro h; first | cases h | (simp at h; done)
            · intro h; first | cases h | (simp at h; done)
          · intro h; first | cases h | (simp at h; done)
        · intro h; first | cases h | (simp at h; done)
      · intro h; first | cases h | (simp at h; done)
    · intro h; first | cases h | (simp at h; done)
  · intro h; first | cases h | (simp at h; done)
theorem spec29O (W N B : B8) (nr cap on cn ob n cb : Nat) (D : B8) (oa na ca : Nat) (ha : oa + na ≤ D.length) (hca : na ≤ ca) (hma : na ≤ 140737488355328) (hW : 16 * nr ≤ W.length) (hR : 0 < nr) (hR2 : nr < 1000) (hN : on + 12 ≤ N.length) (hcn : 12 ≤ cn) (hb : ob + (n + 16) ≤ B.length) (hcb : (n + 16) ≤ cb) (hmx : (n + 16) ≤ 140737488351232) (he : eqAns (tagB W nr ((N.drop on).take 12) ((D.drop oa).take na) ((B.drop ob).take n)) (B.drop (ob + n)) 16 16 = true) :
    Spec prog 29 [one (.ptr 0 0 0), one (.sl 2 on 12 cn 1), one (.sl 4 oa na ca 1), one (.sl 3 ob (n + 16) cb 1)] (smem nr cap W N B ++ [.ent ⟨false, 5, none, .a8 D⟩]) [] (fun r m => r = .tup [.s (.sl 8 0 n n 1), .s (.i 0)] ∧ m = smem nr cap W N B ++ [.ent ⟨false, 5, none, .a8 D⟩] ++ (tagE W nr ((N.drop on).take 12) ((D.drop oa).take na) ((B.drop ob).take n) ++ ([⟨true, 5, none, .a8 (stO W nr ((N.drop on).take 12) ((B.drop ob).take n) n)⟩, ⟨true, 23, some 16, .a8 (stC ((N.drop on).take 12) n)⟩] : List Ent)).map .ent) := by
  refine spec_of_body tabOK func29 rfl (Nat.le_of_ble_eq_true rfl) ?_
  intro E Q0 hB
  refine ok_run hB tabOK pureQ_ok 100 ?_
  simp only [argSl, smem, List.cons_append, List.nil_append]
  have hfa : aFit D oa na ca := ⟨ha, hca, hma⟩
  have hft : tFit W N B nr on cn ob n cb := ⟨hW, hR, hR2, hN, hcn, by omega, by omega, by omega⟩
  have hft2 : ((n : Int) + 16).toNat = n + 16 := by omega
  have hcb3 : (n : Int) + 16 ≤ ((cb - n : Nat) : Int) + (n : Int) := by omega
  obtain ⟨TG, hTG⟩ : ∃ TG, tagB W nr ((N.drop on).take 12) ((D.drop oa).take na) ((B.drop ob).take n) = TG := ⟨_, rfl⟩
  have htl : TG.length = 16 := by rw [← hTG]; unfold tagB; rw [tagX_len, hashG_len]
  rw [hTG] at he
  have ht0 := hTG
  have hcb2 : 16 ≤ cb - n := by omega
  have hB2 : ob + n + 16 ≤ B.length := by omega
  repeat (first
    | rw [run_ops0]
    | rw [run_seq]
    | rw [run_region]
    | rw [run_block]
    | rw [run_blk]
    | rw [run_skip]
    | (apply run_go rfl; focus (intro L K hK; simp [-List.reduceReplicate, -List.getD_eq_getElem?_getD]; (repeat' apply And.intro); all_goals first | exact hK | omega)))
  apply run_guard rfl rfl rfl rfl
  · intro _
    (apply Exists.intro; apply And.intro; focus (intro L K hK; simp [-List.reduceReplicate, -List.getD_eq_getElem?_getD]; (repeat' apply And.intro); all_goals first | exact hK | omega))
    apply run_guard rfl rfl rfl rfl
    · intro _
      (apply Exists.intro; apply And.intro; focus (intro L K hK; simp [-List.reduceReplicate, -List.getD_eq_getElem?_getD]; (repeat' apply And.intro); all_goals first | exact hK | omega))
      apply run_guard rfl rfl rfl rfl
      · intro _
        (apply Exists.intro; apply And.intro; focus (intro L K hK; simp [-List.reduceReplicate, -List.getD_eq_getElem?_getD]; (repeat' apply And.intro); all_goals first | exact hK | omega))
        repeat (first
    | rw [run_ops0]
    | rw [run_seq]
    | rw [run_region]
    | rw [run_block]
    | rw [run_blk]
    | rw [run_skip]
    | (apply run_go rfl; focus (intro L K hK; simp [-List.reduceReplicate, -List.getD_eq_getElem?_getD]; (repeat' apply And.intro); all_goals first | exact hK | omega)))
        apply run_cond2 rfl
        · intro h; first | cases h | (simp at h; done)
        intro _
        repeat (first
    | rw [run_ops0]
    | rw [run_seq]
    | rw [run_region]
    | rw [run_block]
    | rw [run_blk]
    | rw [run_skip]
    | (apply run_go rfl; focus (intro L K hK; simp [-List.reduceReplicate, -List.getD_eq_getElem?_getD]; (repeat' apply And.intro); all_goals first | exact hK | omega)))
        rw [run_draw]
        refine ok_draw5 15 [(13, [9])] [] tabOK pureQ_ok nuT_ok pureQ_sub nuT_sub mixed (by decide +kernel) rfl rfl ?_
        repeat (first
    | (apply h3_go rfl rfl rfl rfl rfl (Nat.le_of_ble_eq_true rfl) rfl; focus (intro K' hK; simp [-List.reduceReplicate, -List.getD_eq_getElem?_getD, viewM, visOf, memL, hft, hft2, hcb3, ht0, htl, he, hcb2, hB2, Nat.add_sub_cancel_left, nuT, kOf, datOf, pureQ, pure71, pureG, pureL, pureH, smem, tagE, hfa]; (repeat' apply And.intro); all_goals first | exact hK | omega))
    | (apply h3_new rfl rfl rfl rfl rfl (Nat.le_of_ble_eq_true rfl) rfl; focus (intro K' hK; simp [-List.reduceReplicate, -List.getD_eq_getElem?_getD, viewM, visOf, memL, hft, hft2, hcb3, ht0, htl, he, hcb2, hB2, Nat.add_sub_cancel_left, nuT, kOf, datOf, pureQ, pure71, pureG, pureL, pureH, smem, tagE, hfa]; (repeat' apply And.intro); all_goals first | exact hK | omega)))
        apply h3_guard rfl rfl rfl rfl rfl (Nat.le_of_ble_eq_true rfl) rfl
        · intro _
          (apply Exists.intro; apply Exists.intro; apply And.intro; focus (apply hop_go rfl rfl; intro K' hK; simp [-List.reduceReplicate, -List.getD_eq_getElem?_getD, viewM, visOf, memL, hft, hft2, hcb3, ht0, htl, he, hcb2, hB2, Nat.add_sub_cancel_left, nuT, kOf, datOf, pureQ, pure71, pureG, pureL, pureH, smem, tagE, hfa]; (repeat' apply And.intro); all_goals first | exact hK | omega))
          apply h3_guard rfl rfl rfl rfl rfl (Nat.le_of_ble_eq_true rfl) rfl
          · intro _
            (apply Exists.intro; apply Exists.intro; apply And.intro; focus (apply hop_go rfl rfl; intro K' hK; simp [-List.reduceReplicate, -List.getD_eq_getElem?_getD, viewM, visOf, memL, hft, hft2, hcb3, ht0, htl, he, hcb2, hB2, Nat.add_sub_cancel_left, nuT, kOf, datOf, pureQ, pure71, pureG, pureL, pureH, smem, tagE, hfa]; (repeat' apply And.intro); all_goals first | exact hK | omega))
            apply h3_guard rfl rfl rfl rfl rfl (Nat.le_of_ble_eq_true rfl) rfl
            · intro _
              (apply Exists.intro; apply Exists.intro; apply And.intro; focus (apply hop_go rfl rfl; intro K' hK; simp [-List.reduceReplicate, -List.getD_eq_getElem?_getD, viewM, visOf, memL, hft, hft2, hcb3, ht0, htl, he, hcb2, hB2, Nat.add_sub_cancel_left, nuT, kOf, datOf, pureQ, pure71, pureG, pureL, pureH, smem, tagE, hfa]; (repeat' apply And.intro); all_goals first | exact hK | omega))
              apply h3_guard rfl rfl rfl rfl rfl (Nat.le_of_ble_eq_true rfl) rfl
              · intro _
                (apply Exists.intro; apply Exists.intro; apply And.intro; focus (apply hop_go rfl rfl; intro K' hK; simp [-List.reduceReplicate, -List.getD_eq_getElem?_getD, viewM, visOf, memL, hft, hft2, hcb3, ht0, htl, he, hcb2, hB2, Nat.add_sub_cancel_left, nuT, kOf, datOf, pureQ, pure71, pureG, pureL, pureH, smem, tagE, hfa]; (repeat' apply And.intro); all_goals first | exact hK | omega))
                apply h3_guard rfl rfl rfl rfl rfl (Nat.le_of_ble_eq_true rfl) rfl
                · intro _
                  (apply Exists.intro; apply Exists.intro; apply And.intro; focus (apply hop_go rfl rfl; intro K' hK; simp [-List.reduceReplicate, -List.getD_eq_getElem?_getD, viewM, visOf, memL, hft, hft2, hcb3, ht0, htl, he, hcb2, hB2, Nat.add_sub_cancel_left, nuT, kOf, datOf, pureQ, pure71, pureG, pureL, pureH, smem, tagE, hfa]; (repeat' apply And.intro); all_goals first | exact hK | omega))
                  apply h3_guard rfl rfl rfl rfl rfl (Nat.le_of_ble_eq_true rfl) rfl
                  · intro _
                    (apply Exists.intro; apply Exists.intro; apply And.intro; focus (apply hop_go rfl rfl; intro K' hK; simp [-List.reduceReplicate, -List.getD_eq_getElem?_getD, viewM, visOf, memL, hft, hft2, hcb3, ht0, htl, he, hcb2, hB2, Nat.add_sub_cancel_left, nuT, kOf, datOf, pureQ, pure71, pureG, pureL, pureH, smem, tagE, hfa]; (repeat' apply And.intro); all_goals first | exact hK | omega))
                    apply h3_guard rfl rfl rfl rfl rfl (Nat.le_of_ble_eq_true rfl) rfl
                    · intro _
                      (apply Exists.intro; apply Exists.intro; apply And.intro; focus (apply hop_call; simp [newOf, -List.reduceReplicate, -List.getD_eq_getElem?_getD, viewM, visOf, memL, hft, hft2, hcb3, ht0, htl, he, hcb2, hB2, Nat.add_sub_cancel_left, nuT, kOf, datOf, pureQ, pure71, pureG, pureL, pureH, smem, tagE, hfa]; first | done | exact ⟨rfl, rfl⟩ | rfl))
                      apply h3_guard rfl rfl rfl rfl rfl (Nat.le_of_ble_eq_true rfl) rfl
                      · intro _
                        (apply Exists.intro; apply Exists.intro; apply And.intro; focus (apply hop_go rfl rfl; intro K' hK; simp [-List.reduceReplicate, -List.getD_eq_getElem?_getD, viewM, visOf, memL, hft, hft2, hcb3, ht0, htl, he, hcb2, hB2, Nat.add_sub_cancel_left, nuT, kOf, datOf, pureQ, pure71, pureG, pureL, pureH, smem, tagE, hfa]; (repeat' apply And.intro); all_goals first | exact hK | omega))
                        apply h3_guard rfl rfl rfl rfl rfl (Nat.le_of_ble_eq_true rfl) rfl
                        · intro _
                          (apply Exists.intro; apply Exists.intro; apply And.intro; focus (apply hop_go rfl rfl; intro K' hK; simp [-List.reduceReplicate, -List.getD_eq_getElem?_getD, viewM, visOf, memL, hft, hft2, hcb3, ht0, htl, he, hcb2, hB2, Nat.add_sub_cancel_left, nuT, kOf, datOf, pureQ, pure71, pureG, pureL, pureH, smem, tagE, hfa]; (repeat' apply And.intro); all_goals first | exact hK | omega))
                          apply h3_guard rfl rfl rfl rfl rfl (Nat.le_of_ble_eq_true rfl) rfl
                          · intro _
                            (apply Exists.intro; apply Exists.intro; apply And.intro; focus (apply hop_go rfl rfl; intro K' hK; simp [-List.reduceReplicate, -List.getD_eq_getElem?_getD, viewM, visOf, memL, hft, hft2, hcb3, ht0, htl, he, hcb2, hB2, Nat.add_sub_cancel_left, nuT, kOf, datOf, pureQ, pure71, pureG, pureL, pureH, smem, tagE, hfa]; (repeat' apply And.intro); all_goals first | exact hK | omega))
                            apply h3_guard rfl rfl rfl rfl rfl (Nat.le_of_ble_eq_true rfl) rfl
                            · intro _
                              (apply Exists.intro; apply Exists.intro; apply And.intro; focus (apply hop_go rfl rfl; intro K' hK; simp [-List.reduceReplicate, -List.getD_eq_getElem?_getD, viewM, visOf, memL, hft, hft2, hcb3, ht0, htl, he, hcb2, hB2, Nat.add_sub_cancel_left, nuT, kOf, datOf, pureQ, pure71, pureG, pureL, pureH, smem, tagE, hfa]; (repeat' apply And.intro); all_goals first | exact hK | omega))
                              apply h3_guard rfl rfl rfl rfl rfl (Nat.le_of_ble_eq_true rfl) rfl
                              · intro _
                                (apply Exists.intro; apply Exists.intro; apply And.intro; focus (apply hop_go rfl rfl; intro K' hK; simp [-List.reduceReplicate, -List.getD_eq_getElem?_getD, viewM, visOf, memL, hft, hft2, hcb3, ht0, htl, he, hcb2, hB2, Nat.add_sub_cancel_left, nuT, kOf, datOf, pureQ, pure71, pureG, pureL, pureH, smem, tagE, hfa]; (repeat' apply And.intro); all_goals first | exact hK | omega))
                                refine h3_nil ?_
                                simp [finL, contL, contAt, stT, List.range, List.range.loop, -List.reduceReplicate]
                                refine ok_run hB tabOK pureQ_ok 100 ?_
                                repeat (first
    | rw [run_ops0]
    | rw [run_seq]
    | rw [run_region]
    | rw [run_block]
    | rw [run_blk]
    | rw [run_skip]
    | (apply run_go rfl; focus (intro L K hK; simp [-List.reduceReplicate, -List.getD_eq_getElem?_getD, he]; (repeat' apply And.intro); all_goals first | exact hK | omega)))
                                apply run_cond2 rfl
                                · intro h; first | cases h | (simp [he] at h; done)
                                intro _
                                repeat (first
    | rw [run_ops0]
    | rw [run_seq]
    | rw [run_region]
    | rw [run_block]
    | rw [run_blk]
    | rw [run_skip]
    | (apply run_go rfl; focus (intro L K hK; simp [-List.reduceReplicate, -List.getD_eq_getElem?_getD]; (repeat' apply And.intro); all_goals first | exact hK | omega)))
                                refine run_call rfl rfl rfl rfl ?_
                                refine ok_call [0, 1, 2, 3] rfl rfl ⟨f69, func69, nofun, by decide⟩ (spec69 W N B nr cap on cn ob n cb hW hR hR2 hN hcn (by omega) (by omega) (by omega)) trivial (by simp) (by simp [smem, matchM, ix, renA, renSeg, renR, renS, belA, belR, belS, A.len, segLen]) rfl rfl (Nat.le_of_ble_eq_true rfl) ?_
                                rintro sv m' ⟨rfl, rfl⟩ _
                                simp only [smem, tagE, afterM, putM, renMk, renA, renSeg, renR, renS, renV, ix, St.put, List.map_cons, List.map_nil, List.drop, List.length_cons, List.length_nil, List.cons_append, List.nil_append, one]
                                simp [-List.reduceReplicate]
                                refine ok_run hB tabOK pureQ_ok 100 ?_
                                repeat (first
    | rw [run_ops0]
    | rw [run_seq]
    | rw [run_region]
    | rw [run_block]
    | rw [run_blk]
    | rw [run_skip]
    | (apply run_go rfl; focus (intro L K hK; simp [-List.reduceReplicate, -List.getD_eq_getElem?_getD]; (repeat' apply And.intro); all_goals first | exact hK | omega)))
                                rw [run_ret]
                                simp [-List.reduceReplicate, -List.getD_eq_getElem?_getD, results29, f29, smem, tagE, hTG]
                              · intro h; first | cases h | (simp at h; done)
                            · intro h; first | cases h | (simp at h; done)
                          · intro h; first | cases h | (simp at h; done)
                        · intro h; first | cases h | (simp at h; done)
                      · intro h; first | cases h | (simp at h; done)
                    · intro h; first | cases h | (simp at h; done)
                  · intro h; first | cases h | (simp at h; done)
                · intro h; first | cases h | (simp at h; done)
              · intro h; first | cases h | (simp at h; done)
            · intro h; first | cases h | (simp at h; done)
          · intro h; first | cases h | (simp at h; done)
        · intro h; first | cases h | (simp at h; done)
      · intro h; first | cases h | (simp at h; done)
    · intro h; first | cases h | (simp at h; done)
  · intro h; first | cases h | (simp at h; done)
theorem spec29nS (W N B : B8) (nr cap on cn ob nb cb : Nat) (hW : 16 * nr ≤ W.length) (hR : 0 < nr) (hR2 : nr < 1000) (hN : on + 12 ≤ N.length) (hcn : 12 ≤ cn) (hb : ob + nb ≤ B.length) (hcb : nb ≤ cb) (hmx : nb ≤ 140737488351232) (hs : nb < 16) :
    Spec prog 29 [one (.ptr 0 0 0), one (.sl 2 on 12 cn 1), one .snil, one (.sl 3 ob nb cb 1)] (smem nr cap W N B) [] (fun r m => r = .tup [.s .snil, .s (.i 5)] ∧ m = smem nr cap W N B) := by
  refine spec_of_body tabOK func29 rfl (Nat.le_of_ble_eq_true rfl) ?_
  intro E Q0 hB
  refine ok_run hB tabOK pureQ_ok 100 ?_
  simp only [argSl, smem, List.cons_append, List.nil_append]
  repeat (first
    | rw [run_ops0]
    | rw [run_seq]
    | rw [run_region]
    | rw [run_block]
    | rw [run_blk]
    | rw [run_skip]
    | (apply run_go rfl; focus (intro L K hK; simp [-List.reduceReplicate, -List.getD_eq_getElem?_getD]; (repeat' apply And.intro); all_goals first | exact hK | omega)))
  apply run_guard rfl rfl rfl rfl
  · intro _
    (apply Exists.intro; apply And.intro; focus (intro L K hK; simp [-List.reduceReplicate, -List.getD_eq_getElem?_getD]; (repeat' apply And.intro); all_goals first | exact hK | omega))
    apply run_guard rfl rfl rfl rfl
    · intro _
      (apply Exists.intro; apply And.intro; focus (intro L K hK; simp [-List.reduceReplicate, -List.getD_eq_getElem?_getD]; (repeat' apply And.intro); all_goals first | exact hK | omega))
      apply run_guard rfl rfl rfl rfl
      · intro _
        (apply Exists.intro; apply And.intro; focus (intro L K hK; simp [-List.reduceReplicate, -List.getD_eq_getElem?_getD]; (repeat' apply And.intro); all_goals first | exact hK | omega))
        repeat (first
    | rw [run_ops0]
    | rw [run_seq]
    | rw [run_region]
    | rw [run_block]
    | rw [run_blk]
    | rw [run_skip]
    | (apply run_go rfl; focus (intro L K hK; simp [-List.reduceReplicate, -List.getD_eq_getElem?_getD]; (repeat' apply And.intro); all_goals first | exact hK | omega)))
        apply run_cond2 rfl
        · intro h; first | cases h | (simp at h; done)
        intro _
        repeat (first
    | rw [run_ops0]
    | rw [run_seq]
    | rw [run_region]
    | rw [run_block]
    | rw [run_blk]
    | rw [run_skip]
    | (apply run_go rfl; focus (intro L K hK; simp [-List.reduceReplicate, -List.getD_eq_getElem?_getD]; (repeat' apply And.intro); all_goals first | exact hK | omega)))
        rw [run_draw]
        refine ok_draw5 15 [(13, [9])] [] tabOK pureQ_ok nuT_ok pureQ_sub nuT_sub mixed (by decide +kernel) rfl rfl ?_
        have hlt : (nb : Int) - 16 < 0 := by omega
        repeat (first
    | (apply h3_go rfl rfl rfl rfl rfl (Nat.le_of_ble_eq_true rfl) rfl; focus (intro K' hK; simp [-List.reduceReplicate, -List.getD_eq_getElem?_getD, viewM, visOf, memL, hlt]; (repeat' apply And.intro); all_goals first | exact hK | omega))
    | (apply h3_new rfl rfl rfl rfl rfl (Nat.le_of_ble_eq_true rfl) rfl; focus (intro K' hK; simp [-List.reduceReplicate, -List.getD_eq_getElem?_getD, viewM, visOf, memL, hlt]; (repeat' apply And.intro); all_goals first | exact hK | omega)))
        apply h3_guard rfl rfl rfl rfl rfl (Nat.le_of_ble_eq_true rfl) rfl
        · intro h; first | cases h | (simp [hs] at h; done) | (simp at h; omega)
        intro _
        apply h3_guard rfl rfl rfl rfl rfl (Nat.le_of_ble_eq_true rfl) rfl
        · intro h; first | cases h | (simp [hs] at h; done) | (simp at h; omega)
        intro _
        apply h3_guard rfl rfl rfl rfl rfl (Nat.le_of_ble_eq_true rfl) rfl
        · intro h; first | cases h | (simp [hs] at h; done) | (simp at h; omega)
        intro _
        apply h3_guard rfl rfl rfl rfl rfl (Nat.le_of_ble_eq_true rfl) rfl
        · intro h; first | cases h | (simp [hs] at h; done) | (simp at h; omega)
        intro _
        apply h3_guard rfl rfl rfl rfl rfl (Nat.le_of_ble_eq_true rfl) rfl
        · intro h; first | cases h | (simp [hs] at h; done) | (simp at h; omega)
        intro _
        apply h3_guard rfl rfl rfl rfl rfl (Nat.le_of_ble_eq_true rfl) rfl
        · intro h; first | cases h | (simp [hs] at h; done) | (simp at h; omega)
        intro _
        apply h3_guard rfl rfl rfl rfl rfl (Nat.le_of_ble_eq_true rfl) rfl
        · intro h; first | cases h | (simp [hs] at h; done) | (simp at h; omega)
        intro _
        apply h3_guard rfl rfl rfl rfl rfl (Nat.le_of_ble_eq_true rfl) rfl
        · intro h; first | cases h | (simp [hs] at h; done) | (simp at h; omega)
        intro _
        apply h3_guard rfl rfl rfl rfl rfl (Nat.le_of_ble_eq_true rfl) rfl
        · intro h; first | cases h | (simp [hs] at h; done) | (simp at h; omega)
        intro _
        apply h3_guard rfl rfl rfl rfl rfl (Nat.le_of_ble_eq_true rfl) rfl
        · intro h; first | cases h | (simp [hs] at h; done) | (simp at h; omega)
        intro _
        apply h3_guard rfl rfl rfl rfl rfl (Nat.le_of_ble_eq_true rfl) rfl
        · intro h; first | cases h | (simp [hs] at h; done) | (simp at h; omega)
        intro _
        apply h3_guard rfl rfl rfl rfl rfl (Nat.le_of_ble_eq_true rfl) rfl
        · intro h; first | cases h | (simp [hs] at h; done) | (simp at h; omega)
        intro _
        refine h3_nil ?_
        simp [finL, contL, contAt, stT, List.range, List.range.loop, -List.reduceReplicate]
        refine ok_run hB tabOK pureQ_ok 100 ?_
        repeat (first
    | rw [run_ops0]
    | rw [run_seq]
    | rw [run_region]
    | rw [run_block]
    | rw [run_blk]
    | rw [run_skip]
    | (apply run_go rfl; focus (intro L K hK; simp [-List.reduceReplicate, -List.getD_eq_getElem?_getD, hs]; (repeat' apply And.intro); all_goals first | exact hK | omega)))
        apply run_cond2 rfl
        · intro _
          repeat (first
    | rw [run_ops0]
    | rw [run_seq]
    | rw [run_region]
    | rw [run_block]
    | rw [run_blk]
    | rw [run_skip]
    | (apply run_go rfl; focus (intro L K hK; simp [-List.reduceReplicate, -List.getD_eq_getElem?_getD]; (repeat' apply And.intro); all_goals first | exact hK | omega)))
          rw [run_ret]
          simp [-List.reduceReplicate, -List.getD_eq_getElem?_getD, results29, f29, smem]
        · intro h; first | cases h | (simp [hs] at h; done) | (simp at h; omega)
      · intro h; first | cases h | (simp at h; done)
    · intro h; first | cases h | (simp at h; done)
  · intro h; first | cases h | (simp at h; done)
theorem spec29nB (W N B : B8) (nr cap on cn ob n cb : Nat) (hW : 16 * nr ≤ W.length) (hR : 0 < nr) (hR2 : nr < 1000) (hN : on + 12 ≤ N.length) (hcn : 12 ≤ cn) (hb : ob + (n + 16) ≤ B.length) (hcb : (n + 16) ≤ cb) (hmx : (n + 16) ≤ 140737488351232) (he : eqAns (tagB W nr ((N.drop on).take 12) ([] : B8) ((B.drop ob).take n)) (B.drop (ob + n)) 16 16 = false) :
    Spec prog 29 [one (.ptr 0 0 0), one (.sl 2 on 12 cn 1), one .snil, one (.sl 3 ob (n + 16) cb 1)] (smem nr cap W N B) [] (fun r m => r = .tup [.s .snil, .s (.i 5)] ∧ m = smem nr cap W N B ++ (tagE W nr ((N.drop on).take 12) ([] : B8) ((B.drop ob).take n)).map .ent) := by
  refine spec_of_body tabOK func29 rfl (Nat.le_of_ble_eq_true rfl) ?_
  intro E Q0 hB
  refine ok_run hB tabOK pureQ_ok 100 ?_
  simp only [argSl, smem, List.cons_append, List.nil_append]
  have hft : tFit W N B nr on cn ob n cb := ⟨hW, hR, hR2, hN, hcn, by omega, by omega, by omega⟩
  have hft2 : ((n : Int) + 16).toNat = n + 16 := by omega
  have hcb3 : (n : Int) + 16 ≤ ((cb - n : Nat) : Int) + (n : Int) := by omega
  obtain ⟨TG, hTG⟩ : ∃ TG, tagB W nr ((N.drop on).take 12) ([] : B8) ((B.drop ob).take n) = TG := ⟨_, rfl⟩
  have htl : TG.length = 16 := by rw [← hTG]; unfold tagB; rw [tagX_len, hashG_len]
  rw [hTG] at he
  have ht0 := hTG
  have hcb2 : 16 ≤ cb - n := by omega
  have hB2 : ob + n + 16 ≤ B.length := by omega
  repeat (first
    | rw [run_ops0]
    | rw [run_seq]
    | rw [run_region]
    | rw [run_block]
    | rw [run_blk]
    | rw [run_skip]
    | (apply run_go rfl; focus (intro L K hK; simp [-List.reduceReplicate, -List.getD_eq_getElem?_getD]; (repeat' apply And.intro); all_goals first | exact hK | omega)))
  apply run_guard rfl rfl rfl rfl
  · intro _
    (apply Exists.intro; apply And.intro; focus (intro L K hK; simp [-List.reduceReplicate, -List.getD_eq_getElem?_getD]; (repeat' apply And.intro); all_goals first | exact hK | omega))
    apply run_guard rfl rfl rfl rfl
    · intro _
      (apply Exists.intro; apply And.intro; focus (intro L K hK; simp [-List.reduceReplicate, -List.getD_eq_getElem?_getD]; (repeat' apply And.intro); all_goals first | exact hK | omega))
      apply run_guard rfl rfl rfl rfl
      · intro _
        (apply Exists.intro; apply And.intro; focus (intro L K hK; simp [-List.reduceReplicate, -List.getD_eq_getElem?_getD]; (repeat' apply And.intro); all_goals first | exact hK | omega))
        repeat (first
    | rw [run_ops0]
    | rw [run_seq]
    | rw [run_region]
    | rw [run_block]
    | rw [run_blk]
    | rw [run_skip]
    | (apply run_go rfl; focus (intro L K hK; simp [-List.reduceReplicate, -List.getD_eq_getElem?_getD]; (repeat' apply And.intro); all_goals first | exact hK | omega)))
        apply run_cond2 rfl
        · intro h; first | cases h | (simp at h; done)
        intro _
        repeat (first
    | rw [run_ops0]
    | rw [run_seq]
    | rw [run_region]
    | rw [run_block]
    | rw [run_blk]
    | rw [run_skip]
    | (apply run_go rfl; focus (intro L K hK; simp [-List.reduceReplicate, -List.getD_eq_getElem?_getD]; (repeat' apply And.intro); all_goals first | exact hK | omega)))
        rw [run_draw]
        refine ok_draw5 15 [(13, [9])] [] tabOK pureQ_ok nuT_ok pureQ_sub nuT_sub mixed (by decide +kernel) rfl rfl ?_
        repeat (first
    | (apply h3_go rfl rfl rfl rfl rfl (Nat.le_of_ble_eq_true rfl) rfl; focus (intro K' hK; simp [-List.reduceReplicate, -List.getD_eq_getElem?_getD, viewM, visOf, memL, hft, hft2, hcb3, ht0, htl, he, hcb2, hB2, Nat.add_sub_cancel_left, nuT, kOf, datOf, pureQ, pure71, pureG, pureL, pureH, smem, tagE]; (repeat' apply And.intro); all_goals first | exact hK | omega))
    | (apply h3_new rfl rfl rfl rfl rfl (Nat.le_of_ble_eq_true rfl) rfl; focus (intro K' hK; simp [-List.reduceReplicate, -List.getD_eq_getElem?_getD, viewM, visOf, memL, hft, hft2, hcb3, ht0, htl, he, hcb2, hB2, Nat.add_sub_cancel_left, nuT, kOf, datOf, pureQ, pure71, pureG, pureL, pureH, smem, tagE]; (repeat' apply And.intro); all_goals first | exact hK | omega)))
        apply h3_guard rfl rfl rfl rfl rfl (Nat.le_of_ble_eq_true rfl) rfl
        · intro _
          (apply Exists.intro; apply Exists.intro; apply And.intro; focus (apply hop_go rfl rfl; intro K' hK; simp [-List.reduceReplicate, -List.getD_eq_getElem?_getD, viewM, visOf, memL, hft, hft2, hcb3, ht0, htl, he, hcb2, hB2, Nat.add_sub_cancel_left, nuT, kOf, datOf, pureQ, pure71, pureG, pureL, pureH, smem, tagE]; (repeat' apply And.intro); all_goals first | exact hK | omega))
          apply h3_guard rfl rfl rfl rfl rfl (Nat.le_of_ble_eq_true rfl) rfl
          · intro _
            (apply Exists.intro; apply Exists.intro; apply And.intro; focus (apply hop_go rfl rfl; intro K' hK; simp [-List.reduceReplicate, -List.getD_eq_getElem?_getD, viewM, visOf, memL, hft, hft2, hcb3, ht0, htl, he, hcb2, hB2, Nat.add_sub_cancel_left, nuT, kOf, datOf, pureQ, pure71, pureG, pureL, pureH, smem, tagE]; (repeat' apply And.intro); all_goals first | exact hK | omega))
            apply h3_guard rfl rfl rfl rfl rfl (Nat.le_of_ble_eq_true rfl) rfl
            · intro _
              (apply Exists.intro; apply Exists.intro; apply And.intro; focus (apply hop_go rfl rfl; intro K' hK; simp [-List.reduceReplicate, -List.getD_eq_getElem?_getD, viewM, visOf, memL, hft, hft2, hcb3, ht0, htl, he, hcb2, hB2, Nat.add_sub_cancel_left, nuT, kOf, datOf, pureQ, pure71, pureG, pureL, pureH, smem, tagE]; (repeat' apply And.intro); all_goals first | exact hK | omega))
              apply h3_guard rfl rfl rfl rfl rfl (Nat.le_of_ble_eq_true rfl) rfl
              · intro _
                (apply Exists.intro; apply Exists.intro; apply And.intro; focus (apply hop_go rfl rfl; intro K' hK; simp [-List.reduceReplicate, -List.getD_eq_getElem?_getD, viewM, visOf, memL, hft, hft2, hcb3, ht0, htl, he, hcb2, hB2, Nat.add_sub_cancel_left, nuT, kOf, datOf, pureQ, pure71, pureG, pureL, pureH, smem, tagE]; (repeat' apply And.intro); all_goals first | exact hK | omega))
                apply h3_guard rfl rfl rfl rfl rfl (Nat.le_of_ble_eq_true rfl) rfl
                · intro _
                  (apply Exists.intro; apply Exists.intro; apply And.intro; focus (apply hop_go rfl rfl; intro K' hK; simp [-List.reduceReplicate, -List.getD_eq_getElem?_getD, viewM, visOf, memL, hft, hft2, hcb3, ht0, htl, he, hcb2, hB2, Nat.add_sub_cancel_left, nuT, kOf, datOf, pureQ, pure71, pureG, pureL, pureH, smem, tagE]; (repeat' apply And.intro); all_goals first | exact hK | omega))
                  apply h3_guard rfl rfl rfl rfl rfl (Nat.le_of_ble_eq_true rfl) rfl
                  · intro _
                    (apply Exists.intro; apply Exists.intro; apply And.intro; focus (apply hop_go rfl rfl; intro K' hK; simp [-List.reduceReplicate, -List.getD_eq_getElem?_getD, viewM, visOf, memL, hft, hft2, hcb3, ht0, htl, he, hcb2, hB2, Nat.add_sub_cancel_left, nuT, kOf, datOf, pureQ, pure71, pureG, pureL, pureH, smem, tagE]; (repeat' apply And.intro); all_goals first | exact hK | omega))
                    apply h3_guard rfl rfl rfl rfl rfl (Nat.le_of_ble_eq_true rfl) rfl
                    · intro _
                      (apply Exists.intro; apply Exists.intro; apply And.intro; focus (apply hop_call; simp [newOf, -List.reduceReplicate, -List.getD_eq_getElem?_getD, viewM, visOf, memL, hft, hft2, hcb3, ht0, htl, he, hcb2, hB2, Nat.add_sub_cancel_left, nuT, kOf, datOf, pureQ, pure71, pureG, pureL, pureH, smem, tagE]; first | done | exact ⟨rfl, rfl⟩ | rfl))
                      apply h3_guard rfl rfl rfl rfl rfl (Nat.le_of_ble_eq_true rfl) rfl
                      · intro _
                        (apply Exists.intro; apply Exists.intro; apply And.intro; focus (apply hop_go rfl rfl; intro K' hK; simp [-List.reduceReplicate, -List.getD_eq_getElem?_getD, viewM, visOf, memL, hft, hft2, hcb3, ht0, htl, he, hcb2, hB2, Nat.add_sub_cancel_left, nuT, kOf, datOf, pureQ, pure71, pureG, pureL, pureH, smem, tagE]; (repeat' apply And.intro); all_goals first | exact hK | omega))
                        apply h3_guard rfl rfl rfl rfl rfl (Nat.le_of_ble_eq_true rfl) rfl
                        · intro _
                          (apply Exists.intro; apply Exists.intro; apply And.intro; focus (apply hop_go rfl rfl; intro K' hK; simp [-List.reduceReplicate, -List.getD_eq_getElem?_getD, viewM, visOf, memL, hft, hft2, hcb3, ht0, htl, he, hcb2, hB2, Nat.add_sub_cancel_left, nuT, kOf, datOf, pureQ, pure71, pureG, pureL, pureH, smem, tagE]; (repeat' apply And.intro); all_goals first | exact hK | omega))
                          apply h3_guard rfl rfl rfl rfl rfl (Nat.le_of_ble_eq_true rfl) rfl
                          · intro _
                            (apply Exists.intro; apply Exists.intro; apply And.intro; focus (apply hop_go rfl rfl; intro K' hK; simp [-List.reduceReplicate, -List.getD_eq_getElem?_getD, viewM, visOf, memL, hft, hft2, hcb3, ht0, htl, he, hcb2, hB2, Nat.add_sub_cancel_left, nuT, kOf, datOf, pureQ, pure71, pureG, pureL, pureH, smem, tagE]; (repeat' apply And.intro); all_goals first | exact hK | omega))
                            apply h3_guard rfl rfl rfl rfl rfl (Nat.le_of_ble_eq_true rfl) rfl
                            · intro _
                              (apply Exists.intro; apply Exists.intro; apply And.intro; focus (apply hop_go rfl rfl; intro K' hK; simp [-List.reduceReplicate, -List.getD_eq_getElem?_getD, viewM, visOf, memL, hft, hft2, hcb3, ht0, htl, he, hcb2, hB2, Nat.add_sub_cancel_left, nuT, kOf, datOf, pureQ, pure71, pureG, pureL, pureH, smem, tagE]; (repeat' apply And.intro); all_goals first | exact hK | omega))
                              apply h3_guard rfl rfl rfl rfl rfl (Nat.le_of_ble_eq_true rfl) rfl
                              · intro _
                                (apply Exists.intro; apply Exists.intro; apply And.intro; focus (apply hop_go rfl rfl; intro K' hK; simp [-List.reduceReplicate, -List.getD_eq_getElem?_getD, viewM, visOf, memL, hft, hft2, hcb3, ht0, htl, he, hcb2, hB2, Nat.add_sub_cancel_left, nuT, kOf, datOf, pureQ, pure71, pureG, pureL, pureH, smem, tagE]; (repeat' apply And.intro); all_goals first | exact hK | omega))
                                refine h3_nil ?_
                                simp [finL, contL, contAt, stT, List.range, List.range.loop, -List.reduceReplicate]
                                refine ok_run hB tabOK pureQ_ok 100 ?_
                                repeat (first
    | rw [run_ops0]
    | rw [run_seq]
    | rw [run_region]
    | rw [run_block]
    | rw [run_blk]
    | rw [run_skip]
    | (apply run_go rfl; focus (intro L K hK; simp [-List.reduceReplicate, -List.getD_eq_getElem?_getD, he]; (repeat' apply And.intro); all_goals first | exact hK | omega)))
                                apply run_cond2 rfl
                                · intro _
                                  repeat (first
    | rw [run_ops0]
    | rw [run_seq]
    | rw [run_region]
    | rw [run_block]
    | rw [run_blk]
    | rw [run_skip]
    | (apply run_go rfl; focus (intro L K hK; simp [-List.reduceReplicate, -List.getD_eq_getElem?_getD]; (repeat' apply And.intro); all_goals first | exact hK | omega)))
                                  rw [run_ret]
                                  simp [-List.reduceReplicate, -List.getD_eq_getElem?_getD, results29, f29, smem, tagE, hTG]
                                · intro h; first | cases h | (simp [he] at h; done)
                              · intro h; first | cases h | (simp at h; done)
                            · intro h; first | cases h | (simp at h; done)
                          · intro h; first | cases h | (simp at h; done)
                        · intro h; first | cases h | (simp at h; done)
                      · intro h; first | cases h | (simp at h; done)
                    · intro h; first | cases h | (simp at h; done)
                  · intro h; first | cases h | (simp at h; done)
                · intro h; first | cases h | (simp at h; done)
              · intro h; first | cases h | (simp at h; done)
            · intro h; first | cases h | (simp at h; done)
          · intro h; first | cases h | (simp at h; done)
        · intro h; first | cases h | (simp at h; done)
      · intro h; first | cases h | (simp at h; done)
    · intro h; first | cases h | (simp at h; done)
  · intro h; first | cases h | (simp at h; done)
theorem spec29nO (W N B : B8) (nr cap on cn ob n cb : Nat) (hW : 16 * nr ≤ W.length) (hR : 0 < nr) (hR2 : nr < 1000) (hN : on + 12 ≤ N.length) (hcn : 12 ≤ cn) (hb : ob + (n + 16) ≤ B.length) (hcb : (n + 16) ≤ cb) (hmx : (n + 16) ≤ 140737488351232) (he : eqAns (tagB W nr ((N.drop on).take 12) ([] : B8) ((B.drop ob).take n)) (B.drop (ob + n)) 16 16 = true) :
    Spec prog 29 [one (.ptr 0 0 0), one (.sl 2 on 12 cn 1), one .snil, one (.sl 3 ob (n + 16) cb 1)] (smem nr cap W N B) [] (fun r m => r = .tup [.s (.sl 7 0 n n 1), .s (.i 0)] ∧ m = smem nr cap W N B ++ (tagE W nr ((N.drop on).take 12) ([] : B8) ((B.drop ob).take n) ++ ([⟨true, 5, none, .a8 (stO W nr ((N.drop on).take 12) ((B.drop ob).take n) n)⟩, ⟨true, 23, some 16, .a8 (stC ((N.drop on).take 12) n)⟩] : List Ent)).map .ent) := by
  refine spec_of_body tabOK func29 rfl (Nat.le_of_ble_eq_true rfl) ?_
  intro E Q0 hB
  refine ok_run hB tabOK pureQ_ok 100 ?_
  simp only [argSl, smem, List.cons_append, List.nil_append]
  have hft : tFit W N B nr on cn ob n cb := ⟨hW, hR, hR2, hN, hcn, by omega, by omega, by omega⟩
  have hft2 : ((n : Int) + 16).toNat = n + 16 := by omega
  have hcb3 : (n : Int) + 16 ≤ ((cb - n : Nat) : Int) + (n : Int) := by omega
  obtain ⟨TG, hTG⟩ : ∃ TG, tagB W nr ((N.drop on).take 12) ([] : B8) ((B.drop ob).take n) = TG := ⟨_, rfl⟩
  have htl : TG.length = 16 := by rw [← hTG]; unfold tagB; rw [tagX_len, hashG_len]
  rw [hTG] at he
  have ht0 := hTG
  have hcb2 : 16 ≤ cb - n := by omega
  have hB2 : ob + n + 16 ≤ B.length := by omega
  repeat (first
    | rw [run_ops0]
    | rw [run_seq]
    | rw [run_region]
    | rw [run_block]
    | rw [run_blk]
    | rw [run_skip]
    | (apply run_go rfl; focus (intro L K hK; simp [-List.reduceReplicate, -List.getD_eq_getElem?_getD]; (repeat' apply And.intro); all_goals first | exact hK | omega)))
  apply run_guard rfl rfl rfl rfl
  · intro _
    (apply Exists.intro; apply And.intro; focus (intro L K hK; simp [-List.reduceReplicate, -List.getD_eq_getElem?_getD]; (repeat' apply And.intro); all_goals first | exact hK | omega))
    apply run_guard rfl rfl rfl rfl
    · intro _
      (apply Exists.intro; apply And.intro; focus (intro L K hK; simp [-List.reduceReplicate, -List.getD_eq_getElem?_getD]; (repeat' apply And.intro); all_goals first | exact hK | omega))
      apply run_guard rfl rfl rfl rfl
      · intro _
        (apply Exists.intro; apply And.intro; focus (intro L K hK; simp [-List.reduceReplicate, -List.getD_eq_getElem?_getD]; (repeat' apply And.intro); all_goals first | exact hK | omega))
        repeat (first
    | rw [run_ops0]
    | rw [run_seq]
    | rw [run_region]
    | rw [run_block]
    | rw [run_blk]
    | rw [run_skip]
    | (apply run_go rfl; focus (intro L K hK; simp [-List.reduceReplicate, -List.getD_eq_getElem?_getD]; (repeat' apply And.intro); all_goals first | exact hK | omega)))
        apply run_cond2 rfl
        · intro h; first | cases h | (simp at h; done)
        intro _
        repeat (first
    | rw [run_ops0]
    | rw [run_seq]
    | rw [run_region]
    | rw [run_block]
    | rw [run_blk]
    | rw [run_skip]
    | (apply run_go rfl; focus (intro L K hK; simp [-List.reduceReplicate, -List.getD_eq_getElem?_getD]; (repeat' apply And.intro); all_goals first | exact hK | omega)))
        rw [run_draw]
        refine ok_draw5 15 [(13, [9])] [] tabOK pureQ_ok nuT_ok pureQ_sub nuT_sub mixed (by decide +kernel) rfl rfl ?_
        repeat (first
    | (apply h3_go rfl rfl rfl rfl rfl (Nat.le_of_ble_eq_true rfl) rfl; focus (intro K' hK; simp [-List.reduceReplicate, -List.getD_eq_getElem?_getD, viewM, visOf, memL, hft, hft2, hcb3, ht0, htl, he, hcb2, hB2, Nat.add_sub_cancel_left, nuT, kOf, datOf, pureQ, pure71, pureG, pureL, pureH, smem, tagE]; (repeat' apply And.intro); all_goals first | exact hK | omega))
    | (apply h3_new rfl rfl rfl rfl rfl (Nat.le_of_ble_eq_true rfl) rfl; focus (intro K' hK; simp [-List.reduceReplicate, -List.getD_eq_getElem?_getD, viewM, visOf, memL, hft, hft2, hcb3, ht0, htl, he, hcb2, hB2, Nat.add_sub_cancel_left, nuT, kOf, datOf, pureQ, pure71, pureG, pureL, pureH, smem, tagE]; (repeat' apply And.intro); all_goals first | exact hK | omega)))
        apply h3_guard rfl rfl rfl rfl rfl (Nat.le_of_ble_eq_true rfl) rfl
        · intro _
          (apply Exists.intro; apply Exists.intro; apply And.intro; focus (apply hop_go rfl rfl; intro K' hK; simp [-List.reduceReplicate, -List.getD_eq_getElem?_getD, viewM, visOf, memL, hft, hft2, hcb3, ht0, htl, he, hcb2, hB2, Nat.add_sub_cancel_left, nuT, kOf, datOf, pureQ, pure71, pureG, pureL, pureH, smem, tagE]; (repeat' apply And.intro); all_goals first | exact hK | omega))
          apply h3_guard rfl rfl rfl rfl rfl (Nat.le_of_ble_eq_true rfl) rfl
          · intro _
            (apply Exists.intro; apply Exists.intro; apply And.intro; focus (apply hop_go rfl rfl; intro K' hK; simp [-List.reduceReplicate, -List.getD_eq_getElem?_getD, viewM, visOf, memL, hft, hft2, hcb3, ht0, htl, he, hcb2, hB2, Nat.add_sub_cancel_left, nuT, kOf, datOf, pureQ, pure71, pureG, pureL, pureH, smem, tagE]; (repeat' apply And.intro); all_goals first | exact hK | omega))
            apply h3_guard rfl rfl rfl rfl rfl (Nat.le_of_ble_eq_true rfl) rfl
            · intro _
              (apply Exists.intro; apply Exists.intro; apply And.intro; focus (apply hop_go rfl rfl; intro K' hK; simp [-List.reduceReplicate, -List.getD_eq_getElem?_getD, viewM, visOf, memL, hft, hft2, hcb3, ht0, htl, he, hcb2, hB2, Nat.add_sub_cancel_left, nuT, kOf, datOf, pureQ, pure71, pureG, pureL, pureH, smem, tagE]; (repeat' apply And.intro); all_goals first | exact hK | omega))
              apply h3_guard rfl rfl rfl rfl rfl (Nat.le_of_ble_eq_true rfl) rfl
              · intro _
                (apply Exists.intro; apply Exists.intro; apply And.intro; focus (apply hop_go rfl rfl; intro K' hK; simp [-List.reduceReplicate, -List.getD_eq_getElem?_getD, viewM, visOf, memL, hft, hft2, hcb3, ht0, htl, he, hcb2, hB2, Nat.add_sub_cancel_left, nuT, kOf, datOf, pureQ, pure71, pureG, pureL, pureH, smem, tagE]; (repeat' apply And.intro); all_goals first | exact hK | omega))
                apply h3_guard rfl rfl rfl rfl rfl (Nat.le_of_ble_eq_true rfl) rfl
                · intro _
                  (apply Exists.intro; apply Exists.intro; apply And.intro; focus (apply hop_go rfl rfl; intro K' hK; simp [-List.reduceReplicate, -List.getD_eq_getElem?_getD, viewM, visOf, memL, hft, hft2, hcb3, ht0, htl, he, hcb2, hB2, Nat.add_sub_cancel_left, nuT, kOf, datOf, pureQ, pure71, pureG, pureL, pureH, smem, tagE]; (repeat' apply And.intro); all_goals first | exact hK | omega))
                  apply h3_guard rfl rfl rfl rfl rfl (Nat.le_of_ble_eq_true rfl) rfl
                  · intro _
                    (apply Exists.intro; apply Exists.intro; apply And.intro; focus (apply hop_go rfl rfl; intro K' hK; simp [-List.reduceReplicate, -List.getD_eq_getElem?_getD, viewM, visOf, memL, hft, hft2, hcb3, ht0, htl, he, hcb2, hB2, Nat.add_sub_cancel_left, nuT, kOf, datOf, pureQ, pure71, pureG, pureL, pureH, smem, tagE]; (repeat' apply And.intro); all_goals first | exact hK | omega))
                    apply h3_guard rfl rfl rfl rfl rfl (Nat.le_of_ble_eq_true rfl) rfl
                    · intro _
                      (apply Exists.intro; apply Exists.intro; apply And.intro; focus (apply hop_call; simp [newOf, -List.reduceReplicate, -List.getD_eq_getElem?_getD, viewM, visOf, memL, hft, hft2, hcb3, ht0, htl, he, hcb2, hB2, Nat.add_sub_cancel_left, nuT, kOf, datOf, pureQ, pure71, pureG, pureL, pureH, smem, tagE]; first | done | exact ⟨rfl, rfl⟩ | rfl))
                      apply h3_guard rfl rfl rfl rfl rfl (Nat.le_of_ble_eq_true rfl) rfl
                      · intro _
                        (apply Exists.intro; apply Exists.intro; apply And.intro; focus (apply hop_go rfl rfl; intro K' hK; simp [-List.reduceReplicate, -List.getD_eq_getElem?_getD, viewM, visOf, memL, hft, hft2, hcb3, ht0, htl, he, hcb2, hB2, Nat.add_sub_cancel_left, nuT, kOf, datOf, pureQ, pure71, pureG, pureL, pureH, smem, tagE]; (repeat' apply And.intro); all_goals first | exact hK | omega))
                        apply h3_guard rfl rfl rfl rfl rfl (Nat.le_of_ble_eq_true rfl) rfl
                        · intro _
                          (apply Exists.intro; apply Exists.intro; apply And.intro; focus (apply hop_go rfl rfl; intro K' hK; simp [-List.reduceReplicate, -List.getD_eq_getElem?_getD, viewM, visOf, memL, hft, hft2, hcb3, ht0, htl, he, hcb2, hB2, Nat.add_sub_cancel_left, nuT, kOf, datOf, pureQ, pure71, pureG, pureL, pureH, smem, tagE]; (repeat' apply And.intro); all_goals first | exact hK | omega))
                          apply h3_guard rfl rfl rfl rfl rfl (Nat.le_of_ble_eq_true rfl) rfl
                          · intro _
                            (apply Exists.intro; apply Exists.intro; apply And.intro; focus (apply hop_go rfl rfl; intro K' hK; simp [-List.reduceReplicate, -List.getD_eq_getElem?_getD, viewM, visOf, memL, hft, hft2, hcb3, ht0, htl, he, hcb2, hB2, Nat.add_sub_cancel_left, nuT, kOf, datOf, pureQ, pure71, pureG, pureL, pureH, smem, tagE]; (repeat' apply And.intro); all_goals first | exact hK | omega))
                            apply h3_guard rfl rfl rfl rfl rfl (Nat.le_of_ble_eq_true rfl) rfl
                            · intro _
                              (apply Exists.intro; apply Exists.intro; apply And.intro; focus (apply hop_go rfl rfl; intro K' hK; simp [-List.reduceReplicate, -List.getD_eq_getElem?_getD, viewM, visOf, memL, hft, hft2, hcb3, ht0, htl, he, hcb2, hB2, Nat.add_sub_cancel_left, nuT, kOf, datOf, pureQ, pure71, pureG, pureL, pureH, smem, tagE]; (repeat' apply And.intro); all_goals first | exact hK | omega))
                              apply h3_guard rfl rfl rfl rfl rfl (Nat.le_of_ble_eq_true rfl) rfl
                              · intro _
                                (apply Exists.intro; apply Exists.intro; apply And.intro; focus (apply hop_go rfl rfl; intro K' hK; simp [-List.reduceReplicate, -List.getD_eq_getElem?_getD, viewM, visOf, memL, hft, hft2, hcb3, ht0, htl, he, hcb2, hB2, Nat.add_sub_cancel_left, nuT, kOf, datOf, pureQ, pure71, pureG, pureL, pureH, smem, tagE]; (repeat' apply And.intro); all_goals first | exact hK | omega))
                                refine h3_nil ?_
                                simp [finL, contL, contAt, stT, List.range, List.range.loop, -List.reduceReplicate]
                                refine ok_run hB tabOK pureQ_ok 100 ?_
                                repeat (first
    | rw [run_ops0]
    | rw [run_seq]
    | rw [run_region]
    | rw [run_block]
    | rw [run_blk]
    | rw [run_skip]
    | (apply run_go rfl; focus (intro L K hK; simp [-List.reduceReplicate, -List.getD_eq_getElem?_getD, he]; (repeat' apply And.intro); all_goals first | exact hK | omega)))
                                apply run_cond2 rfl
                                · intro h; first | cases h | (simp [he] at h; done)
                                intro _
                                repeat (first
    | rw [run_ops0]
    | rw [run_seq]
    | rw [run_region]
    | rw [run_block]
    | rw [run_blk]
    | rw [run_skip]
    | (apply run_go rfl; focus (intro L K hK; simp [-List.reduceReplicate, -List.getD_eq_getElem?_getD]; (repeat' apply And.intro); all_goals first | exact hK | omega)))
                                refine run_call rfl rfl rfl rfl ?_
                                refine ok_call [0, 1, 2, 3] rfl rfl ⟨f69, func69, nofun, by decide⟩ (spec69 W N B nr cap on cn ob n cb hW hR hR2 hN hcn (by omega) (by omega) (by omega)) trivial (by simp) (by simp [smem, matchM, ix, renA, renSeg, renR, renS, belA, belR, belS, A.len, segLen]) rfl rfl (Nat.le_of_ble_eq_true rfl) ?_
                                rintro sv m' ⟨rfl, rfl⟩ _
                                simp only [smem, tagE, afterM, putM, renMk, renA, renSeg, renR, renS, renV, ix, St.put, List.map_cons, List.map_nil, List.drop, List.length_cons, List.length_nil, List.cons_append, List.nil_append, one]
                                simp [-List.reduceReplicate]
                                refine ok_run hB tabOK pureQ_ok 100 ?_
                                repeat (first
    | rw [run_ops0]
    | rw [run_seq]
    | rw [run_region]
    | rw [run_block]
    | rw [run_blk]
    | rw [run_skip]
    | (apply run_go rfl; focus (intro L K hK; simp [-List.reduceReplicate, -List.getD_eq_getElem?_getD]; (repeat' apply And.intro); all_goals first | exact hK | omega)))
                                rw [run_ret]
                                simp [-List.reduceReplicate, -List.getD_eq_getElem?_getD, results29, f29, smem, tagE, hTG]
                              · intro h; first | cases h | (simp at h; done)
                            · intro h; first | cases h | (simp at h; done)
                          · intro h; first | cases h | (simp at h; done)
                        · intro h; first | cases h | (simp at h; done)
                      · intro h; first | cases h | (simp at h; done)
                    · intro h; first | cases h | (simp at h; done)
                  · intro h; first | cases h | (simp at h; done)
                · intro h; first | cases h | (simp at h; done)
              · intro h; first | cases h | (simp at h; done)
            · intro h; first | cases h | (simp at h; done)
          · intro h; first | cases h | (simp at h; done)
        · intro h; first | cases h | (simp at h; done)
      · intro h; first | cases h | (simp at h; done)
    · intro h; first | cases h | (simp at h; done)
  · intro h; first | cases h | (simp at h; done)
end Go.V
end
section
set_option linter.unusedSimpArgs false
set_option linter.unusedVariables false
set_option maxRecDepth 10000
namespace Go.V
open Go Go.Proofs.Try
theorem sound6 : (tagB (sch (List.replicate 16 0#8) 4 (4 * (4 + 7))).1 11 (((List.replicate 12 0#8).drop 0).take 12) [] []).getD 0 0#8 = 88#8 ∧ (tagB (sch (List.replicate 16 0#8) 4 (4 * (4 + 7))).1 11 (((List.replicate 12 0#8).drop 0).take 12) [] []).getD 15 0#8 = 90#8 := by decide +kernel
theorem eqAns_self (a : B8) : eqAns a a 16 16 = true := by
  unfold eqAns
  have h := (eqAcc_zero a a 16).2 (fun _ _ => rfl)
  simp [h]
theorem spec25 : Spec prog 25 [] [] [] (fun r _ => r = one (.b true)) := by
  refine spec_of_body tabOK func25 rfl (Nat.le_of_ble_eq_true rfl) ?_
  intro E Q0 hB
  refine ok_run hB tabOK pureNone_ok 100 ?_
  simp only [argSl]
  have hz16 : (List.replicate 16 0#8).length = 16 := by simp [-List.reduceReplicate]
  have hz12 : (List.replicate 12 0#8).length = 12 := by simp [-List.reduceReplicate]
  have hv := sound6
  generalize hZ16 : List.replicate 16 0#8 = Z16 at hz16 hv
  generalize hZ12 : List.replicate 12 0#8 = Z12 at hz12 hv
  repeat (first
    | rw [run_ops0]
    | rw [run_seq]
    | rw [run_region]
    | rw [run_block]
    | rw [run_blk]
    | rw [run_skip]
    | (apply run_go rfl; focus (intro L K hK; simp [-List.reduceReplicate, -List.getD_eq_getElem?_getD, hZ16]; (repeat' apply And.intro); all_goals first | exact hK | omega)))
  refine run_call rfl rfl rfl rfl ?_
  refine ok_call [0] rfl rfl ⟨f21, func21, nofun, by decide⟩ (spec21 Z16 4 16 (by omega) (.inl rfl) (by decide)) trivial (by simp) (by simp [matchM, ix, renA, belA]) rfl rfl (Nat.le_of_ble_eq_true rfl) ?_
  rintro sv m' ⟨rfl, cap, rfl⟩ _
  have hwl := sch_len (key := Z16) (nk := 4) (by omega) (by omega) (4 * (4 + 7))
  simp only [newMem, smem, tagE, afterM, putM, renMk, renA, renSeg, renR, renS, renV, ix, St.put, List.map_cons, List.map_nil, List.drop, List.length_cons, List.length_nil, List.cons_append, List.nil_append, one]
  generalize (sch Z16 4 (4 * (4 + 7))).1 = W at hv hwl ⊢
  simp [-List.reduceReplicate]
  refine ok_run hB tabOK pureNone_ok 100 ?_
  repeat (first
    | rw [run_ops0]
    | rw [run_seq]
    | rw [run_region]
    | rw [run_block]
    | rw [run_blk]
    | rw [run_skip]
    | (apply run_go rfl; focus (intro L K hK; simp [-List.reduceReplicate, -List.getD_eq_getElem?_getD, hZ12]; (repeat' apply And.intro); all_goals first | exact hK | omega)))
  refine run_call rfl rfl rfl rfl ?_
  refine ok_call [2, 3, 4] rfl rfl ⟨f28, func28, nofun, by decide⟩ (spec28n W Z12 11 cap 0 12 (by omega) (by omega) (by omega) (by omega) (by omega)) trivial (by simp) (by simp [smem, matchM, ix, renA, renSeg, renR, renS, belA, belR, belS, A.len, segLen]) rfl rfl (Nat.le_of_ble_eq_true rfl) ?_
  rintro sv m' ⟨cap2, hcap2, rfl, rfl⟩ _
  have htl : (tagB W 11 ((Z12.drop 0).take 12) [] []).length = 16 := by unfold tagB; rw [tagX_len, hashG_len]
  obtain ⟨TG, hTG⟩ : ∃ TG, tagB W 11 ((Z12.drop 0).take 12) [] [] = TG := ⟨_, rfl⟩
  rw [hTG] at hv htl
  have hTG2 : tagB W 11 (Z12.take 12) [] [] = TG := hTG
  simp only [smem, tagE, afterM, putM, renMk, renA, renSeg, renR, renS, renV, ix, St.put, List.map_cons, List.map_nil, List.drop, List.length_cons, List.length_nil, List.cons_append, List.nil_append, one]
  simp only [hTG2]
  simp [-List.reduceReplicate]
  refine ok_run hB tabOK pureNone_ok 100 ?_
  repeat (first
    | rw [run_ops0]
    | rw [run_seq]
    | rw [run_region]
    | rw [run_block]
    | rw [run_blk]
    | rw [run_skip]
    | (apply run_go rfl; focus (intro L K hK; simp [-List.reduceReplicate, -List.getD_eq_getElem?_getD, hZ12]; (repeat' apply And.intro); all_goals first | exact hK | omega)))
  refine run_call rfl rfl rfl rfl ?_
  refine ok_call [2, 3, 10, 5] rfl rfl ⟨f29, func29, nofun, by decide⟩ (spec29nO W Z12 TG 11 cap 0 12 0 0 cap2 (by omega) (by omega) (by omega) (by omega) (by omega) (by omega) (by omega) (by omega) (by rw [List.take_zero, hTG]; exact eqAns_self TG)) trivial (by simp) (by simp [smem, matchM, ix, renA, renSeg, renR, renS, belA, belR, belS, A.len, segLen]) rfl rfl (Nat.le_of_ble_eq_true rfl) ?_
  rintro sv m' ⟨rfl, rfl⟩ _
  simp only [smem, tagE, afterM, putM, renMk, renA, renSeg, renR, renS, renV, ix, St.put, List.map_cons, List.map_nil, List.drop, List.length_cons, List.length_nil, List.cons_append, List.nil_append, one]
  simp [-List.reduceReplicate]
  refine ok_run hB tabOK pureNone_ok 100 ?_
  repeat (first
    | rw [run_ops0]
    | rw [run_seq]
    | rw [run_region]
    | rw [run_block]
    | rw [run_blk]
    | rw [run_skip]
    | (apply run_go rfl; focus (intro L K hK; simp [-List.reduceReplicate, -List.getD_eq_getElem?_getD, hv, htl]; (repeat' apply And.intro); all_goals first | exact hK | omega)))
  apply run_guard rfl rfl rfl rfl
  · intro _
    (apply Exists.intro; apply And.intro; focus (intro L K hK; simp [-List.reduceReplicate, -List.getD_eq_getElem?_getD, hv, htl]; (repeat' apply And.intro); all_goals first | exact hK | omega))
    apply run_guard rfl rfl rfl rfl
    · intro _
      (apply Exists.intro; apply And.intro; focus (intro L K hK; simp [-List.reduceReplicate, -List.getD_eq_getElem?_getD, hv, htl]; (repeat' apply And.intro); all_goals first | exact hK | omega))
      apply run_guard rfl rfl rfl rfl
      · intro _
        (apply Exists.intro; apply And.intro; focus (intro L K hK; simp [-List.reduceReplicate, -List.getD_eq_getElem?_getD, hv, htl]; (repeat' apply And.intro); all_goals first | exact hK | omega))
        repeat (first
    | rw [run_ops0]
    | rw [run_seq]
    | rw [run_region]
    | rw [run_block]
    | rw [run_blk]
    | rw [run_skip]
    | (apply run_go rfl; focus (intro L K hK; simp [-List.reduceReplicate, -List.getD_eq_getElem?_getD, hv, htl]; (repeat' apply And.intro); all_goals first | exact hK | omega)))
        apply run_guard rfl rfl rfl rfl
        · intro _
          (apply Exists.intro; apply And.intro; focus (intro L K hK; simp [-List.reduceReplicate, -List.getD_eq_getElem?_getD, hv, htl]; (repeat' apply And.intro); all_goals first | exact hK | omega))
          apply run_guard rfl rfl rfl rfl
          · intro _
            (apply Exists.intro; apply And.intro; focus (intro L K hK; simp [-List.reduceReplicate, -List.getD_eq_getElem?_getD, hv, htl]; (repeat' apply And.intro); all_goals first | exact hK | omega))
            apply run_guard rfl rfl rfl rfl
            · intro _
              (apply Exists.intro; apply And.intro; focus (intro L K hK; simp [-List.reduceReplicate, -List.getD_eq_getElem?_getD, hv, htl]; (repeat' apply And.intro); all_goals first | exact hK | omega))
              apply run_guard rfl rfl rfl rfl
              · intro _
                (apply Exists.intro; apply And.intro; focus (intro L K hK; simp [-List.reduceReplicate, -List.getD_eq_getElem?_getD, hv, htl]; (repeat' apply And.intro); all_goals first | exact hK | omega))
                repeat (first
    | rw [run_ops0]
    | rw [run_seq]
    | rw [run_region]
    | rw [run_block]
    | rw [run_blk]
    | rw [run_skip]
    | (apply run_go rfl; focus (intro L K hK; simp [-List.reduceReplicate, -List.getD_eq_getElem?_getD, hv, htl]; (repeat' apply And.intro); all_goals first | exact hK | omega)))
                apply run_guard rfl rfl rfl rfl
                · intro _
                  (apply Exists.intro; apply And.intro; focus (intro L K hK; simp [-List.reduceReplicate, -List.getD_eq_getElem?_getD, hv, htl]; (repeat' apply And.intro); all_goals first | exact hK | omega))
                  apply run_guard rfl rfl rfl rfl
                  · intro _
                    (apply Exists.intro; apply And.intro; focus (intro L K hK; simp [-List.reduceReplicate, -List.getD_eq_getElem?_getD, hv, htl]; (repeat' apply And.intro); all_goals first | exact hK | omega))
                    apply run_guard rfl rfl rfl rfl
                    · intro _
                      (apply Exists.intro; apply And.intro; focus (intro L K hK; simp [-List.reduceReplicate, -List.getD_eq_getElem?_getD, hv, htl]; (repeat' apply And.intro); all_goals first | exact hK | omega))
                      apply run_guard rfl rfl rfl rfl
                      · intro _
                        (apply Exists.intro; apply And.intro; focus (intro L K hK; simp [-List.reduceReplicate, -List.getD_eq_getElem?_getD, hv, htl]; (repeat' apply And.intro); all_goals first | exact hK | omega))
                        repeat (first
    | rw [run_ops0]
    | rw [run_seq]
    | rw [run_region]
    | rw [run_block]
    | rw [run_blk]
    | rw [run_skip]
    | (apply run_go rfl; focus (intro L K hK; simp [-List.reduceReplicate, -List.getD_eq_getElem?_getD, hv, htl]; (repeat' apply And.intro); all_goals first | exact hK | omega)))
                        apply run_guard rfl rfl rfl rfl
                        · intro _
                          (apply Exists.intro; apply And.intro; focus (intro L K hK; simp [-List.reduceReplicate, -List.getD_eq_getElem?_getD, hv, htl]; (repeat' apply And.intro); all_goals first | exact hK | omega))
                          apply run_guard rfl rfl rfl rfl
                          · intro _
                            (apply Exists.intro; apply And.intro; focus (intro L K hK; simp [-List.reduceReplicate, -List.getD_eq_getElem?_getD, hv, htl]; (repeat' apply And.intro); all_goals first | exact hK | omega))
                            apply run_guard rfl rfl rfl rfl
                            · intro _
                              (apply Exists.intro; apply And.intro; focus (intro L K hK; simp [-List.reduceReplicate, -List.getD_eq_getElem?_getD, hv, htl]; (repeat' apply And.intro); all_goals first | exact hK | omega))
                              repeat (first
    | rw [run_ops0]
    | rw [run_seq]
    | rw [run_region]
    | rw [run_block]
    | rw [run_blk]
    | rw [run_skip]
    | (apply run_go rfl; focus (intro L K hK; simp [-List.reduceReplicate, -List.getD_eq_getElem?_getD, hv, htl]; (repeat' apply And.intro); all_goals first | exact hK | omega)))
                              rw [run_ret]
                              simp [-List.reduceReplicate, -List.getD_eq_getElem?_getD, results25, f25]
                            · intro h; first | (simp [hv] at h; done) | (simp at h; done)
                          · intro h; first | (simp [hv] at h; done) | (simp at h; done)
                        · intro h; first | (simp [hv] at h; done) | (simp at h; done)
                      · intro h; first | (simp [hv] at h; done) | (simp at h; done)
                    · intro h; first | (simp [hv] at h; done) | (simp at h; done)
                  · intro h; first | (simp [hv] at h; done) | (simp at h; done)
                · intro h; first | (simp [hv] at h; done) | (simp at h; done)
              · intro h; first | (simp [hv] at h; done) | (simp at h; done)
            · intro h; first | (simp [hv] at h; done) | (simp at h; done)
          · intro h; first | (simp [hv] at h; done) | (simp at h; done)
        · intro h; first | (simp [hv] at h; done) | (simp at h; done)
      · intro h; first | (simp [hv] at h; done) | (simp at h; done)
    · intro h; first | (simp [hv] at h; done) | (simp at h; done)
  · intro h; first | (simp [hv] at h; done) | (simp at h; done)
end Go.V
end
section
set_option linter.unusedSimpArgs false
set_option linter.unusedVariables false
set_option maxRecDepth 10000
namespace Go.V
open Go Go.Proofs.Try
theorem pYes25_ok : PureOK prog (pYes 25) := by
  intro m f svs sv h E w ℓ vs hm hd
  unfold pYes at h
  split at h
  · rename_i hf
    subst hf
    split at h
    · cases h
      exact ⟨⟨f25, func25, nofun, by decide⟩, pure_use spec25 (by simp) rfl hm [] (by simp) (by simp [matchM]) rfl (by simpa [renV, renA, renS, ix, one] using hd)⟩
    · cases h
  · cases h
/-- The document's hash over bytes in memory. -/
def pureDH : Pure := fun m f l => match f, l with
  | 27, [.one (.a8 h), .one (.s (.sl id1 off1 n1 cap1 1)), .one (.s (.sl id off n cap 1))] => match bytesOf m (.sl id1 off1 n1 cap1 1), bytesOf m (.sl id off n cap 1) with
    | some DA, some DC => if h.length = 16 ∧ id ≠ id1 then some (.one (.a8 (dHash h DA DC))) else none
    | _, _ => none
  | _, _ => none
theorem pureDH_sub : PureSub pureDH := by
  intro m m' f l v hs h
  unfold pureDH at h ⊢
  split at h
  · split at h
    · rename_i hb1 hb2
      simp only [bytesOf_sub hs hb1, bytesOf_sub hs hb2]
      exact h
    · cases h
  · cases h
theorem pureDH_ok : PureOK prog pureDH := by
  intro m f svs sv h E w ℓ vs hm hd
  unfold pureDH at h
  split at h
  · rename_i hh id1 off1 n1 cap1 id off n cap
    split at h
    · rename_i DA DC hb1 hb2
      split at h
      · rename_i hl
        obtain ⟨hl, hne⟩ := hl
        cases h
        obtain ⟨e, B, h1, h2, h3, h4, h5, rfl⟩ := bytesOf_sl hb2
        obtain ⟨e1, B1, k1, k2, k3, k4, k5, rfl⟩ := bytesOf_sl hb1
        exact ⟨⟨f27, func27, nofun, by decide⟩, pure_use (spec27 hh B1 B off1 n1 cap1 off n cap hl k3 h3 k4 h4 (by omega) (by omega)) (by simp) rfl hm [id, id1] (by simp [hne]) (by simp [matchM, ix, renA, belA, h1, h2, k1, k2]) rfl (by simpa [renV, renA, renS, ix, one] using hd)⟩
      · cases h
    · cases h
  · cases h
@[simp] def pureGH : Pure := PAt 25 (pYes 25) (PAt 26 pureH pureDH)
theorem pureGH_sub : PureSub pureGH := PAt_sub (pYes_sub 25) (PAt_sub pureH_sub pureDH_sub)
theorem pureGH_ok : PureOK prog pureGH := PAt_ok pYes25_ok (PAt_ok pureH_ok pureDH_ok)
theorem pureGH_mono : PureMono pureGH := mono_of_sub pureGH_sub
theorem spec7 (h A B : B8) (na ca nb cb : Nat) (hh : h.length = 16) (hA : A.length = na) (hca : na ≤ ca) (hBl : B.length = nb) (hcb : nb ≤ cb) (hm1 : ca ≤ 140737488351232) (hm2 : cb ≤ 140737488351232) : Spec prog 7 [.one (.a8 h), one (.sl 0 0 na ca 1), one (.sl 1 0 nb cb 1)] [.ent ⟨false, 5, none, .a8 A⟩, .ent ⟨false, 5, none, .a8 B⟩] [] (fun r _ => r = one (.b true)) := by
  have hA2 : na < 2 ^ 62 := by omega
  have hB2 : nb < 2 ^ 62 := by omega
  
  refine spec_of_body tabOK func7 rfl (Nat.le_of_ble_eq_true rfl) ?_; intro E Q0 hB; refine ok_run hB tabOK pureGH_ok 100 ?_; simp only [argSl]
  have hpd : h.take 16 = h := List.take_of_length_le (by omega)
  repeat (first
    | rw [run_ops0]
    | rw [run_seq]
    | rw [run_region]
    | rw [run_block]
    | rw [run_blk]
    | rw [run_skip]
    | apply run_exit2 rfl
    | apply run_cyes rfl
    | apply run_cno rfl
    | (rw [run_zero]; refine ok_run hB tabOK pureGH_ok 100 ?_)
    | (apply run_go rfl; focus (intro L K hK; simp [-List.reduceReplicate, -List.getD_eq_getElem?_getD, hh, hpd]; (repeat' apply And.intro); all_goals first | exact hK | omega))
    | (apply run_gyes rfl rfl rfl rfl; focus (intro L K hK; simp [-List.reduceReplicate, -List.getD_eq_getElem?_getD, hh, hpd]; (repeat' apply And.intro); all_goals first | exact hK | omega))
    | (apply run_gno rfl rfl rfl rfl rfl (Nat.le_of_ble_eq_true rfl); simp only [St.put])
    | (apply run_gtup rfl rfl rfl rfl (Nat.le_of_ble_eq_true rfl); simp only [St.put]))
  by_cases hs : 400 < na + nb
  · have hI : 400 < (na : Int) + (nb : Int) := by omega
    rw [run_draw]; refine ok_draw2 17 tabOK pureGH_ok pureGH_mono mixed (by decide +kernel) rfl rfl ?_
    repeat (first
    | (apply hd_go rfl rfl rfl rfl (Nat.le_of_ble_eq_true rfl); focus (intro K' hK; simp [-List.reduceReplicate, -List.getD_eq_getElem?_getD, hI]; (repeat' apply And.intro); all_goals first | exact hK | omega))
    | (apply hd_new rfl rfl rfl rfl (Nat.le_of_ble_eq_true rfl); focus (intro K' hK; simp [-List.reduceReplicate, -List.getD_eq_getElem?_getD, hI]; (repeat' apply And.intro); all_goals first | exact hK | omega))
    | (apply hd_gyes rfl rfl rfl rfl rfl (Nat.le_of_ble_eq_true rfl) rfl; focus (intro K' hK; simp [-List.reduceReplicate, -List.getD_eq_getElem?_getD, hI]; (repeat' apply And.intro); all_goals first | exact hK | omega))
    | apply hd_gno rfl rfl rfl rfl rfl (Nat.le_of_ble_eq_true rfl) rfl rfl
    | apply hd_past rfl rfl rfl rfl (Nat.le_of_ble_eq_true rfl) rfl)
    refine hd_nil ?_; simp only [List.map_nil, List.map_cons, List.append_nil]; refine ok_run hB tabOK pureGH_ok 100 ?_
    repeat (first
    | rw [run_ops0]
    | rw [run_seq]
    | rw [run_region]
    | rw [run_block]
    | rw [run_blk]
    | rw [run_skip]
    | apply run_exit2 rfl
    | apply run_cyes rfl
    | apply run_cno rfl
    | (rw [run_zero]; refine ok_run hB tabOK pureGH_ok 100 ?_)
    | (apply run_go rfl; focus (intro L K hK; simp [-List.reduceReplicate, -List.getD_eq_getElem?_getD, hI]; (repeat' apply And.intro); all_goals first | exact hK | omega))
    | (apply run_gyes rfl rfl rfl rfl; focus (intro L K hK; simp [-List.reduceReplicate, -List.getD_eq_getElem?_getD, hI]; (repeat' apply And.intro); all_goals first | exact hK | omega))
    | (apply run_gno rfl rfl rfl rfl rfl (Nat.le_of_ble_eq_true rfl); simp only [St.put])
    | (apply run_gtup rfl rfl rfl rfl (Nat.le_of_ble_eq_true rfl); simp only [St.put]))
    rw [run_ret]
    simp [-List.reduceReplicate, -List.getD_eq_getElem?_getD, results7, f7]
  · have hI : ¬ 400 < (na : Int) + (nb : Int) := by omega
    have hA3 : A.take na = A := List.take_of_length_le (by omega)
    have hB3 : B.take nb = B := List.take_of_length_le (by omega)
    have ha4 : na ≤ 140737488355328 := by omega
    have hb4 : nb ≤ 140737488355328 := by omega
    rw [run_draw]; refine ok_draw2 17 tabOK pureGH_ok pureGH_mono mixed (by decide +kernel) rfl rfl ?_
    repeat (first
    | (apply hd_go rfl rfl rfl rfl (Nat.le_of_ble_eq_true rfl); focus (intro K' hK; simp [-List.reduceReplicate, -List.getD_eq_getElem?_getD, hI, hh, pureH, pureDH, bytesOf, hA, hBl, hca, hcb, hA3, hB3, ha4, hb4, dHash_eq, hashG_len]; (repeat' apply And.intro); all_goals first | exact hK | omega))
    | (apply hd_new rfl rfl rfl rfl (Nat.le_of_ble_eq_true rfl); focus (intro K' hK; simp [-List.reduceReplicate, -List.getD_eq_getElem?_getD, hI, hh, pureH, pureDH, bytesOf, hA, hBl, hca, hcb, hA3, hB3, ha4, hb4, dHash_eq, hashG_len]; (repeat' apply And.intro); all_goals first | exact hK | omega))
    | (apply hd_gyes rfl rfl rfl rfl rfl (Nat.le_of_ble_eq_true rfl) rfl; focus (intro K' hK; simp [-List.reduceReplicate, -List.getD_eq_getElem?_getD, hI, hh, pureH, pureDH, bytesOf, hA, hBl, hca, hcb, hA3, hB3, ha4, hb4, dHash_eq, hashG_len]; (repeat' apply And.intro); all_goals first | exact hK | omega))
    | apply hd_gno rfl rfl rfl rfl rfl (Nat.le_of_ble_eq_true rfl) rfl rfl
    | apply hd_past rfl rfl rfl rfl (Nat.le_of_ble_eq_true rfl) rfl)
    refine hd_nil ?_; simp only [List.map_nil, List.map_cons, List.append_nil]; refine ok_run hB tabOK pureGH_ok 100 ?_
    repeat (first
    | rw [run_ops0]
    | rw [run_seq]
    | rw [run_region]
    | rw [run_block]
    | rw [run_blk]
    | rw [run_skip]
    | apply run_exit2 rfl
    | apply run_cyes rfl
    | apply run_cno rfl
    | (rw [run_zero]; refine ok_run hB tabOK pureGH_ok 100 ?_)
    | (apply run_go rfl; focus (intro L K hK; simp [-List.reduceReplicate, -List.getD_eq_getElem?_getD, hI, hh, pureH, pureDH, bytesOf, hA, hBl, hca, hcb, hA3, hB3, ha4, hb4, dHash_eq, hashG_len]; (repeat' apply And.intro); all_goals first | exact hK | omega))
    | (apply run_gyes rfl rfl rfl rfl; focus (intro L K hK; simp [-List.reduceReplicate, -List.getD_eq_getElem?_getD, hI, hh, pureH, pureDH, bytesOf, hA, hBl, hca, hcb, hA3, hB3, ha4, hb4, dHash_eq, hashG_len]; (repeat' apply And.intro); all_goals first | exact hK | omega))
    | (apply run_gno rfl rfl rfl rfl rfl (Nat.le_of_ble_eq_true rfl); simp only [St.put])
    | (apply run_gtup rfl rfl rfl rfl (Nat.le_of_ble_eq_true rfl); simp only [St.put]))
    rw [run_ret]
    simp [-List.reduceReplicate, -List.getD_eq_getElem?_getD, results7, f7]
end Go.V
end
section
set_option linter.unusedSimpArgs false
set_option linter.unusedVariables false
set_option maxRecDepth 10000
namespace Go.V
open Go Go.Proofs.Try
/-- A key of the document in memory. -/
@[simp] def dk0 (q : Nat) : Ent := ⟨false, 110, some 258, .st [⟨1, .s (.slq 1 0 (4 * (q + 7)) 4)⟩, ⟨256, .ai (tabR 256)⟩, ⟨1, .s (.i q)⟩]⟩
@[simp] def dk1 (W : B8) : Ent := ⟨false, 111, none, .ai (toI W)⟩
@[simp] def dkmem (q : Nat) (W N : B8) : Mem := [.ent (dk0 q), .ent (dk1 W), .ent ⟨false, 5, none, .a8 N⟩]
theorem drfit {C W : B8} {q : Nat} (hb : C.length = 16) (hW : W.length = 16 * (q + 7)) (hq : q = 4 ∨ q = 8) : rFit C (tabR 256) (toI W) (4 * (q + 7)) q := rfit hb hW hq
theorem spec72 (W N : B8) (q on cn : Nat) (x : BitVec 32) (hW : W.length = 16 * (q + 7)) (hq : q = 4 ∨ q = 8) (hN : on + 12 ≤ N.length) (hcn : 12 ≤ cn) :
    Spec prog 72 [one (.ptr 0 0 0), one (.sl 2 on 12 cn 1), one (.u32 x)] (dkmem q W N) [] (fun r m => r = .one (.a8 (rounds (dCtr ((N.drop on).take 12) x 4) W (q + 7) (q + 7 - 1))) ∧ m = dkmem q W N ++ [.ent ⟨true, 23, some 16, .a8 (rounds (dCtr ((N.drop on).take 12) x 4) W (q + 7) (q + 7 - 1))⟩, .ent ⟨true, 23, some 16, .a8 (dCtr ((N.drop on).take 12) x 4)⟩]) := by
  
  refine spec_of_body tabOK func72 rfl (Nat.le_of_ble_eq_true rfl) ?_; intro E Q0 hB; refine ok_run hB tabOK pureL_ok 100 ?_; simp only [argSl]
  simp only [dkmem, dk0, dk1]
  have hnl : ((N.drop on).take 12).length = 12 := by simp; omega
  have h0 : dCtr ((N.drop on).take 12) x 0 = (N.drop on).take 12 ++ [0#8, 0#8, 0#8, 0#8] := rfl
  generalize hNN : (N.drop on).take 12 = NN at hnl h0 ⊢
  repeat (first
    | rw [run_ops0]
    | rw [run_seq]
    | rw [run_region]
    | rw [run_block]
    | rw [run_blk]
    | rw [run_skip]
    | apply run_exit2 rfl
    | apply run_cyes rfl
    | apply run_cno rfl
    | (rw [run_zero]; refine ok_run hB tabOK pureL_ok 100 ?_)
    | (apply run_go rfl; focus (intro L K hK; simp [-List.reduceReplicate, -List.getD_eq_getElem?_getD, hnl, hNN]; (repeat' apply And.intro); all_goals first | exact hK | omega))
    | (apply run_gyes rfl rfl rfl rfl; focus (intro L K hK; simp [-List.reduceReplicate, -List.getD_eq_getElem?_getD, hnl, hNN]; (repeat' apply And.intro); all_goals first | exact hK | omega))
    | (apply run_gno rfl rfl rfl rfl rfl (Nat.le_of_ble_eq_true rfl); simp only [St.put])
    | (apply run_gtup rfl rfl rfl rfl (Nat.le_of_ble_eq_true rfl); simp only [St.put]))
  rw [run_loop]; refine ok_loop (X := Nat) (fun j => ⟨[(8, one (.i j)), (7, one (.ptr 4 0 0)), (6, one (.ptr 3 0 0)), (2, one (.u32 x)), (0, one (.ptr 0 0 0))], [.ent ⟨false, 110, some 258, .st [⟨1, .s (.slq 1 0 (4 * (q + 7)) 4)⟩, ⟨256, .ai (tabR 256)⟩, ⟨1, .s (.i q)⟩]⟩, .ent ⟨false, 111, none, .ai (toI W)⟩, .ent ⟨false, 5, none, .a8 N⟩, .ent ⟨true, 23, some 16, .a8 zero16⟩, .ent ⟨true, 23, some 16, .a8 (dCtr NN x j)⟩]⟩) (fun j => j ≤ 4) (fun j => 4 - j) (fun j i L h => by have := hB.anc i L h; first | (simp at this; done) | (simp at this ⊢; omega)) ⟨0, by omega, by simp [-List.reduceReplicate, -List.getD_eq_getElem?_getD, zero16, dCtr, ctr0]⟩ ?_; intro j hj; refine ok_run hB tabOK pureL_ok 100 ?_
  have hcl := dCtr_len x hnl j
  have hS : dCtr NN x (j + 1) = (dCtr NN x j).set (15 - j) ((x >>> (8 * j)).setWidth 8) := rfl
  generalize hC : dCtr NN x j = C at hcl hS ⊢
  by_cases h : j < 4
  · have hI : (j : Int) < 4 := by omega
    have e1 : (15 - (j : Int)).toNat = 15 - j := by omega
    have e2 : (8 * (j : Int)).toNat = 8 * j := by omega
    repeat (first
    | rw [run_ops0]
    | rw [run_seq]
    | rw [run_region]
    | rw [run_block]
    | rw [run_blk]
    | rw [run_skip]
    | apply run_exit2 rfl
    | apply run_cyes rfl
    | apply run_cno rfl
    | (rw [run_zero]; refine ok_run hB tabOK pureL_ok 100 ?_)
    | (apply run_go rfl; focus (intro L K hK; simp [-List.reduceReplicate, -List.getD_eq_getElem?_getD, hI, e1, e2, hcl]; (repeat' apply And.intro); all_goals first | exact hK | omega))
    | (apply run_gyes rfl rfl rfl rfl; focus (intro L K hK; simp [-List.reduceReplicate, -List.getD_eq_getElem?_getD, hI, e1, e2, hcl]; (repeat' apply And.intro); all_goals first | exact hK | omega))
    | (apply run_gno rfl rfl rfl rfl rfl (Nat.le_of_ble_eq_true rfl); simp only [St.put])
    | (apply run_gtup rfl rfl rfl rfl (Nat.le_of_ble_eq_true rfl); simp only [St.put]))
    rw [run_back]
    refine ⟨j + 1, by omega, by omega, ?_⟩
    rw [hS]
    simp [-List.reduceReplicate, -List.getD_eq_getElem?_getD]
  · obtain rfl : j = 4 := by omega
    have hrf := drfit hcl hW hq
    have hbe := block_eq tab_ok hcl W q
    have htk : C.take 16 = C := List.take_of_length_le (by omega)
    repeat (first
    | rw [run_ops0]
    | rw [run_seq]
    | rw [run_region]
    | rw [run_block]
    | rw [run_blk]
    | rw [run_skip]
    | apply run_exit2 rfl
    | apply run_cyes rfl
    | apply run_cno rfl
    | (rw [run_zero]; refine ok_run hB tabOK pureL_ok 100 ?_)
    | (apply run_go rfl; focus (intro L K hK; simp [-List.reduceReplicate, -List.getD_eq_getElem?_getD, hcl, htk, hrf, hbe, rounds_len, pureL, rOf2, slOf]; (repeat' apply And.intro); all_goals first | exact hK | omega))
    | (apply run_gyes rfl rfl rfl rfl; focus (intro L K hK; simp [-List.reduceReplicate, -List.getD_eq_getElem?_getD, hcl, htk, hrf, hbe, rounds_len, pureL, rOf2, slOf]; (repeat' apply And.intro); all_goals first | exact hK | omega))
    | (apply run_gno rfl rfl rfl rfl rfl (Nat.le_of_ble_eq_true rfl); simp only [St.put])
    | (apply run_gtup rfl rfl rfl rfl (Nat.le_of_ble_eq_true rfl); simp only [St.put]))
    rw [run_ret]
    simp [-List.reduceReplicate, -List.getD_eq_getElem?_getD, results72, f72, hC, hcl, rounds_len, hNN]
@[simp] def trmem (q : Nat) (W N B : B8) : Mem := dkmem q W N ++ [.ent ⟨false, 5, none, .a8 B⟩]
set_option maxHeartbeats 1000000 in
theorem spec33 (W N B : B8) (q on cn ob nb cb : Nat) (hW : W.length = 16 * (q + 7)) (hq : q = 4 ∨ q = 8) (hN : on + 12 ≤ N.length) (hcn : 12 ≤ cn) (hb : ob + nb ≤ B.length) (hcb : nb ≤ cb) (hmx : nb ≤ 140737488351232) :
    Spec prog 33 [one (.ptr 0 0 0), one (.sl 2 on 12 cn 1), one (.sl 3 ob nb cb 1)] (trmem q W N B) [] (fun r m => ∃ cap, nb ≤ cap ∧ r = one (.sl 4 0 nb cap 1) ∧ m = trmem q W N B ++ [.ent ⟨true, 5, none, .a8 (dTurn W (q + 7) ((N.drop on).take 12) ((B.drop ob).take nb) nb)⟩]) := by
  
  refine spec_of_body tabOK func33 rfl (Nat.le_of_ble_eq_true rfl) ?_; intro E Q0 hB; refine ok_run hB tabOK pureL_ok 100 ?_; simp only [argSl]
  simp only [trmem, dkmem, dk0, dk1, List.cons_append, List.nil_append]
  have hnl : ((N.drop on).take 12).length = 12 := by simp; omega
  have hbl : ((B.drop ob).take nb).length = nb := by simp; omega
  have hgB : ∀ i, i < nb → B.getD (ob + i) 0#8 = ((B.drop ob).take nb).getD i 0#8 := fun i hi => by
    rw [List.getD_eq_getElem?_getD, List.getD_eq_getElem?_getD, List.getElem?_take_of_lt hi, List.getElem?_drop]
  repeat (first
    | rw [run_ops0]
    | rw [run_seq]
    | rw [run_region]
    | rw [run_block]
    | rw [run_blk]
    | rw [run_skip]
    | apply run_exit2 rfl
    | apply run_cyes rfl
    | apply run_cno rfl
    | (rw [run_zero]; refine ok_run hB tabOK pureL_ok 100 ?_)
    | (apply run_go rfl; focus (intro L K hK; simp [-List.reduceReplicate, -List.getD_eq_getElem?_getD]; (repeat' apply And.intro); all_goals first | exact hK | omega))
    | (apply run_gyes rfl rfl rfl rfl; focus (intro L K hK; simp [-List.reduceReplicate, -List.getD_eq_getElem?_getD]; (repeat' apply And.intro); all_goals first | exact hK | omega))
    | (apply run_gno rfl rfl rfl rfl rfl (Nat.le_of_ble_eq_true rfl); simp only [St.put])
    | (apply run_gtup rfl rfl rfl rfl (Nat.le_of_ble_eq_true rfl); simp only [St.put]))
  refine ok_blank 7 5 1 (.a8 []) rfl trivial rfl ?_
  refine ok_run hB tabOK pureL_ok 100 ?_
  repeat (first
    | rw [run_ops0]
    | rw [run_seq]
    | rw [run_region]
    | rw [run_block]
    | rw [run_blk]
    | rw [run_skip]
    | apply run_exit2 rfl
    | apply run_cyes rfl
    | apply run_cno rfl
    | (rw [run_zero]; refine ok_run hB tabOK pureL_ok 100 ?_)
    | (apply run_go rfl; focus (intro L K hK; simp [-List.reduceReplicate, -List.getD_eq_getElem?_getD]; (repeat' apply And.intro); all_goals first | exact hK | omega))
    | (apply run_gyes rfl rfl rfl rfl; focus (intro L K hK; simp [-List.reduceReplicate, -List.getD_eq_getElem?_getD]; (repeat' apply And.intro); all_goals first | exact hK | omega))
    | (apply run_gno rfl rfl rfl rfl rfl (Nat.le_of_ble_eq_true rfl); simp only [St.put])
    | (apply run_gtup rfl rfl rfl rfl (Nat.le_of_ble_eq_true rfl); simp only [St.put]))
  rw [run_loop]
  generalize hNN : (N.drop on).take 12 = NN at hnl ⊢
  generalize hBB : (B.drop ob).take nb = BB at hbl hgB ⊢
  refine ok_loop (X := Nat × Nat) (fun x => ⟨[(8, one (.i (16 * x.1 : Nat))), (7, one (.sl 4 0 (min (16 * x.1) nb) x.2 1)), (2, one (.sl 3 ob nb cb 1)), (1, one (.sl 2 on 12 cn 1)), (0, one (.ptr 0 0 0))], [.ent ⟨false, 110, some 258, .st [⟨1, .s (.slq 1 0 (4 * (q + 7)) 4)⟩, ⟨256, .ai (tabR 256)⟩, ⟨1, .s (.i q)⟩]⟩, .ent ⟨false, 111, none, .ai (toI W)⟩, .ent ⟨false, 5, none, .a8 N⟩, .ent ⟨false, 5, none, .a8 B⟩, .ent ⟨true, 5, none, .a8 (dTurn W (q + 7) NN BB (min (16 * x.1) nb))⟩]⟩) (fun x => 16 * x.1 ≤ nb + 15 ∧ min (16 * x.1) nb ≤ x.2) (fun x => nb + 16 - 16 * x.1) (fun j i L h => by have := hB.anc i L h; simp at this ⊢; omega) ⟨(0, 0), by simp, by simp [-List.reduceReplicate, -List.getD_eq_getElem?_getD, dTurn]⟩ ?_
  rintro ⟨a, cap⟩ ⟨ha, hac⟩
  simp only at ha hac ⊢
  refine ok_run hB tabOK pureL_ok 100 ?_
  by_cases h : 16 * a < nb
  · have hI : 16 * (a : Int) < nb := by omega
    have hmi : min (16 * a) nb = 16 * a := by omega
    have e1 : (16 * (a : Int)).tdiv 16 = (a : Int) := by rw [Int.tdiv_eq_ediv_of_nonneg (by omega)]; omega
    rw [hmi] at hac ⊢
    repeat (first
    | rw [run_ops0]
    | rw [run_seq]
    | rw [run_region]
    | rw [run_block]
    | rw [run_blk]
    | rw [run_skip]
    | apply run_exit2 rfl
    | apply run_cyes rfl
    | apply run_cno rfl
    | (rw [run_zero]; refine ok_run hB tabOK pureL_ok 100 ?_)
    | (apply run_go rfl; focus (intro L K hK; simp [-List.reduceReplicate, -List.getD_eq_getElem?_getD, hI, e1]; (repeat' apply And.intro); all_goals first | exact hK | omega))
    | (apply run_gyes rfl rfl rfl rfl; focus (intro L K hK; simp [-List.reduceReplicate, -List.getD_eq_getElem?_getD, hI, e1]; (repeat' apply And.intro); all_goals first | exact hK | omega))
    | (apply run_gno rfl rfl rfl rfl rfl (Nat.le_of_ble_eq_true rfl); simp only [St.put])
    | (apply run_gtup rfl rfl rfl rfl (Nat.le_of_ble_eq_true rfl); simp only [St.put]))
    refine run_call rfl rfl rfl rfl ?_; refine ok_call [0, 1, 2] rfl rfl ⟨f72, func72, nofun, by decide⟩ (spec72 W N q on cn (BitVec.ofInt 32 ((2 + a : Nat) : Int)) hW hq hN hcn) trivial (by simp) (by simp [dkmem, dk0, dk1, matchM, ix, renA, renSeg, renR, renS, belA, belR, belS, A.len, segLen]) rfl rfl (Nat.le_of_ble_eq_true rfl) ?_; rintro sv m' ⟨rfl, rfl⟩ _; simp only [dkmem, dk0, dk1, afterM, putM, renMk, renA, renSeg, renR, renS, renV, ix, St.put, List.map_cons, List.map_nil, List.drop, List.length_cons, List.length_nil, List.cons_append, List.nil_append, one]; simp [-List.reduceReplicate]; refine ok_run hB tabOK pureL_ok 100 ?_
    rw [hNN]
    have hks : dKs W (q + 7) NN a = rounds (dCtr NN (BitVec.ofInt 32 (2 + (a : Int))) 4) W (q + 7) (q + 6) := by simp [dKs]
    have hkl : (dKs W (q + 7) NN a).length = 16 := by rw [dKs, rounds_len, dCtr_len _ hnl]
    rw [← hks]
    have hsu : ∀ j, j / 16 = a → dTurn W (q + 7) NN BB (j + 1) = dTurn W (q + 7) NN BB j ++ [BB.getD j 0 ^^^ (dKs W (q + 7) NN a).getD (j % 16) 0] := fun j hj => by rw [dTurn_succ, hj]
    generalize dKs W (q + 7) NN a = C at hkl hsu ⊢
    obtain ⟨M, hM⟩ : ∃ M, M = min (16 * a + 16) nb := ⟨_, rfl⟩
    have e2 : (if (nb : Int) < 16 * (a : Int) + 16 then (nb : Int) else 16 * (a : Int) + 16) = (M : Int) := by split <;> omega
    repeat (first
    | rw [run_ops0]
    | rw [run_seq]
    | rw [run_region]
    | rw [run_block]
    | rw [run_blk]
    | rw [run_skip]
    | apply run_exit2 rfl
    | apply run_cyes rfl
    | apply run_cno rfl
    | (rw [run_zero]; refine ok_run hB tabOK pureL_ok 100 ?_)
    | (apply run_go rfl; focus (intro L K hK; simp [-List.reduceReplicate, -List.getD_eq_getElem?_getD, hkl]; (repeat' apply And.intro); all_goals first | exact hK | omega))
    | (apply run_gyes rfl rfl rfl rfl; focus (intro L K hK; simp [-List.reduceReplicate, -List.getD_eq_getElem?_getD, hkl]; (repeat' apply And.intro); all_goals first | exact hK | omega))
    | (apply run_gno rfl rfl rfl rfl rfl (Nat.le_of_ble_eq_true rfl); simp only [St.put])
    | (apply run_gtup rfl rfl rfl rfl (Nat.le_of_ble_eq_true rfl); simp only [St.put]))
    rw [run_loop]; refine ok_loop (X := Nat × Nat) (fun x => ⟨[(10, one (.i x.1)), (9, one (.ptr 7 0 0)), (8, one (.i (16 * a : Nat))), (7, one (.sl 4 0 x.1 x.2 1)), (2, one (.sl 3 ob nb cb 1)), (1, one (.sl 2 on 12 cn 1)), (0, one (.ptr 0 0 0))], [.ent ⟨false, 110, some 258, .st [⟨1, .s (.slq 1 0 (4 * (q + 7)) 4)⟩, ⟨256, .ai (tabR 256)⟩, ⟨1, .s (.i q)⟩]⟩, .ent ⟨false, 111, none, .ai (toI W)⟩, .ent ⟨false, 5, none, .a8 N⟩, .ent ⟨false, 5, none, .a8 B⟩, .ent ⟨true, 5, none, .a8 (dTurn W (q + 7) NN BB x.1)⟩, .gone, .gone, .ent ⟨true, 23, some 16, .a8 C⟩]⟩) (fun x => (16 * a ≤ x.1 ∧ x.1 ≤ M) ∧ x.1 ≤ x.2) (fun x => M - x.1) (fun j i L h => by have := hB.anc i L h; first | (simp at this; done) | (simp at this ⊢; omega)) ⟨(16 * a, cap), ⟨⟨Nat.le_refl _, (by omega : 16 * a ≤ M)⟩, hac⟩, by simp [-List.reduceReplicate, -List.getD_eq_getElem?_getD]⟩ ?_; rintro ⟨j, cap1⟩ ⟨⟨hj1, hj2⟩, hjc⟩; refine ok_run hB tabOK pureL_ok 100 ?_
    simp only at hj1 hj2 hjc ⊢
    have hdl := dTurn_len W (q + 7) NN BB j
    by_cases hjM : j < M
    · have hJI : (j : Int) < (M : Int) := by omega
      have e3 : ((j : Int) - 16 * (a : Int)).toNat = j % 16 := by omega
      have e4 : j % 16 < 16 := by omega
      have hg := hgB j (by omega)
      have hj3 : j < nb := by omega
      have hs := hsu j (by omega)
      generalize dTurn W (q + 7) NN BB j = D at hdl hs ⊢
      repeat (first
    | rw [run_ops0]
    | rw [run_seq]
    | rw [run_region]
    | rw [run_block]
    | rw [run_blk]
    | rw [run_skip]
    | apply run_exit2 rfl
    | apply run_cyes rfl
    | apply run_cno rfl
    | (rw [run_zero]; refine ok_run hB tabOK pureL_ok 100 ?_)
    | (apply run_go rfl; focus (intro L K hK; simp [-List.reduceReplicate, -List.getD_eq_getElem?_getD, e2, hJI]; (repeat' apply And.intro); all_goals first | exact hK | omega))
    | (apply run_gyes rfl rfl rfl rfl; focus (intro L K hK; simp [-List.reduceReplicate, -List.getD_eq_getElem?_getD, e2, hJI]; (repeat' apply And.intro); all_goals first | exact hK | omega))
    | (apply run_gno rfl rfl rfl rfl rfl (Nat.le_of_ble_eq_true rfl); simp only [St.put])
    | (apply run_gtup rfl rfl rfl rfl (Nat.le_of_ble_eq_true rfl); simp only [St.put]))
      rw [run_draw]; refine ok_draw2 12 tabOK pureL_ok pureL_mono mixed (by decide +kernel) rfl rfl ?_; (repeat (first
    | (apply hd_go rfl rfl rfl rfl (Nat.le_of_ble_eq_true rfl); focus (intro K' hK; simp [-List.reduceReplicate, -List.getD_eq_getElem?_getD, e3, hg, hkl, hdl, hj3]; (repeat' apply And.intro); all_goals first | exact hK | omega))
    | (apply hd_new rfl rfl rfl rfl (Nat.le_of_ble_eq_true rfl); focus (intro K' hK; simp [-List.reduceReplicate, -List.getD_eq_getElem?_getD, e3, hg, hkl, hdl, hj3]; (repeat' apply And.intro); all_goals first | exact hK | omega)))); refine hd_nil ?_; simp only [List.map_nil, List.map_cons, List.append_nil, List.nil_append, List.cons_append]; refine ok_run hB tabOK pureL_ok 100 ?_; (apply run_app rfl; focus (intro L K hK; simp [-List.reduceReplicate, -List.getD_eq_getElem?_getD, e3, hg, hkl, hdl, hj3]; (repeat' apply And.intro); all_goals first | exact hK | omega | (intro cap hcap; exact hK cap hcap))); intro cap2 hcap2; (repeat (first
    | rw [run_ops0]
    | rw [run_seq]
    | rw [run_region]
    | rw [run_block]
    | rw [run_blk]
    | rw [run_skip]
    | (apply run_go rfl; focus (intro L K hK; simp [-List.reduceReplicate, -List.getD_eq_getElem?_getD, e3, hg, hkl, hdl, hj3]; (repeat' apply And.intro); all_goals first | exact hK | omega))))
      rw [run_back]
      refine ⟨(j + 1, cap2), by simp only; omega, by simp only; omega, ?_⟩
      rw [hs]
      simp [-List.reduceReplicate, -List.getD_eq_getElem?_getD]
    · obtain rfl : j = M := by omega
      repeat (first
    | rw [run_ops0]
    | rw [run_seq]
    | rw [run_region]
    | rw [run_block]
    | rw [run_blk]
    | rw [run_skip]
    | apply run_exit2 rfl
    | apply run_cyes rfl
    | apply run_cno rfl
    | (rw [run_zero]; refine ok_run hB tabOK pureL_ok 100 ?_)
    | (apply run_go rfl; focus (intro L K hK; simp [-List.reduceReplicate, -List.getD_eq_getElem?_getD, e2]; (repeat' apply And.intro); all_goals first | exact hK | omega))
    | (apply run_gyes rfl rfl rfl rfl; focus (intro L K hK; simp [-List.reduceReplicate, -List.getD_eq_getElem?_getD, e2]; (repeat' apply And.intro); all_goals first | exact hK | omega))
    | (apply run_gno rfl rfl rfl rfl rfl (Nat.le_of_ble_eq_true rfl); simp only [St.put])
    | (apply run_gtup rfl rfl rfl rfl (Nat.le_of_ble_eq_true rfl); simp only [St.put]))
      rw [run_back]
      refine ⟨a + 1, cap1, ⟨by omega, by omega⟩, by omega, ?_⟩
      have hmi2 : min (16 * (a + 1)) nb = j := by omega
      rw [hmi2]
      simp [-List.reduceReplicate, -List.getD_eq_getElem?_getD]
      omega
  · have hmi : min (16 * a) nb = nb := by omega
    have hI : ¬ 16 * (a : Int) < nb := by omega
    rw [hmi] at hac ⊢
    repeat (first
    | rw [run_ops0]
    | rw [run_seq]
    | rw [run_region]
    | rw [run_block]
    | rw [run_blk]
    | rw [run_skip]
    | apply run_exit2 rfl
    | apply run_cyes rfl
    | apply run_cno rfl
    | (rw [run_zero]; refine ok_run hB tabOK pureL_ok 100 ?_)
    | (apply run_go rfl; focus (intro L K hK; simp [-List.reduceReplicate, -List.getD_eq_getElem?_getD, hI]; (repeat' apply And.intro); all_goals first | exact hK | omega))
    | (apply run_gyes rfl rfl rfl rfl; focus (intro L K hK; simp [-List.reduceReplicate, -List.getD_eq_getElem?_getD, hI]; (repeat' apply And.intro); all_goals first | exact hK | omega))
    | (apply run_gno rfl rfl rfl rfl rfl (Nat.le_of_ble_eq_true rfl); simp only [St.put])
    | (apply run_gtup rfl rfl rfl rfl (Nat.le_of_ble_eq_true rfl); simp only [St.put]))
    rw [run_ret]
    simp [-List.reduceReplicate, -List.getD_eq_getElem?_getD, results33, f33, hBB, hNN, hac]
end Go.V
end
section
set_option linter.unusedSimpArgs false
set_option linter.unusedVariables false
set_option maxRecDepth 10000
namespace Go.V
open Go Go.Proofs.Try
@[simp] noncomputable def pureTT : Pure := PAt 27 pureDH pureL
theorem pureTT_sub : PureSub pureTT := PAt_sub pureDH_sub pureL_sub
theorem pureTT_ok : PureOK prog pureTT := PAt_ok pureDH_ok pureL_ok
theorem pureTT_mono : PureMono pureTT := mono_of_sub pureTT_sub
@[simp] def tgmem (q : Nat) (W N C D : B8) : Mem := trmem q W N C ++ [.ent ⟨false, 5, none, .a8 D⟩]
@[simp] def dTagE (W : B8) (q : Nat) (N A C : B8) : List Ent := [⟨true, 23, some 16, .a8 (dTag W (q + 7) N A C)⟩, ⟨true, 23, some 16, .a8 (rounds (dCtr N 1#32 4) W (q + 7) (q + 7 - 1))⟩, ⟨true, 23, some 16, .a8 (dCtr N 1#32 4)⟩, ⟨true, 23, some 16, .a8 (rounds (dCtr N 1#32 4) W (q + 7) (q + 7 - 1))⟩]
theorem spec32 (W N C D : B8) (q on cn oc nc cc oa na ca : Nat) (hW : W.length = 16 * (q + 7)) (hq : q = 4 ∨ q = 8) (hN : on + 12 ≤ N.length) (hcn : 12 ≤ cn) (hC : oc + nc ≤ C.length) (hcc : nc ≤ cc) (hmC : nc ≤ 140737488355328) (hA : oa + na ≤ D.length) (hca : na ≤ ca) (hmA : na ≤ 140737488355328) :
    Spec prog 32 [one (.ptr 0 0 0), one (.sl 2 on 12 cn 1), one (.sl 4 oa na ca 1), one (.sl 3 oc nc cc 1)] (tgmem q W N C D) [] (fun r m => r = one (.sl 5 0 16 16 1) ∧ m = tgmem q W N C D ++ (dTagE W q ((N.drop on).take 12) ((D.drop oa).take na) ((C.drop oc).take nc)).map .ent) := by
  
  refine spec_of_body tabOK func32 rfl (Nat.le_of_ble_eq_true rfl) ?_; intro E Q0 hB; refine ok_run hB tabOK pureTT_ok 100 ?_; simp only [argSl]
  simp only [tgmem, trmem, dkmem, dk0, dk1, List.cons_append, List.nil_append]
  have hnl : ((N.drop on).take 12).length = 12 := by simp; omega
  have hz : zero16 = [0#8, 0#8, 0#8, 0#8, 0#8, 0#8, 0#8, 0#8, 0#8, 0#8, 0#8, 0#8, 0#8, 0#8, 0#8, 0#8] := rfl
  have hrf := drfit (C := zero16) rfl hW hq
  have hbe := block_eq tab_ok (b := zero16) rfl W q
  rw [hz] at hrf hbe
  have hh0 : dTag W (q + 7) ((N.drop on).take 12) ((D.drop oa).take na) ((C.drop oc).take nc) = tagX (dHash (rounds zero16 W (q + 7) (q + 6)) ((D.drop oa).take na) ((C.drop oc).take nc)) (rounds (dCtr ((N.drop on).take 12) 1#32 4) W (q + 7) (q + 6)) 16 := rfl
  have hhl : (dHash (rounds zero16 W (q + 7) (q + 6)) ((D.drop oa).take na) ((C.drop oc).take nc)).length = 16 := dOut_len _ _
  rw [hz] at hh0 hhl
  repeat (first
    | rw [run_ops0]
    | rw [run_seq]
    | rw [run_region]
    | rw [run_block]
    | rw [run_blk]
    | rw [run_skip]
    | apply run_exit2 rfl
    | apply run_cyes rfl
    | apply run_cno rfl
    | (rw [run_zero]; refine ok_run hB tabOK pureTT_ok 100 ?_)
    | (apply run_go rfl; focus (intro L K hK; simp [-List.reduceReplicate, -List.getD_eq_getElem?_getD, hrf, hbe, rounds_len, pureDH, pureL, rOf2, slOf, bytesOf, hA, hC, hca, hcc, hmA, hmC, hhl]; (repeat' apply And.intro); all_goals first | exact hK | omega))
    | (apply run_gyes rfl rfl rfl rfl; focus (intro L K hK; simp [-List.reduceReplicate, -List.getD_eq_getElem?_getD, hrf, hbe, rounds_len, pureDH, pureL, rOf2, slOf, bytesOf, hA, hC, hca, hcc, hmA, hmC, hhl]; (repeat' apply And.intro); all_goals first | exact hK | omega))
    | (apply run_gno rfl rfl rfl rfl rfl (Nat.le_of_ble_eq_true rfl); simp only [St.put])
    | (apply run_gtup rfl rfl rfl rfl (Nat.le_of_ble_eq_true rfl); simp only [St.put]))
  refine run_call rfl rfl rfl rfl ?_; refine ok_call [0, 1, 2] rfl rfl ⟨f72, func72, nofun, by decide⟩ (spec72 W N q on cn 1#32 hW hq hN hcn) trivial (by simp) (by simp [dkmem, dk0, dk1, matchM, ix, renA, renSeg, renR, renS, belA, belR, belS, A.len, segLen]) rfl rfl (Nat.le_of_ble_eq_true rfl) ?_; rintro sv m' ⟨rfl, rfl⟩ _; simp only [dkmem, dk0, dk1, afterM, putM, renMk, renA, renSeg, renR, renS, renV, ix, St.put, List.map_cons, List.map_nil, List.drop, List.length_cons, List.length_nil, List.cons_append, List.nil_append, one]; simp [-List.reduceReplicate]; refine ok_run hB tabOK pureTT_ok 100 ?_
  generalize hNN : (N.drop on).take 12 = NN at hnl hh0 ⊢
  have hcl : (dCtr NN 1#32 4).length = 16 := dCtr_len _ hnl 4
  have hxl : (rounds (dCtr NN 1#32 4) W (q + 7) (q + 6)).length = 16 := by rw [rounds_len, hcl]
  generalize hX : rounds (dCtr NN 1#32 4) W (q + 7) (q + 6) = X at hxl hh0 ⊢
  generalize hT : dHash (rounds [0#8, 0#8, 0#8, 0#8, 0#8, 0#8, 0#8, 0#8, 0#8, 0#8, 0#8, 0#8, 0#8, 0#8, 0#8, 0#8] W (q + 7) (q + 6)) ((D.drop oa).take na) ((C.drop oc).take nc) = T at hhl hh0 ⊢
  repeat (first
    | rw [run_ops0]
    | rw [run_seq]
    | rw [run_region]
    | rw [run_block]
    | rw [run_blk]
    | rw [run_skip]
    | apply run_exit2 rfl
    | apply run_cyes rfl
    | apply run_cno rfl
    | (rw [run_zero]; refine ok_run hB tabOK pureTT_ok 100 ?_)
    | (apply run_go rfl; focus (intro L K hK; simp [-List.reduceReplicate, -List.getD_eq_getElem?_getD, hxl]; (repeat' apply And.intro); all_goals first | exact hK | omega))
    | (apply run_gyes rfl rfl rfl rfl; focus (intro L K hK; simp [-List.reduceReplicate, -List.getD_eq_getElem?_getD, hxl]; (repeat' apply And.intro); all_goals first | exact hK | omega))
    | (apply run_gno rfl rfl rfl rfl rfl (Nat.le_of_ble_eq_true rfl); simp only [St.put])
    | (apply run_gtup rfl rfl rfl rfl (Nat.le_of_ble_eq_true rfl); simp only [St.put]))
  rw [run_loop]; refine ok_loop (X := Nat) (fun i => ⟨[(11, one (.i i)), (10, one (.ptr 8 0 0)), (9, one (.ptr 5 0 0))], [.ent ⟨false, 110, some 258, .st [⟨1, .s (.slq 1 0 (4 * (q + 7)) 4)⟩, ⟨256, .ai (tabR 256)⟩, ⟨1, .s (.i q)⟩]⟩, .ent ⟨false, 111, none, .ai (toI W)⟩, .ent ⟨false, 5, none, .a8 N⟩, .ent ⟨false, 5, none, .a8 C⟩, .ent ⟨false, 5, none, .a8 D⟩, .ent ⟨true, 23, some 16, .a8 (tagX T X i)⟩, .ent ⟨true, 23, some 16, .a8 X⟩, .ent ⟨true, 23, some 16, .a8 (dCtr NN 1#32 4)⟩, .ent ⟨true, 23, some 16, .a8 X⟩]⟩) (fun i => i ≤ 16) (fun i => 16 - i) (fun j i L h => by have := hB.anc i L h; first | (simp at this; done) | (simp at this ⊢; omega)) ⟨0, by omega, by simp [-List.reduceReplicate, -List.getD_eq_getElem?_getD, tagX]⟩ ?_; intro i hi; refine ok_run hB tabOK pureTT_ok 100 ?_
  have htl := tagX_len T X i
  rw [hhl] at htl
  have hS : tagX T X (i + 1) = (tagX T X i).set i ((tagX T X i).getD i 0 ^^^ X.getD i 0) := rfl
  generalize hU : tagX T X i = U at htl hS ⊢
  by_cases h : i < 16
  · have hI : (i : Int) < 16 := by omega
    repeat (first
    | rw [run_ops0]
    | rw [run_seq]
    | rw [run_region]
    | rw [run_block]
    | rw [run_blk]
    | rw [run_skip]
    | apply run_exit2 rfl
    | apply run_cyes rfl
    | apply run_cno rfl
    | (rw [run_zero]; refine ok_run hB tabOK pureTT_ok 100 ?_)
    | (apply run_go rfl; focus (intro L K hK; simp [-List.reduceReplicate, -List.getD_eq_getElem?_getD, hI]; (repeat' apply And.intro); all_goals first | exact hK | omega))
    | (apply run_gyes rfl rfl rfl rfl; focus (intro L K hK; simp [-List.reduceReplicate, -List.getD_eq_getElem?_getD, hI]; (repeat' apply And.intro); all_goals first | exact hK | omega))
    | (apply run_gno rfl rfl rfl rfl rfl (Nat.le_of_ble_eq_true rfl); simp only [St.put])
    | (apply run_gtup rfl rfl rfl rfl (Nat.le_of_ble_eq_true rfl); simp only [St.put]))
    rw [run_draw]; refine ok_draw2 9 tabOK pureTT_ok pureTT_mono mixed (by decide +kernel) rfl rfl ?_; (repeat (first
    | (apply hd_go rfl rfl rfl rfl (Nat.le_of_ble_eq_true rfl); focus (intro K' hK; simp [-List.reduceReplicate, -List.getD_eq_getElem?_getD, htl, hxl]; (repeat' apply And.intro); all_goals first | exact hK | omega))
    | (apply hd_new rfl rfl rfl rfl (Nat.le_of_ble_eq_true rfl); focus (intro K' hK; simp [-List.reduceReplicate, -List.getD_eq_getElem?_getD, htl, hxl]; (repeat' apply And.intro); all_goals first | exact hK | omega)))); refine hd_nil ?_; simp only [List.map_nil, List.map_cons, List.append_nil]; refine ok_run hB tabOK pureTT_ok 100 ?_; (repeat (first
    | rw [run_ops0]
    | rw [run_seq]
    | rw [run_region]
    | rw [run_block]
    | rw [run_blk]
    | rw [run_skip]
    | (apply run_go rfl; focus (intro L K hK; simp [-List.reduceReplicate, -List.getD_eq_getElem?_getD, htl, hxl]; (repeat' apply And.intro); all_goals first | exact hK | omega))))
    rw [run_back]
    refine ⟨i + 1, by omega, by omega, ?_⟩
    rw [hS]
    simp [-List.reduceReplicate, -List.getD_eq_getElem?_getD]
  · obtain rfl : i = 16 := by omega
    rw [hU] at hh0
    repeat (first
    | rw [run_ops0]
    | rw [run_seq]
    | rw [run_region]
    | rw [run_block]
    | rw [run_blk]
    | rw [run_skip]
    | apply run_exit2 rfl
    | apply run_cyes rfl
    | apply run_cno rfl
    | (rw [run_zero]; refine ok_run hB tabOK pureTT_ok 100 ?_)
    | (apply run_go rfl; focus (intro L K hK; simp [-List.reduceReplicate, -List.getD_eq_getElem?_getD]; (repeat' apply And.intro); all_goals first | exact hK | omega))
    | (apply run_gyes rfl rfl rfl rfl; focus (intro L K hK; simp [-List.reduceReplicate, -List.getD_eq_getElem?_getD]; (repeat' apply And.intro); all_goals first | exact hK | omega))
    | (apply run_gno rfl rfl rfl rfl rfl (Nat.le_of_ble_eq_true rfl); simp only [St.put])
    | (apply run_gtup rfl rfl rfl rfl (Nat.le_of_ble_eq_true rfl); simp only [St.put]))
    rw [run_ret]
    simp [-List.reduceReplicate, -List.getD_eq_getElem?_getD, results32, f32, hX, hNN, hh0]
/-- What the document's Seal makes: the sealed text, and what its tag made. -/
@[simp] def dSealE (W : B8) (q : Nat) (N D B : B8) (n : Nat) : List Ent := ⟨true, 5, none, .a8 (dTurn W (q + 7) N B n ++ dTag W (q + 7) N D (dTurn W (q + 7) N B n))⟩ :: dTagE W q N D (dTurn W (q + 7) N B n)
theorem spec31 (W N B D : B8) (q on cn ob nb cb oa na ca : Nat) (hW : W.length = 16 * (q + 7)) (hq : q = 4 ∨ q = 8) (hN : on + 12 ≤ N.length) (hcn : 12 ≤ cn) (hb : ob + nb ≤ B.length) (hcb : nb ≤ cb) (hmx : nb ≤ 140737488351232) (hA : oa + na ≤ D.length) (hca : na ≤ ca) (hmA : na ≤ 140737488351232) :
    Spec prog 31 [one (.ptr 0 0 0), one (.sl 2 on 12 cn 1), one (.sl 4 oa na ca 1), one (.sl 3 ob nb cb 1)] (tgmem q W N B D) [] (fun r m => ∃ cap, nb + 16 ≤ cap ∧ r = one (.sl 5 0 (nb + 16) cap 1) ∧ m = tgmem q W N B D ++ (dSealE W q ((N.drop on).take 12) ((D.drop oa).take na) ((B.drop ob).take nb) nb).map .ent) := by
  
  refine spec_of_body tabOK func31 rfl (Nat.le_of_ble_eq_true rfl) ?_; intro E Q0 hB; refine ok_run hB tabOK pureNone_ok 100 ?_; simp only [argSl]
  simp only [tgmem, trmem, dkmem, dk0, dk1, List.cons_append, List.nil_append]
  repeat (first
    | rw [run_ops0]
    | rw [run_seq]
    | rw [run_region]
    | rw [run_block]
    | rw [run_blk]
    | rw [run_skip]
    | apply run_exit2 rfl
    | apply run_cyes rfl
    | apply run_cno rfl
    | (rw [run_zero]; refine ok_run hB tabOK pureNone_ok 100 ?_)
    | (apply run_go rfl; focus (intro L K hK; simp [-List.reduceReplicate, -List.getD_eq_getElem?_getD]; (repeat' apply And.intro); all_goals first | exact hK | omega))
    | (apply run_gyes rfl rfl rfl rfl; focus (intro L K hK; simp [-List.reduceReplicate, -List.getD_eq_getElem?_getD]; (repeat' apply And.intro); all_goals first | exact hK | omega))
    | (apply run_gno rfl rfl rfl rfl rfl (Nat.le_of_ble_eq_true rfl); simp only [St.put])
    | (apply run_gtup rfl rfl rfl rfl (Nat.le_of_ble_eq_true rfl); simp only [St.put]))
  refine run_call rfl rfl rfl rfl ?_; refine ok_call [0, 1, 2, 3] rfl rfl ⟨f33, func33, nofun, by decide⟩ (spec33 W N B q on cn ob nb cb hW hq hN hcn hb hcb hmx) trivial (by simp) (by simp [trmem, dkmem, dk0, dk1, matchM, ix, renA, renSeg, renR, renS, belA, belR, belS, A.len, segLen]) rfl rfl (Nat.le_of_ble_eq_true rfl) ?_; rintro sv m' ⟨cap, hcap, rfl, rfl⟩ _; simp only [trmem, dkmem, dk0, dk1, afterM, putM, renMk, renA, renSeg, renR, renS, renV, ix, St.put, List.map_cons, List.map_nil, List.drop, List.length_cons, List.length_nil, List.cons_append, List.nil_append, one]; simp [-List.reduceReplicate]; refine ok_run hB tabOK pureNone_ok 100 ?_
  have htl := dTurn_len W (q + 7) ((N.drop on).take 12) ((B.drop ob).take nb) nb
  generalize hT : dTurn W (q + 7) ((N.drop on).take 12) ((B.drop ob).take nb) nb = T at htl ⊢
  repeat (first
    | rw [run_ops0]
    | rw [run_seq]
    | rw [run_region]
    | rw [run_block]
    | rw [run_blk]
    | rw [run_skip]
    | apply run_exit2 rfl
    | apply run_cyes rfl
    | apply run_cno rfl
    | (rw [run_zero]; refine ok_run hB tabOK pureNone_ok 100 ?_)
    | (apply run_go rfl; focus (intro L K hK; simp [-List.reduceReplicate, -List.getD_eq_getElem?_getD]; (repeat' apply And.intro); all_goals first | exact hK | omega))
    | (apply run_gyes rfl rfl rfl rfl; focus (intro L K hK; simp [-List.reduceReplicate, -List.getD_eq_getElem?_getD]; (repeat' apply And.intro); all_goals first | exact hK | omega))
    | (apply run_gno rfl rfl rfl rfl rfl (Nat.le_of_ble_eq_true rfl); simp only [St.put])
    | (apply run_gtup rfl rfl rfl rfl (Nat.le_of_ble_eq_true rfl); simp only [St.put]))
  refine run_call rfl rfl rfl rfl ?_; refine ok_call [0, 1, 2, 5, 4] rfl rfl ⟨f32, func32, nofun, by decide⟩ (spec32 W N T D q on cn 0 nb cap oa na ca hW hq hN hcn (by omega) hcap (by omega) hA hca (by omega)) trivial (by simp) (by simp [tgmem, trmem, dkmem, dk0, dk1, dTagE, matchM, ix, renA, renSeg, renR, renS, belA, belR, belS, A.len, segLen]) rfl rfl (Nat.le_of_ble_eq_true rfl) ?_; rintro sv m' ⟨rfl, rfl⟩ _; simp only [tgmem, trmem, dkmem, dk0, dk1, dTagE, afterM, putM, renMk, renA, renSeg, renR, renS, renV, ix, St.put, List.map_cons, List.map_nil, List.drop, List.length_cons, List.length_nil, List.cons_append, List.nil_append, one]; simp [-List.reduceReplicate]; refine ok_run hB tabOK pureNone_ok 100 ?_
  have htk : T.take nb = T := List.take_of_length_le (by omega)
  rw [htk]
  have hgl : (dTag W (q + 7) ((N.drop on).take 12) ((D.drop oa).take na) T).length = 16 := by rw [dTag, tagX_len]; exact dOut_len _ _
  generalize hG : dTag W (q + 7) ((N.drop on).take 12) ((D.drop oa).take na) T = G at hgl ⊢
  have hgk : G.take 16 = G := List.take_of_length_le (by omega)
  have hdn : T.drop (nb + 16) = [] := List.drop_eq_nil_of_le (by omega)
  repeat (first
    | rw [run_ops0]
    | rw [run_seq]
    | rw [run_region]
    | rw [run_block]
    | rw [run_blk]
    | rw [run_skip]
    | apply run_exit2 rfl
    | apply run_cyes rfl
    | apply run_cno rfl
    | (rw [run_zero]; refine ok_run hB tabOK pureNone_ok 100 ?_)
    | (apply run_go rfl; focus (intro L K hK; simp [-List.reduceReplicate, -List.getD_eq_getElem?_getD]; (repeat' apply And.intro); all_goals first | exact hK | omega))
    | (apply run_gyes rfl rfl rfl rfl; focus (intro L K hK; simp [-List.reduceReplicate, -List.getD_eq_getElem?_getD]; (repeat' apply And.intro); all_goals first | exact hK | omega))
    | (apply run_gno rfl rfl rfl rfl rfl (Nat.le_of_ble_eq_true rfl); simp only [St.put])
    | (apply run_gtup rfl rfl rfl rfl (Nat.le_of_ble_eq_true rfl); simp only [St.put]))
  (apply run_app rfl; focus (intro L K hK; simp [-List.reduceReplicate, -List.getD_eq_getElem?_getD, htl, htk, hgl, hgk, hdn]; (repeat' apply And.intro); all_goals first | exact hK | omega | (intro cap hcap; exact hK cap hcap)))
  intro cap2 hcap2
  repeat (first
    | rw [run_ops0]
    | rw [run_seq]
    | rw [run_region]
    | rw [run_block]
    | rw [run_blk]
    | rw [run_skip]
    | apply run_exit2 rfl
    | apply run_cyes rfl
    | apply run_cno rfl
    | (rw [run_zero]; refine ok_run hB tabOK pureNone_ok 100 ?_)
    | (apply run_go rfl; focus (intro L K hK; simp [-List.reduceReplicate, -List.getD_eq_getElem?_getD]; (repeat' apply And.intro); all_goals first | exact hK | omega))
    | (apply run_gyes rfl rfl rfl rfl; focus (intro L K hK; simp [-List.reduceReplicate, -List.getD_eq_getElem?_getD]; (repeat' apply And.intro); all_goals first | exact hK | omega))
    | (apply run_gno rfl rfl rfl rfl rfl (Nat.le_of_ble_eq_true rfl); simp only [St.put])
    | (apply run_gtup rfl rfl rfl rfl (Nat.le_of_ble_eq_true rfl); simp only [St.put]))
  rw [run_ret]
  simp [-List.reduceReplicate, -List.getD_eq_getElem?_getD, results31, f31, hT, hG, hcap2]
end Go.V
end
section
set_option linter.unusedSimpArgs false
set_option linter.unusedVariables false
set_option maxRecDepth 10000
namespace Go.V
open Go Go.Proofs.Try
@[simp] def jm3 (N D B : B8) : Mem := [.ent ⟨false, 5, none, .a8 N⟩, .ent ⟨false, 5, none, .a8 D⟩, .ent ⟨false, 5, none, .a8 B⟩]
theorem spec28nil (N D B : B8) (nn cn na ca nb cb : Nat) : Spec prog 28 [one .nil, one (.sl 0 0 nn cn 1), one (.sl 1 0 na ca 1), one (.sl 2 0 nb cb 1)] (jm3 N D B) [] (fun r m => r = .tup [.s .snil, .s (.i 2)] ∧ m = jm3 N D B) := by
  refine spec_of_body tabOK func28 rfl (Nat.le_of_ble_eq_true rfl) ?_; intro E Q0 hB; refine ok_run hB tabOK pureNone_ok 100 ?_; simp only [argSl]
  simp only [jm3]
  repeat (first
    | rw [run_ops0]
    | rw [run_seq]
    | rw [run_region]
    | rw [run_block]
    | rw [run_blk]
    | rw [run_skip]
    | apply run_exit2 rfl
    | apply run_cyes rfl
    | apply run_cno rfl
    | (rw [run_zero]; refine ok_run hB tabOK pureNone_ok 100 ?_)
    | (apply run_go rfl; focus (intro L K hK; simp [-List.reduceReplicate, -List.getD_eq_getElem?_getD]; (repeat' apply And.intro); all_goals first | exact hK | omega))
    | (apply run_gyes rfl rfl rfl rfl; focus (intro L K hK; simp [-List.reduceReplicate, -List.getD_eq_getElem?_getD]; (repeat' apply And.intro); all_goals first | exact hK | omega))
    | (apply run_gno rfl rfl rfl rfl rfl (Nat.le_of_ble_eq_true rfl); simp only [St.put])
    | (apply run_gtup rfl rfl rfl rfl (Nat.le_of_ble_eq_true rfl); simp only [St.put]))
  rw [run_ret]
  simp [-List.reduceReplicate, -List.getD_eq_getElem?_getD, results28, f28]
theorem spec29nil (N D B : B8) (nn cn na ca nb cb : Nat) (hb : nb ≤ 140737488351232) : Spec prog 29 [one .nil, one (.sl 0 0 nn cn 1), one (.sl 1 0 na ca 1), one (.sl 2 0 nb cb 1)] (jm3 N D B) [] (fun r m => r = .tup [.s .snil, .s (.i 2)] ∧ m = jm3 N D B) := by
  refine spec_of_body tabOK func29 rfl (Nat.le_of_ble_eq_true rfl) ?_; intro E Q0 hB; refine ok_run hB tabOK pureNone_ok 100 ?_; simp only [argSl]
  simp only [jm3]
  repeat (first
    | rw [run_ops0]
    | rw [run_seq]
    | rw [run_region]
    | rw [run_block]
    | rw [run_blk]
    | rw [run_skip]
    | apply run_exit2 rfl
    | apply run_cyes rfl
    | apply run_cno rfl
    | (rw [run_zero]; refine ok_run hB tabOK pureNone_ok 100 ?_)
    | (apply run_go rfl; focus (intro L K hK; simp [-List.reduceReplicate, -List.getD_eq_getElem?_getD]; (repeat' apply And.intro); all_goals first | exact hK | omega))
    | (apply run_gyes rfl rfl rfl rfl; focus (intro L K hK; simp [-List.reduceReplicate, -List.getD_eq_getElem?_getD]; (repeat' apply And.intro); all_goals first | exact hK | omega))
    | (apply run_gno rfl rfl rfl rfl rfl (Nat.le_of_ble_eq_true rfl); simp only [St.put])
    | (apply run_gtup rfl rfl rfl rfl (Nat.le_of_ble_eq_true rfl); simp only [St.put]))
  rw [run_ret]
  simp [-List.reduceReplicate, -List.getD_eq_getElem?_getD, results29, f29]
@[simp] def kent (nr cap : Nat) : Ent := ⟨false, 105, some 1, .st [⟨1, .s (.sl 1 0 nr cap 16)⟩]⟩
@[simp] def km3 (nr cap : Nat) (W N D B : B8) : Mem := [.ent (kent nr cap), .ent ⟨false, 23, none, .a8 W⟩, .ent ⟨false, 5, none, .a8 N⟩, .ent ⟨false, 5, none, .a8 D⟩, .ent ⟨false, 5, none, .a8 B⟩]
theorem spec28bad (W N D B : B8) (nr cap nn cn na ca nb cb : Nat) (hn : nn ≠ 12) : Spec prog 28 [one (.ptr 0 0 0), one (.sl 2 0 nn cn 1), one (.sl 3 0 na ca 1), one (.sl 4 0 nb cb 1)] (km3 nr cap W N D B) [] (fun r m => r = .tup [.s .snil, .s (.i 2)] ∧ m = km3 nr cap W N D B) := by
  have hI : ¬ (nn : Int) = 12 := by omega
  refine spec_of_body tabOK func28 rfl (Nat.le_of_ble_eq_true rfl) ?_; intro E Q0 hB; refine ok_run hB tabOK pureNone_ok 100 ?_; simp only [argSl]
  simp only [km3, kent]
  repeat (first
    | rw [run_ops0]
    | rw [run_seq]
    | rw [run_region]
    | rw [run_block]
    | rw [run_blk]
    | rw [run_skip]
    | apply run_exit2 rfl
    | apply run_cyes rfl
    | apply run_cno rfl
    | (rw [run_zero]; refine ok_run hB tabOK pureNone_ok 100 ?_)
    | (apply run_go rfl; focus (intro L K hK; simp [-List.reduceReplicate, -List.getD_eq_getElem?_getD, hI]; (repeat' apply And.intro); all_goals first | exact hK | omega))
    | (apply run_gyes rfl rfl rfl rfl; focus (intro L K hK; simp [-List.reduceReplicate, -List.getD_eq_getElem?_getD, hI]; (repeat' apply And.intro); all_goals first | exact hK | omega))
    | (apply run_gno rfl rfl rfl rfl rfl (Nat.le_of_ble_eq_true rfl); simp only [St.put])
    | (apply run_gtup rfl rfl rfl rfl (Nat.le_of_ble_eq_true rfl); simp only [St.put]))
  rw [run_ret]
  simp [-List.reduceReplicate, -List.getD_eq_getElem?_getD, results28, f28]
theorem spec29bad (W N D B : B8) (nr cap nn cn na ca nb cb : Nat) (hn : nn ≠ 12) (hb : nb ≤ 140737488351232) : Spec prog 29 [one (.ptr 0 0 0), one (.sl 2 0 nn cn 1), one (.sl 3 0 na ca 1), one (.sl 4 0 nb cb 1)] (km3 nr cap W N D B) [] (fun r m => r = .tup [.s .snil, .s (.i 2)] ∧ m = km3 nr cap W N D B) := by
  have hI : ¬ (nn : Int) = 12 := by omega
  refine spec_of_body tabOK func29 rfl (Nat.le_of_ble_eq_true rfl) ?_; intro E Q0 hB; refine ok_run hB tabOK pureNone_ok 100 ?_; simp only [argSl]
  simp only [km3, kent]
  repeat (first
    | rw [run_ops0]
    | rw [run_seq]
    | rw [run_region]
    | rw [run_block]
    | rw [run_blk]
    | rw [run_skip]
    | apply run_exit2 rfl
    | apply run_cyes rfl
    | apply run_cno rfl
    | (rw [run_zero]; refine ok_run hB tabOK pureNone_ok 100 ?_)
    | (apply run_go rfl; focus (intro L K hK; simp [-List.reduceReplicate, -List.getD_eq_getElem?_getD, hI]; (repeat' apply And.intro); all_goals first | exact hK | omega))
    | (apply run_gyes rfl rfl rfl rfl; focus (intro L K hK; simp [-List.reduceReplicate, -List.getD_eq_getElem?_getD, hI]; (repeat' apply And.intro); all_goals first | exact hK | omega))
    | (apply run_gno rfl rfl rfl rfl rfl (Nat.le_of_ble_eq_true rfl); simp only [St.put])
    | (apply run_gtup rfl rfl rfl rfl (Nat.le_of_ble_eq_true rfl); simp only [St.put]))
  rw [run_ret]
  simp [-List.reduceReplicate, -List.getD_eq_getElem?_getD, results29, f29]
def fit6 (nk nn na nb : Nat) : Bool := decide ((nk = 16 ∨ nk = 32) ∧ nn = 12 ∧ na ≤ 200 ∧ nb ≤ 300)
@[simp] def jobA (nk ck nn cn na ca nb cb : Nat) : A := .st [⟨1, .s (.sl 0 0 nk ck 1)⟩, ⟨1, .s (.sl 1 0 nn cn 1)⟩, ⟨1, .s (.sl 2 0 na ca 1)⟩, ⟨1, .s (.sl 3 0 nb cb 1)⟩]
@[simp] def jm4 (K N D B : B8) : Mem := [.ent ⟨false, 5, none, .a8 K⟩, .ent ⟨false, 5, none, .a8 N⟩, .ent ⟨false, 5, none, .a8 D⟩, .ent ⟨false, 5, none, .a8 B⟩]
theorem spec30s (K N D B : B8) (nk ck nn cn na ca nb cb : Nat) : Spec prog 30 [.one (jobA nk ck nn cn na ca nb cb)] (jm4 K N D B) [] (fun r _ => r = one (.b (fit6 nk nn na nb))) := by
  refine spec_of_body tabOK func30 rfl (Nat.le_of_ble_eq_true rfl) ?_; intro E Q0 hB; refine ok_run hB tabOK pureNone_ok 100 ?_; simp only [argSl]
  simp only [jm4, jobA]
  by_cases h0 : nk = 16
  · by_cases h2 : nn = 12
    · by_cases h3 : na ≤ 200
      · by_cases h4 : nb ≤ 300
        · have I0 : ((nk : Int) = 16) := by omega
          have I2 : ((nn : Int) = 12) := by omega
          have I3 : ((na : Int) ≤ 200) := by omega
          have I4 : ((nb : Int) ≤ 300) := by omega
          repeat (first
    | rw [run_ops0]
    | rw [run_seq]
    | rw [run_region]
    | rw [run_block]
    | rw [run_blk]
    | rw [run_skip]
    | apply run_exit2 rfl
    | apply run_cyes rfl
    | apply run_cno rfl
    | (rw [run_zero]; refine ok_run hB tabOK pureNone_ok 100 ?_)
    | (apply run_go rfl; focus (intro L K hK; simp [-List.reduceReplicate, -List.getD_eq_getElem?_getD, h0, I0, h2, I2, h3, I3, h4, I4]; (repeat' apply And.intro); all_goals first | exact hK | omega))
    | (apply run_gyes rfl rfl rfl rfl; focus (intro L K hK; simp [-List.reduceReplicate, -List.getD_eq_getElem?_getD, h0, I0, h2, I2, h3, I3, h4, I4]; (repeat' apply And.intro); all_goals first | exact hK | omega))
    | (apply run_gno rfl rfl rfl rfl rfl (Nat.le_of_ble_eq_true rfl); simp only [St.put])
    | (apply run_gtup rfl rfl rfl rfl (Nat.le_of_ble_eq_true rfl); simp only [St.put]))
          rw [run_ret]
          simp [-List.reduceReplicate, -List.getD_eq_getElem?_getD, results30, f30, fit6, h0, h2, h3, h4]
        · have I0 : ((nk : Int) = 16) := by omega
          have I2 : ((nn : Int) = 12) := by omega
          have I3 : ((na : Int) ≤ 200) := by omega
          have I4 : ¬ ((nb : Int) ≤ 300) := by omega
          repeat (first
    | rw [run_ops0]
    | rw [run_seq]
    | rw [run_region]
    | rw [run_block]
    | rw [run_blk]
    | rw [run_skip]
    | apply run_exit2 rfl
    | apply run_cyes rfl
    | apply run_cno rfl
    | (rw [run_zero]; refine ok_run hB tabOK pureNone_ok 100 ?_)
    | (apply run_go rfl; focus (intro L K hK; simp [-List.reduceReplicate, -List.getD_eq_getElem?_getD, h0, I0, h2, I2, h3, I3, h4, I4]; (repeat' apply And.intro); all_goals first | exact hK | omega))
    | (apply run_gyes rfl rfl rfl rfl; focus (intro L K hK; simp [-List.reduceReplicate, -List.getD_eq_getElem?_getD, h0, I0, h2, I2, h3, I3, h4, I4]; (repeat' apply And.intro); all_goals first | exact hK | omega))
    | (apply run_gno rfl rfl rfl rfl rfl (Nat.le_of_ble_eq_true rfl); simp only [St.put])
    | (apply run_gtup rfl rfl rfl rfl (Nat.le_of_ble_eq_true rfl); simp only [St.put]))
          rw [run_ret]
          simp [-List.reduceReplicate, -List.getD_eq_getElem?_getD, results30, f30, fit6, h0, h2, h3, h4]
      · have I0 : ((nk : Int) = 16) := by omega
        have I2 : ((nn : Int) = 12) := by omega
        have I3 : ¬ ((na : Int) ≤ 200) := by omega
        repeat (first
    | rw [run_ops0]
    | rw [run_seq]
    | rw [run_region]
    | rw [run_block]
    | rw [run_blk]
    | rw [run_skip]
    | apply run_exit2 rfl
    | apply run_cyes rfl
    | apply run_cno rfl
    | (rw [run_zero]; refine ok_run hB tabOK pureNone_ok 100 ?_)
    | (apply run_go rfl; focus (intro L K hK; simp [-List.reduceReplicate, -List.getD_eq_getElem?_getD, h0, I0, h2, I2, h3, I3]; (repeat' apply And.intro); all_goals first | exact hK | omega))
    | (apply run_gyes rfl rfl rfl rfl; focus (intro L K hK; simp [-List.reduceReplicate, -List.getD_eq_getElem?_getD, h0, I0, h2, I2, h3, I3]; (repeat' apply And.intro); all_goals first | exact hK | omega))
    | (apply run_gno rfl rfl rfl rfl rfl (Nat.le_of_ble_eq_true rfl); simp only [St.put])
    | (apply run_gtup rfl rfl rfl rfl (Nat.le_of_ble_eq_true rfl); simp only [St.put]))
        rw [run_ret]
        simp [-List.reduceReplicate, -List.getD_eq_getElem?_getD, results30, f30, fit6, h0, h2, h3]
    · have I0 : ((nk : Int) = 16) := by omega
      have I2 : ¬ ((nn : Int) = 12) := by omega
      repeat (first
    | rw [run_ops0]
    | rw [run_seq]
    | rw [run_region]
    | rw [run_block]
    | rw [run_blk]
    | rw [run_skip]
    | apply run_exit2 rfl
    | apply run_cyes rfl
    | apply run_cno rfl
    | (rw [run_zero]; refine ok_run hB tabOK pureNone_ok 100 ?_)
    | (apply run_go rfl; focus (intro L K hK; simp [-List.reduceReplicate, -List.getD_eq_getElem?_getD, h0, I0, h2, I2]; (repeat' apply And.intro); all_goals first | exact hK | omega))
    | (apply run_gyes rfl rfl rfl rfl; focus (intro L K hK; simp [-List.reduceReplicate, -List.getD_eq_getElem?_getD, h0, I0, h2, I2]; (repeat' apply And.intro); all_goals first | exact hK | omega))
    | (apply run_gno rfl rfl rfl rfl rfl (Nat.le_of_ble_eq_true rfl); simp only [St.put])
    | (apply run_gtup rfl rfl rfl rfl (Nat.le_of_ble_eq_true rfl); simp only [St.put]))
      rw [run_ret]
      simp [-List.reduceReplicate, -List.getD_eq_getElem?_getD, results30, f30, fit6, h0, h2]
  · by_cases h1 : nk = 32
    · by_cases h2 : nn = 12
      · by_cases h3 : na ≤ 200
        · by_cases h4 : nb ≤ 300
          · have I0 : ¬ ((nk : Int) = 16) := by omega
            have I1 : ((nk : Int) = 32) := by omega
            have I2 : ((nn : Int) = 12) := by omega
            have I3 : ((na : Int) ≤ 200) := by omega
            have I4 : ((nb : Int) ≤ 300) := by omega
            repeat (first
    | rw [run_ops0]
    | rw [run_seq]
    | rw [run_region]
    | rw [run_block]
    | rw [run_blk]
    | rw [run_skip]
    | apply run_exit2 rfl
    | apply run_cyes rfl
    | apply run_cno rfl
    | (rw [run_zero]; refine ok_run hB tabOK pureNone_ok 100 ?_)
    | (apply run_go rfl; focus (intro L K hK; simp [-List.reduceReplicate, -List.getD_eq_getElem?_getD, h0, I0, h1, I1, h2, I2, h3, I3, h4, I4]; (repeat' apply And.intro); all_goals first | exact hK | omega))
    | (apply run_gyes rfl rfl rfl rfl; focus (intro L K hK; simp [-List.reduceReplicate, -List.getD_eq_getElem?_getD, h0, I0, h1, I1, h2, I2, h3, I3, h4, I4]; (repeat' apply And.intro); all_goals first | exact hK | omega))
    | (apply run_gno rfl rfl rfl rfl rfl (Nat.le_of_ble_eq_true rfl); simp only [St.put])
    | (apply run_gtup rfl rfl rfl rfl (Nat.le_of_ble_eq_true rfl); simp only [St.put]))
            rw [run_ret]
            simp [-List.reduceReplicate, -List.getD_eq_getElem?_getD, results30, f30, fit6, h0, h1, h2, h3, h4]
          · have I0 : ¬ ((nk : Int) = 16) := by omega
            have I1 : ((nk : Int) = 32) := by omega
            have I2 : ((nn : Int) = 12) := by omega
            have I3 : ((na : Int) ≤ 200) := by omega
            have I4 : ¬ ((nb : Int) ≤ 300) := by omega
            repeat (first
    | rw [run_ops0]
    | rw [run_seq]
    | rw [run_region]
    | rw [run_block]
    | rw [run_blk]
    | rw [run_skip]
    | apply run_exit2 rfl
    | apply run_cyes rfl
    | apply run_cno rfl
    | (rw [run_zero]; refine ok_run hB tabOK pureNone_ok 100 ?_)
    | (apply run_go rfl; focus (intro L K hK; simp [-List.reduceReplicate, -List.getD_eq_getElem?_getD, h0, I0, h1, I1, h2, I2, h3, I3, h4, I4]; (repeat' apply And.intro); all_goals first | exact hK | omega))
    | (apply run_gyes rfl rfl rfl rfl; focus (intro L K hK; simp [-List.reduceReplicate, -List.getD_eq_getElem?_getD, h0, I0, h1, I1, h2, I2, h3, I3, h4, I4]; (repeat' apply And.intro); all_goals first | exact hK | omega))
    | (apply run_gno rfl rfl rfl rfl rfl (Nat.le_of_ble_eq_true rfl); simp only [St.put])
    | (apply run_gtup rfl rfl rfl rfl (Nat.le_of_ble_eq_true rfl); simp only [St.put]))
            rw [run_ret]
            simp [-List.reduceReplicate, -List.getD_eq_getElem?_getD, results30, f30, fit6, h0, h1, h2, h3, h4]
        · have I0 : ¬ ((nk : Int) = 16) := by omega
          have I1 : ((nk : Int) = 32) := by omega
          have I2 : ((nn : Int) = 12) := by omega
          have I3 : ¬ ((na : Int) ≤ 200) := by omega
          repeat (first
    | rw [run_ops0]
    | rw [run_seq]
    | rw [run_region]
    | rw [run_block]
    | rw [run_blk]
    | rw [run_skip]
    | apply run_exit2 rfl
    | apply run_cyes rfl
    | apply run_cno rfl
    | (rw [run_zero]; refine ok_run hB tabOK pureNone_ok 100 ?_)
    | (apply run_go rfl; focus (intro L K hK; simp [-List.reduceReplicate, -List.getD_eq_getElem?_getD, h0, I0, h1, I1, h2, I2, h3, I3]; (repeat' apply And.intro); all_goals first | exact hK | omega))
    | (apply run_gyes rfl rfl rfl rfl; focus (intro L K hK; simp [-List.reduceReplicate, -List.getD_eq_getElem?_getD, h0, I0, h1, I1, h2, I2, h3, I3]; (repeat' apply And.intro); all_goals first | exact hK | omega))
    | (apply run_gno rfl rfl rfl rfl rfl (Nat.le_of_ble_eq_true rfl); simp only [St.put])
    | (apply run_gtup rfl rfl rfl rfl (Nat.le_of_ble_eq_true rfl); simp only [St.put]))
          rw [run_ret]
          simp [-List.reduceReplicate, -List.getD_eq_getElem?_getD, results30, f30, fit6, h0, h1, h2, h3]
      · have I0 : ¬ ((nk : Int) = 16) := by omega
        have I1 : ((nk : Int) = 32) := by omega
        have I2 : ¬ ((nn : Int) = 12) := by omega
        repeat (first
    | rw [run_ops0]
    | rw [run_seq]
    | rw [run_region]
    | rw [run_block]
    | rw [run_blk]
    | rw [run_skip]
    | apply run_exit2 rfl
    | apply run_cyes rfl
    | apply run_cno rfl
    | (rw [run_zero]; refine ok_run hB tabOK pureNone_ok 100 ?_)
    | (apply run_go rfl; focus (intro L K hK; simp [-List.reduceReplicate, -List.getD_eq_getElem?_getD, h0, I0, h1, I1, h2, I2]; (repeat' apply And.intro); all_goals first | exact hK | omega))
    | (apply run_gyes rfl rfl rfl rfl; focus (intro L K hK; simp [-List.reduceReplicate, -List.getD_eq_getElem?_getD, h0, I0, h1, I1, h2, I2]; (repeat' apply And.intro); all_goals first | exact hK | omega))
    | (apply run_gno rfl rfl rfl rfl rfl (Nat.le_of_ble_eq_true rfl); simp only [St.put])
    | (apply run_gtup rfl rfl rfl rfl (Nat.le_of_ble_eq_true rfl); simp only [St.put]))
        rw [run_ret]
        simp [-List.reduceReplicate, -List.getD_eq_getElem?_getD, results30, f30, fit6, h0, h1, h2]
    · have I0 : ¬ ((nk : Int) = 16) := by omega
      have I1 : ¬ ((nk : Int) = 32) := by omega
      repeat (first
    | rw [run_ops0]
    | rw [run_seq]
    | rw [run_region]
    | rw [run_block]
    | rw [run_blk]
    | rw [run_skip]
    | apply run_exit2 rfl
    | apply run_cyes rfl
    | apply run_cno rfl
    | (rw [run_zero]; refine ok_run hB tabOK pureNone_ok 100 ?_)
    | (apply run_go rfl; focus (intro L K hK; simp [-List.reduceReplicate, -List.getD_eq_getElem?_getD, h0, I0, h1, I1]; (repeat' apply And.intro); all_goals first | exact hK | omega))
    | (apply run_gyes rfl rfl rfl rfl; focus (intro L K hK; simp [-List.reduceReplicate, -List.getD_eq_getElem?_getD, h0, I0, h1, I1]; (repeat' apply And.intro); all_goals first | exact hK | omega))
    | (apply run_gno rfl rfl rfl rfl rfl (Nat.le_of_ble_eq_true rfl); simp only [St.put])
    | (apply run_gtup rfl rfl rfl rfl (Nat.le_of_ble_eq_true rfl); simp only [St.put]))
      rw [run_ret]
      simp [-List.reduceReplicate, -List.getD_eq_getElem?_getD, results30, f30, fit6, h0, h1]
end Go.V
end
section
set_option linter.unusedSimpArgs false
set_option linter.unusedVariables false
set_option maxRecDepth 10000
namespace Go.V
open Go Go.Proofs.Try
/-- fit as a plain call. -/
def pFit : Pure := fun m f l => match f, l with
  | 30, [.one (.st [⟨1, .s (.sl i0 0 nk ck 1)⟩, ⟨1, .s (.sl i1 0 nn cn 1)⟩, ⟨1, .s (.sl i2 0 na ca 1)⟩, ⟨1, .s (.sl i3 0 nb cb 1)⟩])] => (match datOf m i0, datOf m i1, datOf m i2, datOf m i3 with
    | some _, some _, some _, some _ => if [i0, i1, i2, i3].Nodup then some (one (.b (fit6 nk nn na nb))) else none
    | _, _, _, _ => none)
  | _, _ => none
theorem pFit_sub : PureSub pFit := by
  intro m m' f l v hs h
  unfold pFit at h ⊢
  split at h
  · split at h
    · rename_i h0 h1 h2 h3
      simp only [datOf_sub hs h0, datOf_sub hs h1, datOf_sub hs h2, datOf_sub hs h3]
      exact h
    · cases h
  · cases h
theorem pFit_ok : PureOK prog pFit := by
  intro m f svs sv h E w ℓ vs hm hd
  unfold pFit at h
  split at h
  · rename_i i0 nk ck i1 nn cn i2 na ca i3 nb cb
    split at h
    · rename_i K N D B h0 h1 h2 h3
      split at h
      · rename_i hnd
        cases h
        obtain ⟨e0, a0, b0⟩ := datOf_get h0
        obtain ⟨e1, a1, b1⟩ := datOf_get h1
        obtain ⟨e2, a2, b2⟩ := datOf_get h2
        obtain ⟨e3, a3, b3⟩ := datOf_get h3
        exact ⟨⟨f30, func30, nofun, by decide⟩, pure_use (spec30s K N D B nk ck nn cn na ca nb cb) (by simp) rfl hm [i0, i1, i2, i3] hnd (by simp [matchM, ix, renA, belA, a0, a1, a2, a3, b0, b1, b2, b3]) rfl (by simpa [renV, renA, renSeg, renR, renS, ix, one] using hd)⟩
      · cases h
    · cases h
  · cases h
/-! the document's Seal as a call that hands back memory -/
def ofI (l : LI) : B8 := l.map (fun x => BitVec.ofInt 8 x)
theorem ofI_toI (W : B8) : ofI (toI W) = W := by
  unfold ofI toI
  rw [List.map_map]
  conv => rhs; rw [← List.map_id W]
  refine List.map_congr_left fun x _ => ?_
  simp [ub]
/-- A key of the document's in memory is a good one. -/
def dkFit (q : Int) (sb W : LI) (nw : Nat) : Prop := sb = tabR 256 ∧ (q = 4 ∨ q = 8) ∧ (nw : Int) = 4 * (q + 7) ∧ W = toI (ofI W) ∧ (W.length : Int) = 16 * (q + 7)
theorem dkfit {q : Nat} {W : B8} (hq : q = 4 ∨ q = 8) (hW : W.length = 16 * (q + 7)) : dkFit q (tabR 256) (toI W) (4 * (q + 7)) := by
  refine ⟨rfl, by omega, by omega, by rw [ofI_toI], ?_⟩
  have : (toI W).length = W.length := by simp [toI]
  omega
theorem dkfit_get {q : Int} {sb W : LI} {nw : Nat} (h : dkFit q sb W nw) : ∃ (k : Nat) (V : B8), q = k ∧ (k = 4 ∨ k = 8) ∧ nw = 4 * (k + 7) ∧ W = toI V ∧ ofI W = V ∧ V.length = 16 * (k + 7) ∧ sb = tabR 256 := by
  obtain ⟨h1, h2, h3, h4, h5⟩ := h
  have hl : (toI (ofI W)).length = (ofI W).length := by simp [toI]
  rw [← h4] at hl
  refine ⟨q.toNat, ofI W, by omega, by omega, by omega, h4, rfl, by omega, h1⟩
theorem spec31Q (W N B D : B8) (q on cn ob nb cb oa na ca : Nat) (hW : W.length = 16 * (q + 7)) (hq : q = 4 ∨ q = 8) (hN : on + 12 ≤ N.length) (hcn : 12 ≤ cn) (hb : ob + nb ≤ B.length) (hcb : nb ≤ cb) (hmx : nb ≤ 140737488351232) (hA : oa + na ≤ D.length) (hca : na ≤ ca) (hmA : na ≤ 140737488351232) :
    Spec prog 31 [one (.ptr 0 0 0), one (.sl 2 on 12 cn 1), one (.sl 4 oa na ca 1), one (.sl 3 ob nb cb 1)] (tgmem q W N B D) [] (fun r m => r = one (.slq 5 0 (nb + 16) 1) ∧ m = tgmem q W N B D ++ (dSealE W q ((N.drop on).take 12) ((D.drop oa).take na) ((B.drop ob).take nb) nb).map .ent) := by
  intro w ℓ vs hd hm
  refine (spec31 W N B D q on cn ob nb cb oa na ca hW hq hN hcn hb hcb hmx hA hca hmA w ℓ vs hd hm).mono ?_
  rintro e w' ⟨sv, m', ℓ', v, rfl, ⟨cap, hcap, rfl, rfl⟩, h3, h4, h5, h6⟩
  refine ⟨_, _, ℓ', v, rfl, ⟨rfl, rfl⟩, h3, h4, ?_, h6⟩
  obtain ⟨L, g1, g2⟩ := h5
  exact ⟨L, g1, cap, g2⟩
/-- A key's block of the document, its slice's room not known. -/
def rOfQ (m : Mem) (id : Nat) : Option (Nat × Nat × Int × LI × LI) :=
  match m[id]? with
  | some (.ent e) => match e.c with
    | .st [⟨1, .s (.slq j 0 nw 4)⟩, ⟨256, .ai sb⟩, ⟨1, .s (.i N)⟩] => match m[j]? with
      | some (.ent e2) => match e2.c with
        | .ai W => some (j, nw, N, sb, W)
        | _ => none
      | _ => none
    | _ => none
  | _ => none
theorem rOfQ_get {m : Mem} {id j nw : Nat} {N : Int} {sb W : LI} (h : rOfQ m id = some (j, nw, N, sb, W)) : ∃ (e e2 : Ent), m[id]? = some (.ent e) ∧ e.c = .st [⟨1, .s (.slq j 0 nw 4)⟩, ⟨256, .ai sb⟩, ⟨1, .s (.i N)⟩] ∧ m[j]? = some (.ent e2) ∧ e2.c = .ai W := by
  unfold rOfQ at h
  split at h
  · split at h
    · split at h
      · split at h
        · cases h
          exact ⟨_, _, by assumption, by assumption, by assumption, by assumption⟩
        · cases h
      · cases h
    · cases h
  · cases h
theorem rOfQ_sub {m m' : Mem} {id : Nat} {v : Nat × Nat × Int × LI × LI} (hs : Sub m m') (h : rOfQ m id = some v) : rOfQ m' id = some v := by
  obtain ⟨j, nw, N, sb, W⟩ := v
  obtain ⟨e, e2, h1, h2, h4, h5⟩ := rOfQ_get h
  unfold rOfQ
  simp only [hs _ _ h1, h2, hs _ _ h4, h5]
def lFit (N : B8) (on cn : Nat) (B : B8) (ob nb cb : Nat) : Prop := on + 12 ≤ N.length ∧ 12 ≤ cn ∧ ob + nb ≤ B.length ∧ nb ≤ cb ∧ nb ≤ 140737488351232
def lFit2 (D : B8) (oa na ca : Nat) : Prop := oa + na ≤ D.length ∧ na ≤ ca ∧ na ≤ 140737488351232
open Classical in
noncomputable def nuS : New := fun m f l nid => match f, l with
  | 31, [.one (.s (.ptr id 0 0)), .one (.s (.sl iN on 12 cn 1)), .one (.s (.sl iA oa na ca 1)), .one (.s (.sl iB ob nb cb 1))] => (match rOfQ m id, datOf m iN, datOf m iB, datOf m iA with
    | some (j, nw, q, sb, W), some N, some B, some D => if dkFit q sb W nw ∧ lFit N on cn B ob nb cb ∧ lFit2 D oa na ca ∧ [id, j, iN, iB, iA].Nodup then some (one (.slq nid 0 (nb + 16) 1), dSealE (ofI W) q.toNat ((N.drop on).take 12) ((D.drop oa).take na) ((B.drop ob).take nb) nb) else none
    | _, _, _, _ => none)
  | _, _ => none
theorem nuS_sub : NewSub nuS := by
  intro m m' f l nid r hs h
  unfold nuS at h ⊢
  split at h
  · split at h
    · rename_i h1 h2 h3 h4
      simp only [rOfQ_sub hs h1, datOf_sub hs h2, datOf_sub hs h3, datOf_sub hs h4]
      exact h
    · cases h
  · cases h
theorem nuS_ok : NewOK prog nuS := by
  intro m f svs nid sv es h E w ℓ vs hm hh hd
  unfold nuS at h
  split at h
  · rename_i id iN on cn iA oa na ca iB ob nb cb
    split at h
    · rename_i j nw q sb W N B D hk hN hB hD
      split at h
      · rename_i hc
        obtain ⟨hf, ⟨a1, a2, a3, a4, a5⟩, ⟨c1, c2, c3⟩, hnd⟩ := hc
        obtain ⟨k, V, rfl, hk4, rfl, rfl, hV, hVl, rfl⟩ := dkfit_get hf
        rw [hV] at h
        cases h
        obtain ⟨e, e2, k1, k2, k4, k5⟩ := rOfQ_get hk
        obtain ⟨eN, n1, n2⟩ := datOf_get hN
        obtain ⟨eB, b1, b2⟩ := datOf_get hB
        obtain ⟨eD, d1, d2⟩ := datOf_get hD
        refine ⟨⟨f31, func31, nofun, by decide⟩, ?_⟩
        have hu := new_use (spec31Q V N B D k on cn ob nb cb oa na ca hVl hk4 a1 a2 a3 a4 a5 c1 c2 c3) (by simp) hm [id, j, iN, iB, iA] hnd (by simp [matchM, ix, renA, renSeg, renR, renS, belA, belR, belS, A.len, segLen, k1, k2, k4, k5, n1, n2, b1, b2, d1, d2]) rfl (by simpa [renV, renA, renS, ix, one] using hd) (nid := nid) (by simpa using hh)
        refine hu.mono ?_
        rintro e' w' ⟨v, ℓ', g1, g2, g3, g4⟩
        refine ⟨v, ℓ', g1, g2, by simpa [renV, renA, renS, ix, one] using g3, ?_⟩
        simpa [renE, renA] using g4
      · cases h
    · cases h
  · cases h
@[simp] noncomputable def nuGS : New := NAt 22 nuA nuS
theorem nuGS_sub : NewSub nuGS := NAt_sub nuA_sub nuS_sub
theorem nuGS_ok : NewOK prog nuGS := NAt_ok nuA_ok nuS_ok
@[simp] def pureGS : Pure := PAt 25 (pYes 25) pFit
theorem pureGS_sub : PureSub pureGS := PAt_sub (pYes_sub 25) pFit_sub
theorem pureGS_ok : PureOK prog pureGS := PAt_ok pYes25_ok pFit_ok
set_option maxHeartbeats 8000000 in
theorem spec8 (K N D B : B8) (nk ck nn cn na ca nb cb : Nat) (hK : K.length = nk) (hck : nk ≤ ck) (hN : N.length = nn) (hcn : nn ≤ cn) (hD : D.length = na) (hca : na ≤ ca) (hBl : B.length = nb) (hcb : nb ≤ cb) (hmk : ck ≤ 140737488351232) (hmn : cn ≤ 140737488351232) (hma : ca ≤ 140737488351232) (hmb : cb ≤ 140737488351232) : Spec prog 8 [.one (jobA nk ck nn cn na ca nb cb)] (jm4 K N D B) [] (fun r _ => r = one (.b true)) := by
  
  
  refine spec_of_body tabOK func8 rfl (Nat.le_of_ble_eq_true rfl) ?_; intro E Q0 hB; refine ok_run hB tabOK pureGS_ok 100 ?_; simp only [argSl]
  simp only [jm4, jobA]
  repeat (first
    | rw [run_ops0]
    | rw [run_seq]
    | rw [run_region]
    | rw [run_block]
    | rw [run_blk]
    | rw [run_skip]
    | apply run_exit2 rfl
    | apply run_cyes rfl
    | apply run_cno rfl
    | (rw [run_zero]; refine ok_run hB tabOK pureGS_ok 100 ?_)
    | (apply run_go rfl; focus (intro L K hK; simp [-List.reduceReplicate, -List.getD_eq_getElem?_getD]; (repeat' apply And.intro); all_goals first | exact hK | omega))
    | (apply run_gyes rfl rfl rfl rfl; focus (intro L K hK; simp [-List.reduceReplicate, -List.getD_eq_getElem?_getD]; (repeat' apply And.intro); all_goals first | exact hK | omega))
    | (apply run_gno rfl rfl rfl rfl rfl (Nat.le_of_ble_eq_true rfl); simp only [St.put])
    | (apply run_gtup rfl rfl rfl rfl (Nat.le_of_ble_eq_true rfl); simp only [St.put]))
  by_cases hnk : ∃ q, nk = 4 * q ∧ (q = 4 ∨ q = 8)
  · obtain ⟨q, rfl, hq⟩ := hnk
    refine run_call rfl rfl rfl rfl ?_; refine ok_call [0] rfl rfl ⟨f21, func21, nofun, by decide⟩ (spec21 K q ck hK hq hck) trivial (by simp) (by simp [newMem, matchM, ix, renA, renSeg, renR, renS, belA, belR, belS, A.len, segLen]) rfl rfl (Nat.le_of_ble_eq_true rfl) ?_; rintro sv m' ⟨rfl, cap, rfl⟩ _; simp only [newMem, afterM, putM, renMk, renA, renSeg, renR, renS, renV, ix, St.put, List.map_cons, List.map_nil, List.drop, List.length_cons, List.length_nil, List.cons_append, List.nil_append, one]; simp [-List.reduceReplicate]; refine ok_run hB tabOK pureGS_ok 100 ?_
    have hwl := sch_len (key := K) (nk := q) (by omega) (by omega) (4 * (q + 7))
    obtain ⟨W, hWe, hWl, hWr⟩ := newW hK hq
    rw [hWe]
    repeat (first
    | rw [run_ops0]
    | rw [run_seq]
    | rw [run_region]
    | rw [run_block]
    | rw [run_blk]
    | rw [run_skip]
    | apply run_exit2 rfl
    | apply run_cyes rfl
    | apply run_cno rfl
    | (rw [run_zero]; refine ok_run hB tabOK pureGS_ok 100 ?_)
    | (apply run_go rfl; focus (intro L K hK; simp [-List.reduceReplicate, -List.getD_eq_getElem?_getD]; (repeat' apply And.intro); all_goals first | exact hK | omega))
    | (apply run_gyes rfl rfl rfl rfl; focus (intro L K hK; simp [-List.reduceReplicate, -List.getD_eq_getElem?_getD]; (repeat' apply And.intro); all_goals first | exact hK | omega))
    | (apply run_gno rfl rfl rfl rfl rfl (Nat.le_of_ble_eq_true rfl); simp only [St.put])
    | (apply run_gtup rfl rfl rfl rfl (Nat.le_of_ble_eq_true rfl); simp only [St.put]))
    by_cases h12 : nn = 12
    · subst h12
      have hN0 : (N.drop 0).take 12 = N := List.take_of_length_le (by simp; omega)
      have hD0 : (D.drop 0).take na = D := List.take_of_length_le (by simp; omega)
      have hB0 : (B.drop 0).take nb = B := List.take_of_length_le (by simp; omega)
      have hN1 : N.take 12 = N := List.take_of_length_le (by omega)
      have hD1 : D.take na = D := List.take_of_length_le (by omega)
      have hB1 : B.take nb = B := List.take_of_length_le (by omega)
      refine run_call rfl rfl rfl rfl ?_; refine ok_call [6, 7, 1, 3, 2] rfl rfl ⟨f28, func28, nofun, by decide⟩ (spec28 W N (q + 7) cap 0 cn D B 0 na ca 0 nb cb (by omega) hca (by omega) (by omega) hcb (by omega) (by omega) (by omega) (by omega) (by omega) (by omega)) trivial (by simp) (by simp [smem, tagE, matchM, ix, renA, renSeg, renR, renS, belA, belR, belS, A.len, segLen]) rfl rfl (Nat.le_of_ble_eq_true rfl) ?_; rintro sv m' ⟨cap2, hcap2, rfl, rfl⟩ _; simp only [smem, tagE, afterM, putM, renMk, renA, renSeg, renR, renS, renV, ix, St.put, List.map_cons, List.map_nil, List.drop, List.length_cons, List.length_nil, List.cons_append, List.nil_append, one]; simp [-List.reduceReplicate]; refine ok_run hB tabOK pureGS_ok 100 ?_
      rw [hN1, hD1, hB1]
      have hTu := dTurn_eq W (q + 7) B hN hBl
      have hTg := dTag_eq W (q + 7) D (stO W (q + 7) N B nb) hN
      have hTl : (dTag W (q + 7) N D (stO W (q + 7) N B nb)).length = 16 := by rw [dTag, tagX_len]; exact dOut_len _ _
      have hSl := dTurn_len W (q + 7) N B nb
      rw [← hTg, ← hTu]
      rw [← hTu] at hTl
      generalize hS : dTurn W (q + 7) N B nb = SS at hTl hSl ⊢
      generalize hG : dTag W (q + 7) N D SS = G at hTl ⊢
      have hSG : (SS ++ G).take (nb + 16) = SS ++ G := List.take_of_length_le (by simp; omega)
      have hc2 : nb + 16 ≤ cap2 := by omega
      have hl1 : lFit N 0 cn B 0 nb cb := ⟨by omega, by omega, by omega, by omega, by omega⟩
      have hl2 : lFit2 D 0 na ca := ⟨by omega, by omega, by omega⟩
      repeat (first
    | rw [run_ops0]
    | rw [run_seq]
    | rw [run_region]
    | rw [run_block]
    | rw [run_blk]
    | rw [run_skip]
    | apply run_exit2 rfl
    | apply run_cyes rfl
    | apply run_cno rfl
    | (rw [run_zero]; refine ok_run hB tabOK pureGS_ok 100 ?_)
    | (apply run_go rfl; focus (intro L K hK; simp [-List.reduceReplicate, -List.getD_eq_getElem?_getD]; (repeat' apply And.intro); all_goals first | exact hK | omega))
    | (apply run_gyes rfl rfl rfl rfl; focus (intro L K hK; simp [-List.reduceReplicate, -List.getD_eq_getElem?_getD]; (repeat' apply And.intro); all_goals first | exact hK | omega))
    | (apply run_gno rfl rfl rfl rfl rfl (Nat.le_of_ble_eq_true rfl); simp only [St.put])
    | (apply run_gtup rfl rfl rfl rfl (Nat.le_of_ble_eq_true rfl); simp only [St.put]))
      have hf0 : True := trivial
      rcases hq with rfl | rfl
      · have hf2 : True := trivial
        cases hf : fit6 16 12 na nb
        · have hq0 : True := trivial
          rw [run_draw]; refine ok_draw5 23 [(18, [11]), (19, [18])] [] tabOK pureGS_ok nuGS_ok pureGS_sub nuGS_sub mixed (by decide +kernel) rfl rfl ?_
          repeat (first
    | (apply h3_go rfl rfl rfl rfl rfl (Nat.le_of_ble_eq_true rfl) rfl; focus (intro K' hK; simp [-List.reduceReplicate, -List.getD_eq_getElem?_getD, hf, pFit, datOf]; (repeat' apply And.intro); all_goals first | exact hK | omega))
    | (apply h3_new rfl rfl rfl rfl rfl (Nat.le_of_ble_eq_true rfl) rfl; focus (intro K' hK; simp [-List.reduceReplicate, -List.getD_eq_getElem?_getD, hf, pFit, datOf]; (repeat' apply And.intro); all_goals first | exact hK | omega))
    | (apply h3_call rfl rfl rfl rfl (Nat.le_of_ble_eq_true rfl); focus (simp [newOf, -List.reduceReplicate, -List.getD_eq_getElem?_getD, hf, pFit, datOf]; first | done | exact ⟨rfl, rfl⟩ | rfl))
    | (apply h3_gyes rfl rfl rfl rfl rfl (Nat.le_of_ble_eq_true rfl) rfl; focus (apply hop_go rfl rfl; intro K' hK; simp [-List.reduceReplicate, -List.getD_eq_getElem?_getD, hf, pFit, datOf]; (repeat' apply And.intro); all_goals first | exact hK | omega))
    | (apply h3_gyes rfl rfl rfl rfl rfl (Nat.le_of_ble_eq_true rfl) rfl; focus (apply hop_new rfl rfl; intro K' hK; simp [-List.reduceReplicate, -List.getD_eq_getElem?_getD, hf, pFit, datOf]; (repeat' apply And.intro); all_goals first | exact hK | omega))
    | (apply h3_gyes rfl rfl rfl rfl rfl (Nat.le_of_ble_eq_true rfl) rfl; focus (apply hop_call; simp [newOf, -List.reduceReplicate, -List.getD_eq_getElem?_getD, hf, pFit, datOf]; first | done | exact ⟨rfl, rfl⟩ | rfl))
    | apply h3_gno rfl rfl rfl rfl rfl (Nat.le_of_ble_eq_true rfl) rfl rfl
    | apply h3_past rfl rfl rfl rfl rfl (Nat.le_of_ble_eq_true rfl) rfl
    | (apply h3_sto rfl; focus (intro K' hK; simp [-List.reduceReplicate, -List.getD_eq_getElem?_getD, hf, pFit, datOf]; (repeat' apply And.intro); all_goals first | exact hK | omega)))
          refine h3_nil ?_; simp [finL, contL, contAt, stT, List.range, List.range.loop, -List.reduceReplicate, -List.getD_eq_getElem?_getD]; refine ok_run hB tabOK pureGS_ok 100 ?_
          repeat (first
    | rw [run_ops0]
    | rw [run_seq]
    | rw [run_region]
    | rw [run_block]
    | rw [run_blk]
    | rw [run_skip]
    | apply run_exit2 rfl
    | apply run_cyes rfl
    | apply run_cno rfl
    | (rw [run_zero]; refine ok_run hB tabOK pureGS_ok 100 ?_)
    | (apply run_go rfl; focus (intro L K hK; simp [-List.reduceReplicate, -List.getD_eq_getElem?_getD, hf, pFit, datOf]; (repeat' apply And.intro); all_goals first | exact hK | omega))
    | (apply run_gyes rfl rfl rfl rfl; focus (intro L K hK; simp [-List.reduceReplicate, -List.getD_eq_getElem?_getD, hf, pFit, datOf]; (repeat' apply And.intro); all_goals first | exact hK | omega))
    | (apply run_gno rfl rfl rfl rfl rfl (Nat.le_of_ble_eq_true rfl); simp only [St.put])
    | (apply run_gtup rfl rfl rfl rfl (Nat.le_of_ble_eq_true rfl); simp only [St.put]))
          rw [run_ret]
          simp [-List.reduceReplicate, -List.getD_eq_getElem?_getD, results8, f8]
        · have hq0 : True := trivial
          have hWr2 : rsch K (tabR 256) 4 44 = toI W := hWr
          have hdk : dkFit 4 (tabR 256) (toI W) 44 := dkfit (q := 4) (by omega) hWl
          have hx1 : 16 ≤ K.length := by omega
          have hx2 : 16 ≤ ck := by omega
          have hG2 : dTag W 11 N D SS = G := hG
          have hS2 : dTurn W 11 N B nb = SS := hS
          rw [run_draw]; refine ok_draw5 23 [(18, [11]), (19, [18])] [] tabOK pureGS_ok nuGS_ok pureGS_sub nuGS_sub mixed (by decide +kernel) rfl rfl ?_
          repeat (first
    | (apply h3_go rfl rfl rfl rfl rfl (Nat.le_of_ble_eq_true rfl) rfl; focus (intro K' hK; simp [-List.reduceReplicate, -List.getD_eq_getElem?_getD, hf, hf2, pFit, datOf, nuA, nuS, rOfQ, rnewQ, hWr2, hdk, hl1, hl2, hx1, hx2, ofI_toI, hN1, hD1, hB1, hG2, hS2, hSl, hTl, hSG, hc2]; (repeat' apply And.intro); all_goals first | exact hK | omega))
    | (apply h3_new rfl rfl rfl rfl rfl (Nat.le_of_ble_eq_true rfl) rfl; focus (intro K' hK; simp [-List.reduceReplicate, -List.getD_eq_getElem?_getD, hf, hf2, pFit, datOf, nuA, nuS, rOfQ, rnewQ, hWr2, hdk, hl1, hl2, hx1, hx2, ofI_toI, hN1, hD1, hB1, hG2, hS2, hSl, hTl, hSG, hc2]; (repeat' apply And.intro); all_goals first | exact hK | omega))
    | (apply h3_call rfl rfl rfl rfl (Nat.le_of_ble_eq_true rfl); focus (simp [newOf, -List.reduceReplicate, -List.getD_eq_getElem?_getD, hf, hf2, pFit, datOf, nuA, nuS, rOfQ, rnewQ, hWr2, hdk, hl1, hl2, hx1, hx2, ofI_toI, hN1, hD1, hB1, hG2, hS2, hSl, hTl, hSG, hc2]; first | done | exact ⟨rfl, rfl⟩ | rfl))
    | (apply h3_gyes rfl rfl rfl rfl rfl (Nat.le_of_ble_eq_true rfl) rfl; focus (apply hop_go rfl rfl; intro K' hK; simp [-List.reduceReplicate, -List.getD_eq_getElem?_getD, hf, hf2, pFit, datOf, nuA, nuS, rOfQ, rnewQ, hWr2, hdk, hl1, hl2, hx1, hx2, ofI_toI, hN1, hD1, hB1, hG2, hS2, hSl, hTl, hSG, hc2]; (repeat' apply And.intro); all_goals first | exact hK | omega))
    | (apply h3_gyes rfl rfl rfl rfl rfl (Nat.le_of_ble_eq_true rfl) rfl; focus (apply hop_new rfl rfl; intro K' hK; simp [-List.reduceReplicate, -List.getD_eq_getElem?_getD, hf, hf2, pFit, datOf, nuA, nuS, rOfQ, rnewQ, hWr2, hdk, hl1, hl2, hx1, hx2, ofI_toI, hN1, hD1, hB1, hG2, hS2, hSl, hTl, hSG, hc2]; (repeat' apply And.intro); all_goals first | exact hK | omega))
    | (apply h3_gyes rfl rfl rfl rfl rfl (Nat.le_of_ble_eq_true rfl) rfl; focus (apply hop_call; simp [newOf, -List.reduceReplicate, -List.getD_eq_getElem?_getD, hf, hf2, pFit, datOf, nuA, nuS, rOfQ, rnewQ, hWr2, hdk, hl1, hl2, hx1, hx2, ofI_toI, hN1, hD1, hB1, hG2, hS2, hSl, hTl, hSG, hc2]; first | done | exact ⟨rfl, rfl⟩ | rfl))
    | apply h3_gno rfl rfl rfl rfl rfl (Nat.le_of_ble_eq_true rfl) rfl rfl
    | apply h3_past rfl rfl rfl rfl rfl (Nat.le_of_ble_eq_true rfl) rfl
    | (apply h3_sto rfl; focus (intro K' hK; simp [-List.reduceReplicate, -List.getD_eq_getElem?_getD, hf, hf2, pFit, datOf, nuA, nuS, rOfQ, rnewQ, hWr2, hdk, hl1, hl2, hx1, hx2, ofI_toI, hN1, hD1, hB1, hG2, hS2, hSl, hTl, hSG, hc2]; (repeat' apply And.intro); all_goals first | exact hK | omega)))
          refine h3_nil ?_; simp [finL, contL, contAt, stT, List.range, List.range.loop, -List.reduceReplicate, -List.getD_eq_getElem?_getD]; refine ok_run hB tabOK pureGS_ok 100 ?_
          repeat (first
    | rw [run_ops0]
    | rw [run_seq]
    | rw [run_region]
    | rw [run_block]
    | rw [run_blk]
    | rw [run_skip]
    | apply run_exit2 rfl
    | apply run_cyes rfl
    | apply run_cno rfl
    | (rw [run_zero]; refine ok_run hB tabOK pureGS_ok 100 ?_)
    | (apply run_go rfl; focus (intro L K hK; simp [-List.reduceReplicate, -List.getD_eq_getElem?_getD, hf, hf2, pFit, datOf, nuA, nuS, rOfQ, rnewQ, hWr2, hdk, hl1, hl2, hx1, hx2, ofI_toI, hN1, hD1, hB1, hG2, hS2, hSl, hTl, hSG, hc2]; (repeat' apply And.intro); all_goals first | exact hK | omega))
    | (apply run_gyes rfl rfl rfl rfl; focus (intro L K hK; simp [-List.reduceReplicate, -List.getD_eq_getElem?_getD, hf, hf2, pFit, datOf, nuA, nuS, rOfQ, rnewQ, hWr2, hdk, hl1, hl2, hx1, hx2, ofI_toI, hN1, hD1, hB1, hG2, hS2, hSl, hTl, hSG, hc2]; (repeat' apply And.intro); all_goals first | exact hK | omega))
    | (apply run_gno rfl rfl rfl rfl rfl (Nat.le_of_ble_eq_true rfl); simp only [St.put])
    | (apply run_gtup rfl rfl rfl rfl (Nat.le_of_ble_eq_true rfl); simp only [St.put]))
          rw [run_ret]
          simp [-List.reduceReplicate, -List.getD_eq_getElem?_getD, results8, f8]
      · have hf2 : True := trivial
        cases hf : fit6 32 12 na nb
        · have hq0 : True := trivial
          rw [run_draw]; refine ok_draw5 23 [(18, [11]), (19, [18])] [] tabOK pureGS_ok nuGS_ok pureGS_sub nuGS_sub mixed (by decide +kernel) rfl rfl ?_
          repeat (first
    | (apply h3_go rfl rfl rfl rfl rfl (Nat.le_of_ble_eq_true rfl) rfl; focus (intro K' hK; simp [-List.reduceReplicate, -List.getD_eq_getElem?_getD, hf, pFit, datOf]; (repeat' apply And.intro); all_goals first | exact hK | omega))
    | (apply h3_new rfl rfl rfl rfl rfl (Nat.le_of_ble_eq_true rfl) rfl; focus (intro K' hK; simp [-List.reduceReplicate, -List.getD_eq_getElem?_getD, hf, pFit, datOf]; (repeat' apply And.intro); all_goals first | exact hK | omega))
    | (apply h3_call rfl rfl rfl rfl (Nat.le_of_ble_eq_true rfl); focus (simp [newOf, -List.reduceReplicate, -List.getD_eq_getElem?_getD, hf, pFit, datOf]; first | done | exact ⟨rfl, rfl⟩ | rfl))
    | (apply h3_gyes rfl rfl rfl rfl rfl (Nat.le_of_ble_eq_true rfl) rfl; focus (apply hop_go rfl rfl; intro K' hK; simp [-List.reduceReplicate, -List.getD_eq_getElem?_getD, hf, pFit, datOf]; (repeat' apply And.intro); all_goals first | exact hK | omega))
    | (apply h3_gyes rfl rfl rfl rfl rfl (Nat.le_of_ble_eq_true rfl) rfl; focus (apply hop_new rfl rfl; intro K' hK; simp [-List.reduceReplicate, -List.getD_eq_getElem?_getD, hf, pFit, datOf]; (repeat' apply And.intro); all_goals first | exact hK | omega))
    | (apply h3_gyes rfl rfl rfl rfl rfl (Nat.le_of_ble_eq_true rfl) rfl; focus (apply hop_call; simp [newOf, -List.reduceReplicate, -List.getD_eq_getElem?_getD, hf, pFit, datOf]; first | done | exact ⟨rfl, rfl⟩ | rfl))
    | apply h3_gno rfl rfl rfl rfl rfl (Nat.le_of_ble_eq_true rfl) rfl rfl
    | apply h3_past rfl rfl rfl rfl rfl (Nat.le_of_ble_eq_true rfl) rfl
    | (apply h3_sto rfl; focus (intro K' hK; simp [-List.reduceReplicate, -List.getD_eq_getElem?_getD, hf, pFit, datOf]; (repeat' apply And.intro); all_goals first | exact hK | omega)))
          refine h3_nil ?_; simp [finL, contL, contAt, stT, List.range, List.range.loop, -List.reduceReplicate, -List.getD_eq_getElem?_getD]; refine ok_run hB tabOK pureGS_ok 100 ?_
          repeat (first
    | rw [run_ops0]
    | rw [run_seq]
    | rw [run_region]
    | rw [run_block]
    | rw [run_blk]
    | rw [run_skip]
    | apply run_exit2 rfl
    | apply run_cyes rfl
    | apply run_cno rfl
    | (rw [run_zero]; refine ok_run hB tabOK pureGS_ok 100 ?_)
    | (apply run_go rfl; focus (intro L K hK; simp [-List.reduceReplicate, -List.getD_eq_getElem?_getD, hf, pFit, datOf]; (repeat' apply And.intro); all_goals first | exact hK | omega))
    | (apply run_gyes rfl rfl rfl rfl; focus (intro L K hK; simp [-List.reduceReplicate, -List.getD_eq_getElem?_getD, hf, pFit, datOf]; (repeat' apply And.intro); all_goals first | exact hK | omega))
    | (apply run_gno rfl rfl rfl rfl rfl (Nat.le_of_ble_eq_true rfl); simp only [St.put])
    | (apply run_gtup rfl rfl rfl rfl (Nat.le_of_ble_eq_true rfl); simp only [St.put]))
          rw [run_ret]
          simp [-List.reduceReplicate, -List.getD_eq_getElem?_getD, results8, f8]
        · have hq0 : True := trivial
          have hWr2 : rsch K (tabR 256) 8 60 = toI W := hWr
          have hdk : dkFit 8 (tabR 256) (toI W) 60 := dkfit (q := 8) (by omega) hWl
          have hx1 : 32 ≤ K.length := by omega
          have hx2 : 32 ≤ ck := by omega
          have hG2 : dTag W 15 N D SS = G := hG
          have hS2 : dTurn W 15 N B nb = SS := hS
          rw [run_draw]; refine ok_draw5 23 [(18, [11]), (19, [18])] [] tabOK pureGS_ok nuGS_ok pureGS_sub nuGS_sub mixed (by decide +kernel) rfl rfl ?_
          repeat (first
    | (apply h3_go rfl rfl rfl rfl rfl (Nat.le_of_ble_eq_true rfl) rfl; focus (intro K' hK; simp [-List.reduceReplicate, -List.getD_eq_getElem?_getD, hf, hf2, pFit, datOf, nuA, nuS, rOfQ, rnewQ, hWr2, hdk, hl1, hl2, hx1, hx2, ofI_toI, hN1, hD1, hB1, hG2, hS2, hSl, hTl, hSG, hc2]; (repeat' apply And.intro); all_goals first | exact hK | omega))
    | (apply h3_new rfl rfl rfl rfl rfl (Nat.le_of_ble_eq_true rfl) rfl; focus (intro K' hK; simp [-List.reduceReplicate, -List.getD_eq_getElem?_getD, hf, hf2, pFit, datOf, nuA, nuS, rOfQ, rnewQ, hWr2, hdk, hl1, hl2, hx1, hx2, ofI_toI, hN1, hD1, hB1, hG2, hS2, hSl, hTl, hSG, hc2]; (repeat' apply And.intro); all_goals first | exact hK | omega))
    | (apply h3_call rfl rfl rfl rfl (Nat.le_of_ble_eq_true rfl); focus (simp [newOf, -List.reduceReplicate, -List.getD_eq_getElem?_getD, hf, hf2, pFit, datOf, nuA, nuS, rOfQ, rnewQ, hWr2, hdk, hl1, hl2, hx1, hx2, ofI_toI, hN1, hD1, hB1, hG2, hS2, hSl, hTl, hSG, hc2]; first | done | exact ⟨rfl, rfl⟩ | rfl))
    | (apply h3_gyes rfl rfl rfl rfl rfl (Nat.le_of_ble_eq_true rfl) rfl; focus (apply hop_go rfl rfl; intro K' hK; simp [-List.reduceReplicate, -List.getD_eq_getElem?_getD, hf, hf2, pFit, datOf, nuA, nuS, rOfQ, rnewQ, hWr2, hdk, hl1, hl2, hx1, hx2, ofI_toI, hN1, hD1, hB1, hG2, hS2, hSl, hTl, hSG, hc2]; (repeat' apply And.intro); all_goals first | exact hK | omega))
    | (apply h3_gyes rfl rfl rfl rfl rfl (Nat.le_of_ble_eq_true rfl) rfl; focus (apply hop_new rfl rfl; intro K' hK; simp [-List.reduceReplicate, -List.getD_eq_getElem?_getD, hf, hf2, pFit, datOf, nuA, nuS, rOfQ, rnewQ, hWr2, hdk, hl1, hl2, hx1, hx2, ofI_toI, hN1, hD1, hB1, hG2, hS2, hSl, hTl, hSG, hc2]; (repeat' apply And.intro); all_goals first | exact hK | omega))
    | (apply h3_gyes rfl rfl rfl rfl rfl (Nat.le_of_ble_eq_true rfl) rfl; focus (apply hop_call; simp [newOf, -List.reduceReplicate, -List.getD_eq_getElem?_getD, hf, hf2, pFit, datOf, nuA, nuS, rOfQ, rnewQ, hWr2, hdk, hl1, hl2, hx1, hx2, ofI_toI, hN1, hD1, hB1, hG2, hS2, hSl, hTl, hSG, hc2]; first | done | exact ⟨rfl, rfl⟩ | rfl))
    | apply h3_gno rfl rfl rfl rfl rfl (Nat.le_of_ble_eq_true rfl) rfl rfl
    | apply h3_past rfl rfl rfl rfl rfl (Nat.le_of_ble_eq_true rfl) rfl
    | (apply h3_sto rfl; focus (intro K' hK; simp [-List.reduceReplicate, -List.getD_eq_getElem?_getD, hf, hf2, pFit, datOf, nuA, nuS, rOfQ, rnewQ, hWr2, hdk, hl1, hl2, hx1, hx2, ofI_toI, hN1, hD1, hB1, hG2, hS2, hSl, hTl, hSG, hc2]; (repeat' apply And.intro); all_goals first | exact hK | omega)))
          refine h3_nil ?_; simp [finL, contL, contAt, stT, List.range, List.range.loop, -List.reduceReplicate, -List.getD_eq_getElem?_getD]; refine ok_run hB tabOK pureGS_ok 100 ?_
          repeat (first
    | rw [run_ops0]
    | rw [run_seq]
    | rw [run_region]
    | rw [run_block]
    | rw [run_blk]
    | rw [run_skip]
    | apply run_exit2 rfl
    | apply run_cyes rfl
    | apply run_cno rfl
    | (rw [run_zero]; refine ok_run hB tabOK pureGS_ok 100 ?_)
    | (apply run_go rfl; focus (intro L K hK; simp [-List.reduceReplicate, -List.getD_eq_getElem?_getD, hf, hf2, pFit, datOf, nuA, nuS, rOfQ, rnewQ, hWr2, hdk, hl1, hl2, hx1, hx2, ofI_toI, hN1, hD1, hB1, hG2, hS2, hSl, hTl, hSG, hc2]; (repeat' apply And.intro); all_goals first | exact hK | omega))
    | (apply run_gyes rfl rfl rfl rfl; focus (intro L K hK; simp [-List.reduceReplicate, -List.getD_eq_getElem?_getD, hf, hf2, pFit, datOf, nuA, nuS, rOfQ, rnewQ, hWr2, hdk, hl1, hl2, hx1, hx2, ofI_toI, hN1, hD1, hB1, hG2, hS2, hSl, hTl, hSG, hc2]; (repeat' apply And.intro); all_goals first | exact hK | omega))
    | (apply run_gno rfl rfl rfl rfl rfl (Nat.le_of_ble_eq_true rfl); simp only [St.put])
    | (apply run_gtup rfl rfl rfl rfl (Nat.le_of_ble_eq_true rfl); simp only [St.put]))
          rw [run_ret]
          simp [-List.reduceReplicate, -List.getD_eq_getElem?_getD, results8, f8]
    · refine run_call rfl rfl rfl rfl ?_; refine ok_call [6, 7, 1, 2, 3] rfl rfl ⟨f28, func28, nofun, by decide⟩ (spec28bad W N D B (q + 7) cap nn cn na ca nb cb h12) trivial (by simp) (by simp [km3, kent, matchM, ix, renA, renSeg, renR, renS, belA, belR, belS, A.len, segLen]) rfl rfl (Nat.le_of_ble_eq_true rfl) ?_; rintro sv m' ⟨rfl, rfl⟩ _; simp only [km3, kent, afterM, putM, renMk, renA, renSeg, renR, renS, renV, ix, St.put, List.map_cons, List.map_nil, List.drop, List.length_cons, List.length_nil, List.cons_append, List.nil_append, one]; simp [-List.reduceReplicate]; refine ok_run hB tabOK pureGS_ok 100 ?_
      have hI : ¬ (nn : Int) = 12 := by omega
      repeat (first
    | rw [run_ops0]
    | rw [run_seq]
    | rw [run_region]
    | rw [run_block]
    | rw [run_blk]
    | rw [run_skip]
    | apply run_exit2 rfl
    | apply run_cyes rfl
    | apply run_cno rfl
    | (rw [run_zero]; refine ok_run hB tabOK pureGS_ok 100 ?_)
    | (apply run_go rfl; focus (intro L K hK; simp [-List.reduceReplicate, -List.getD_eq_getElem?_getD, hI]; (repeat' apply And.intro); all_goals first | exact hK | omega))
    | (apply run_gyes rfl rfl rfl rfl; focus (intro L K hK; simp [-List.reduceReplicate, -List.getD_eq_getElem?_getD, hI]; (repeat' apply And.intro); all_goals first | exact hK | omega))
    | (apply run_gno rfl rfl rfl rfl rfl (Nat.le_of_ble_eq_true rfl); simp only [St.put])
    | (apply run_gtup rfl rfl rfl rfl (Nat.le_of_ble_eq_true rfl); simp only [St.put]))
      refine run_call rfl rfl rfl rfl ?_; refine ok_call [6, 7, 1, 2, 3] rfl rfl ⟨f29, func29, nofun, by decide⟩ (spec29bad W N D B (q + 7) cap nn cn na ca nb cb h12 (by omega)) trivial (by simp) (by simp [km3, kent, matchM, ix, renA, renSeg, renR, renS, belA, belR, belS, A.len, segLen]) rfl rfl (Nat.le_of_ble_eq_true rfl) ?_; rintro sv m' ⟨rfl, rfl⟩ _; simp only [km3, kent, afterM, putM, renMk, renA, renSeg, renR, renS, renV, ix, St.put, List.map_cons, List.map_nil, List.drop, List.length_cons, List.length_nil, List.cons_append, List.nil_append, one]; simp [-List.reduceReplicate]; refine ok_run hB tabOK pureGS_ok 100 ?_
      repeat (first
    | rw [run_ops0]
    | rw [run_seq]
    | rw [run_region]
    | rw [run_block]
    | rw [run_blk]
    | rw [run_skip]
    | apply run_exit2 rfl
    | apply run_cyes rfl
    | apply run_cno rfl
    | (rw [run_zero]; refine ok_run hB tabOK pureGS_ok 100 ?_)
    | (apply run_go rfl; focus (intro L K hK; simp [-List.reduceReplicate, -List.getD_eq_getElem?_getD]; (repeat' apply And.intro); all_goals first | exact hK | omega))
    | (apply run_gyes rfl rfl rfl rfl; focus (intro L K hK; simp [-List.reduceReplicate, -List.getD_eq_getElem?_getD]; (repeat' apply And.intro); all_goals first | exact hK | omega))
    | (apply run_gno rfl rfl rfl rfl rfl (Nat.le_of_ble_eq_true rfl); simp only [St.put])
    | (apply run_gtup rfl rfl rfl rfl (Nat.le_of_ble_eq_true rfl); simp only [St.put]))
      rw [run_ret]
      simp [-List.reduceReplicate, -List.getD_eq_getElem?_getD, results8, f8]
  · refine run_call rfl rfl rfl rfl ?_; refine ok_call [0] rfl rfl ⟨f21, func21, nofun, by decide⟩ (spec21bad K nk ck hK hck (fun h => hnk ⟨4, by omega, .inl rfl⟩) (fun h => hnk ⟨8, by omega, .inr rfl⟩) (by omega)) trivial (by simp) (by simp [matchM, ix, renA, renSeg, renR, renS, belA, belR, belS, A.len, segLen]) rfl rfl (Nat.le_of_ble_eq_true rfl) ?_; rintro sv m' ⟨rfl, rfl⟩ _; simp only [afterM, putM, renMk, renA, renSeg, renR, renS, renV, ix, St.put, List.map_cons, List.map_nil, List.drop, List.length_cons, List.length_nil, List.cons_append, List.nil_append, one]; simp [-List.reduceReplicate]; refine ok_run hB tabOK pureGS_ok 100 ?_
    repeat (first
    | rw [run_ops0]
    | rw [run_seq]
    | rw [run_region]
    | rw [run_block]
    | rw [run_blk]
    | rw [run_skip]
    | apply run_exit2 rfl
    | apply run_cyes rfl
    | apply run_cno rfl
    | (rw [run_zero]; refine ok_run hB tabOK pureGS_ok 100 ?_)
    | (apply run_go rfl; focus (intro L K hK; simp [-List.reduceReplicate, -List.getD_eq_getElem?_getD]; (repeat' apply And.intro); all_goals first | exact hK | omega))
    | (apply run_gyes rfl rfl rfl rfl; focus (intro L K hK; simp [-List.reduceReplicate, -List.getD_eq_getElem?_getD]; (repeat' apply And.intro); all_goals first | exact hK | omega))
    | (apply run_gno rfl rfl rfl rfl rfl (Nat.le_of_ble_eq_true rfl); simp only [St.put])
    | (apply run_gtup rfl rfl rfl rfl (Nat.le_of_ble_eq_true rfl); simp only [St.put]))
    refine run_call rfl rfl rfl rfl ?_; refine ok_call [1, 2, 3] rfl rfl ⟨f28, func28, nofun, by decide⟩ (spec28nil N D B nn cn na ca nb cb) trivial (by simp) (by simp [jm3, matchM, ix, renA, renSeg, renR, renS, belA, belR, belS, A.len, segLen]) rfl rfl (Nat.le_of_ble_eq_true rfl) ?_; rintro sv m' ⟨rfl, rfl⟩ _; simp only [jm3, afterM, putM, renMk, renA, renSeg, renR, renS, renV, ix, St.put, List.map_cons, List.map_nil, List.drop, List.length_cons, List.length_nil, List.cons_append, List.nil_append, one]; simp [-List.reduceReplicate]; refine ok_run hB tabOK pureGS_ok 100 ?_
    repeat (first
    | rw [run_ops0]
    | rw [run_seq]
    | rw [run_region]
    | rw [run_block]
    | rw [run_blk]
    | rw [run_skip]
    | apply run_exit2 rfl
    | apply run_cyes rfl
    | apply run_cno rfl
    | (rw [run_zero]; refine ok_run hB tabOK pureGS_ok 100 ?_)
    | (apply run_go rfl; focus (intro L K hK; simp [-List.reduceReplicate, -List.getD_eq_getElem?_getD]; (repeat' apply And.intro); all_goals first | exact hK | omega))
    | (apply run_gyes rfl rfl rfl rfl; focus (intro L K hK; simp [-List.reduceReplicate, -List.getD_eq_getElem?_getD]; (repeat' apply And.intro); all_goals first | exact hK | omega))
    | (apply run_gno rfl rfl rfl rfl rfl (Nat.le_of_ble_eq_true rfl); simp only [St.put])
    | (apply run_gtup rfl rfl rfl rfl (Nat.le_of_ble_eq_true rfl); simp only [St.put]))
    refine run_call rfl rfl rfl rfl ?_; refine ok_call [1, 2, 3] rfl rfl ⟨f29, func29, nofun, by decide⟩ (spec29nil N D B nn cn na ca nb cb (by omega)) trivial (by simp) (by simp [jm3, matchM, ix, renA, renSeg, renR, renS, belA, belR, belS, A.len, segLen]) rfl rfl (Nat.le_of_ble_eq_true rfl) ?_; rintro sv m' ⟨rfl, rfl⟩ _; simp only [jm3, afterM, putM, renMk, renA, renSeg, renR, renS, renV, ix, St.put, List.map_cons, List.map_nil, List.drop, List.length_cons, List.length_nil, List.cons_append, List.nil_append, one]; simp [-List.reduceReplicate]; refine ok_run hB tabOK pureGS_ok 100 ?_
    repeat (first
    | rw [run_ops0]
    | rw [run_seq]
    | rw [run_region]
    | rw [run_block]
    | rw [run_blk]
    | rw [run_skip]
    | apply run_exit2 rfl
    | apply run_cyes rfl
    | apply run_cno rfl
    | (rw [run_zero]; refine ok_run hB tabOK pureGS_ok 100 ?_)
    | (apply run_go rfl; focus (intro L K hK; simp [-List.reduceReplicate, -List.getD_eq_getElem?_getD]; (repeat' apply And.intro); all_goals first | exact hK | omega))
    | (apply run_gyes rfl rfl rfl rfl; focus (intro L K hK; simp [-List.reduceReplicate, -List.getD_eq_getElem?_getD]; (repeat' apply And.intro); all_goals first | exact hK | omega))
    | (apply run_gno rfl rfl rfl rfl rfl (Nat.le_of_ble_eq_true rfl); simp only [St.put])
    | (apply run_gtup rfl rfl rfl rfl (Nat.le_of_ble_eq_true rfl); simp only [St.put]))
    rw [run_ret]
    simp [-List.reduceReplicate, -List.getD_eq_getElem?_getD, results8, f8]
end Go.V
end
section
set_option linter.unusedSimpArgs false
set_option linter.unusedVariables false
set_option maxRecDepth 10000
namespace Go.V
open Go Go.Proofs.Try
theorem spec33Q (W N B : B8) (q on cn ob nb cb : Nat) (hW : W.length = 16 * (q + 7)) (hq : q = 4 ∨ q = 8) (hN : on + 12 ≤ N.length) (hcn : 12 ≤ cn) (hb : ob + nb ≤ B.length) (hcb : nb ≤ cb) (hmx : nb ≤ 140737488351232) :
    Spec prog 33 [one (.ptr 0 0 0), one (.sl 2 on 12 cn 1), one (.sl 3 ob nb cb 1)] (trmem q W N B) [] (fun r m => r = one (.slq 4 0 nb 1) ∧ m = trmem q W N B ++ ([⟨true, 5, none, .a8 (dTurn W (q + 7) ((N.drop on).take 12) ((B.drop ob).take nb) nb)⟩] : List Ent).map .ent) := by
  intro w ℓ vs hd hm
  refine (spec33 W N B q on cn ob nb cb hW hq hN hcn hb hcb hmx w ℓ vs hd hm).mono ?_
  rintro e w' ⟨sv, m', ℓ', v, rfl, ⟨cap, hcap, rfl, rfl⟩, h3, h4, h5, h6⟩
  refine ⟨_, _, ℓ', v, rfl, ⟨rfl, rfl⟩, h3, h4, ?_, h6⟩
  obtain ⟨L, g1, g2⟩ := h5
  exact ⟨L, g1, cap, g2⟩
open Classical in
noncomputable def nuTg : New := fun m f l nid => match f, l with
  | 32, [.one (.s (.ptr id 0 0)), .one (.s (.sl iN on 12 cn 1)), .one (.s (.sl iA oa na ca 1)), .one (.s (.sl iB ob nb cb 1))] => (match rOfQ m id, datOf m iN, datOf m iB, datOf m iA with
    | some (j, nw, q, sb, W), some N, some B, some D => if dkFit q sb W nw ∧ lFit N on cn B ob nb cb ∧ lFit2 D oa na ca ∧ [id, j, iN, iB, iA].Nodup then some (one (.sl nid 0 16 16 1), dTagE (ofI W) q.toNat ((N.drop on).take 12) ((D.drop oa).take na) ((B.drop ob).take nb)) else none
    | _, _, _, _ => none)
  | 33, [.one (.s (.ptr id 0 0)), .one (.s (.sl iN on 12 cn 1)), .one (.s (.sl iB ob nb cb 1))] => (match rOfQ m id, datOf m iN, datOf m iB with
    | some (j, nw, q, sb, W), some N, some B => if dkFit q sb W nw ∧ lFit N on cn B ob nb cb ∧ [id, j, iN, iB].Nodup then some (one (.slq nid 0 nb 1), [⟨true, 5, none, .a8 (dTurn (ofI W) (q.toNat + 7) ((N.drop on).take 12) ((B.drop ob).take nb) nb)⟩]) else none
    | _, _, _ => none)
  | _, _ => none
theorem nuTg_sub : NewSub nuTg := by
  intro m m' f l nid r hs h
  unfold nuTg at h ⊢
  split at h
  · split at h
    · rename_i h1 h2 h3 h4
      simp only [rOfQ_sub hs h1, datOf_sub hs h2, datOf_sub hs h3, datOf_sub hs h4]
      exact h
    · cases h
  · split at h
    · rename_i h1 h2 h3
      simp only [rOfQ_sub hs h1, datOf_sub hs h2, datOf_sub hs h3]
      exact h
    · cases h
  · cases h
theorem nuTg_ok : NewOK prog nuTg := by
  intro m f svs nid sv es h E w ℓ vs hm hh hd
  unfold nuTg at h
  split at h
  · rename_i id iN on cn iA oa na ca iB ob nb cb
    split at h
    · rename_i j nw q sb W N B D hk hN hB hD
      split at h
      · rename_i hc
        obtain ⟨hf, ⟨a1, a2, a3, a4, a5⟩, ⟨c1, c2, c3⟩, hnd⟩ := hc
        obtain ⟨k, V, rfl, hk4, rfl, rfl, hV, hVl, rfl⟩ := dkfit_get hf
        rw [hV] at h
        cases h
        obtain ⟨e, e2, k1, k2, k4, k5⟩ := rOfQ_get hk
        obtain ⟨eN, n1, n2⟩ := datOf_get hN
        obtain ⟨eB, b1, b2⟩ := datOf_get hB
        obtain ⟨eD, d1, d2⟩ := datOf_get hD
        refine ⟨⟨f32, func32, nofun, by decide⟩, ?_⟩
        have hu := new_use (spec32 V N B D k on cn ob nb cb oa na ca hVl hk4 a1 a2 a3 a4 (by omega) c1 c2 (by omega)) (by simp) hm [id, j, iN, iB, iA] hnd (by simp [matchM, ix, renA, renSeg, renR, renS, belA, belR, belS, A.len, segLen, k1, k2, k4, k5, n1, n2, b1, b2, d1, d2]) rfl (by simpa [renV, renA, renS, ix, one] using hd) (nid := nid) (by simpa using hh)
        refine hu.mono ?_
        rintro e' w' ⟨v, ℓ', g1, g2, g3, g4⟩
        refine ⟨v, ℓ', g1, g2, by simpa [renV, renA, renS, ix, one] using g3, ?_⟩
        simpa [renE, renA] using g4
      · cases h
    · cases h
  · rename_i id iN on cn iB ob nb cb
    split at h
    · rename_i j nw q sb W N B hk hN hB
      split at h
      · rename_i hc
        obtain ⟨hf, ⟨a1, a2, a3, a4, a5⟩, hnd⟩ := hc
        obtain ⟨k, V, rfl, hk4, rfl, rfl, hV, hVl, rfl⟩ := dkfit_get hf
        rw [hV] at h
        cases h
        obtain ⟨e, e2, k1, k2, k4, k5⟩ := rOfQ_get hk
        obtain ⟨eN, n1, n2⟩ := datOf_get hN
        obtain ⟨eB, b1, b2⟩ := datOf_get hB
        refine ⟨⟨f33, func33, nofun, by decide⟩, ?_⟩
        have hu := new_use (spec33Q V N B k on cn ob nb cb hVl hk4 a1 a2 a3 a4 a5) (by simp) hm [id, j, iN, iB] hnd (by simp [matchM, ix, renA, renSeg, renR, renS, belA, belR, belS, A.len, segLen, k1, k2, k4, k5, n1, n2, b1, b2]) rfl (by simpa [renV, renA, renS, ix, one] using hd) (nid := nid) (by simpa using hh)
        refine hu.mono ?_
        rintro e' w' ⟨v, ℓ', g1, g2, g3, g4⟩
        refine ⟨v, ℓ', g1, g2, by simpa [renV, renA, renS, ix, one] using g3, ?_⟩
        simpa [renE, renA] using g4
      · cases h
    · cases h
  · cases h
theorem eqAns_dec {a b : B8} (ha : a.length = 16) (hb : b.length = 16) : eqAns a b 16 16 = decide (a = b) := by
  unfold eqAns
  simp only [decide_true, Bool.true_and]
  refine decide_eq_decide.2 ((eqAcc_zero a b 16).trans ⟨fun h => ext_getD2 (by omega) fun k hk => h k (by omega), fun h j _ => by rw [h]⟩)
theorem fit6_true {nk nn na nb : Nat} (h : fit6 nk nn na nb = true) : (nk = 4 * 4 ∨ nk = 4 * 8) ∧ nn = 12 ∧ na ≤ 200 ∧ nb ≤ 300 := of_decide_eq_true h
end Go.V
end
