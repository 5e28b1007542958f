/- Texts of the walks, put together: Xj Xk Xq. No condition. -/
import Derived.Test.YtlnoehpjchglnaaMhe
section
set_option linter.unusedSimpArgs false
set_option linter.unusedVariables false
set_option maxRecDepth 10000
namespace Go.V
open Go Go.Proofs.Try
theorem spec29S (W N B : B8) (nr cap on cn ob nb cb : Nat) (D : B8) (oa na ca : Nat) (ha : oa + na ≤ D.length) (hca : na ≤ ca) (hma : na ≤ 140737488355328) (hW : 16 * nr ≤ W.length) (hR : 0 < nr) (hR2 : nr < 1000) (hN : on + 12 ≤ N.length) (hcn : 12 ≤ cn) (hb : ob + nb ≤ B.length) (hcb : nb ≤ cb) (hmx : nb ≤ 1000000000) (hs : nb < 16) :
    Spec prog 29 [one (.ptr 0 0 0), one (.sl 2 on 12 cn 1), one (.sl 4 oa na ca 1), one (.sl 3 ob nb cb 1)] (smem nr cap W N B ++ [.ent ⟨false, 5, none, .a8 D⟩]) [] (fun r m => r = .tup [.s .snil, .s (.i 5)] ∧ m = smem nr cap W N B ++ [.ent ⟨false, 5, none, .a8 D⟩]) := by
  refine spec_of_body tabOK func29 rfl (Nat.le_of_ble_eq_true rfl) ?_
  intro E Q0 hB
  refine ok_run hB tabOK pureQ_ok 100 ?_
  simp only [argSl, smem, List.cons_append, List.nil_append]
  repeat (first
    | rw [run_ops0]
    | rw [run_seq]
    | rw [run_region]
    | rw [run_block]
    | rw [run_blk]
    | rw [run_skip]
    | (apply run_go rfl; focus (intro L K hK; simp [-List.reduceReplicate, -List.getD_eq_getElem?_getD]; (repeat' apply And.intro); all_goals first | exact hK | omega)))
  apply run_guard rfl rfl rfl rfl
  · intro _
    (apply Exists.intro; apply And.intro; focus (intro L K hK; simp [-List.reduceReplicate, -List.getD_eq_getElem?_getD]; (repeat' apply And.intro); all_goals first | exact hK | omega))
    apply run_guard rfl rfl rfl rfl
    · intro _
      (apply Exists.intro; apply And.intro; focus (intro L K hK; simp [-List.reduceReplicate, -List.getD_eq_getElem?_getD]; (repeat' apply And.intro); all_goals first | exact hK | omega))
      apply run_guard rfl rfl rfl rfl
      · intro _
        (apply Exists.intro; apply And.intro; focus (intro L K hK; simp [-List.reduceReplicate, -List.getD_eq_getElem?_getD]; (repeat' apply And.intro); all_goals first | exact hK | omega))
        repeat (first
    | rw [run_ops0]
    | rw [run_seq]
    | rw [run_region]
    | rw [run_block]
    | rw [run_blk]
    | rw [run_skip]
    | (apply run_go rfl; focus (intro L K hK; simp [-List.reduceReplicate, -List.getD_eq_getElem?_getD]; (repeat' apply And.intro); all_goals first | exact hK | omega)))
        apply run_cond2 rfl
        · intro h; first | cases h | (simp at h; done)
        intro _
        repeat (first
    | rw [run_ops0]
    | rw [run_seq]
    | rw [run_region]
    | rw [run_block]
    | rw [run_blk]
    | rw [run_skip]
    | (apply run_go rfl; focus (intro L K hK; simp [-List.reduceReplicate, -List.getD_eq_getElem?_getD]; (repeat' apply And.intro); all_goals first | exact hK | omega)))
        rw [run_draw]
        refine ok_draw5 15 [(13, [9])] [] tabOK pureQ_ok nuT_ok pureQ_sub nuT_sub mixed (by decide +kernel) rfl rfl ?_
        have hlt : (nb : Int) - 16 < 0 := by omega
        repeat (first
    | (apply h3_go rfl rfl rfl rfl rfl (Nat.le_of_ble_eq_true rfl) rfl; focus (intro K' hK; simp [-List.reduceReplicate, -List.getD_eq_getElem?_getD, viewM, visOf, memL, hlt]; (repeat' apply And.intro); all_goals first | exact hK | omega))
    | (apply h3_new rfl rfl rfl rfl rfl (Nat.le_of_ble_eq_true rfl) rfl; focus (intro K' hK; simp [-List.reduceReplicate, -List.getD_eq_getElem?_getD, viewM, visOf, memL, hlt]; (repeat' apply And.intro); all_goals first | exact hK | omega)))
        apply h3_guard rfl rfl rfl rfl rfl (Nat.le_of_ble_eq_true rfl) rfl
        · intro h; first | cases h | (simp [hs] at h; done) | (simp at h; omega)
        intro _
        apply h3_guard rfl rfl rfl rfl rfl (Nat.le_of_ble_eq_true rfl) rfl
        · intro h; first | cases h | (simp [hs] at h; done) | (simp at h; omega)
        intro _
        apply h3_guard rfl rfl rfl rfl rfl (Nat.le_of_ble_eq_true rfl) rfl
        · intro h; first | cases h | (simp [hs] at h; done) | (simp at h; omega)
        intro _
        apply h3_guard rfl rfl rfl rfl rfl (Nat.le_of_ble_eq_true rfl) rfl
        · intro h; first | cases h | (simp [hs] at h; done) | (simp at h; omega)
        intro _
        apply h3_guard rfl rfl rfl rfl rfl (Nat.le_of_ble_eq_true rfl) rfl
        · intro h; first | cases h | (simp [hs] at h; done) | (simp at h; omega)
        intro _
        apply h3_guard rfl rfl rfl rfl rfl (Nat.le_of_ble_eq_true rfl) rfl
        · intro h; first | cases h | (simp [hs] at h; done) | (simp at h; omega)
        intro _
        apply h3_guard rfl rfl rfl rfl rfl (Nat.le_of_ble_eq_true rfl) rfl
        · intro h; first | cases h | (simp [hs] at h; done) | (simp at h; omega)
        intro _
        apply h3_guard rfl rfl rfl rfl rfl (Nat.le_of_ble_eq_true rfl) rfl
        · intro h; first | cases h | (simp [hs] at h; done) | (simp at h; omega)
        intro _
        apply h3_guard rfl rfl rfl rfl rfl (Nat.le_of_ble_eq_true rfl) rfl
        · intro h; first | cases h | (simp [hs] at h; done) | (simp at h; omega)
        intro _
        apply h3_guard rfl rfl rfl rfl rfl (Nat.le_of_ble_eq_true rfl) rfl
        · intro h; first | cases h | (simp [hs] at h; done) | (simp at h; omega)
        intro _
        apply h3_guard rfl rfl rfl rfl rfl (Nat.le_of_ble_eq_true rfl) rfl
        · intro h; first | cases h | (simp [hs] at h; done) | (simp at h; omega)
        intro _
        apply h3_guard rfl rfl rfl rfl rfl (Nat.le_of_ble_eq_true rfl) rfl
        · intro h; first | cases h | (simp [hs] at h; done) | (simp at h; omega)
        intro _
        refine h3_nil ?_
        simp [finL, contL, contAt, stT, List.range, List.range.loop, -List.reduceReplicate]
        refine ok_run hB tabOK pureQ_ok 100 ?_
        repeat (first
    | rw [run_ops0]
    | rw [run_seq]
    | rw [run_region]
    | rw [run_block]
    | rw [run_blk]
    | rw [run_skip]
    | (apply run_go rfl; focus (intro L K hK; simp [-List.reduceReplicate, -List.getD_eq_getElem?_getD, hs]; (repeat' apply And.intro); all_goals first | exact hK | omega)))
        apply run_cond2 rfl
        · intro _
          repeat (first
    | rw [run_ops0]
    | rw [run_seq]
    | rw [run_region]
    | rw [run_block]
    | rw [run_blk]
    | rw [run_skip]
    | (apply run_go rfl; focus (intro L K hK; simp [-List.reduceReplicate, -List.getD_eq_getElem?_getD]; (repeat' apply And.intro); all_goals first | exact hK | omega)))
          rw [run_ret]
          simp [-List.reduceReplicate, -List.getD_eq_getElem?_getD, results29, f29, smem]
        · intro h; first | cases h | (simp [hs] at h; done) | (simp at h; omega)
      · intro h; first | cases h | (simp at h; done)
    · intro h; first | cases h | (simp at h; done)
  · intro h; first | cases h | (simp at h; done)
theorem spec29B (W N B : B8) (nr cap on cn ob n cb : Nat) (D : B8) (oa na ca : Nat) (ha : oa + na ≤ D.length) (hca : na ≤ ca) (hma : na ≤ 140737488355328) (hW : 16 * nr ≤ W.length) (hR : 0 < nr) (hR2 : nr < 1000) (hN : on + 12 ≤ N.length) (hcn : 12 ≤ cn) (hb : ob + (n + 16) ≤ B.length) (hcb : (n + 16) ≤ cb) (hmx : (n + 16) ≤ 1000000000) (he : eqAns (tagB W nr ((N.drop on).take 12) ((D.drop oa).take na) ((B.drop ob).take n)) (B.drop (ob + n)) 16 16 = false) :
    Spec prog 29 [one (.ptr 0 0 0), one (.sl 2 on 12 cn 1), one (.sl 4 oa na ca 1), one (.sl 3 ob (n + 16) cb 1)] (smem nr cap W N B ++ [.ent ⟨false, 5, none, .a8 D⟩]) [] (fun r m => r = .tup [.s .snil, .s (.i 5)] ∧ m = smem nr cap W N B ++ [.ent ⟨false, 5, none, .a8 D⟩] ++ (tagE W nr ((N.drop on).take 12) ((D.drop oa).take na) ((B.drop ob).take n)).map .ent) := by
  refine spec_of_body tabOK func29 rfl (Nat.le_of_ble_eq_true rfl) ?_
  intro E Q0 hB
  refine ok_run hB tabOK pureQ_ok 100 ?_
  simp only [argSl, smem, List.cons_append, List.nil_append]
  have hfa : aFit D oa na ca := ⟨ha, hca, hma⟩
  have hft : tFit W N B nr on cn ob n cb := ⟨hW, hR, hR2, hN, hcn, by omega, by omega, by omega⟩
  have hft2 : ((n : Int) + 16).toNat = n + 16 := by omega
  have hcb3 : (n : Int) + 16 ≤ ((cb - n : Nat) : Int) + (n : Int) := by omega
  obtain ⟨TG, hTG⟩ : ∃ TG, tagB W nr ((N.drop on).take 12) ((D.drop oa).take na) ((B.drop ob).take n) = TG := ⟨_, rfl⟩
  have htl : TG.length = 16 := by rw [← hTG]; unfold tagB; rw [tagX_len, hashG_len]
  rw [hTG] at he
  have ht0 := hTG
  have hcb2 : 16 ≤ cb - n := by omega
  have hB2 : ob + n + 16 ≤ B.length := by omega
  repeat (first
    | rw [run_ops0]
    | rw [run_seq]
    | rw [run_region]
    | rw [run_block]
    | rw [run_blk]
    | rw [run_skip]
    | (apply run_go rfl; focus (intro L K hK; simp [-List.reduceReplicate, -List.getD_eq_getElem?_getD]; (repeat' apply And.intro); all_goals first | exact hK | omega)))
  apply run_guard rfl rfl rfl rfl
  · intro _
    (apply Exists.intro; apply And.intro; focus (intro L K hK; simp [-List.reduceReplicate, -List.getD_eq_getElem?_getD]; (repeat' apply And.intro); all_goals first | exact hK | omega))
    apply run_guard rfl rfl rfl rfl
    · intro _
      (apply Exists.intro; apply And.intro; focus (intro L K hK; simp [-List.reduceReplicate, -List.getD_eq_getElem?_getD]; (repeat' apply And.intro); all_goals first | exact hK | omega))
      apply run_guard rfl rfl rfl rfl
      · intro _
        (apply Exists.intro; apply And.intro; focus (intro L K hK; simp [-List.reduceReplicate, -List.getD_eq_getElem?_getD]; (repeat' apply And.intro); all_goals first | exact hK | omega))
        repeat (first
    | rw [run_ops0]
    | rw [run_seq]
    | rw [run_region]
    | rw [run_block]
    | rw [run_blk]
    | rw [run_skip]
    | (apply run_go rfl; focus (intro L K hK; simp [-List.reduceReplicate, -List.getD_eq_getElem?_getD]; (repeat' apply And.intro); all_goals first | exact hK | omega)))
        apply run_cond2 rfl
        · intro h; first | cases h | (simp at h; done)
        intro _
        repeat (first
    | rw [run_ops0]
    | rw [run_seq]
    | rw [run_region]
    | rw [run_block]
    | rw [run_blk]
    | rw [run_skip]
    | (apply run_go rfl; focus (intro L K hK; simp [-List.reduceReplicate, -List.getD_eq_getElem?_getD]; (repeat' apply And.intro); all_goals first | exact hK | omega)))
        rw [run_draw]
        refine ok_draw5 15 [(13, [9])] [] tabOK pureQ_ok nuT_ok pureQ_sub nuT_sub mixed (by decide +kernel) rfl rfl ?_
        repeat (first
    | (apply h3_go rfl rfl rfl rfl rfl (Nat.le_of_ble_eq_true rfl) rfl; focus (intro K' hK; simp [-List.reduceReplicate, -List.getD_eq_getElem?_getD, viewM, visOf, memL, hft, hft2, hcb3, ht0, htl, he, hcb2, hB2, Nat.add_sub_cancel_left, nuT, kOf, datOf, pureQ, pure71, pureG, pureL, pureH, smem, tagE, hfa]; (repeat' apply And.intro); all_goals first | exact hK | omega))
    | (apply h3_new rfl rfl rfl rfl rfl (Nat.le_of_ble_eq_true rfl) rfl; focus (intro K' hK; simp [-List.reduceReplicate, -List.getD_eq_getElem?_getD, viewM, visOf, memL, hft, hft2, hcb3, ht0, htl, he, hcb2, hB2, Nat.add_sub_cancel_left, nuT, kOf, datOf, pureQ, pure71, pureG, pureL, pureH, smem, tagE, hfa]; (repeat' apply And.intro); all_goals first | exact hK | omega)))
        apply h3_guard rfl rfl rfl rfl rfl (Nat.le_of_ble_eq_true rfl) rfl
        · intro _
          (apply Exists.intro; apply Exists.intro; apply And.intro; focus (apply hop_go rfl rfl; intro K' hK; simp [-List.reduceReplicate, -List.getD_eq_getElem?_getD, viewM, visOf, memL, hft, hft2, hcb3, ht0, htl, he, hcb2, hB2, Nat.add_sub_cancel_left, nuT, kOf, datOf, pureQ, pure71, pureG, pureL, pureH, smem, tagE, hfa]; (repeat' apply And.intro); all_goals first | exact hK | omega))
          apply h3_guard rfl rfl rfl rfl rfl (Nat.le_of_ble_eq_true rfl) rfl
          · intro _
            (apply Exists.intro; apply Exists.intro; apply And.intro; focus (apply hop_go rfl rfl; intro K' hK; simp [-List.reduceReplicate, -List.getD_eq_getElem?_getD, viewM, visOf, memL, hft, hft2, hcb3, ht0, htl, he, hcb2, hB2, Nat.add_sub_cancel_left, nuT, kOf, datOf, pureQ, pure71, pureG, pureL, pureH, smem, tagE, hfa]; (repeat' apply And.intro); all_goals first | exact hK | omega))
            apply h3_guard rfl rfl rfl rfl rfl (Nat.le_of_ble_eq_true rfl) rfl
            · intro _
              (apply Exists.intro; apply Exists.intro; apply And.intro; focus (apply hop_go rfl rfl; intro K' hK; simp [-List.reduceReplicate, -List.getD_eq_getElem?_getD, viewM, visOf, memL, hft, hft2, hcb3, ht0, htl, he, hcb2, hB2, Nat.add_sub_cancel_left, nuT, kOf, datOf, pureQ, pure71, pureG, pureL, pureH, smem, tagE, hfa]; (repeat' apply And.intro); all_goals first | exact hK | omega))
              apply h3_guard rfl rfl rfl rfl rfl (Nat.le_of_ble_eq_true rfl) rfl
              · intro _
                (apply Exists.intro; apply Exists.intro; apply And.intro; focus (apply hop_go rfl rfl; intro K' hK; simp [-List.reduceReplicate, -List.getD_eq_getElem?_getD, viewM, visOf, memL, hft, hft2, hcb3, ht0, htl, he, hcb2, hB2, Nat.add_sub_cancel_left, nuT, kOf, datOf, pureQ, pure71, pureG, pureL, pureH, smem, tagE, hfa]; (repeat' apply And.intro); all_goals first | exact hK | omega))
                apply h3_guard rfl rfl rfl rfl rfl (Nat.le_of_ble_eq_true rfl) rfl
                · intro _
                  (apply Exists.intro; apply Exists.intro; apply And.intro; focus (apply hop_go rfl rfl; intro K' hK; simp [-List.reduceReplicate, -List.getD_eq_getElem?_getD, viewM, visOf, memL, hft, hft2, hcb3, ht0, htl, he, hcb2, hB2, Nat.add_sub_cancel_left, nuT, kOf, datOf, pureQ, pure71, pureG, pureL, pureH, smem, tagE, hfa]; (repeat' apply And.intro); all_goals first | exact hK | omega))
                  apply h3_guard rfl rfl rfl rfl rfl (Nat.le_of_ble_eq_true rfl) rfl
                  · intro _
                    (apply Exists.intro; apply Exists.intro; apply And.intro; focus (apply hop_go rfl rfl; intro K' hK; simp [-List.reduceReplicate, -List.getD_eq_getElem?_getD, viewM, visOf, memL, hft, hft2, hcb3, ht0, htl, he, hcb2, hB2, Nat.add_sub_cancel_left, nuT, kOf, datOf, pureQ, pure71, pureG, pureL, pureH, smem, tagE, hfa]; (repeat' apply And.intro); all_goals first | exact hK | omega))
                    apply h3_guard rfl rfl rfl rfl rfl (Nat.le_of_ble_eq_true rfl) rfl
                    · intro _
                      (apply Exists.intro; apply Exists.intro; apply And.intro; focus (apply hop_call; simp [newOf, -List.reduceReplicate, -List.getD_eq_getElem?_getD, viewM, visOf, memL, hft, hft2, hcb3, ht0, htl, he, hcb2, hB2, Nat.add_sub_cancel_left, nuT, kOf, datOf, pureQ, pure71, pureG, pureL, pureH, smem, tagE, hfa]; first | done | exact ⟨rfl, rfl⟩ | rfl))
                      apply h3_guard rfl rfl rfl rfl rfl (Nat.le_of_ble_eq_true rfl) rfl
                      · intro _
                        (apply Exists.intro; apply Exists.intro; apply And.intro; focus (apply hop_go rfl rfl; intro K' hK; simp [-List.reduceReplicate, -List.getD_eq_getElem?_getD, viewM, visOf, memL, hft, hft2, hcb3, ht0, htl, he, hcb2, hB2, Nat.add_sub_cancel_left, nuT, kOf, datOf, pureQ, pure71, pureG, pureL, pureH, smem, tagE, hfa]; (repeat' apply And.intro); all_goals first | exact hK | omega))
                        apply h3_guard rfl rfl rfl rfl rfl (Nat.le_of_ble_eq_true rfl) rfl
                        · intro _
                          (apply Exists.intro; apply Exists.intro; apply And.intro; focus (apply hop_go rfl rfl; intro K' hK; simp [-List.reduceReplicate, -List.getD_eq_getElem?_getD, viewM, visOf, memL, hft, hft2, hcb3, ht0, htl, he, hcb2, hB2, Nat.add_sub_cancel_left, nuT, kOf, datOf, pureQ, pure71, pureG, pureL, pureH, smem, tagE, hfa]; (repeat' apply And.intro); all_goals first | exact hK | omega))
                          apply h3_guard rfl rfl rfl rfl rfl (Nat.le_of_ble_eq_true rfl) rfl
                          · intro _
                            (apply Exists.intro; apply Exists.intro; apply And.intro; focus (apply hop_go rfl rfl; intro K' hK; simp [-List.reduceReplicate, -List.getD_eq_getElem?_getD, viewM, visOf, memL, hft, hft2, hcb3, ht0, htl, he, hcb2, hB2, Nat.add_sub_cancel_left, nuT, kOf, datOf, pureQ, pure71, pureG, pureL, pureH, smem, tagE, hfa]; (repeat' apply And.intro); all_goals first | exact hK | omega))
                            apply h3_guard rfl rfl rfl rfl rfl (Nat.le_of_ble_eq_true rfl) rfl
                            · intro _
                              (apply Exists.intro; apply Exists.intro; apply And.intro; focus (apply hop_go rfl rfl; intro K' hK; simp [-List.reduceReplicate, -List.getD_eq_getElem?_getD, viewM, visOf, memL, hft, hft2, hcb3, ht0, htl, he, hcb2, hB2, Nat.add_sub_cancel_left, nuT, kOf, datOf, pureQ, pure71, pureG, pureL, pureH, smem, tagE, hfa]; (repeat' apply And.intro); all_goals first | exact hK | omega))
                              apply h3_guard rfl rfl rfl rfl rfl (Nat.le_of_ble_eq_true rfl) rfl
                              · intro _
                                (apply Exists.intro; apply Exists.intro; apply And.intro; focus (apply hop_go rfl rfl; intro K' hK; simp [-List.reduceReplicate, -List.getD_eq_getElem?_getD, viewM, visOf, memL, hft, hft2, hcb3, ht0, htl, he, hcb2, hB2, Nat.add_sub_cancel_left, nuT, kOf, datOf, pureQ, pure71, pureG, pureL, pureH, smem, tagE, hfa]; (repeat' apply And.intro); all_goals first | exact hK | omega))
                                refine h3_nil ?_
                                simp [finL, contL, contAt, stT, List.range, List.range.loop, -List.reduceReplicate]
                                refine ok_run hB tabOK pureQ_ok 100 ?_
                                repeat (first
    | rw [run_ops0]
    | rw [run_seq]
    | rw [run_region]
    | rw [run_block]
    | rw [run_blk]
    | rw [run_skip]
    | (apply run_go rfl; focus (intro L K hK; simp [-List.reduceReplicate, -List.getD_eq_getElem?_getD, he]; (repeat' apply And.intro); all_goals first | exact hK | omega)))
                                apply run_cond2 rfl
                                · intro _
                                  repeat (first
    | rw [run_ops0]
    | rw [run_seq]
    | rw [run_region]
    | rw [run_block]
    | rw [run_blk]
    | rw [run_skip]
    | (apply run_go rfl; focus (intro L K hK; simp [-List.reduceReplicate, -List.getD_eq_getElem?_getD]; (repeat' apply And.intro); all_goals first | exact hK | omega)))
                                  rw [run_ret]
                                  simp [-List.reduceReplicate, -List.getD_eq_getElem?_getD, results29, f29, smem, tagE, hTG]
                                · intro h; first | cases h | (simp [he] at h; done)
                              · intro h; first | cases h | (simp at h; done)
                            · intro h; first | cases h | (simp at h; done)
                          · intro h; first | cases h | (simp at h; done)
                        · intro h; first | cases h | (simp at h; done)
                      · intro h; first | cases h | (simp at h; done)
                    · intro h; first | cases h | (simp at h; done)
                  · intro h; first | cases h | (simp at h; done)
                · intro h; first | cases h | (simp at h; done)
              · intro h; first | cases h | (simp at h; done)
            · intro h; first | cases h | (simp at h; done)
          · intro h; first | cases h | (simp at h; done)
        · intro h; first | cases h | (simp at h; done)
      · intro h; first | cases h | (simp at h; done)
    · intro h; first | cases h | (simp at h; done)
  · intro h; first | cases h | (simp at h; done)
theorem spec29O (W N B : B8) (nr cap on cn ob n cb : Nat) (D : B8) (oa na ca : Nat) (ha : oa + na ≤ D.length) (hca : na ≤ ca) (hma : na ≤ 140737488355328) (hW : 16 * nr ≤ W.length) (hR : 0 < nr) (hR2 : nr < 1000) (hN : on + 12 ≤ N.length) (hcn : 12 ≤ cn) (hb : ob + (n + 16) ≤ B.length) (hcb : (n + 16) ≤ cb) (hmx : (n + 16) ≤ 1000000000) (he : eqAns (tagB W nr ((N.drop on).take 12) ((D.drop oa).take na) ((B.drop ob).take n)) (B.drop (ob + n)) 16 16 = true) :
    Spec prog 29 [one (.ptr 0 0 0), one (.sl 2 on 12 cn 1), one (.sl 4 oa na ca 1), one (.sl 3 ob (n + 16) cb 1)] (smem nr cap W N B ++ [.ent ⟨false, 5, none, .a8 D⟩]) [] (fun r m => r = .tup [.s (.sl 8 0 n n 1), .s (.i 0)] ∧ m = smem nr cap W N B ++ [.ent ⟨false, 5, none, .a8 D⟩] ++ (tagE W nr ((N.drop on).take 12) ((D.drop oa).take na) ((B.drop ob).take n) ++ ([⟨true, 5, none, .a8 (stO W nr ((N.drop on).take 12) ((B.drop ob).take n) n)⟩, ⟨true, 23, some 16, .a8 (stC ((N.drop on).take 12) n)⟩] : List Ent)).map .ent) := by
  refine spec_of_body tabOK func29 rfl (Nat.le_of_ble_eq_true rfl) ?_
  intro E Q0 hB
  refine ok_run hB tabOK pureQ_ok 100 ?_
  simp only [argSl, smem, List.cons_append, List.nil_append]
  have hfa : aFit D oa na ca := ⟨ha, hca, hma⟩
  have hft : tFit W N B nr on cn ob n cb := ⟨hW, hR, hR2, hN, hcn, by omega, by omega, by omega⟩
  have hft2 : ((n : Int) + 16).toNat = n + 16 := by omega
  have hcb3 : (n : Int) + 16 ≤ ((cb - n : Nat) : Int) + (n : Int) := by omega
  obtain ⟨TG, hTG⟩ : ∃ TG, tagB W nr ((N.drop on).take 12) ((D.drop oa).take na) ((B.drop ob).take n) = TG := ⟨_, rfl⟩
  have htl : TG.length = 16 := by rw [← hTG]; unfold tagB; rw [tagX_len, hashG_len]
  rw [hTG] at he
  have ht0 := hTG
  have hcb2 : 16 ≤ cb - n := by omega
  have hB2 : ob + n + 16 ≤ B.length := by omega
  repeat (first
    | rw [run_ops0]
    | rw [run_seq]
    | rw [run_region]
    | rw [run_block]
    | rw [run_blk]
    | rw [run_skip]
    | (apply run_go rfl; focus (intro L K hK; simp [-List.reduceReplicate, -List.getD_eq_getElem?_getD]; (repeat' apply And.intro); all_goals first | exact hK | omega)))
  apply run_guard rfl rfl rfl rfl
  · intro _
    (apply Exists.intro; apply And.intro; focus (intro L K hK; simp [-List.reduceReplicate, -List.getD_eq_getElem?_getD]; (repeat' apply And.intro); all_goals first | exact hK | omega))
    apply run_guard rfl rfl rfl rfl
    · intro _
      (apply Exists.intro; apply And.intro; focus (intro L K hK; simp [-List.reduceReplicate, -List.getD_eq_getElem?_getD]; (repeat' apply And.intro); all_goals first | exact hK | omega))
      apply run_guard rfl rfl rfl rfl
      · intro _
        (apply Exists.intro; apply And.intro; focus (intro L K hK; simp [-List.reduceReplicate, -List.getD_eq_getElem?_getD]; (repeat' apply And.intro); all_goals first | exact hK | omega))
        repeat (first
    | rw [run_ops0]
    | rw [run_seq]
    | rw [run_region]
    | rw [run_block]
    | rw [run_blk]
    | rw [run_skip]
    | (apply run_go rfl; focus (intro L K hK; simp [-List.reduceReplicate, -List.getD_eq_getElem?_getD]; (repeat' apply And.intro); all_goals first | exact hK | omega)))
        apply run_cond2 rfl
        · intro h; first | cases h | (simp at h; done)
        intro _
        repeat (first
    | rw [run_ops0]
    | rw [run_seq]
    | rw [run_region]
    | rw [run_block]
    | rw [run_blk]
    | rw [run_skip]
    | (apply run_go rfl; focus (intro L K hK; simp [-List.reduceReplicate, -List.getD_eq_getElem?_getD]; (repeat' apply And.intro); all_goals first | exact hK | omega)))
        rw [run_draw]
        refine ok_draw5 15 [(13, [9])] [] tabOK pureQ_ok nuT_ok pureQ_sub nuT_sub mixed (by decide +kernel) rfl rfl ?_
        repeat (first
    | (apply h3_go rfl rfl rfl rfl rfl (Nat.le_of_ble_eq_true rfl) rfl; focus (intro K' hK; simp [-List.reduceReplicate, -List.getD_eq_getElem?_getD, viewM, visOf, memL, hft, hft2, hcb3, ht0, htl, he, hcb2, hB2, Nat.add_sub_cancel_left, nuT, kOf, datOf, pureQ, pure71, pureG, pureL, pureH, smem, tagE, hfa]; (repeat' apply And.intro); all_goals first | exact hK | omega))
    | (apply h3_new rfl rfl rfl rfl rfl (Nat.le_of_ble_eq_true rfl) rfl; focus (intro K' hK; simp [-List.reduceReplicate, -List.getD_eq_getElem?_getD, viewM, visOf, memL, hft, hft2, hcb3, ht0, htl, he, hcb2, hB2, Nat.add_sub_cancel_left, nuT, kOf, datOf, pureQ, pure71, pureG, pureL, pureH, smem, tagE, hfa]; (repeat' apply And.intro); all_goals first | exact hK | omega)))
        apply h3_guard rfl rfl rfl rfl rfl (Nat.le_of_ble_eq_true rfl) rfl
        · intro _
          (apply Exists.intro; apply Exists.intro; apply And.intro; focus (apply hop_go rfl rfl; intro K' hK; simp [-List.reduceReplicate, -List.getD_eq_getElem?_getD, viewM, visOf, memL, hft, hft2, hcb3, ht0, htl, he, hcb2, hB2, Nat.add_sub_cancel_left, nuT, kOf, datOf, pureQ, pure71, pureG, pureL, pureH, smem, tagE, hfa]; (repeat' apply And.intro); all_goals first | exact hK | omega))
          apply h3_guard rfl rfl rfl rfl rfl (Nat.le_of_ble_eq_true rfl) rfl
          · intro _
            (apply Exists.intro; apply Exists.intro; apply And.intro; focus (apply hop_go rfl rfl; intro K' hK; simp [-List.reduceReplicate, -List.getD_eq_getElem?_getD, viewM, visOf, memL, hft, hft2, hcb3, ht0, htl, he, hcb2, hB2, Nat.add_sub_cancel_left, nuT, kOf, datOf, pureQ, pure71, pureG, pureL, pureH, smem, tagE, hfa]; (repeat' apply And.intro); all_goals first | exact hK | omega))
            apply h3_guard rfl rfl rfl rfl rfl (Nat.le_of_ble_eq_true rfl) rfl
            · intro _
              (apply Exists.intro; apply Exists.intro; apply And.intro; focus (apply hop_go rfl rfl; intro K' hK; simp [-List.reduceReplicate, -List.getD_eq_getElem?_getD, viewM, visOf, memL, hft, hft2, hcb3, ht0, htl, he, hcb2, hB2, Nat.add_sub_cancel_left, nuT, kOf, datOf, pureQ, pure71, pureG, pureL, pureH, smem, tagE, hfa]; (repeat' apply And.intro); all_goals first | exact hK | omega))
              apply h3_guard rfl rfl rfl rfl rfl (Nat.le_of_ble_eq_true rfl) rfl
              · intro _
                (apply Exists.intro; apply Exists.intro; apply And.intro; focus (apply hop_go rfl rfl; intro K' hK; simp [-List.reduceReplicate, -List.getD_eq_getElem?_getD, viewM, visOf, memL, hft, hft2, hcb3, ht0, htl, he, hcb2, hB2, Nat.add_sub_cancel_left, nuT, kOf, datOf, pureQ, pure71, pureG, pureL, pureH, smem, tagE, hfa]; (repeat' apply And.intro); all_goals first | exact hK | omega))
                apply h3_guard rfl rfl rfl rfl rfl (Nat.le_of_ble_eq_true rfl) rfl
                · intro _
                  (apply Exists.intro; apply Exists.intro; apply And.intro; focus (apply hop_go rfl rfl; intro K' hK; simp [-List.reduceReplicate, -List.getD_eq_getElem?_getD, viewM, visOf, memL, hft, hft2, hcb3, ht0, htl, he, hcb2, hB2, Nat.add_sub_cancel_left, nuT, kOf, datOf, pureQ, pure71, pureG, pureL, pureH, smem, tagE, hfa]; (repeat' apply And.intro); all_goals first | exact hK | omega))
                  apply h3_guard rfl rfl rfl rfl rfl (Nat.le_of_ble_eq_true rfl) rfl
                  · intro _
                    (apply Exists.intro; apply Exists.intro; apply And.intro; focus (apply hop_go rfl rfl; intro K' hK; simp [-List.reduceReplicate, -List.getD_eq_getElem?_getD, viewM, visOf, memL, hft, hft2, hcb3, ht0, htl, he, hcb2, hB2, Nat.add_sub_cancel_left, nuT, kOf, datOf, pureQ, pure71, pureG, pureL, pureH, smem, tagE, hfa]; (repeat' apply And.intro); all_goals first | exact hK | omega))
                    apply h3_guard rfl rfl rfl rfl rfl (Nat.le_of_ble_eq_true rfl) rfl
                    · intro _
                      (apply Exists.intro; apply Exists.intro; apply And.intro; focus (apply hop_call; simp [newOf, -List.reduceReplicate, -List.getD_eq_getElem?_getD, viewM, visOf, memL, hft, hft2, hcb3, ht0, htl, he, hcb2, hB2, Nat.add_sub_cancel_left, nuT, kOf, datOf, pureQ, pure71, pureG, pureL, pureH, smem, tagE, hfa]; first | done | exact ⟨rfl, rfl⟩ | rfl))
                      apply h3_guard rfl rfl rfl rfl rfl (Nat.le_of_ble_eq_true rfl) rfl
                      · intro _
                        (apply Exists.intro; apply Exists.intro; apply And.intro; focus (apply hop_go rfl rfl; intro K' hK; simp [-List.reduceReplicate, -List.getD_eq_getElem?_getD, viewM, visOf, memL, hft, hft2, hcb3, ht0, htl, he, hcb2, hB2, Nat.add_sub_cancel_left, nuT, kOf, datOf, pureQ, pure71, pureG, pureL, pureH, smem, tagE, hfa]; (repeat' apply And.intro); all_goals first | exact hK | omega))
                        apply h3_guard rfl rfl rfl rfl rfl (Nat.le_of_ble_eq_true rfl) rfl
                        · intro _
                          (apply Exists.intro; apply Exists.intro; apply And.intro; focus (apply hop_go rfl rfl; intro K' hK; simp [-List.reduceReplicate, -List.getD_eq_getElem?_getD, viewM, visOf, memL, hft, hft2, hcb3, ht0, htl, he, hcb2, hB2, Nat.add_sub_cancel_left, nuT, kOf, datOf, pureQ, pure71, pureG, pureL, pureH, smem, tagE, hfa]; (repeat' apply And.intro); all_goals first | exact hK | omega))
                          apply h3_guard rfl rfl rfl rfl rfl (Nat.le_of_ble_eq_true rfl) rfl
                          · intro _
                            (apply Exists.intro; apply Exists.intro; apply And.intro; focus (apply hop_go rfl rfl; intro K' hK; simp [-List.reduceReplicate, -List.getD_eq_getElem?_getD, viewM, visOf, memL, hft, hft2, hcb3, ht0, htl, he, hcb2, hB2, Nat.add_sub_cancel_left, nuT, kOf, datOf, pureQ, pure71, pureG, pureL, pureH, smem, tagE, hfa]; (repeat' apply And.intro); all_goals first | exact hK | omega))
                            apply h3_guard rfl rfl rfl rfl rfl (Nat.le_of_ble_eq_true rfl) rfl
                            · intro _
                              (apply Exists.intro; apply Exists.intro; apply And.intro; focus (apply hop_go rfl rfl; intro K' hK; simp [-List.reduceReplicate, -List.getD_eq_getElem?_getD, viewM, visOf, memL, hft, hft2, hcb3, ht0, htl, he, hcb2, hB2, Nat.add_sub_cancel_left, nuT, kOf, datOf, pureQ, pure71, pureG, pureL, pureH, smem, tagE, hfa]; (repeat' apply And.intro); all_goals first | exact hK | omega))
                              apply h3_guard rfl rfl rfl rfl rfl (Nat.le_of_ble_eq_true rfl) rfl
                              · intro _
                                (apply Exists.intro; apply Exists.intro; apply And.intro; focus (apply hop_go rfl rfl; intro K' hK; simp [-List.reduceReplicate, -List.getD_eq_getElem?_getD, viewM, visOf, memL, hft, hft2, hcb3, ht0, htl, he, hcb2, hB2, Nat.add_sub_cancel_left, nuT, kOf, datOf, pureQ, pure71, pureG, pureL, pureH, smem, tagE, hfa]; (repeat' apply And.intro); all_goals first | exact hK | omega))
                                refine h3_nil ?_
                                simp [finL, contL, contAt, stT, List.range, List.range.loop, -List.reduceReplicate]
                                refine ok_run hB tabOK pureQ_ok 100 ?_
                                repeat (first
    | rw [run_ops0]
    | rw [run_seq]
    | rw [run_region]
    | rw [run_block]
    | rw [run_blk]
    | rw [run_skip]
    | (apply run_go rfl; focus (intro L K hK; simp [-List.reduceReplicate, -List.getD_eq_getElem?_getD, he]; (repeat' apply And.intro); all_goals first | exact hK | omega)))
                                apply run_cond2 rfl
                                · intro h; first | cases h | (simp [he] at h; done)
                                intro _
                                repeat (first
    | rw [run_ops0]
    | rw [run_seq]
    | rw [run_region]
    | rw [run_block]
    | rw [run_blk]
    | rw [run_skip]
    | (apply run_go rfl; focus (intro L K hK; simp [-List.reduceReplicate, -List.getD_eq_getElem?_getD]; (repeat' apply And.intro); all_goals first | exact hK | omega)))
                                refine run_call rfl rfl rfl rfl ?_
                                refine ok_call [0, 1, 2, 3] rfl rfl ⟨f69, func69, nofun, by decide⟩ (spec69 W N B nr cap on cn ob n cb hW hR hR2 hN hcn (by omega) (by omega) (by omega)) trivial (by simp) (by simp [smem, matchM, ix, renA, renSeg, renR, renS, belA, belR, belS, A.len, segLen]) rfl rfl (Nat.le_of_ble_eq_true rfl) ?_
                                rintro sv m' ⟨rfl, rfl⟩ _
                                simp only [smem, tagE, afterM, putM, renMk, renA, renSeg, renR, renS, renV, ix, St.put, List.map_cons, List.map_nil, List.drop, List.length_cons, List.length_nil, List.cons_append, List.nil_append, one]
                                simp [-List.reduceReplicate]
                                refine ok_run hB tabOK pureQ_ok 100 ?_
                                repeat (first
    | rw [run_ops0]
    | rw [run_seq]
    | rw [run_region]
    | rw [run_block]
    | rw [run_blk]
    | rw [run_skip]
    | (apply run_go rfl; focus (intro L K hK; simp [-List.reduceReplicate, -List.getD_eq_getElem?_getD]; (repeat' apply And.intro); all_goals first | exact hK | omega)))
                                rw [run_ret]
                                simp [-List.reduceReplicate, -List.getD_eq_getElem?_getD, results29, f29, smem, tagE, hTG]
                              · intro h; first | cases h | (simp at h; done)
                            · intro h; first | cases h | (simp at h; done)
                          · intro h; first | cases h | (simp at h; done)
                        · intro h; first | cases h | (simp at h; done)
                      · intro h; first | cases h | (simp at h; done)
                    · intro h; first | cases h | (simp at h; done)
                  · intro h; first | cases h | (simp at h; done)
                · intro h; first | cases h | (simp at h; done)
              · intro h; first | cases h | (simp at h; done)
            · intro h; first | cases h | (simp at h; done)
          · intro h; first | cases h | (simp at h; done)
        · intro h; first | cases h | (simp at h; done)
      · intro h; first | cases h | (simp at h; done)
    · intro h; first | cases h | (simp at h; done)
  · intro h; first | cases h | (simp at h; done)
theorem spec29nS (W N B : B8) (nr cap on cn ob nb cb : Nat) (hW : 16 * nr ≤ W.length) (hR : 0 < nr) (hR2 : nr < 1000) (hN : on + 12 ≤ N.length) (hcn : 12 ≤ cn) (hb : ob + nb ≤ B.length) (hcb : nb ≤ cb) (hmx : nb ≤ 1000000000) (hs : nb < 16) :
    Spec prog 29 [one (.ptr 0 0 0), one (.sl 2 on 12 cn 1), one .snil, one (.sl 3 ob nb cb 1)] (smem nr cap W N B) [] (fun r m => r = .tup [.s .snil, .s (.i 5)] ∧ m = smem nr cap W N B) := by
  refine spec_of_body tabOK func29 rfl (Nat.le_of_ble_eq_true rfl) ?_
  intro E Q0 hB
  refine ok_run hB tabOK pureQ_ok 100 ?_
  simp only [argSl, smem, List.cons_append, List.nil_append]
  repeat (first
    | rw [run_ops0]
    | rw [run_seq]
    | rw [run_region]
    | rw [run_block]
    | rw [run_blk]
    | rw [run_skip]
    | (apply run_go rfl; focus (intro L K hK; simp [-List.reduceReplicate, -List.getD_eq_getElem?_getD]; (repeat' apply And.intro); all_goals first | exact hK | omega)))
  apply run_guard rfl rfl rfl rfl
  · intro _
    (apply Exists.intro; apply And.intro; focus (intro L K hK; simp [-List.reduceReplicate, -List.getD_eq_getElem?_getD]; (repeat' apply And.intro); all_goals first | exact hK | omega))
    apply run_guard rfl rfl rfl rfl
    · intro _
      (apply Exists.intro; apply And.intro; focus (intro L K hK; simp [-List.reduceReplicate, -List.getD_eq_getElem?_getD]; (repeat' apply And.intro); all_goals first | exact hK | omega))
      apply run_guard rfl rfl rfl rfl
      · intro _
        (apply Exists.intro; apply And.intro; focus (intro L K hK; simp [-List.reduceReplicate, -List.getD_eq_getElem?_getD]; (repeat' apply And.intro); all_goals first | exact hK | omega))
        repeat (first
    | rw [run_ops0]
    | rw [run_seq]
    | rw [run_region]
    | rw [run_block]
    | rw [run_blk]
    | rw [run_skip]
    | (apply run_go rfl; focus (intro L K hK; simp [-List.reduceReplicate, -List.getD_eq_getElem?_getD]; (repeat' apply And.intro); all_goals first | exact hK | omega)))
        apply run_cond2 rfl
        · intro h; first | cases h | (simp at h; done)
        intro _
        repeat (first
    | rw [run_ops0]
    | rw [run_seq]
    | rw [run_region]
    | rw [run_block]
    | rw [run_blk]
    | rw [run_skip]
    | (apply run_go rfl; focus (intro L K hK; simp [-List.reduceReplicate, -List.getD_eq_getElem?_getD]; (repeat' apply And.intro); all_goals first | exact hK | omega)))
        rw [run_draw]
        refine ok_draw5 15 [(13, [9])] [] tabOK pureQ_ok nuT_ok pureQ_sub nuT_sub mixed (by decide +kernel) rfl rfl ?_
        have hlt : (nb : Int) - 16 < 0 := by omega
        repeat (first
    | (apply h3_go rfl rfl rfl rfl rfl (Nat.le_of_ble_eq_true rfl) rfl; focus (intro K' hK; simp [-List.reduceReplicate, -List.getD_eq_getElem?_getD, viewM, visOf, memL, hlt]; (repeat' apply And.intro); all_goals first | exact hK | omega))
    | (apply h3_new rfl rfl rfl rfl rfl (Nat.le_of_ble_eq_true rfl) rfl; focus (intro K' hK; simp [-List.reduceReplicate, -List.getD_eq_getElem?_getD, viewM, visOf, memL, hlt]; (repeat' apply And.intro); all_goals first | exact hK | omega)))
        apply h3_guard rfl rfl rfl rfl rfl (Nat.le_of_ble_eq_true rfl) rfl
        · intro h; first | cases h | (simp [hs] at h; done) | (simp at h; omega)
        intro _
        apply h3_guard rfl rfl rfl rfl rfl (Nat.le_of_ble_eq_true rfl) rfl
        · intro h; first | cases h | (simp [hs] at h; done) | (simp at h; omega)
        intro _
        apply h3_guard rfl rfl rfl rfl rfl (Nat.le_of_ble_eq_true rfl) rfl
        · intro h; first | cases h | (simp [hs] at h; done) | (simp at h; omega)
        intro _
        apply h3_guard rfl rfl rfl rfl rfl (Nat.le_of_ble_eq_true rfl) rfl
        · intro h; first | cases h | (simp [hs] at h; done) | (simp at h; omega)
        intro _
        apply h3_guard rfl rfl rfl rfl rfl (Nat.le_of_ble_eq_true rfl) rfl
        · intro h; first | cases h | (simp [hs] at h; done) | (simp at h; omega)
        intro _
        apply h3_guard rfl rfl rfl rfl rfl (Nat.le_of_ble_eq_true rfl) rfl
        · intro h; first | cases h | (simp [hs] at h; done) | (simp at h; omega)
        intro _
        apply h3_guard rfl rfl rfl rfl rfl (Nat.le_of_ble_eq_true rfl) rfl
        · intro h; first | cases h | (simp [hs] at h; done) | (simp at h; omega)
        intro _
        apply h3_guard rfl rfl rfl rfl rfl (Nat.le_of_ble_eq_true rfl) rfl
        · intro h; first | cases h | (simp [hs] at h; done) | (simp at h; omega)
        intro _
        apply h3_guard rfl rfl rfl rfl rfl (Nat.le_of_ble_eq_true rfl) rfl
        · intro h; first | cases h | (simp [hs] at h; done) | (simp at h; omega)
        intro _
        apply h3_guard rfl rfl rfl rfl rfl (Nat.le_of_ble_eq_true rfl) rfl
        · intro h; first | cases h | (simp [hs] at h; done) | (simp at h; omega)
        intro _
        apply h3_guard rfl rfl rfl rfl rfl (Nat.le_of_ble_eq_true rfl) rfl
        · intro h; first | cases h | (simp [hs] at h; done) | (simp at h; omega)
        intro _
        apply h3_guard rfl rfl rfl rfl rfl (Nat.le_of_ble_eq_true rfl) rfl
        · intro h; first | cases h | (simp [hs] at h; done) | (simp at h; omega)
        intro _
        refine h3_nil ?_
        simp [finL, contL, contAt, stT, List.range, List.range.loop, -List.reduceReplicate]
        refine ok_run hB tabOK pureQ_ok 100 ?_
        repeat (first
    | rw [run_ops0]
    | rw [run_seq]
    | rw [run_region]
    | rw [run_block]
    | rw [run_blk]
    | rw [run_skip]
    | (apply run_go rfl; focus (intro L K hK; simp [-List.reduceReplicate, -List.getD_eq_getElem?_getD, hs]; (repeat' apply And.intro); all_goals first | exact hK | omega)))
        apply run_cond2 rfl
        · intro _
          repeat (first
    | rw [run_ops0]
    | rw [run_seq]
    | rw [run_region]
    | rw [run_block]
    | rw [run_blk]
    | rw [run_skip]
    | (apply run_go rfl; focus (intro L K hK; simp [-List.reduceReplicate, -List.getD_eq_getElem?_getD]; (repeat' apply And.intro); all_goals first | exact hK | omega)))
          rw [run_ret]
          simp [-List.reduceReplicate, -List.getD_eq_getElem?_getD, results29, f29, smem]
        · intro h; first | cases h | (simp [hs] at h; done) | (simp at h; omega)
      · intro h; first | cases h | (simp at h; done)
    · intro h; first | cases h | (simp at h; done)
  · intro h; first | cases h | (simp at h; done)
theorem spec29nB (W N B : B8) (nr cap on cn ob n cb : Nat) (hW : 16 * nr ≤ W.length) (hR : 0 < nr) (hR2 : nr < 1000) (hN : on + 12 ≤ N.length) (hcn : 12 ≤ cn) (hb : ob + (n + 16) ≤ B.length) (hcb : (n + 16) ≤ cb) (hmx : (n + 16) ≤ 1000000000) (he : eqAns (tagB W nr ((N.drop on).take 12) ([] : B8) ((B.drop ob).take n)) (B.drop (ob + n)) 16 16 = false) :
    Spec prog 29 [one (.ptr 0 0 0), one (.sl 2 on 12 cn 1), one .snil, one (.sl 3 ob (n + 16) cb 1)] (smem nr cap W N B) [] (fun r m => r = .tup [.s .snil, .s (.i 5)] ∧ m = smem nr cap W N B ++ (tagE W nr ((N.drop on).take 12) ([] : B8) ((B.drop ob).take n)).map .ent) := by
  refine spec_of_body tabOK func29 rfl (Nat.le_of_ble_eq_true rfl) ?_
  intro E Q0 hB
  refine ok_run hB tabOK pureQ_ok 100 ?_
  simp only [argSl, smem, List.cons_append, List.nil_append]
  have hft : tFit W N B nr on cn ob n cb := ⟨hW, hR, hR2, hN, hcn, by omega, by omega, by omega⟩
  have hft2 : ((n : Int) + 16).toNat = n + 16 := by omega
  have hcb3 : (n : Int) + 16 ≤ ((cb - n : Nat) : Int) + (n : Int) := by omega
  obtain ⟨TG, hTG⟩ : ∃ TG, tagB W nr ((N.drop on).take 12) ([] : B8) ((B.drop ob).take n) = TG := ⟨_, rfl⟩
  have htl : TG.length = 16 := by rw [← hTG]; unfold tagB; rw [tagX_len, hashG_len]
  rw [hTG] at he
  have ht0 := hTG
  have hcb2 : 16 ≤ cb - n := by omega
  have hB2 : ob + n + 16 ≤ B.length := by omega
  repeat (first
    | rw [run_ops0]
    | rw [run_seq]
    | rw [run_region]
    | rw [run_block]
    | rw [run_blk]
    | rw [run_skip]
    | (apply run_go rfl; focus (intro L K hK; simp [-List.reduceReplicate, -List.getD_eq_getElem?_getD]; (repeat' apply And.intro); all_goals first | exact hK | omega)))
  apply run_guard rfl rfl rfl rfl
  · intro _
    (apply Exists.intro; apply And.intro; focus (intro L K hK; simp [-List.reduceReplicate, -List.getD_eq_getElem?_getD]; (repeat' apply And.intro); all_goals first | exact hK | omega))
    apply run_guard rfl rfl rfl rfl
    · intro _
      (apply Exists.intro; apply And.intro; focus (intro L K hK; simp [-List.reduceReplicate, -List.getD_eq_getElem?_getD]; (repeat' apply And.intro); all_goals first | exact hK | omega))
      apply run_guard rfl rfl rfl rfl
      · intro _
        (apply Exists.intro; apply And.intro; focus (intro L K hK; simp [-List.reduceReplicate, -List.getD_eq_getElem?_getD]; (repeat' apply And.intro); all_goals first | exact hK | omega))
        repeat (first
    | rw [run_ops0]
    | rw [run_seq]
    | rw [run_region]
    | rw [run_block]
    | rw [run_blk]
    | rw [run_skip]
    | (apply run_go rfl; focus (intro L K hK; simp [-List.reduceReplicate, -List.getD_eq_getElem?_getD]; (repeat' apply And.intro); all_goals first | exact hK | omega)))
        apply run_cond2 rfl
        · intro h; first | cases h | (simp at h; done)
        intro _
        repeat (first
    | rw [run_ops0]
    | rw [run_seq]
    | rw [run_region]
    | rw [run_block]
    | rw [run_blk]
    | rw [run_skip]
    | (apply run_go rfl; focus (intro L K hK; simp [-List.reduceReplicate, -List.getD_eq_getElem?_getD]; (repeat' apply And.intro); all_goals first | exact hK | omega)))
        rw [run_draw]
        refine ok_draw5 15 [(13, [9])] [] tabOK pureQ_ok nuT_ok pureQ_sub nuT_sub mixed (by decide +kernel) rfl rfl ?_
        repeat (first
    | (apply h3_go rfl rfl rfl rfl rfl (Nat.le_of_ble_eq_true rfl) rfl; focus (intro K' hK; simp [-List.reduceReplicate, -List.getD_eq_getElem?_getD, viewM, visOf, memL, hft, hft2, hcb3, ht0, htl, he, hcb2, hB2, Nat.add_sub_cancel_left, nuT, kOf, datOf, pureQ, pure71, pureG, pureL, pureH, smem, tagE]; (repeat' apply And.intro); all_goals first | exact hK | omega))
    | (apply h3_new rfl rfl rfl rfl rfl (Nat.le_of_ble_eq_true rfl) rfl; focus (intro K' hK; simp [-List.reduceReplicate, -List.getD_eq_getElem?_getD, viewM, visOf, memL, hft, hft2, hcb3, ht0, htl, he, hcb2, hB2, Nat.add_sub_cancel_left, nuT, kOf, datOf, pureQ, pure71, pureG, pureL, pureH, smem, tagE]; (repeat' apply And.intro); all_goals first | exact hK | omega)))
        apply h3_guard rfl rfl rfl rfl rfl (Nat.le_of_ble_eq_true rfl) rfl
        · intro _
          (apply Exists.intro; apply Exists.intro; apply And.intro; focus (apply hop_go rfl rfl; intro K' hK; simp [-List.reduceReplicate, -List.getD_eq_getElem?_getD, viewM, visOf, memL, hft, hft2, hcb3, ht0, htl, he, hcb2, hB2, Nat.add_sub_cancel_left, nuT, kOf, datOf, pureQ, pure71, pureG, pureL, pureH, smem, tagE]; (repeat' apply And.intro); all_goals first | exact hK | omega))
          apply h3_guard rfl rfl rfl rfl rfl (Nat.le_of_ble_eq_true rfl) rfl
          · intro _
            (apply Exists.intro; apply Exists.intro; apply And.intro; focus (apply hop_go rfl rfl; intro K' hK; simp [-List.reduceReplicate, -List.getD_eq_getElem?_getD, viewM, visOf, memL, hft, hft2, hcb3, ht0, htl, he, hcb2, hB2, Nat.add_sub_cancel_left, nuT, kOf, datOf, pureQ, pure71, pureG, pureL, pureH, smem, tagE]; (repeat' apply And.intro); all_goals first | exact hK | omega))
            apply h3_guard rfl rfl rfl rfl rfl (Nat.le_of_ble_eq_true rfl) rfl
            · intro _
              (apply Exists.intro; apply Exists.intro; apply And.intro; focus (apply hop_go rfl rfl; intro K' hK; simp [-List.reduceReplicate, -List.getD_eq_getElem?_getD, viewM, visOf, memL, hft, hft2, hcb3, ht0, htl, he, hcb2, hB2, Nat.add_sub_cancel_left, nuT, kOf, datOf, pureQ, pure71, pureG, pureL, pureH, smem, tagE]; (repeat' apply And.intro); all_goals first | exact hK | omega))
              apply h3_guard rfl rfl rfl rfl rfl (Nat.le_of_ble_eq_true rfl) rfl
              · intro _
                (apply Exists.intro; apply Exists.intro; apply And.intro; focus (apply hop_go rfl rfl; intro K' hK; simp [-List.reduceReplicate, -List.getD_eq_getElem?_getD, viewM, visOf, memL, hft, hft2, hcb3, ht0, htl, he, hcb2, hB2, Nat.add_sub_cancel_left, nuT, kOf, datOf, pureQ, pure71, pureG, pureL, pureH, smem, tagE]; (repeat' apply And.intro); all_goals first | exact hK | omega))
                apply h3_guard rfl rfl rfl rfl rfl (Nat.le_of_ble_eq_true rfl) rfl
                · intro _
                  (apply Exists.intro; apply Exists.intro; apply And.intro; focus (apply hop_go rfl rfl; intro K' hK; simp [-List.reduceReplicate, -List.getD_eq_getElem?_getD, viewM, visOf, memL, hft, hft2, hcb3, ht0, htl, he, hcb2, hB2, Nat.add_sub_cancel_left, nuT, kOf, datOf, pureQ, pure71, pureG, pureL, pureH, smem, tagE]; (repeat' apply And.intro); all_goals first | exact hK | omega))
                  apply h3_guard rfl rfl rfl rfl rfl (Nat.le_of_ble_eq_true rfl) rfl
                  · intro _
                    (apply Exists.intro; apply Exists.intro; apply And.intro; focus (apply hop_go rfl rfl; intro K' hK; simp [-List.reduceReplicate, -List.getD_eq_getElem?_getD, viewM, visOf, memL, hft, hft2, hcb3, ht0, htl, he, hcb2, hB2, Nat.add_sub_cancel_left, nuT, kOf, datOf, pureQ, pure71, pureG, pureL, pureH, smem, tagE]; (repeat' apply And.intro); all_goals first | exact hK | omega))
                    apply h3_guard rfl rfl rfl rfl rfl (Nat.le_of_ble_eq_true rfl) rfl
                    · intro _
                      (apply Exists.intro; apply Exists.intro; apply And.intro; focus (apply hop_call; simp [newOf, -List.reduceReplicate, -List.getD_eq_getElem?_getD, viewM, visOf, memL, hft, hft2, hcb3, ht0, htl, he, hcb2, hB2, Nat.add_sub_cancel_left, nuT, kOf, datOf, pureQ, pure71, pureG, pureL, pureH, smem, tagE]; first | done | exact ⟨rfl, rfl⟩ | rfl))
                      apply h3_guard rfl rfl rfl rfl rfl (Nat.le_of_ble_eq_true rfl) rfl
                      · intro _
                        (apply Exists.intro; apply Exists.intro; apply And.intro; focus (apply hop_go rfl rfl; intro K' hK; simp [-List.reduceReplicate, -List.getD_eq_getElem?_getD, viewM, visOf, memL, hft, hft2, hcb3, ht0, htl, he, hcb2, hB2, Nat.add_sub_cancel_left, nuT, kOf, datOf, pureQ, pure71, pureG, pureL, pureH, smem, tagE]; (repeat' apply And.intro); all_goals first | exact hK | omega))
                        apply h3_guard rfl rfl rfl rfl rfl (Nat.le_of_ble_eq_true rfl) rfl
                        · intro _
                          (apply Exists.intro; apply Exists.intro; apply And.intro; focus (apply hop_go rfl rfl; intro K' hK; simp [-List.reduceReplicate, -List.getD_eq_getElem?_getD, viewM, visOf, memL, hft, hft2, hcb3, ht0, htl, he, hcb2, hB2, Nat.add_sub_cancel_left, nuT, kOf, datOf, pureQ, pure71, pureG, pureL, pureH, smem, tagE]; (repeat' apply And.intro); all_goals first | exact hK | omega))
                          apply h3_guard rfl rfl rfl rfl rfl (Nat.le_of_ble_eq_true rfl) rfl
                          · intro _
                            (apply Exists.intro; apply Exists.intro; apply And.intro; focus (apply hop_go rfl rfl; intro K' hK; simp [-List.reduceReplicate, -List.getD_eq_getElem?_getD, viewM, visOf, memL, hft, hft2, hcb3, ht0, htl, he, hcb2, hB2, Nat.add_sub_cancel_left, nuT, kOf, datOf, pureQ, pure71, pureG, pureL, pureH, smem, tagE]; (repeat' apply And.intro); all_goals first | exact hK | omega))
                            apply h3_guard rfl rfl rfl rfl rfl (Nat.le_of_ble_eq_true rfl) rfl
                            · intro _
                              (apply Exists.intro; apply Exists.intro; apply And.intro; focus (apply hop_go rfl rfl; intro K' hK; simp [-List.reduceReplicate, -List.getD_eq_getElem?_getD, viewM, visOf, memL, hft, hft2, hcb3, ht0, htl, he, hcb2, hB2, Nat.add_sub_cancel_left, nuT, kOf, datOf, pureQ, pure71, pureG, pureL, pureH, smem, tagE]; (repeat' apply And.intro); all_goals first | exact hK | omega))
                              apply h3_guard rfl rfl rfl rfl rfl (Nat.le_of_ble_eq_true rfl) rfl
                              · intro _
                                (apply Exists.intro; apply Exists.intro; apply And.intro; focus (apply hop_go rfl rfl; intro K' hK; simp [-List.reduceReplicate, -List.getD_eq_getElem?_getD, viewM, visOf, memL, hft, hft2, hcb3, ht0, htl, he, hcb2, hB2, Nat.add_sub_cancel_left, nuT, kOf, datOf, pureQ, pure71, pureG, pureL, pureH, smem, tagE]; (repeat' apply And.intro); all_goals first | exact hK | omega))
                                refine h3_nil ?_
                                simp [finL, contL, contAt, stT, List.range, List.range.loop, -List.reduceReplicate]
                                refine ok_run hB tabOK pureQ_ok 100 ?_
                                repeat (first
    | rw [run_ops0]
    | rw [run_seq]
    | rw [run_region]
    | rw [run_block]
    | rw [run_blk]
    | rw [run_skip]
    | (apply run_go rfl; focus (intro L K hK; simp [-List.reduceReplicate, -List.getD_eq_getElem?_getD, he]; (repeat' apply And.intro); all_goals first | exact hK | omega)))
                                apply run_cond2 rfl
                                · intro _
                                  repeat (first
    | rw [run_ops0]
    | rw [run_seq]
    | rw [run_region]
    | rw [run_block]
    | rw [run_blk]
    | rw [run_skip]
    | (apply run_go rfl; focus (intro L K hK; simp [-List.reduceReplicate, -List.getD_eq_getElem?_getD]; (repeat' apply And.intro); all_goals first | exact hK | omega)))
                                  rw [run_ret]
                                  simp [-List.reduceReplicate, -List.getD_eq_getElem?_getD, results29, f29, smem, tagE, hTG]
                                · intro h; first | cases h | (simp [he] at h; done)
                              · intro h; first | cases h | (simp at h; done)
                            · intro h; first | cases h | (simp at h; done)
                          · intro h; first | cases h | (simp at h; done)
                        · intro h; first | cases h | (simp at h; done)
                      · intro h; first | cases h | (simp at h; done)
                    · intro h; first | cases h | (simp at h; done)
                  · intro h; first | cases h | (simp at h; done)
                · intro h; first | cases h | (simp at h; done)
              · intro h; first | cases h | (simp at h; done)
            · intro h; first | cases h | (simp at h; done)
          · intro h; first | cases h | (simp at h; done)
        · intro h; first | cases h | (simp at h; done)
      · intro h; first | cases h | (simp at h; done)
    · intro h; first | cases h | (simp at h; done)
  · intro h; first | cases h | (simp at h; done)
theorem spec29nO (W N B : B8) (nr cap on cn ob n cb : Nat) (hW : 16 * nr ≤ W.length) (hR : 0 < nr) (hR2 : nr < 1000) (hN : on + 12 ≤ N.length) (hcn : 12 ≤ cn) (hb : ob + (n + 16) ≤ B.length) (hcb : (n + 16) ≤ cb) (hmx : (n + 16) ≤ 1000000000) (he : eqAns (tagB W nr ((N.drop on).take 12) ([] : B8) ((B.drop ob).take n)) (B.drop (ob + n)) 16 16 = true) :
    Spec prog 29 [one (.ptr 0 0 0), one (.sl 2 on 12 cn 1), one .snil, one (.sl 3 ob (n + 16) cb 1)] (smem nr cap W N B) [] (fun r m => r = .tup [.s (.sl 7 0 n n 1), .s (.i 0)] ∧ m = smem nr cap W N B ++ (tagE W nr ((N.drop on).take 12) ([] : B8) ((B.drop ob).take n) ++ ([⟨true, 5, none, .a8 (stO W nr ((N.drop on).take 12) ((B.drop ob).take n) n)⟩, ⟨true, 23, some 16, .a8 (stC ((N.drop on).take 12) n)⟩] : List Ent)).map .ent) := by
  refine spec_of_body tabOK func29 rfl (Nat.le_of_ble_eq_true rfl) ?_
  intro E Q0 hB
  refine ok_run hB tabOK pureQ_ok 100 ?_
  simp only [argSl, smem, List.cons_append, List.nil_append]
  have hft : tFit W N B nr on cn ob n cb := ⟨hW, hR, hR2, hN, hcn, by omega, by omega, by omega⟩
  have hft2 : ((n : Int) + 16).toNat = n + 16 := by omega
  have hcb3 : (n : Int) + 16 ≤ ((cb - n : Nat) : Int) + (n : Int) := by omega
  obtain ⟨TG, hTG⟩ : ∃ TG, tagB W nr ((N.drop on).take 12) ([] : B8) ((B.drop ob).take n) = TG := ⟨_, rfl⟩
  have htl : TG.length = 16 := by rw [← hTG]; unfold tagB; rw [tagX_len, hashG_len]
  rw [hTG] at he
  have ht0 := hTG
  have hcb2 : 16 ≤ cb - n := by omega
  have hB2 : ob + n + 16 ≤ B.length := by omega
  repeat (first
    | rw [run_ops0]
    | rw [run_seq]
    | rw [run_region]
    | rw [run_block]
    | rw [run_blk]
    | rw [run_skip]
    | (apply run_go rfl; focus (intro L K hK; simp [-List.reduceReplicate, -List.getD_eq_getElem?_getD]; (repeat' apply And.intro); all_goals first | exact hK | omega)))
  apply run_guard rfl rfl rfl rfl
  · intro _
    (apply Exists.intro; apply And.intro; focus (intro L K hK; simp [-List.reduceReplicate, -List.getD_eq_getElem?_getD]; (repeat' apply And.intro); all_goals first | exact hK | omega))
    apply run_guard rfl rfl rfl rfl
    · intro _
      (apply Exists.intro; apply And.intro; focus (intro L K hK; simp [-List.reduceReplicate, -List.getD_eq_getElem?_getD]; (repeat' apply And.intro); all_goals first | exact hK | omega))
      apply run_guard rfl rfl rfl rfl
      · intro _
        (apply Exists.intro; apply And.intro; focus (intro L K hK; simp [-List.reduceReplicate, -List.getD_eq_getElem?_getD]; (repeat' apply And.intro); all_goals first | exact hK | omega))
        repeat (first
    | rw [run_ops0]
    | rw [run_seq]
    | rw [run_region]
    | rw [run_block]
    | rw [run_blk]
    | rw [run_skip]
    | (apply run_go rfl; focus (intro L K hK; simp [-List.reduceReplicate, -List.getD_eq_getElem?_getD]; (repeat' apply And.intro); all_goals first | exact hK | omega)))
        apply run_cond2 rfl
        · intro h; first | cases h | (simp at h; done)
        intro _
        repeat (first
    | rw [run_ops0]
    | rw [run_seq]
    | rw [run_region]
    | rw [run_block]
    | rw [run_blk]
    | rw [run_skip]
    | (apply run_go rfl; focus (intro L K hK; simp [-List.reduceReplicate, -List.getD_eq_getElem?_getD]; (repeat' apply And.intro); all_goals first | exact hK | omega)))
        rw [run_draw]
        refine ok_draw5 15 [(13, [9])] [] tabOK pureQ_ok nuT_ok pureQ_sub nuT_sub mixed (by decide +kernel) rfl rfl ?_
        repeat (first
    | (apply h3_go rfl rfl rfl rfl rfl (Nat.le_of_ble_eq_true rfl) rfl; focus (intro K' hK; simp [-List.reduceReplicate, -List.getD_eq_getElem?_getD, viewM, visOf, memL, hft, hft2, hcb3, ht0, htl, he, hcb2, hB2, Nat.add_sub_cancel_left, nuT, kOf, datOf, pureQ, pure71, pureG, pureL, pureH, smem, tagE]; (repeat' apply And.intro); all_goals first | exact hK | omega))
    | (apply h3_new rfl rfl rfl rfl rfl (Nat.le_of_ble_eq_true rfl) rfl; focus (intro K' hK; simp [-List.reduceReplicate, -List.getD_eq_getElem?_getD, viewM, visOf, memL, hft, hft2, hcb3, ht0, htl, he, hcb2, hB2, Nat.add_sub_cancel_left, nuT, kOf, datOf, pureQ, pure71, pureG, pureL, pureH, smem, tagE]; (repeat' apply And.intro); all_goals first | exact hK | omega)))
        apply h3_guard rfl rfl rfl rfl rfl (Nat.le_of_ble_eq_true rfl) rfl
        · intro _
          (apply Exists.intro; apply Exists.intro; apply And.intro; focus (apply hop_go rfl rfl; intro K' hK; simp [-List.reduceReplicate, -List.getD_eq_getElem?_getD, viewM, visOf, memL, hft, hft2, hcb3, ht0, htl, he, hcb2, hB2, Nat.add_sub_cancel_left, nuT, kOf, datOf, pureQ, pure71, pureG, pureL, pureH, smem, tagE]; (repeat' apply And.intro); all_goals first | exact hK | omega))
          apply h3_guard rfl rfl rfl rfl rfl (Nat.le_of_ble_eq_true rfl) rfl
          · intro _
            (apply Exists.intro; apply Exists.intro; apply And.intro; focus (apply hop_go rfl rfl; intro K' hK; simp [-List.reduceReplicate, -List.getD_eq_getElem?_getD, viewM, visOf, memL, hft, hft2, hcb3, ht0, htl, he, hcb2, hB2, Nat.add_sub_cancel_left, nuT, kOf, datOf, pureQ, pure71, pureG, pureL, pureH, smem, tagE]; (repeat' apply And.intro); all_goals first | exact hK | omega))
            apply h3_guard rfl rfl rfl rfl rfl (Nat.le_of_ble_eq_true rfl) rfl
            · intro _
              (apply Exists.intro; apply Exists.intro; apply And.intro; focus (apply hop_go rfl rfl; intro K' hK; simp [-List.reduceReplicate, -List.getD_eq_getElem?_getD, viewM, visOf, memL, hft, hft2, hcb3, ht0, htl, he, hcb2, hB2, Nat.add_sub_cancel_left, nuT, kOf, datOf, pureQ, pure71, pureG, pureL, pureH, smem, tagE]; (repeat' apply And.intro); all_goals first | exact hK | omega))
              apply h3_guard rfl rfl rfl rfl rfl (Nat.le_of_ble_eq_true rfl) rfl
              · intro _
                (apply Exists.intro; apply Exists.intro; apply And.intro; focus (apply hop_go rfl rfl; intro K' hK; simp [-List.reduceReplicate, -List.getD_eq_getElem?_getD, viewM, visOf, memL, hft, hft2, hcb3, ht0, htl, he, hcb2, hB2, Nat.add_sub_cancel_left, nuT, kOf, datOf, pureQ, pure71, pureG, pureL, pureH, smem, tagE]; (repeat' apply And.intro); all_goals first | exact hK | omega))
                apply h3_guard rfl rfl rfl rfl rfl (Nat.le_of_ble_eq_true rfl) rfl
                · intro _
                  (apply Exists.intro; apply Exists.intro; apply And.intro; focus (apply hop_go rfl rfl; intro K' hK; simp [-List.reduceReplicate, -List.getD_eq_getElem?_getD, viewM, visOf, memL, hft, hft2, hcb3, ht0, htl, he, hcb2, hB2, Nat.add_sub_cancel_left, nuT, kOf, datOf, pureQ, pure71, pureG, pureL, pureH, smem, tagE]; (repeat' apply And.intro); all_goals first | exact hK | omega))
                  apply h3_guard rfl rfl rfl rfl rfl (Nat.le_of_ble_eq_true rfl) rfl
                  · intro _
                    (apply Exists.intro; apply Exists.intro; apply And.intro; focus (apply hop_go rfl rfl; intro K' hK; simp [-List.reduceReplicate, -List.getD_eq_getElem?_getD, viewM, visOf, memL, hft, hft2, hcb3, ht0, htl, he, hcb2, hB2, Nat.add_sub_cancel_left, nuT, kOf, datOf, pureQ, pure71, pureG, pureL, pureH, smem, tagE]; (repeat' apply And.intro); all_goals first | exact hK | omega))
                    apply h3_guard rfl rfl rfl rfl rfl (Nat.le_of_ble_eq_true rfl) rfl
                    · intro _
                      (apply Exists.intro; apply Exists.intro; apply And.intro; focus (apply hop_call; simp [newOf, -List.reduceReplicate, -List.getD_eq_getElem?_getD, viewM, visOf, memL, hft, hft2, hcb3, ht0, htl, he, hcb2, hB2, Nat.add_sub_cancel_left, nuT, kOf, datOf, pureQ, pure71, pureG, pureL, pureH, smem, tagE]; first | done | exact ⟨rfl, rfl⟩ | rfl))
                      apply h3_guard rfl rfl rfl rfl rfl (Nat.le_of_ble_eq_true rfl) rfl
                      · intro _
                        (apply Exists.intro; apply Exists.intro; apply And.intro; focus (apply hop_go rfl rfl; intro K' hK; simp [-List.reduceReplicate, -List.getD_eq_getElem?_getD, viewM, visOf, memL, hft, hft2, hcb3, ht0, htl, he, hcb2, hB2, Nat.add_sub_cancel_left, nuT, kOf, datOf, pureQ, pure71, pureG, pureL, pureH, smem, tagE]; (repeat' apply And.intro); all_goals first | exact hK | omega))
                        apply h3_guard rfl rfl rfl rfl rfl (Nat.le_of_ble_eq_true rfl) rfl
                        · intro _
                          (apply Exists.intro; apply Exists.intro; apply And.intro; focus (apply hop_go rfl rfl; intro K' hK; simp [-List.reduceReplicate, -List.getD_eq_getElem?_getD, viewM, visOf, memL, hft, hft2, hcb3, ht0, htl, he, hcb2, hB2, Nat.add_sub_cancel_left, nuT, kOf, datOf, pureQ, pure71, pureG, pureL, pureH, smem, tagE]; (repeat' apply And.intro); all_goals first | exact hK | omega))
                          apply h3_guard rfl rfl rfl rfl rfl (Nat.le_of_ble_eq_true rfl) rfl
                          · intro _
                            (apply Exists.intro; apply Exists.intro; apply And.intro; focus (apply hop_go rfl rfl; intro K' hK; simp [-List.reduceReplicate, -List.getD_eq_getElem?_getD, viewM, visOf, memL, hft, hft2, hcb3, ht0, htl, he, hcb2, hB2, Nat.add_sub_cancel_left, nuT, kOf, datOf, pureQ, pure71, pureG, pureL, pureH, smem, tagE]; (repeat' apply And.intro); all_goals first | exact hK | omega))
                            apply h3_guard rfl rfl rfl rfl rfl (Nat.le_of_ble_eq_true rfl) rfl
                            · intro _
                              (apply Exists.intro; apply Exists.intro; apply And.intro; focus (apply hop_go rfl rfl; intro K' hK; simp [-List.reduceReplicate, -List.getD_eq_getElem?_getD, viewM, visOf, memL, hft, hft2, hcb3, ht0, htl, he, hcb2, hB2, Nat.add_sub_cancel_left, nuT, kOf, datOf, pureQ, pure71, pureG, pureL, pureH, smem, tagE]; (repeat' apply And.intro); all_goals first | exact hK | omega))
                              apply h3_guard rfl rfl rfl rfl rfl (Nat.le_of_ble_eq_true rfl) rfl
                              · intro _
                                (apply Exists.intro; apply Exists.intro; apply And.intro; focus (apply hop_go rfl rfl; intro K' hK; simp [-List.reduceReplicate, -List.getD_eq_getElem?_getD, viewM, visOf, memL, hft, hft2, hcb3, ht0, htl, he, hcb2, hB2, Nat.add_sub_cancel_left, nuT, kOf, datOf, pureQ, pure71, pureG, pureL, pureH, smem, tagE]; (repeat' apply And.intro); all_goals first | exact hK | omega))
                                refine h3_nil ?_
                                simp [finL, contL, contAt, stT, List.range, List.range.loop, -List.reduceReplicate]
                                refine ok_run hB tabOK pureQ_ok 100 ?_
                                repeat (first
    | rw [run_ops0]
    | rw [run_seq]
    | rw [run_region]
    | rw [run_block]
    | rw [run_blk]
    | rw [run_skip]
    | (apply run_go rfl; focus (intro L K hK; simp [-List.reduceReplicate, -List.getD_eq_getElem?_getD, he]; (repeat' apply And.intro); all_goals first | exact hK | omega)))
                                apply run_cond2 rfl
                                · intro h; first | cases h | (simp [he] at h; done)
                                intro _
                                repeat (first
    | rw [run_ops0]
    | rw [run_seq]
    | rw [run_region]
    | rw [run_block]
    | rw [run_blk]
    | rw [run_skip]
    | (apply run_go rfl; focus (intro L K hK; simp [-List.reduceReplicate, -List.getD_eq_getElem?_getD]; (repeat' apply And.intro); all_goals first | exact hK | omega)))
                                refine run_call rfl rfl rfl rfl ?_
                                refine ok_call [0, 1, 2, 3] rfl rfl ⟨f69, func69, nofun, by decide⟩ (spec69 W N B nr cap on cn ob n cb hW hR hR2 hN hcn (by omega) (by omega) (by omega)) trivial (by simp) (by simp [smem, matchM, ix, renA, renSeg, renR, renS, belA, belR, belS, A.len, segLen]) rfl rfl (Nat.le_of_ble_eq_true rfl) ?_
                                rintro sv m' ⟨rfl, rfl⟩ _
                                simp only [smem, tagE, afterM, putM, renMk, renA, renSeg, renR, renS, renV, ix, St.put, List.map_cons, List.map_nil, List.drop, List.length_cons, List.length_nil, List.cons_append, List.nil_append, one]
                                simp [-List.reduceReplicate]
                                refine ok_run hB tabOK pureQ_ok 100 ?_
                                repeat (first
    | rw [run_ops0]
    | rw [run_seq]
    | rw [run_region]
    | rw [run_block]
    | rw [run_blk]
    | rw [run_skip]
    | (apply run_go rfl; focus (intro L K hK; simp [-List.reduceReplicate, -List.getD_eq_getElem?_getD]; (repeat' apply And.intro); all_goals first | exact hK | omega)))
                                rw [run_ret]
                                simp [-List.reduceReplicate, -List.getD_eq_getElem?_getD, results29, f29, smem, tagE, hTG]
                              · intro h; first | cases h | (simp at h; done)
                            · intro h; first | cases h | (simp at h; done)
                          · intro h; first | cases h | (simp at h; done)
                        · intro h; first | cases h | (simp at h; done)
                      · intro h; first | cases h | (simp at h; done)
                    · intro h; first | cases h | (simp at h; done)
                  · intro h; first | cases h | (simp at h; done)
                · intro h; first | cases h | (simp at h; done)
              · intro h; first | cases h | (simp at h; done)
            · intro h; first | cases h | (simp at h; done)
          · intro h; first | cases h | (simp at h; done)
        · intro h; first | cases h | (simp at h; done)
      · intro h; first | cases h | (simp at h; done)
    · intro h; first | cases h | (simp at h; done)
  · intro h; first | cases h | (simp at h; done)
end Go.V
end
section
set_option linter.unusedSimpArgs false
set_option linter.unusedVariables false
set_option maxRecDepth 10000
namespace Go.V
open Go Go.Proofs.Try
theorem sound6 : (tagB (sch (List.replicate 16 0#8) 4 (4 * (4 + 7))).1 11 (((List.replicate 12 0#8).drop 0).take 12) [] []).getD 0 0#8 = 88#8 ∧ (tagB (sch (List.replicate 16 0#8) 4 (4 * (4 + 7))).1 11 (((List.replicate 12 0#8).drop 0).take 12) [] []).getD 15 0#8 = 90#8 := by decide +kernel
theorem eqAns_self (a : B8) : eqAns a a 16 16 = true := by
  unfold eqAns
  have h := (eqAcc_zero a a 16).2 (fun _ _ => rfl)
  simp [h]
theorem spec25 : Spec prog 25 [] [] [] (fun r _ => r = one (.b true)) := by
  refine spec_of_body tabOK func25 rfl (Nat.le_of_ble_eq_true rfl) ?_
  intro E Q0 hB
  refine ok_run hB tabOK pureNone_ok 100 ?_
  simp only [argSl]
  have hz16 : (List.replicate 16 0#8).length = 16 := by simp [-List.reduceReplicate]
  have hz12 : (List.replicate 12 0#8).length = 12 := by simp [-List.reduceReplicate]
  have hv := sound6
  generalize hZ16 : List.replicate 16 0#8 = Z16 at hz16 hv
  generalize hZ12 : List.replicate 12 0#8 = Z12 at hz12 hv
  repeat (first
    | rw [run_ops0]
    | rw [run_seq]
    | rw [run_region]
    | rw [run_block]
    | rw [run_blk]
    | rw [run_skip]
    | (apply run_go rfl; focus (intro L K hK; simp [-List.reduceReplicate, -List.getD_eq_getElem?_getD, hZ16]; (repeat' apply And.intro); all_goals first | exact hK | omega)))
  refine run_call rfl rfl rfl rfl ?_
  refine ok_call [0] rfl rfl ⟨f21, func21, nofun, by decide⟩ (spec21 Z16 4 16 (by omega) (.inl rfl) (by decide)) trivial (by simp) (by simp [matchM, ix, renA, belA]) rfl rfl (Nat.le_of_ble_eq_true rfl) ?_
  rintro sv m' ⟨rfl, cap, rfl⟩ _
  have hwl := sch_len (key := Z16) (nk := 4) (by omega) (by omega) (4 * (4 + 7))
  simp only [newMem, smem, tagE, afterM, putM, renMk, renA, renSeg, renR, renS, renV, ix, St.put, List.map_cons, List.map_nil, List.drop, List.length_cons, List.length_nil, List.cons_append, List.nil_append, one]
  generalize (sch Z16 4 (4 * (4 + 7))).1 = W at hv hwl ⊢
  simp [-List.reduceReplicate]
  refine ok_run hB tabOK pureNone_ok 100 ?_
  repeat (first
    | rw [run_ops0]
    | rw [run_seq]
    | rw [run_region]
    | rw [run_block]
    | rw [run_blk]
    | rw [run_skip]
    | (apply run_go rfl; focus (intro L K hK; simp [-List.reduceReplicate, -List.getD_eq_getElem?_getD, hZ12]; (repeat' apply And.intro); all_goals first | exact hK | omega)))
  refine run_call rfl rfl rfl rfl ?_
  refine ok_call [2, 3, 4] rfl rfl ⟨f28, func28, nofun, by decide⟩ (spec28n W Z12 11 cap 0 12 (by omega) (by omega) (by omega) (by omega) (by omega)) trivial (by simp) (by simp [smem, matchM, ix, renA, renSeg, renR, renS, belA, belR, belS, A.len, segLen]) rfl rfl (Nat.le_of_ble_eq_true rfl) ?_
  rintro sv m' ⟨cap2, hcap2, rfl, rfl⟩ _
  have htl : (tagB W 11 ((Z12.drop 0).take 12) [] []).length = 16 := by unfold tagB; rw [tagX_len, hashG_len]
  obtain ⟨TG, hTG⟩ : ∃ TG, tagB W 11 ((Z12.drop 0).take 12) [] [] = TG := ⟨_, rfl⟩
  rw [hTG] at hv htl
  have hTG2 : tagB W 11 (Z12.take 12) [] [] = TG := hTG
  simp only [smem, tagE, afterM, putM, renMk, renA, renSeg, renR, renS, renV, ix, St.put, List.map_cons, List.map_nil, List.drop, List.length_cons, List.length_nil, List.cons_append, List.nil_append, one]
  simp only [hTG2]
  simp [-List.reduceReplicate]
  refine ok_run hB tabOK pureNone_ok 100 ?_
  repeat (first
    | rw [run_ops0]
    | rw [run_seq]
    | rw [run_region]
    | rw [run_block]
    | rw [run_blk]
    | rw [run_skip]
    | (apply run_go rfl; focus (intro L K hK; simp [-List.reduceReplicate, -List.getD_eq_getElem?_getD, hZ12]; (repeat' apply And.intro); all_goals first | exact hK | omega)))
  refine run_call rfl rfl rfl rfl ?_
  refine ok_call [2, 3, 10, 5] rfl rfl ⟨f29, func29, nofun, by decide⟩ (spec29nO W Z12 TG 11 cap 0 12 0 0 cap2 (by omega) (by omega) (by omega) (by omega) (by omega) (by omega) (by omega) (by omega) (by rw [List.take_zero, hTG]; exact eqAns_self TG)) trivial (by simp) (by simp [smem, matchM, ix, renA, renSeg, renR, renS, belA, belR, belS, A.len, segLen]) rfl rfl (Nat.le_of_ble_eq_true rfl) ?_
  rintro sv m' ⟨rfl, rfl⟩ _
  simp only [smem, tagE, afterM, putM, renMk, renA, renSeg, renR, renS, renV, ix, St.put, List.map_cons, List.map_nil, List.drop, List.length_cons, List.length_nil, List.cons_append, List.nil_append, one]
  simp [-List.reduceReplicate]
  refine ok_run hB tabOK pureNone_ok 100 ?_
  repeat (first
    | rw [run_ops0]
    | rw [run_seq]
    | rw [run_region]
    | rw [run_block]
    | rw [run_blk]
    | rw [run_skip]
    | (apply run_go rfl; focus (intro L K hK; simp [-List.reduceReplicate, -List.getD_eq_getElem?_getD, hv, htl]; (repeat' apply And.intro); all_goals first | exact hK | omega)))
  apply run_guard rfl rfl rfl rfl
  · intro _
    (apply Exists.intro; apply And.intro; focus (intro L K hK; simp [-List.reduceReplicate, -List.getD_eq_getElem?_getD, hv, htl]; (repeat' apply And.intro); all_goals first | exact hK | omega))
    apply run_guard rfl rfl rfl rfl
    · intro _
      (apply Exists.intro; apply And.intro; focus (intro L K hK; simp [-List.reduceReplicate, -List.getD_eq_getElem?_getD, hv, htl]; (repeat' apply And.intro); all_goals first | exact hK | omega))
      apply run_guard rfl rfl rfl rfl
      · intro _
        (apply Exists.intro; apply And.intro; focus (intro L K hK; simp [-List.reduceReplicate, -List.getD_eq_getElem?_getD, hv, htl]; (repeat' apply And.intro); all_goals first | exact hK | omega))
        repeat (first
    | rw [run_ops0]
    | rw [run_seq]
    | rw [run_region]
    | rw [run_block]
    | rw [run_blk]
    | rw [run_skip]
    | (apply run_go rfl; focus (intro L K hK; simp [-List.reduceReplicate, -List.getD_eq_getElem?_getD, hv, htl]; (repeat' apply And.intro); all_goals first | exact hK | omega)))
        apply run_guard rfl rfl rfl rfl
        · intro _
          (apply Exists.intro; apply And.intro; focus (intro L K hK; simp [-List.reduceReplicate, -List.getD_eq_getElem?_getD, hv, htl]; (repeat' apply And.intro); all_goals first | exact hK | omega))
          apply run_guard rfl rfl rfl rfl
          · intro _
            (apply Exists.intro; apply And.intro; focus (intro L K hK; simp [-List.reduceReplicate, -List.getD_eq_getElem?_getD, hv, htl]; (repeat' apply And.intro); all_goals first | exact hK | omega))
            apply run_guard rfl rfl rfl rfl
            · intro _
              (apply Exists.intro; apply And.intro; focus (intro L K hK; simp [-List.reduceReplicate, -List.getD_eq_getElem?_getD, hv, htl]; (repeat' apply And.intro); all_goals first | exact hK | omega))
              apply run_guard rfl rfl rfl rfl
              · intro _
                (apply Exists.intro; apply And.intro; focus (intro L K hK; simp [-List.reduceReplicate, -List.getD_eq_getElem?_getD, hv, htl]; (repeat' apply And.intro); all_goals first | exact hK | omega))
                repeat (first
    | rw [run_ops0]
    | rw [run_seq]
    | rw [run_region]
    | rw [run_block]
    | rw [run_blk]
    | rw [run_skip]
    | (apply run_go rfl; focus (intro L K hK; simp [-List.reduceReplicate, -List.getD_eq_getElem?_getD, hv, htl]; (repeat' apply And.intro); all_goals first | exact hK | omega)))
                apply run_guard rfl rfl rfl rfl
                · intro _
                  (apply Exists.intro; apply And.intro; focus (intro L K hK; simp [-List.reduceReplicate, -List.getD_eq_getElem?_getD, hv, htl]; (repeat' apply And.intro); all_goals first | exact hK | omega))
                  apply run_guard rfl rfl rfl rfl
                  · intro _
                    (apply Exists.intro; apply And.intro; focus (intro L K hK; simp [-List.reduceReplicate, -List.getD_eq_getElem?_getD, hv, htl]; (repeat' apply And.intro); all_goals first | exact hK | omega))
                    apply run_guard rfl rfl rfl rfl
                    · intro _
                      (apply Exists.intro; apply And.intro; focus (intro L K hK; simp [-List.reduceReplicate, -List.getD_eq_getElem?_getD, hv, htl]; (repeat' apply And.intro); all_goals first | exact hK | omega))
                      apply run_guard rfl rfl rfl rfl
                      · intro _
                        (apply Exists.intro; apply And.intro; focus (intro L K hK; simp [-List.reduceReplicate, -List.getD_eq_getElem?_getD, hv, htl]; (repeat' apply And.intro); all_goals first | exact hK | omega))
                        repeat (first
    | rw [run_ops0]
    | rw [run_seq]
    | rw [run_region]
    | rw [run_block]
    | rw [run_blk]
    | rw [run_skip]
    | (apply run_go rfl; focus (intro L K hK; simp [-List.reduceReplicate, -List.getD_eq_getElem?_getD, hv, htl]; (repeat' apply And.intro); all_goals first | exact hK | omega)))
                        apply run_guard rfl rfl rfl rfl
                        · intro _
                          (apply Exists.intro; apply And.intro; focus (intro L K hK; simp [-List.reduceReplicate, -List.getD_eq_getElem?_getD, hv, htl]; (repeat' apply And.intro); all_goals first | exact hK | omega))
                          apply run_guard rfl rfl rfl rfl
                          · intro _
                            (apply Exists.intro; apply And.intro; focus (intro L K hK; simp [-List.reduceReplicate, -List.getD_eq_getElem?_getD, hv, htl]; (repeat' apply And.intro); all_goals first | exact hK | omega))
                            apply run_guard rfl rfl rfl rfl
                            · intro _
                              (apply Exists.intro; apply And.intro; focus (intro L K hK; simp [-List.reduceReplicate, -List.getD_eq_getElem?_getD, hv, htl]; (repeat' apply And.intro); all_goals first | exact hK | omega))
                              repeat (first
    | rw [run_ops0]
    | rw [run_seq]
    | rw [run_region]
    | rw [run_block]
    | rw [run_blk]
    | rw [run_skip]
    | (apply run_go rfl; focus (intro L K hK; simp [-List.reduceReplicate, -List.getD_eq_getElem?_getD, hv, htl]; (repeat' apply And.intro); all_goals first | exact hK | omega)))
                              rw [run_ret]
                              simp [-List.reduceReplicate, -List.getD_eq_getElem?_getD, results25, f25]
                            · intro h; first | (simp [hv] at h; done) | (simp at h; done)
                          · intro h; first | (simp [hv] at h; done) | (simp at h; done)
                        · intro h; first | (simp [hv] at h; done) | (simp at h; done)
                      · intro h; first | (simp [hv] at h; done) | (simp at h; done)
                    · intro h; first | (simp [hv] at h; done) | (simp at h; done)
                  · intro h; first | (simp [hv] at h; done) | (simp at h; done)
                · intro h; first | (simp [hv] at h; done) | (simp at h; done)
              · intro h; first | (simp [hv] at h; done) | (simp at h; done)
            · intro h; first | (simp [hv] at h; done) | (simp at h; done)
          · intro h; first | (simp [hv] at h; done) | (simp at h; done)
        · intro h; first | (simp [hv] at h; done) | (simp at h; done)
      · intro h; first | (simp [hv] at h; done) | (simp at h; done)
    · intro h; first | (simp [hv] at h; done) | (simp at h; done)
  · intro h; first | (simp [hv] at h; done) | (simp at h; done)
end Go.V
end
section
set_option linter.unusedSimpArgs false
set_option linter.unusedVariables false
set_option maxRecDepth 10000
namespace Go.V
open Go Go.Proofs.Try
theorem pYes25_ok : PureOK prog (pYes 25) := by
  intro m f svs sv h E w ℓ vs hm hd
  unfold pYes at h
  split at h
  · rename_i hf
    subst hf
    split at h
    · cases h
      exact ⟨⟨f25, func25, nofun, by decide⟩, pure_use spec25 (by simp) rfl hm [] (by simp) (by simp [matchM]) rfl (by simpa [renV, renA, renS, ix, one] using hd)⟩
    · cases h
  · cases h
/-- The document's hash over bytes in memory. -/
def pureDH : Pure := fun m f l => match f, l with
  | 27, [.one (.a8 h), .one (.s (.sl id1 off1 n1 cap1 1)), .one (.s (.sl id off n cap 1))] => match bytesOf m (.sl id1 off1 n1 cap1 1), bytesOf m (.sl id off n cap 1) with
    | some DA, some DC => if h.length = 16 ∧ id ≠ id1 then some (.one (.a8 (dHash h DA DC))) else none
    | _, _ => none
  | _, _ => none
theorem pureDH_sub : PureSub pureDH := by
  intro m m' f l v hs h
  unfold pureDH at h ⊢
  split at h
  · split at h
    · rename_i hb1 hb2
      simp only [bytesOf_sub hs hb1, bytesOf_sub hs hb2]
      exact h
    · cases h
  · cases h
theorem pureDH_ok : PureOK prog pureDH := by
  intro m f svs sv h E w ℓ vs hm hd
  unfold pureDH at h
  split at h
  · rename_i hh id1 off1 n1 cap1 id off n cap
    split at h
    · rename_i DA DC hb1 hb2
      split at h
      · rename_i hl
        obtain ⟨hl, hne⟩ := hl
        cases h
        obtain ⟨e, B, h1, h2, h3, h4, h5, rfl⟩ := bytesOf_sl hb2
        obtain ⟨e1, B1, k1, k2, k3, k4, k5, rfl⟩ := bytesOf_sl hb1
        exact ⟨⟨f27, func27, nofun, by decide⟩, pure_use (spec27 hh B1 B off1 n1 cap1 off n cap hl k3 h3 k4 h4 (by omega) (by omega)) (by simp) rfl hm [id, id1] (by simp [hne]) (by simp [matchM, ix, renA, belA, h1, h2, k1, k2]) rfl (by simpa [renV, renA, renS, ix, one] using hd)⟩
      · cases h
    · cases h
  · cases h
@[simp] def pureGH : Pure := PAt 25 (pYes 25) (PAt 26 pureH pureDH)
theorem pureGH_sub : PureSub pureGH := PAt_sub (pYes_sub 25) (PAt_sub pureH_sub pureDH_sub)
theorem pureGH_ok : PureOK prog pureGH := PAt_ok pYes25_ok (PAt_ok pureH_ok pureDH_ok)
theorem pureGH_mono : PureMono pureGH := mono_of_sub pureGH_sub
theorem spec7 (h A B : B8) (na ca nb cb : Nat) (hh : h.length = 16) (hA : A.length = na) (hca : na ≤ ca) (hBl : B.length = nb) (hcb : nb ≤ cb) (hm1 : ca ≤ 140737488351232) (hm2 : cb ≤ 140737488351232) : Spec prog 7 [.one (.a8 h), one (.sl 0 0 na ca 1), one (.sl 1 0 nb cb 1)] [.ent ⟨false, 5, none, .a8 A⟩, .ent ⟨false, 5, none, .a8 B⟩] [] (fun r _ => r = one (.b true)) := by
  have hA2 : na < 2 ^ 62 := by omega
  have hB2 : nb < 2 ^ 62 := by omega
  
  refine spec_of_body tabOK func7 rfl (Nat.le_of_ble_eq_true rfl) ?_; intro E Q0 hB; refine ok_run hB tabOK pureGH_ok 100 ?_; simp only [argSl]
  have hpd : h.take 16 = h := List.take_of_length_le (by omega)
  repeat (first
    | rw [run_ops0]
    | rw [run_seq]
    | rw [run_region]
    | rw [run_block]
    | rw [run_blk]
    | rw [run_skip]
    | apply run_exit2 rfl
    | apply run_cyes rfl
    | apply run_cno rfl
    | (rw [run_zero]; refine ok_run hB tabOK pureGH_ok 100 ?_)
    | (apply run_go rfl; focus (intro L K hK; simp [-List.reduceReplicate, -List.getD_eq_getElem?_getD, hh, hpd]; (repeat' apply And.intro); all_goals first | exact hK | omega))
    | (apply run_gyes rfl rfl rfl rfl; focus (intro L K hK; simp [-List.reduceReplicate, -List.getD_eq_getElem?_getD, hh, hpd]; (repeat' apply And.intro); all_goals first | exact hK | omega))
    | (apply run_gno rfl rfl rfl rfl rfl (Nat.le_of_ble_eq_true rfl); simp only [St.put])
    | (apply run_gtup rfl rfl rfl rfl (Nat.le_of_ble_eq_true rfl); simp only [St.put]))
  by_cases hs : 400 < na + nb
  · have hI : 400 < (na : Int) + (nb : Int) := by omega
    rw [run_draw]; refine ok_draw2 17 tabOK pureGH_ok pureGH_mono mixed (by decide +kernel) rfl rfl ?_
    repeat (first
    | (apply hd_go rfl rfl rfl rfl (Nat.le_of_ble_eq_true rfl); focus (intro K' hK; simp [-List.reduceReplicate, -List.getD_eq_getElem?_getD, hI]; (repeat' apply And.intro); all_goals first | exact hK | omega))
    | (apply hd_new rfl rfl rfl rfl (Nat.le_of_ble_eq_true rfl); focus (intro K' hK; simp [-List.reduceReplicate, -List.getD_eq_getElem?_getD, hI]; (repeat' apply And.intro); all_goals first | exact hK | omega))
    | (apply hd_gyes rfl rfl rfl rfl rfl (Nat.le_of_ble_eq_true rfl) rfl; focus (intro K' hK; simp [-List.reduceReplicate, -List.getD_eq_getElem?_getD, hI]; (repeat' apply And.intro); all_goals first | exact hK | omega))
    | apply hd_gno rfl rfl rfl rfl rfl (Nat.le_of_ble_eq_true rfl) rfl rfl
    | apply hd_past rfl rfl rfl rfl (Nat.le_of_ble_eq_true rfl) rfl)
    refine hd_nil ?_; simp only [List.map_nil, List.map_cons, List.append_nil]; refine ok_run hB tabOK pureGH_ok 100 ?_
    repeat (first
    | rw [run_ops0]
    | rw [run_seq]
    | rw [run_region]
    | rw [run_block]
    | rw [run_blk]
    | rw [run_skip]
    | apply run_exit2 rfl
    | apply run_cyes rfl
    | apply run_cno rfl
    | (rw [run_zero]; refine ok_run hB tabOK pureGH_ok 100 ?_)
    | (apply run_go rfl; focus (intro L K hK; simp [-List.reduceReplicate, -List.getD_eq_getElem?_getD, hI]; (repeat' apply And.intro); all_goals first | exact hK | omega))
    | (apply run_gyes rfl rfl rfl rfl; focus (intro L K hK; simp [-List.reduceReplicate, -List.getD_eq_getElem?_getD, hI]; (repeat' apply And.intro); all_goals first | exact hK | omega))
    | (apply run_gno rfl rfl rfl rfl rfl (Nat.le_of_ble_eq_true rfl); simp only [St.put])
    | (apply run_gtup rfl rfl rfl rfl (Nat.le_of_ble_eq_true rfl); simp only [St.put]))
    rw [run_ret]
    simp [-List.reduceReplicate, -List.getD_eq_getElem?_getD, results7, f7]
  · have hI : ¬ 400 < (na : Int) + (nb : Int) := by omega
    have hA3 : A.take na = A := List.take_of_length_le (by omega)
    have hB3 : B.take nb = B := List.take_of_length_le (by omega)
    have ha4 : na ≤ 140737488355328 := by omega
    have hb4 : nb ≤ 140737488355328 := by omega
    rw [run_draw]; refine ok_draw2 17 tabOK pureGH_ok pureGH_mono mixed (by decide +kernel) rfl rfl ?_
    repeat (first
    | (apply hd_go rfl rfl rfl rfl (Nat.le_of_ble_eq_true rfl); focus (intro K' hK; simp [-List.reduceReplicate, -List.getD_eq_getElem?_getD, hI, hh, pureH, pureDH, bytesOf, hA, hBl, hca, hcb, hA3, hB3, ha4, hb4, dHash_eq, hashG_len]; (repeat' apply And.intro); all_goals first | exact hK | omega))
    | (apply hd_new rfl rfl rfl rfl (Nat.le_of_ble_eq_true rfl); focus (intro K' hK; simp [-List.reduceReplicate, -List.getD_eq_getElem?_getD, hI, hh, pureH, pureDH, bytesOf, hA, hBl, hca, hcb, hA3, hB3, ha4, hb4, dHash_eq, hashG_len]; (repeat' apply And.intro); all_goals first | exact hK | omega))
    | (apply hd_gyes rfl rfl rfl rfl rfl (Nat.le_of_ble_eq_true rfl) rfl; focus (intro K' hK; simp [-List.reduceReplicate, -List.getD_eq_getElem?_getD, hI, hh, pureH, pureDH, bytesOf, hA, hBl, hca, hcb, hA3, hB3, ha4, hb4, dHash_eq, hashG_len]; (repeat' apply And.intro); all_goals first | exact hK | omega))
    | apply hd_gno rfl rfl rfl rfl rfl (Nat.le_of_ble_eq_true rfl) rfl rfl
    | apply hd_past rfl rfl rfl rfl (Nat.le_of_ble_eq_true rfl) rfl)
    refine hd_nil ?_; simp only [List.map_nil, List.map_cons, List.append_nil]; refine ok_run hB tabOK pureGH_ok 100 ?_
    repeat (first
    | rw [run_ops0]
    | rw [run_seq]
    | rw [run_region]
    | rw [run_block]
    | rw [run_blk]
    | rw [run_skip]
    | apply run_exit2 rfl
    | apply run_cyes rfl
    | apply run_cno rfl
    | (rw [run_zero]; refine ok_run hB tabOK pureGH_ok 100 ?_)
    | (apply run_go rfl; focus (intro L K hK; simp [-List.reduceReplicate, -List.getD_eq_getElem?_getD, hI, hh, pureH, pureDH, bytesOf, hA, hBl, hca, hcb, hA3, hB3, ha4, hb4, dHash_eq, hashG_len]; (repeat' apply And.intro); all_goals first | exact hK | omega))
    | (apply run_gyes rfl rfl rfl rfl; focus (intro L K hK; simp [-List.reduceReplicate, -List.getD_eq_getElem?_getD, hI, hh, pureH, pureDH, bytesOf, hA, hBl, hca, hcb, hA3, hB3, ha4, hb4, dHash_eq, hashG_len]; (repeat' apply And.intro); all_goals first | exact hK | omega))
    | (apply run_gno rfl rfl rfl rfl rfl (Nat.le_of_ble_eq_true rfl); simp only [St.put])
    | (apply run_gtup rfl rfl rfl rfl (Nat.le_of_ble_eq_true rfl); simp only [St.put]))
    rw [run_ret]
    simp [-List.reduceReplicate, -List.getD_eq_getElem?_getD, results7, f7]
end Go.V
end
