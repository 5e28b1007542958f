/- Texts of the walks, put together: Xm Ld Xn. No condition. -/
import Derived.Test.YtlnoehpjchglnaaMaf
section
set_option linter.unusedSimpArgs false
set_option linter.unusedVariables false
set_option maxRecDepth 10000
namespace Go.V
open Go Go.Proofs.Try
def fitB (nk nn na nb : Nat) : Bool := decide ((nk = 16 ∨ nk = 32) ∧ nn = 12 ∧ na ≤ 200 ∧ nb ≤ 300)
/-- What a law reads: four texts. -/
def jmem (K N D B : B8) : Mem := [.ent ⟨false, 5, none, .a8 K⟩, .ent ⟨false, 5, none, .a8 N⟩, .ent ⟨false, 5, none, .a8 D⟩, .ent ⟨false, 5, none, .a8 B⟩]
def jobV (nk ck nn cn na ca nb cb : Nat) : A := .st [⟨1, .s (.sl 0 0 nk ck 1)⟩, ⟨1, .s (.sl 1 0 nn cn 1)⟩, ⟨1, .s (.sl 2 0 na ca 1)⟩, ⟨1, .s (.sl 3 0 nb cb 1)⟩]
theorem spec30 (K N D B : B8) (nk ck nn cn na ca nb cb : Nat) : Spec prog 30 [.one (jobV nk ck nn cn na ca nb cb)] (jmem K N D B) [] (fun r _ => r = one (.b (fitB nk nn na nb))) := by
  refine spec_of_body tabOK func30 rfl (Nat.le_of_ble_eq_true rfl) ?_
  intro E Q0 hB
  refine ok_run hB tabOK pureNone_ok 100 ?_
  simp only [argSl, jmem, jobV]
  repeat (first
    | rw [run_ops0]
    | rw [run_seq]
    | rw [run_region]
    | rw [run_block]
    | rw [run_blk]
    | rw [run_skip]
    | (apply run_go rfl; focus (intro L K hK; simp [-List.reduceReplicate, -List.getD_eq_getElem?_getD, tab38, ty38, tab22, ty22, tab5, ty5, tab3, ty3, tab4, ty4, ntmps30]; (repeat' apply And.intro); all_goals first | exact hK | omega)))
  rcases Classical.em (nk = 16) with hk | hk
  · have hkI : (nk : Int) = 16 := by omega
    rcases Classical.em (nn = 12) with hn | hn
    · have hnI : (nn : Int) = 12 := by omega
      rcases Classical.em (na ≤ 200) with ha | ha
      · have haI : (na : Int) ≤ 200 := by omega
        rcases Classical.em (nb ≤ 300) with hb | hb
        · have hbI : (nb : Int) ≤ 300 := by omega
          repeat (first
    | rw [run_ops0]
    | rw [run_seq]
    | rw [run_region]
    | rw [run_block]
    | rw [run_blk]
    | rw [run_skip]
    | (apply run_go rfl; focus (intro L K hK; simp [-List.reduceReplicate, -List.getD_eq_getElem?_getD, tab38, ty38, tab22, ty22, tab5, ty5, tab3, ty3, tab4, ty4, ntmps30, hk, hkI, hn, hnI, ha, haI, hb, hbI]; (repeat' apply And.intro); all_goals first | exact hK | omega)))
          apply run_guard rfl rfl rfl rfl
          · intro h; first | cases h | (simp [hk, hkI, hn, hnI, ha, haI, hb, hbI] at h; done)
          intro _
          refine ⟨Nat.le_of_ble_eq_true rfl, ?_⟩
          simp only [St.put]
          apply run_guard rfl rfl rfl rfl
          · intro h; first | cases h | (simp [hk, hkI, hn, hnI, ha, haI, hb, hbI] at h; done)
          intro _
          refine ⟨Nat.le_of_ble_eq_true rfl, ?_⟩
          simp only [St.put]
          apply run_guard rfl rfl rfl rfl
          · intro h; first | cases h | (simp [hk, hkI, hn, hnI, ha, haI, hb, hbI] at h; done)
          intro _
          refine ⟨Nat.le_of_ble_eq_true rfl, ?_⟩
          simp only [St.put]
          apply run_guard rfl rfl rfl rfl
          · intro h; first | cases h | (simp [hk, hkI, hn, hnI, ha, haI, hb, hbI] at h; done)
          intro _
          refine ⟨Nat.le_of_ble_eq_true rfl, ?_⟩
          simp only [St.put]
          repeat (first
    | rw [run_ops0]
    | rw [run_seq]
    | rw [run_region]
    | rw [run_block]
    | rw [run_blk]
    | rw [run_skip]
    | (apply run_go rfl; focus (intro L K hK; simp [-List.reduceReplicate, -List.getD_eq_getElem?_getD, tab38, ty38, tab22, ty22, tab5, ty5, tab3, ty3, tab4, ty4, ntmps30, hk, hkI, hn, hnI, ha, haI, hb, hbI]; (repeat' apply And.intro); all_goals first | exact hK | omega)))
          apply run_guard rfl rfl rfl rfl
          · intro _
            (apply Exists.intro; apply And.intro; focus (intro L K hK; simp [-List.reduceReplicate, -List.getD_eq_getElem?_getD, tab38, ty38, tab22, ty22, tab5, ty5, tab3, ty3, tab4, ty4, ntmps30, hk, hkI, hn, hnI, ha, haI, hb, hbI]; (repeat' apply And.intro); all_goals first | exact hK | omega))
            apply run_guard rfl rfl rfl rfl
            · intro _
              (apply Exists.intro; apply And.intro; focus (intro L K hK; simp [-List.reduceReplicate, -List.getD_eq_getElem?_getD, tab38, ty38, tab22, ty22, tab5, ty5, tab3, ty3, tab4, ty4, ntmps30, hk, hkI, hn, hnI, ha, haI, hb, hbI]; (repeat' apply And.intro); all_goals first | exact hK | omega))
              apply run_guard rfl rfl rfl rfl
              · intro _
                (apply Exists.intro; apply And.intro; focus (intro L K hK; simp [-List.reduceReplicate, -List.getD_eq_getElem?_getD, tab38, ty38, tab22, ty22, tab5, ty5, tab3, ty3, tab4, ty4, ntmps30, hk, hkI, hn, hnI, ha, haI, hb, hbI]; (repeat' apply And.intro); all_goals first | exact hK | omega))
                apply run_guard rfl rfl rfl rfl
                · intro _
                  (apply Exists.intro; apply And.intro; focus (intro L K hK; simp [-List.reduceReplicate, -List.getD_eq_getElem?_getD, tab38, ty38, tab22, ty22, tab5, ty5, tab3, ty3, tab4, ty4, ntmps30, hk, hkI, hn, hnI, ha, haI, hb, hbI]; (repeat' apply And.intro); all_goals first | exact hK | omega))
                  repeat (first
    | rw [run_ops0]
    | rw [run_seq]
    | rw [run_region]
    | rw [run_block]
    | rw [run_blk]
    | rw [run_skip]
    | (apply run_go rfl; focus (intro L K hK; simp [-List.reduceReplicate, -List.getD_eq_getElem?_getD, tab38, ty38, tab22, ty22, tab5, ty5, tab3, ty3, tab4, ty4, ntmps30, hk, hkI, hn, hnI, ha, haI, hb, hbI]; (repeat' apply And.intro); all_goals first | exact hK | omega)))
                  apply run_guard rfl rfl rfl rfl
                  · intro _
                    (apply Exists.intro; apply And.intro; focus (intro L K hK; simp [-List.reduceReplicate, -List.getD_eq_getElem?_getD, tab38, ty38, tab22, ty22, tab5, ty5, tab3, ty3, tab4, ty4, ntmps30, hk, hkI, hn, hnI, ha, haI, hb, hbI]; (repeat' apply And.intro); all_goals first | exact hK | omega))
                    apply run_guard rfl rfl rfl rfl
                    · intro _
                      (apply Exists.intro; apply And.intro; focus (intro L K hK; simp [-List.reduceReplicate, -List.getD_eq_getElem?_getD, tab38, ty38, tab22, ty22, tab5, ty5, tab3, ty3, tab4, ty4, ntmps30, hk, hkI, hn, hnI, ha, haI, hb, hbI]; (repeat' apply And.intro); all_goals first | exact hK | omega))
                      apply run_guard rfl rfl rfl rfl
                      · intro _
                        (apply Exists.intro; apply And.intro; focus (intro L K hK; simp [-List.reduceReplicate, -List.getD_eq_getElem?_getD, tab38, ty38, tab22, ty22, tab5, ty5, tab3, ty3, tab4, ty4, ntmps30, hk, hkI, hn, hnI, ha, haI, hb, hbI]; (repeat' apply And.intro); all_goals first | exact hK | omega))
                        apply run_guard rfl rfl rfl rfl
                        · intro _
                          (apply Exists.intro; apply And.intro; focus (intro L K hK; simp [-List.reduceReplicate, -List.getD_eq_getElem?_getD, tab38, ty38, tab22, ty22, tab5, ty5, tab3, ty3, tab4, ty4, ntmps30, hk, hkI, hn, hnI, ha, haI, hb, hbI]; (repeat' apply And.intro); all_goals first | exact hK | omega))
                          repeat (first
    | rw [run_ops0]
    | rw [run_seq]
    | rw [run_region]
    | rw [run_block]
    | rw [run_blk]
    | rw [run_skip]
    | (apply run_go rfl; focus (intro L K hK; simp [-List.reduceReplicate, -List.getD_eq_getElem?_getD, tab38, ty38, tab22, ty22, tab5, ty5, tab3, ty3, tab4, ty4, ntmps30, hk, hkI, hn, hnI, ha, haI, hb, hbI]; (repeat' apply And.intro); all_goals first | exact hK | omega)))
                          apply run_guard rfl rfl rfl rfl
                          · intro _
                            (apply Exists.intro; apply And.intro; focus (intro L K hK; simp [-List.reduceReplicate, -List.getD_eq_getElem?_getD, tab38, ty38, tab22, ty22, tab5, ty5, tab3, ty3, tab4, ty4, ntmps30, hk, hkI, hn, hnI, ha, haI, hb, hbI]; (repeat' apply And.intro); all_goals first | exact hK | omega))
                            apply run_guard rfl rfl rfl rfl
                            · intro _
                              (apply Exists.intro; apply And.intro; focus (intro L K hK; simp [-List.reduceReplicate, -List.getD_eq_getElem?_getD, tab38, ty38, tab22, ty22, tab5, ty5, tab3, ty3, tab4, ty4, ntmps30, hk, hkI, hn, hnI, ha, haI, hb, hbI]; (repeat' apply And.intro); all_goals first | exact hK | omega))
                              apply run_guard rfl rfl rfl rfl
                              · intro _
                                (apply Exists.intro; apply And.intro; focus (intro L K hK; simp [-List.reduceReplicate, -List.getD_eq_getElem?_getD, tab38, ty38, tab22, ty22, tab5, ty5, tab3, ty3, tab4, ty4, ntmps30, hk, hkI, hn, hnI, ha, haI, hb, hbI]; (repeat' apply And.intro); all_goals first | exact hK | omega))
                                apply run_guard rfl rfl rfl rfl
                                · intro _
                                  (apply Exists.intro; apply And.intro; focus (intro L K hK; simp [-List.reduceReplicate, -List.getD_eq_getElem?_getD, tab38, ty38, tab22, ty22, tab5, ty5, tab3, ty3, tab4, ty4, ntmps30, hk, hkI, hn, hnI, ha, haI, hb, hbI]; (repeat' apply And.intro); all_goals first | exact hK | omega))
                                  repeat (first
    | rw [run_ops0]
    | rw [run_seq]
    | rw [run_region]
    | rw [run_block]
    | rw [run_blk]
    | rw [run_skip]
    | (apply run_go rfl; focus (intro L K hK; simp [-List.reduceReplicate, -List.getD_eq_getElem?_getD, tab38, ty38, tab22, ty22, tab5, ty5, tab3, ty3, tab4, ty4, ntmps30, hk, hkI, hn, hnI, ha, haI, hb, hbI]; (repeat' apply And.intro); all_goals first | exact hK | omega)))
                                  rw [run_ret]
                                  simp [-List.reduceReplicate, -List.getD_eq_getElem?_getD, results30, f30, jmem, fitB, tab38, ty38, hk, hkI, hn, hnI, ha, haI, hb, hbI]
                                · intro h; first | cases h | (simp [hk, hkI, hn, hnI, ha, haI, hb, hbI] at h; done)
                              · intro h; first | cases h | (simp [hk, hkI, hn, hnI, ha, haI, hb, hbI] at h; done)
                            · intro h; first | cases h | (simp [hk, hkI, hn, hnI, ha, haI, hb, hbI] at h; done)
                          · intro h; first | cases h | (simp [hk, hkI, hn, hnI, ha, haI, hb, hbI] at h; done)
                        · intro h; first | cases h | (simp [hk, hkI, hn, hnI, ha, haI, hb, hbI] at h; done)
                      · intro h; first | cases h | (simp [hk, hkI, hn, hnI, ha, haI, hb, hbI] at h; done)
                    · intro h; first | cases h | (simp [hk, hkI, hn, hnI, ha, haI, hb, hbI] at h; done)
                  · intro h; first | cases h | (simp [hk, hkI, hn, hnI, ha, haI, hb, hbI] at h; done)
                · intro h; first | cases h | (simp [hk, hkI, hn, hnI, ha, haI, hb, hbI] at h; done)
              · intro h; first | cases h | (simp [hk, hkI, hn, hnI, ha, haI, hb, hbI] at h; done)
            · intro h; first | cases h | (simp [hk, hkI, hn, hnI, ha, haI, hb, hbI] at h; done)
          · intro h; first | cases h | (simp [hk, hkI, hn, hnI, ha, haI, hb, hbI] at h; done)
        · have hbI : ¬ (nb : Int) ≤ 300 := by omega
          repeat (first
    | rw [run_ops0]
    | rw [run_seq]
    | rw [run_region]
    | rw [run_block]
    | rw [run_blk]
    | rw [run_skip]
    | (apply run_go rfl; focus (intro L K hK; simp [-List.reduceReplicate, -List.getD_eq_getElem?_getD, tab38, ty38, tab22, ty22, tab5, ty5, tab3, ty3, tab4, ty4, ntmps30, hk, hkI, hn, hnI, ha, haI, hb, hbI]; (repeat' apply And.intro); all_goals first | exact hK | omega)))
          apply run_guard rfl rfl rfl rfl
          · intro h; first | cases h | (simp [hk, hkI, hn, hnI, ha, haI, hb, hbI] at h; done)
          intro _
          refine ⟨Nat.le_of_ble_eq_true rfl, ?_⟩
          simp only [St.put]
          apply run_guard rfl rfl rfl rfl
          · intro h; first | cases h | (simp [hk, hkI, hn, hnI, ha, haI, hb, hbI] at h; done)
          intro _
          refine ⟨Nat.le_of_ble_eq_true rfl, ?_⟩
          simp only [St.put]
          apply run_guard rfl rfl rfl rfl
          · intro h; first | cases h | (simp [hk, hkI, hn, hnI, ha, haI, hb, hbI] at h; done)
          intro _
          refine ⟨Nat.le_of_ble_eq_true rfl, ?_⟩
          simp only [St.put]
          apply run_guard rfl rfl rfl rfl
          · intro h; first | cases h | (simp [hk, hkI, hn, hnI, ha, haI, hb, hbI] at h; done)
          intro _
          refine ⟨Nat.le_of_ble_eq_true rfl, ?_⟩
          simp only [St.put]
          repeat (first
    | rw [run_ops0]
    | rw [run_seq]
    | rw [run_region]
    | rw [run_block]
    | rw [run_blk]
    | rw [run_skip]
    | (apply run_go rfl; focus (intro L K hK; simp [-List.reduceReplicate, -List.getD_eq_getElem?_getD, tab38, ty38, tab22, ty22, tab5, ty5, tab3, ty3, tab4, ty4, ntmps30, hk, hkI, hn, hnI, ha, haI, hb, hbI]; (repeat' apply And.intro); all_goals first | exact hK | omega)))
          apply run_guard rfl rfl rfl rfl
          · intro _
            (apply Exists.intro; apply And.intro; focus (intro L K hK; simp [-List.reduceReplicate, -List.getD_eq_getElem?_getD, tab38, ty38, tab22, ty22, tab5, ty5, tab3, ty3, tab4, ty4, ntmps30, hk, hkI, hn, hnI, ha, haI, hb, hbI]; (repeat' apply And.intro); all_goals first | exact hK | omega))
            apply run_guard rfl rfl rfl rfl
            · intro _
              (apply Exists.intro; apply And.intro; focus (intro L K hK; simp [-List.reduceReplicate, -List.getD_eq_getElem?_getD, tab38, ty38, tab22, ty22, tab5, ty5, tab3, ty3, tab4, ty4, ntmps30, hk, hkI, hn, hnI, ha, haI, hb, hbI]; (repeat' apply And.intro); all_goals first | exact hK | omega))
              apply run_guard rfl rfl rfl rfl
              · intro _
                (apply Exists.intro; apply And.intro; focus (intro L K hK; simp [-List.reduceReplicate, -List.getD_eq_getElem?_getD, tab38, ty38, tab22, ty22, tab5, ty5, tab3, ty3, tab4, ty4, ntmps30, hk, hkI, hn, hnI, ha, haI, hb, hbI]; (repeat' apply And.intro); all_goals first | exact hK | omega))
                apply run_guard rfl rfl rfl rfl
                · intro _
                  (apply Exists.intro; apply And.intro; focus (intro L K hK; simp [-List.reduceReplicate, -List.getD_eq_getElem?_getD, tab38, ty38, tab22, ty22, tab5, ty5, tab3, ty3, tab4, ty4, ntmps30, hk, hkI, hn, hnI, ha, haI, hb, hbI]; (repeat' apply And.intro); all_goals first | exact hK | omega))
                  repeat (first
    | rw [run_ops0]
    | rw [run_seq]
    | rw [run_region]
    | rw [run_block]
    | rw [run_blk]
    | rw [run_skip]
    | (apply run_go rfl; focus (intro L K hK; simp [-List.reduceReplicate, -List.getD_eq_getElem?_getD, tab38, ty38, tab22, ty22, tab5, ty5, tab3, ty3, tab4, ty4, ntmps30, hk, hkI, hn, hnI, ha, haI, hb, hbI]; (repeat' apply And.intro); all_goals first | exact hK | omega)))
                  apply run_guard rfl rfl rfl rfl
                  · intro _
                    (apply Exists.intro; apply And.intro; focus (intro L K hK; simp [-List.reduceReplicate, -List.getD_eq_getElem?_getD, tab38, ty38, tab22, ty22, tab5, ty5, tab3, ty3, tab4, ty4, ntmps30, hk, hkI, hn, hnI, ha, haI, hb, hbI]; (repeat' apply And.intro); all_goals first | exact hK | omega))
                    apply run_guard rfl rfl rfl rfl
                    · intro _
                      (apply Exists.intro; apply And.intro; focus (intro L K hK; simp [-List.reduceReplicate, -List.getD_eq_getElem?_getD, tab38, ty38, tab22, ty22, tab5, ty5, tab3, ty3, tab4, ty4, ntmps30, hk, hkI, hn, hnI, ha, haI, hb, hbI]; (repeat' apply And.intro); all_goals first | exact hK | omega))
                      apply run_guard rfl rfl rfl rfl
                      · intro _
                        (apply Exists.intro; apply And.intro; focus (intro L K hK; simp [-List.reduceReplicate, -List.getD_eq_getElem?_getD, tab38, ty38, tab22, ty22, tab5, ty5, tab3, ty3, tab4, ty4, ntmps30, hk, hkI, hn, hnI, ha, haI, hb, hbI]; (repeat' apply And.intro); all_goals first | exact hK | omega))
                        apply run_guard rfl rfl rfl rfl
                        · intro _
                          (apply Exists.intro; apply And.intro; focus (intro L K hK; simp [-List.reduceReplicate, -List.getD_eq_getElem?_getD, tab38, ty38, tab22, ty22, tab5, ty5, tab3, ty3, tab4, ty4, ntmps30, hk, hkI, hn, hnI, ha, haI, hb, hbI]; (repeat' apply And.intro); all_goals first | exact hK | omega))
                          repeat (first
    | rw [run_ops0]
    | rw [run_seq]
    | rw [run_region]
    | rw [run_block]
    | rw [run_blk]
    | rw [run_skip]
    | (apply run_go rfl; focus (intro L K hK; simp [-List.reduceReplicate, -List.getD_eq_getElem?_getD, tab38, ty38, tab22, ty22, tab5, ty5, tab3, ty3, tab4, ty4, ntmps30, hk, hkI, hn, hnI, ha, haI, hb, hbI]; (repeat' apply And.intro); all_goals first | exact hK | omega)))
                          apply run_guard rfl rfl rfl rfl
                          · intro _
                            (apply Exists.intro; apply And.intro; focus (intro L K hK; simp [-List.reduceReplicate, -List.getD_eq_getElem?_getD, tab38, ty38, tab22, ty22, tab5, ty5, tab3, ty3, tab4, ty4, ntmps30, hk, hkI, hn, hnI, ha, haI, hb, hbI]; (repeat' apply And.intro); all_goals first | exact hK | omega))
                            apply run_guard rfl rfl rfl rfl
                            · intro _
                              (apply Exists.intro; apply And.intro; focus (intro L K hK; simp [-List.reduceReplicate, -List.getD_eq_getElem?_getD, tab38, ty38, tab22, ty22, tab5, ty5, tab3, ty3, tab4, ty4, ntmps30, hk, hkI, hn, hnI, ha, haI, hb, hbI]; (repeat' apply And.intro); all_goals first | exact hK | omega))
                              apply run_guard rfl rfl rfl rfl
                              · intro _
                                (apply Exists.intro; apply And.intro; focus (intro L K hK; simp [-List.reduceReplicate, -List.getD_eq_getElem?_getD, tab38, ty38, tab22, ty22, tab5, ty5, tab3, ty3, tab4, ty4, ntmps30, hk, hkI, hn, hnI, ha, haI, hb, hbI]; (repeat' apply And.intro); all_goals first | exact hK | omega))
                                apply run_guard rfl rfl rfl rfl
                                · intro _
                                  (apply Exists.intro; apply And.intro; focus (intro L K hK; simp [-List.reduceReplicate, -List.getD_eq_getElem?_getD, tab38, ty38, tab22, ty22, tab5, ty5, tab3, ty3, tab4, ty4, ntmps30, hk, hkI, hn, hnI, ha, haI, hb, hbI]; (repeat' apply And.intro); all_goals first | exact hK | omega))
                                  repeat (first
    | rw [run_ops0]
    | rw [run_seq]
    | rw [run_region]
    | rw [run_block]
    | rw [run_blk]
    | rw [run_skip]
    | (apply run_go rfl; focus (intro L K hK; simp [-List.reduceReplicate, -List.getD_eq_getElem?_getD, tab38, ty38, tab22, ty22, tab5, ty5, tab3, ty3, tab4, ty4, ntmps30, hk, hkI, hn, hnI, ha, haI, hb, hbI]; (repeat' apply And.intro); all_goals first | exact hK | omega)))
                                  rw [run_ret]
                                  simp [-List.reduceReplicate, -List.getD_eq_getElem?_getD, results30, f30, jmem, fitB, tab38, ty38, hk, hkI, hn, hnI, ha, haI, hb, hbI]
                                · intro h; first | cases h | (simp [hk, hkI, hn, hnI, ha, haI, hb, hbI] at h; done)
                              · intro h; first | cases h | (simp [hk, hkI, hn, hnI, ha, haI, hb, hbI] at h; done)
                            · intro h; first | cases h | (simp [hk, hkI, hn, hnI, ha, haI, hb, hbI] at h; done)
                          · intro h; first | cases h | (simp [hk, hkI, hn, hnI, ha, haI, hb, hbI] at h; done)
                        · intro h; first | cases h | (simp [hk, hkI, hn, hnI, ha, haI, hb, hbI] at h; done)
                      · intro h; first | cases h | (simp [hk, hkI, hn, hnI, ha, haI, hb, hbI] at h; done)
                    · intro h; first | cases h | (simp [hk, hkI, hn, hnI, ha, haI, hb, hbI] at h; done)
                  · intro h; first | cases h | (simp [hk, hkI, hn, hnI, ha, haI, hb, hbI] at h; done)
                · intro h; first | cases h | (simp [hk, hkI, hn, hnI, ha, haI, hb, hbI] at h; done)
              · intro h; first | cases h | (simp [hk, hkI, hn, hnI, ha, haI, hb, hbI] at h; done)
            · intro h; first | cases h | (simp [hk, hkI, hn, hnI, ha, haI, hb, hbI] at h; done)
          · intro h; first | cases h | (simp [hk, hkI, hn, hnI, ha, haI, hb, hbI] at h; done)
      · have haI : ¬ (na : Int) ≤ 200 := by omega
        repeat (first
    | rw [run_ops0]
    | rw [run_seq]
    | rw [run_region]
    | rw [run_block]
    | rw [run_blk]
    | rw [run_skip]
    | (apply run_go rfl; focus (intro L K hK; simp [-List.reduceReplicate, -List.getD_eq_getElem?_getD, tab38, ty38, tab22, ty22, tab5, ty5, tab3, ty3, tab4, ty4, ntmps30, hk, hkI, hn, hnI, ha, haI]; (repeat' apply And.intro); all_goals first | exact hK | omega)))
        apply run_guard rfl rfl rfl rfl
        · intro h; first | cases h | (simp [hk, hkI, hn, hnI, ha, haI] at h; done)
        intro _
        refine ⟨Nat.le_of_ble_eq_true rfl, ?_⟩
        simp only [St.put]
        apply run_guard rfl rfl rfl rfl
        · intro h; first | cases h | (simp [hk, hkI, hn, hnI, ha, haI] at h; done)
        intro _
        refine ⟨Nat.le_of_ble_eq_true rfl, ?_⟩
        simp only [St.put]
        apply run_guard rfl rfl rfl rfl
        · intro h; first | cases h | (simp [hk, hkI, hn, hnI, ha, haI] at h; done)
        intro _
        refine ⟨Nat.le_of_ble_eq_true rfl, ?_⟩
        simp only [St.put]
        apply run_guard rfl rfl rfl rfl
        · intro h; first | cases h | (simp [hk, hkI, hn, hnI, ha, haI] at h; done)
        intro _
        refine ⟨Nat.le_of_ble_eq_true rfl, ?_⟩
        simp only [St.put]
        repeat (first
    | rw [run_ops0]
    | rw [run_seq]
    | rw [run_region]
    | rw [run_block]
    | rw [run_blk]
    | rw [run_skip]
    | (apply run_go rfl; focus (intro L K hK; simp [-List.reduceReplicate, -List.getD_eq_getElem?_getD, tab38, ty38, tab22, ty22, tab5, ty5, tab3, ty3, tab4, ty4, ntmps30, hk, hkI, hn, hnI, ha, haI]; (repeat' apply And.intro); all_goals first | exact hK | omega)))
        apply run_guard rfl rfl rfl rfl
        · intro _
          (apply Exists.intro; apply And.intro; focus (intro L K hK; simp [-List.reduceReplicate, -List.getD_eq_getElem?_getD, tab38, ty38, tab22, ty22, tab5, ty5, tab3, ty3, tab4, ty4, ntmps30, hk, hkI, hn, hnI, ha, haI]; (repeat' apply And.intro); all_goals first | exact hK | omega))
          apply run_guard rfl rfl rfl rfl
          · intro _
            (apply Exists.intro; apply And.intro; focus (intro L K hK; simp [-List.reduceReplicate, -List.getD_eq_getElem?_getD, tab38, ty38, tab22, ty22, tab5, ty5, tab3, ty3, tab4, ty4, ntmps30, hk, hkI, hn, hnI, ha, haI]; (repeat' apply And.intro); all_goals first | exact hK | omega))
            apply run_guard rfl rfl rfl rfl
            · intro _
              (apply Exists.intro; apply And.intro; focus (intro L K hK; simp [-List.reduceReplicate, -List.getD_eq_getElem?_getD, tab38, ty38, tab22, ty22, tab5, ty5, tab3, ty3, tab4, ty4, ntmps30, hk, hkI, hn, hnI, ha, haI]; (repeat' apply And.intro); all_goals first | exact hK | omega))
              apply run_guard rfl rfl rfl rfl
              · intro _
                (apply Exists.intro; apply And.intro; focus (intro L K hK; simp [-List.reduceReplicate, -List.getD_eq_getElem?_getD, tab38, ty38, tab22, ty22, tab5, ty5, tab3, ty3, tab4, ty4, ntmps30, hk, hkI, hn, hnI, ha, haI]; (repeat' apply And.intro); all_goals first | exact hK | omega))
                repeat (first
    | rw [run_ops0]
    | rw [run_seq]
    | rw [run_region]
    | rw [run_block]
    | rw [run_blk]
    | rw [run_skip]
    | (apply run_go rfl; focus (intro L K hK; simp [-List.reduceReplicate, -List.getD_eq_getElem?_getD, tab38, ty38, tab22, ty22, tab5, ty5, tab3, ty3, tab4, ty4, ntmps30, hk, hkI, hn, hnI, ha, haI]; (repeat' apply And.intro); all_goals first | exact hK | omega)))
                apply run_guard rfl rfl rfl rfl
                · intro _
                  (apply Exists.intro; apply And.intro; focus (intro L K hK; simp [-List.reduceReplicate, -List.getD_eq_getElem?_getD, tab38, ty38, tab22, ty22, tab5, ty5, tab3, ty3, tab4, ty4, ntmps30, hk, hkI, hn, hnI, ha, haI]; (repeat' apply And.intro); all_goals first | exact hK | omega))
                  apply run_guard rfl rfl rfl rfl
                  · intro _
                    (apply Exists.intro; apply And.intro; focus (intro L K hK; simp [-List.reduceReplicate, -List.getD_eq_getElem?_getD, tab38, ty38, tab22, ty22, tab5, ty5, tab3, ty3, tab4, ty4, ntmps30, hk, hkI, hn, hnI, ha, haI]; (repeat' apply And.intro); all_goals first | exact hK | omega))
                    apply run_guard rfl rfl rfl rfl
                    · intro _
                      (apply Exists.intro; apply And.intro; focus (intro L K hK; simp [-List.reduceReplicate, -List.getD_eq_getElem?_getD, tab38, ty38, tab22, ty22, tab5, ty5, tab3, ty3, tab4, ty4, ntmps30, hk, hkI, hn, hnI, ha, haI]; (repeat' apply And.intro); all_goals first | exact hK | omega))
                      apply run_guard rfl rfl rfl rfl
                      · intro _
                        (apply Exists.intro; apply And.intro; focus (intro L K hK; simp [-List.reduceReplicate, -List.getD_eq_getElem?_getD, tab38, ty38, tab22, ty22, tab5, ty5, tab3, ty3, tab4, ty4, ntmps30, hk, hkI, hn, hnI, ha, haI]; (repeat' apply And.intro); all_goals first | exact hK | omega))
                        repeat (first
    | rw [run_ops0]
    | rw [run_seq]
    | rw [run_region]
    | rw [run_block]
    | rw [run_blk]
    | rw [run_skip]
    | (apply run_go rfl; focus (intro L K hK; simp [-List.reduceReplicate, -List.getD_eq_getElem?_getD, tab38, ty38, tab22, ty22, tab5, ty5, tab3, ty3, tab4, ty4, ntmps30, hk, hkI, hn, hnI, ha, haI]; (repeat' apply And.intro); all_goals first | exact hK | omega)))
                        apply run_guard rfl rfl rfl rfl
                        · intro h; first | cases h | (simp [hk, hkI, hn, hnI, ha, haI] at h; done)
                        intro _
                        refine ⟨Nat.le_of_ble_eq_true rfl, ?_⟩
                        simp only [St.put]
                        apply run_guard rfl rfl rfl rfl
                        · intro h; first | cases h | (simp [hk, hkI, hn, hnI, ha, haI] at h; done)
                        intro _
                        refine ⟨Nat.le_of_ble_eq_true rfl, ?_⟩
                        simp only [St.put]
                        apply run_guard rfl rfl rfl rfl
                        · intro h; first | cases h | (simp [hk, hkI, hn, hnI, ha, haI] at h; done)
                        intro _
                        refine ⟨Nat.le_of_ble_eq_true rfl, ?_⟩
                        simp only [St.put]
                        apply run_guard rfl rfl rfl rfl
                        · intro h; first | cases h | (simp [hk, hkI, hn, hnI, ha, haI] at h; done)
                        intro _
                        refine ⟨Nat.le_of_ble_eq_true rfl, ?_⟩
                        simp only [St.put]
                        repeat (first
    | rw [run_ops0]
    | rw [run_seq]
    | rw [run_region]
    | rw [run_block]
    | rw [run_blk]
    | rw [run_skip]
    | (apply run_go rfl; focus (intro L K hK; simp [-List.reduceReplicate, -List.getD_eq_getElem?_getD, tab38, ty38, tab22, ty22, tab5, ty5, tab3, ty3, tab4, ty4, ntmps30, hk, hkI, hn, hnI, ha, haI]; (repeat' apply And.intro); all_goals first | exact hK | omega)))
                        rw [run_ret]
                        simp [-List.reduceReplicate, -List.getD_eq_getElem?_getD, results30, f30, jmem, fitB, tab38, ty38, hk, hkI, hn, hnI, ha, haI]
                      · intro h; first | cases h | (simp [hk, hkI, hn, hnI, ha, haI] at h; done)
                    · intro h; first | cases h | (simp [hk, hkI, hn, hnI, ha, haI] at h; done)
                  · intro h; first | cases h | (simp [hk, hkI, hn, hnI, ha, haI] at h; done)
                · intro h; first | cases h | (simp [hk, hkI, hn, hnI, ha, haI] at h; done)
              · intro h; first | cases h | (simp [hk, hkI, hn, hnI, ha, haI] at h; done)
            · intro h; first | cases h | (simp [hk, hkI, hn, hnI, ha, haI] at h; done)
          · intro h; first | cases h | (simp [hk, hkI, hn, hnI, ha, haI] at h; done)
        · intro h; first | cases h | (simp [hk, hkI, hn, hnI, ha, haI] at h; done)
    · have hnI : ¬ (nn : Int) = 12 := by omega
      repeat (first
    | rw [run_ops0]
    | rw [run_seq]
    | rw [run_region]
    | rw [run_block]
    | rw [run_blk]
    | rw [run_skip]
    | (apply run_go rfl; focus (intro L K hK; simp [-List.reduceReplicate, -List.getD_eq_getElem?_getD, tab38, ty38, tab22, ty22, tab5, ty5, tab3, ty3, tab4, ty4, ntmps30, hk, hkI, hn, hnI]; (repeat' apply And.intro); all_goals first | exact hK | omega)))
      apply run_guard rfl rfl rfl rfl
      · intro h; first | cases h | (simp [hk, hkI, hn, hnI] at h; done)
      intro _
      refine ⟨Nat.le_of_ble_eq_true rfl, ?_⟩
      simp only [St.put]
      apply run_guard rfl rfl rfl rfl
      · intro h; first | cases h | (simp [hk, hkI, hn, hnI] at h; done)
      intro _
      refine ⟨Nat.le_of_ble_eq_true rfl, ?_⟩
      simp only [St.put]
      apply run_guard rfl rfl rfl rfl
      · intro h; first | cases h | (simp [hk, hkI, hn, hnI] at h; done)
      intro _
      refine ⟨Nat.le_of_ble_eq_true rfl, ?_⟩
      simp only [St.put]
      apply run_guard rfl rfl rfl rfl
      · intro h; first | cases h | (simp [hk, hkI, hn, hnI] at h; done)
      intro _
      refine ⟨Nat.le_of_ble_eq_true rfl, ?_⟩
      simp only [St.put]
      repeat (first
    | rw [run_ops0]
    | rw [run_seq]
    | rw [run_region]
    | rw [run_block]
    | rw [run_blk]
    | rw [run_skip]
    | (apply run_go rfl; focus (intro L K hK; simp [-List.reduceReplicate, -List.getD_eq_getElem?_getD, tab38, ty38, tab22, ty22, tab5, ty5, tab3, ty3, tab4, ty4, ntmps30, hk, hkI, hn, hnI]; (repeat' apply And.intro); all_goals first | exact hK | omega)))
      apply run_guard rfl rfl rfl rfl
      · intro _
        (apply Exists.intro; apply And.intro; focus (intro L K hK; simp [-List.reduceReplicate, -List.getD_eq_getElem?_getD, tab38, ty38, tab22, ty22, tab5, ty5, tab3, ty3, tab4, ty4, ntmps30, hk, hkI, hn, hnI]; (repeat' apply And.intro); all_goals first | exact hK | omega))
        apply run_guard rfl rfl rfl rfl
        · intro _
          (apply Exists.intro; apply And.intro; focus (intro L K hK; simp [-List.reduceReplicate, -List.getD_eq_getElem?_getD, tab38, ty38, tab22, ty22, tab5, ty5, tab3, ty3, tab4, ty4, ntmps30, hk, hkI, hn, hnI]; (repeat' apply And.intro); all_goals first | exact hK | omega))
          apply run_guard rfl rfl rfl rfl
          · intro _
            (apply Exists.intro; apply And.intro; focus (intro L K hK; simp [-List.reduceReplicate, -List.getD_eq_getElem?_getD, tab38, ty38, tab22, ty22, tab5, ty5, tab3, ty3, tab4, ty4, ntmps30, hk, hkI, hn, hnI]; (repeat' apply And.intro); all_goals first | exact hK | omega))
            apply run_guard rfl rfl rfl rfl
            · intro _
              (apply Exists.intro; apply And.intro; focus (intro L K hK; simp [-List.reduceReplicate, -List.getD_eq_getElem?_getD, tab38, ty38, tab22, ty22, tab5, ty5, tab3, ty3, tab4, ty4, ntmps30, hk, hkI, hn, hnI]; (repeat' apply And.intro); all_goals first | exact hK | omega))
              repeat (first
    | rw [run_ops0]
    | rw [run_seq]
    | rw [run_region]
    | rw [run_block]
    | rw [run_blk]
    | rw [run_skip]
    | (apply run_go rfl; focus (intro L K hK; simp [-List.reduceReplicate, -List.getD_eq_getElem?_getD, tab38, ty38, tab22, ty22, tab5, ty5, tab3, ty3, tab4, ty4, ntmps30, hk, hkI, hn, hnI]; (repeat' apply And.intro); all_goals first | exact hK | omega)))
              apply run_guard rfl rfl rfl rfl
              · intro h; first | cases h | (simp [hk, hkI, hn, hnI] at h; done)
              intro _
              refine ⟨Nat.le_of_ble_eq_true rfl, ?_⟩
              simp only [St.put]
              apply run_guard rfl rfl rfl rfl
              · intro h; first | cases h | (simp [hk, hkI, hn, hnI] at h; done)
              intro _
              refine ⟨Nat.le_of_ble_eq_true rfl, ?_⟩
              simp only [St.put]
              apply run_guard rfl rfl rfl rfl
              · intro h; first | cases h | (simp [hk, hkI, hn, hnI] at h; done)
              intro _
              refine ⟨Nat.le_of_ble_eq_true rfl, ?_⟩
              simp only [St.put]
              apply run_guard rfl rfl rfl rfl
              · intro h; first | cases h | (simp [hk, hkI, hn, hnI] at h; done)
              intro _
              refine ⟨Nat.le_of_ble_eq_true rfl, ?_⟩
              simp only [St.put]
              repeat (first
    | rw [run_ops0]
    | rw [run_seq]
    | rw [run_region]
    | rw [run_block]
    | rw [run_blk]
    | rw [run_skip]
    | (apply run_go rfl; focus (intro L K hK; simp [-List.reduceReplicate, -List.getD_eq_getElem?_getD, tab38, ty38, tab22, ty22, tab5, ty5, tab3, ty3, tab4, ty4, ntmps30, hk, hkI, hn, hnI]; (repeat' apply And.intro); all_goals first | exact hK | omega)))
              apply run_guard rfl rfl rfl rfl
              · intro h; first | cases h | (simp [hk, hkI, hn, hnI] at h; done)
              intro _
              refine ⟨Nat.le_of_ble_eq_true rfl, ?_⟩
              simp only [St.put]
              apply run_guard rfl rfl rfl rfl
              · intro h; first | cases h | (simp [hk, hkI, hn, hnI] at h; done)
              intro _
              refine ⟨Nat.le_of_ble_eq_true rfl, ?_⟩
              simp only [St.put]
              apply run_guard rfl rfl rfl rfl
              · intro h; first | cases h | (simp [hk, hkI, hn, hnI] at h; done)
              intro _
              refine ⟨Nat.le_of_ble_eq_true rfl, ?_⟩
              simp only [St.put]
              apply run_guard rfl rfl rfl rfl
              · intro h; first | cases h | (simp [hk, hkI, hn, hnI] at h; done)
              intro _
              refine ⟨Nat.le_of_ble_eq_true rfl, ?_⟩
              simp only [St.put]
              repeat (first
    | rw [run_ops0]
    | rw [run_seq]
    | rw [run_region]
    | rw [run_block]
    | rw [run_blk]
    | rw [run_skip]
    | (apply run_go rfl; focus (intro L K hK; simp [-List.reduceReplicate, -List.getD_eq_getElem?_getD, tab38, ty38, tab22, ty22, tab5, ty5, tab3, ty3, tab4, ty4, ntmps30, hk, hkI, hn, hnI]; (repeat' apply And.intro); all_goals first | exact hK | omega)))
              rw [run_ret]
              simp [-List.reduceReplicate, -List.getD_eq_getElem?_getD, results30, f30, jmem, fitB, tab38, ty38, hk, hkI, hn, hnI]
            · intro h; first | cases h | (simp [hk, hkI, hn, hnI] at h; done)
          · intro h; first | cases h | (simp [hk, hkI, hn, hnI] at h; done)
        · intro h; first | cases h | (simp [hk, hkI, hn, hnI] at h; done)
      · intro h; first | cases h | (simp [hk, hkI, hn, hnI] at h; done)
  · have hkI : ¬ (nk : Int) = 16 := by omega
    rcases Classical.em (nk = 32) with hk2 | hk2
    · have hk2I : (nk : Int) = 32 := by omega
      rcases Classical.em (nn = 12) with hn | hn
      · have hnI : (nn : Int) = 12 := by omega
        rcases Classical.em (na ≤ 200) with ha | ha
        · have haI : (na : Int) ≤ 200 := by omega
          rcases Classical.em (nb ≤ 300) with hb | hb
          · have hbI : (nb : Int) ≤ 300 := by omega
            repeat (first
    | rw [run_ops0]
    | rw [run_seq]
    | rw [run_region]
    | rw [run_block]
    | rw [run_blk]
    | rw [run_skip]
    | (apply run_go rfl; focus (intro L K hK; simp [-List.reduceReplicate, -List.getD_eq_getElem?_getD, tab38, ty38, tab22, ty22, tab5, ty5, tab3, ty3, tab4, ty4, ntmps30, hkI, hk2, hk2I, hn, hnI, ha, haI, hb, hbI]; (repeat' apply And.intro); all_goals first | exact hK | omega)))
            apply run_guard rfl rfl rfl rfl
            · intro _
              (apply Exists.intro; apply And.intro; focus (intro L K hK; simp [-List.reduceReplicate, -List.getD_eq_getElem?_getD, tab38, ty38, tab22, ty22, tab5, ty5, tab3, ty3, tab4, ty4, ntmps30, hkI, hk2, hk2I, hn, hnI, ha, haI, hb, hbI]; (repeat' apply And.intro); all_goals first | exact hK | omega))
              apply run_guard rfl rfl rfl rfl
              · intro _
                (apply Exists.intro; apply And.intro; focus (intro L K hK; simp [-List.reduceReplicate, -List.getD_eq_getElem?_getD, tab38, ty38, tab22, ty22, tab5, ty5, tab3, ty3, tab4, ty4, ntmps30, hkI, hk2, hk2I, hn, hnI, ha, haI, hb, hbI]; (repeat' apply And.intro); all_goals first | exact hK | omega))
                apply run_guard rfl rfl rfl rfl
                · intro _
                  (apply Exists.intro; apply And.intro; focus (intro L K hK; simp [-List.reduceReplicate, -List.getD_eq_getElem?_getD, tab38, ty38, tab22, ty22, tab5, ty5, tab3, ty3, tab4, ty4, ntmps30, hkI, hk2, hk2I, hn, hnI, ha, haI, hb, hbI]; (repeat' apply And.intro); all_goals first | exact hK | omega))
                  apply run_guard rfl rfl rfl rfl
                  · intro _
                    (apply Exists.intro; apply And.intro; focus (intro L K hK; simp [-List.reduceReplicate, -List.getD_eq_getElem?_getD, tab38, ty38, tab22, ty22, tab5, ty5, tab3, ty3, tab4, ty4, ntmps30, hkI, hk2, hk2I, hn, hnI, ha, haI, hb, hbI]; (repeat' apply And.intro); all_goals first | exact hK | omega))
                    repeat (first
    | rw [run_ops0]
    | rw [run_seq]
    | rw [run_region]
    | rw [run_block]
    | rw [run_blk]
    | rw [run_skip]
    | (apply run_go rfl; focus (intro L K hK; simp [-List.reduceReplicate, -List.getD_eq_getElem?_getD, tab38, ty38, tab22, ty22, tab5, ty5, tab3, ty3, tab4, ty4, ntmps30, hkI, hk2, hk2I, hn, hnI, ha, haI, hb, hbI]; (repeat' apply And.intro); all_goals first | exact hK | omega)))
                    apply run_guard rfl rfl rfl rfl
                    · intro _
                      (apply Exists.intro; apply And.intro; focus (intro L K hK; simp [-List.reduceReplicate, -List.getD_eq_getElem?_getD, tab38, ty38, tab22, ty22, tab5, ty5, tab3, ty3, tab4, ty4, ntmps30, hkI, hk2, hk2I, hn, hnI, ha, haI, hb, hbI]; (repeat' apply And.intro); all_goals first | exact hK | omega))
                      apply run_guard rfl rfl rfl rfl
                      · intro _
                        (apply Exists.intro; apply And.intro; focus (intro L K hK; simp [-List.reduceReplicate, -List.getD_eq_getElem?_getD, tab38, ty38, tab22, ty22, tab5, ty5, tab3, ty3, tab4, ty4, ntmps30, hkI, hk2, hk2I, hn, hnI, ha, haI, hb, hbI]; (repeat' apply And.intro); all_goals first | exact hK | omega))
                        apply run_guard rfl rfl rfl rfl
                        · intro _
                          (apply Exists.intro; apply And.intro; focus (intro L K hK; simp [-List.reduceReplicate, -List.getD_eq_getElem?_getD, tab38, ty38, tab22, ty22, tab5, ty5, tab3, ty3, tab4, ty4, ntmps30, hkI, hk2, hk2I, hn, hnI, ha, haI, hb, hbI]; (repeat' apply And.intro); all_goals first | exact hK | omega))
                          apply run_guard rfl rfl rfl rfl
                          · intro _
                            (apply Exists.intro; apply And.intro; focus (intro L K hK; simp [-List.reduceReplicate, -List.getD_eq_getElem?_getD, tab38, ty38, tab22, ty22, tab5, ty5, tab3, ty3, tab4, ty4, ntmps30, hkI, hk2, hk2I, hn, hnI, ha, haI, hb, hbI]; (repeat' apply And.intro); all_goals first | exact hK | omega))
                            repeat (first
    | rw [run_ops0]
    | rw [run_seq]
    | rw [run_region]
    | rw [run_block]
    | rw [run_blk]
    | rw [run_skip]
    | (apply run_go rfl; focus (intro L K hK; simp [-List.reduceReplicate, -List.getD_eq_getElem?_getD, tab38, ty38, tab22, ty22, tab5, ty5, tab3, ty3, tab4, ty4, ntmps30, hkI, hk2, hk2I, hn, hnI, ha, haI, hb, hbI]; (repeat' apply And.intro); all_goals first | exact hK | omega)))
                            apply run_guard rfl rfl rfl rfl
                            · intro _
                              (apply Exists.intro; apply And.intro; focus (intro L K hK; simp [-List.reduceReplicate, -List.getD_eq_getElem?_getD, tab38, ty38, tab22, ty22, tab5, ty5, tab3, ty3, tab4, ty4, ntmps30, hkI, hk2, hk2I, hn, hnI, ha, haI, hb, hbI]; (repeat' apply And.intro); all_goals first | exact hK | omega))
                              apply run_guard rfl rfl rfl rfl
                              · intro _
                                (apply Exists.intro; apply And.intro; focus (intro L K hK; simp [-List.reduceReplicate, -List.getD_eq_getElem?_getD, tab38, ty38, tab22, ty22, tab5, ty5, tab3, ty3, tab4, ty4, ntmps30, hkI, hk2, hk2I, hn, hnI, ha, haI, hb, hbI]; (repeat' apply And.intro); all_goals first | exact hK | omega))
                                apply run_guard rfl rfl rfl rfl
                                · intro _
                                  (apply Exists.intro; apply And.intro; focus (intro L K hK; simp [-List.reduceReplicate, -List.getD_eq_getElem?_getD, tab38, ty38, tab22, ty22, tab5, ty5, tab3, ty3, tab4, ty4, ntmps30, hkI, hk2, hk2I, hn, hnI, ha, haI, hb, hbI]; (repeat' apply And.intro); all_goals first | exact hK | omega))
                                  apply run_guard rfl rfl rfl rfl
                                  · intro _
                                    (apply Exists.intro; apply And.intro; focus (intro L K hK; simp [-List.reduceReplicate, -List.getD_eq_getElem?_getD, tab38, ty38, tab22, ty22, tab5, ty5, tab3, ty3, tab4, ty4, ntmps30, hkI, hk2, hk2I, hn, hnI, ha, haI, hb, hbI]; (repeat' apply And.intro); all_goals first | exact hK | omega))
                                    repeat (first
    | rw [run_ops0]
    | rw [run_seq]
    | rw [run_region]
    | rw [run_block]
    | rw [run_blk]
    | rw [run_skip]
    | (apply run_go rfl; focus (intro L K hK; simp [-List.reduceReplicate, -List.getD_eq_getElem?_getD, tab38, ty38, tab22, ty22, tab5, ty5, tab3, ty3, tab4, ty4, ntmps30, hkI, hk2, hk2I, hn, hnI, ha, haI, hb, hbI]; (repeat' apply And.intro); all_goals first | exact hK | omega)))
                                    apply run_guard rfl rfl rfl rfl
                                    · intro _
                                      (apply Exists.intro; apply And.intro; focus (intro L K hK; simp [-List.reduceReplicate, -List.getD_eq_getElem?_getD, tab38, ty38, tab22, ty22, tab5, ty5, tab3, ty3, tab4, ty4, ntmps30, hkI, hk2, hk2I, hn, hnI, ha, haI, hb, hbI]; (repeat' apply And.intro); all_goals first | exact hK | omega))
                                      apply run_guard rfl rfl rfl rfl
                                      · intro _
                                        (apply Exists.intro; apply And.intro; focus (intro L K hK; simp [-List.reduceReplicate, -List.getD_eq_getElem?_getD, tab38, ty38, tab22, ty22, tab5, ty5, tab3, ty3, tab4, ty4, ntmps30, hkI, hk2, hk2I, hn, hnI, ha, haI, hb, hbI]; (repeat' apply And.intro); all_goals first | exact hK | omega))
                                        apply run_guard rfl rfl rfl rfl
                                        · intro _
                                          (apply Exists.intro; apply And.intro; focus (intro L K hK; simp [-List.reduceReplicate, -List.getD_eq_getElem?_getD, tab38, ty38, tab22, ty22, tab5, ty5, tab3, ty3, tab4, ty4, ntmps30, hkI, hk2, hk2I, hn, hnI, ha, haI, hb, hbI]; (repeat' apply And.intro); all_goals first | exact hK | omega))
                                          apply run_guard rfl rfl rfl rfl
                                          · intro _
                                            (apply Exists.intro; apply And.intro; focus (intro L K hK; simp [-List.reduceReplicate, -List.getD_eq_getElem?_getD, tab38, ty38, tab22, ty22, tab5, ty5, tab3, ty3, tab4, ty4, ntmps30, hkI, hk2, hk2I, hn, hnI, ha, haI, hb, hbI]; (repeat' apply And.intro); all_goals first | exact hK | omega))
                                            repeat (first
    | rw [run_ops0]
    | rw [run_seq]
    | rw [run_region]
    | rw [run_block]
    | rw [run_blk]
    | rw [run_skip]
    | (apply run_go rfl; focus (intro L K hK; simp [-List.reduceReplicate, -List.getD_eq_getElem?_getD, tab38, ty38, tab22, ty22, tab5, ty5, tab3, ty3, tab4, ty4, ntmps30, hkI, hk2, hk2I, hn, hnI, ha, haI, hb, hbI]; (repeat' apply And.intro); all_goals first | exact hK | omega)))
                                            rw [run_ret]
                                            simp [-List.reduceReplicate, -List.getD_eq_getElem?_getD, results30, f30, jmem, fitB, tab38, ty38, hkI, hk2, hk2I, hn, hnI, ha, haI, hb, hbI]
                                          · intro h; first | cases h | (simp [hkI, hk2, hk2I, hn, hnI, ha, haI, hb, hbI] at h; done)
                                        · intro h; first | cases h | (simp [hkI, hk2, hk2I, hn, hnI, ha, haI, hb, hbI] at h; done)
                                      · intro h; first | cases h | (simp [hkI, hk2, hk2I, hn, hnI, ha, haI, hb, hbI] at h; done)
                                    · intro h; first | cases h | (simp [hkI, hk2, hk2I, hn, hnI, ha, haI, hb, hbI] at h; done)
                                  · intro h; first | cases h | (simp [hkI, hk2, hk2I, hn, hnI, ha, haI, hb, hbI] at h; done)
                                · intro h; first | cases h | (simp [hkI, hk2, hk2I, hn, hnI, ha, haI, hb, hbI] at h; done)
                              · intro h; first | cases h | (simp [hkI, hk2, hk2I, hn, hnI, ha, haI, hb, hbI] at h; done)
                            · intro h; first | cases h | (simp [hkI, hk2, hk2I, hn, hnI, ha, haI, hb, hbI] at h; done)
                          · intro h; first | cases h | (simp [hkI, hk2, hk2I, hn, hnI, ha, haI, hb, hbI] at h; done)
                        · intro h; first | cases h | (simp [hkI, hk2, hk2I, hn, hnI, ha, haI, hb, hbI] at h; done)
                      · intro h; first | cases h | (simp [hkI, hk2, hk2I, hn, hnI, ha, haI, hb, hbI] at h; done)
                    · intro h; first | cases h | (simp [hkI, hk2, hk2I, hn, hnI, ha, haI, hb, hbI] at h; done)
                  · intro h; first | cases h | (simp [hkI, hk2, hk2I, hn, hnI, ha, haI, hb, hbI] at h; done)
                · intro h; first | cases h | (simp [hkI, hk2, hk2I, hn, hnI, ha, haI, hb, hbI] at h; done)
              · intro h; first | cases h | (simp [hkI, hk2, hk2I, hn, hnI, ha, haI, hb, hbI] at h; done)
            · intro h; first | cases h | (simp [hkI, hk2, hk2I, hn, hnI, ha, haI, hb, hbI] at h; done)
          · have hbI : ¬ (nb : Int) ≤ 300 := by omega
            repeat (first
    | rw [run_ops0]
    | rw [run_seq]
    | rw [run_region]
    | rw [run_block]
    | rw [run_blk]
    | rw [run_skip]
    | (apply run_go rfl; focus (intro L K hK; simp [-List.reduceReplicate, -List.getD_eq_getElem?_getD, tab38, ty38, tab22, ty22, tab5, ty5, tab3, ty3, tab4, ty4, ntmps30, hkI, hk2, hk2I, hn, hnI, ha, haI, hb, hbI]; (repeat' apply And.intro); all_goals first | exact hK | omega)))
            apply run_guard rfl rfl rfl rfl
            · intro _
              (apply Exists.intro; apply And.intro; focus (intro L K hK; simp [-List.reduceReplicate, -List.getD_eq_getElem?_getD, tab38, ty38, tab22, ty22, tab5, ty5, tab3, ty3, tab4, ty4, ntmps30, hkI, hk2, hk2I, hn, hnI, ha, haI, hb, hbI]; (repeat' apply And.intro); all_goals first | exact hK | omega))
              apply run_guard rfl rfl rfl rfl
              · intro _
                (apply Exists.intro; apply And.intro; focus (intro L K hK; simp [-List.reduceReplicate, -List.getD_eq_getElem?_getD, tab38, ty38, tab22, ty22, tab5, ty5, tab3, ty3, tab4, ty4, ntmps30, hkI, hk2, hk2I, hn, hnI, ha, haI, hb, hbI]; (repeat' apply And.intro); all_goals first | exact hK | omega))
                apply run_guard rfl rfl rfl rfl
                · intro _
                  (apply Exists.intro; apply And.intro; focus (intro L K hK; simp [-List.reduceReplicate, -List.getD_eq_getElem?_getD, tab38, ty38, tab22, ty22, tab5, ty5, tab3, ty3, tab4, ty4, ntmps30, hkI, hk2, hk2I, hn, hnI, ha, haI, hb, hbI]; (repeat' apply And.intro); all_goals first | exact hK | omega))
                  apply run_guard rfl rfl rfl rfl
                  · intro _
                    (apply Exists.intro; apply And.intro; focus (intro L K hK; simp [-List.reduceReplicate, -List.getD_eq_getElem?_getD, tab38, ty38, tab22, ty22, tab5, ty5, tab3, ty3, tab4, ty4, ntmps30, hkI, hk2, hk2I, hn, hnI, ha, haI, hb, hbI]; (repeat' apply And.intro); all_goals first | exact hK | omega))
                    repeat (first
    | rw [run_ops0]
    | rw [run_seq]
    | rw [run_region]
    | rw [run_block]
    | rw [run_blk]
    | rw [run_skip]
    | (apply run_go rfl; focus (intro L K hK; simp [-List.reduceReplicate, -List.getD_eq_getElem?_getD, tab38, ty38, tab22, ty22, tab5, ty5, tab3, ty3, tab4, ty4, ntmps30, hkI, hk2, hk2I, hn, hnI, ha, haI, hb, hbI]; (repeat' apply And.intro); all_goals first | exact hK | omega)))
                    apply run_guard rfl rfl rfl rfl
                    · intro _
                      (apply Exists.intro; apply And.intro; focus (intro L K hK; simp [-List.reduceReplicate, -List.getD_eq_getElem?_getD, tab38, ty38, tab22, ty22, tab5, ty5, tab3, ty3, tab4, ty4, ntmps30, hkI, hk2, hk2I, hn, hnI, ha, haI, hb, hbI]; (repeat' apply And.intro); all_goals first | exact hK | omega))
                      apply run_guard rfl rfl rfl rfl
                      · intro _
                        (apply Exists.intro; apply And.intro; focus (intro L K hK; simp [-List.reduceReplicate, -List.getD_eq_getElem?_getD, tab38, ty38, tab22, ty22, tab5, ty5, tab3, ty3, tab4, ty4, ntmps30, hkI, hk2, hk2I, hn, hnI, ha, haI, hb, hbI]; (repeat' apply And.intro); all_goals first | exact hK | omega))
                        apply run_guard rfl rfl rfl rfl
                        · intro _
                          (apply Exists.intro; apply And.intro; focus (intro L K hK; simp [-List.reduceReplicate, -List.getD_eq_getElem?_getD, tab38, ty38, tab22, ty22, tab5, ty5, tab3, ty3, tab4, ty4, ntmps30, hkI, hk2, hk2I, hn, hnI, ha, haI, hb, hbI]; (repeat' apply And.intro); all_goals first | exact hK | omega))
                          apply run_guard rfl rfl rfl rfl
                          · intro _
                            (apply Exists.intro; apply And.intro; focus (intro L K hK; simp [-List.reduceReplicate, -List.getD_eq_getElem?_getD, tab38, ty38, tab22, ty22, tab5, ty5, tab3, ty3, tab4, ty4, ntmps30, hkI, hk2, hk2I, hn, hnI, ha, haI, hb, hbI]; (repeat' apply And.intro); all_goals first | exact hK | omega))
                            repeat (first
    | rw [run_ops0]
    | rw [run_seq]
    | rw [run_region]
    | rw [run_block]
    | rw [run_blk]
    | rw [run_skip]
    | (apply run_go rfl; focus (intro L K hK; simp [-List.reduceReplicate, -List.getD_eq_getElem?_getD, tab38, ty38, tab22, ty22, tab5, ty5, tab3, ty3, tab4, ty4, ntmps30, hkI, hk2, hk2I, hn, hnI, ha, haI, hb, hbI]; (repeat' apply And.intro); all_goals first | exact hK | omega)))
                            apply run_guard rfl rfl rfl rfl
                            · intro _
                              (apply Exists.intro; apply And.intro; focus (intro L K hK; simp [-List.reduceReplicate, -List.getD_eq_getElem?_getD, tab38, ty38, tab22, ty22, tab5, ty5, tab3, ty3, tab4, ty4, ntmps30, hkI, hk2, hk2I, hn, hnI, ha, haI, hb, hbI]; (repeat' apply And.intro); all_goals first | exact hK | omega))
                              apply run_guard rfl rfl rfl rfl
                              · intro _
                                (apply Exists.intro; apply And.intro; focus (intro L K hK; simp [-List.reduceReplicate, -List.getD_eq_getElem?_getD, tab38, ty38, tab22, ty22, tab5, ty5, tab3, ty3, tab4, ty4, ntmps30, hkI, hk2, hk2I, hn, hnI, ha, haI, hb, hbI]; (repeat' apply And.intro); all_goals first | exact hK | omega))
                                apply run_guard rfl rfl rfl rfl
                                · intro _
                                  (apply Exists.intro; apply And.intro; focus (intro L K hK; simp [-List.reduceReplicate, -List.getD_eq_getElem?_getD, tab38, ty38, tab22, ty22, tab5, ty5, tab3, ty3, tab4, ty4, ntmps30, hkI, hk2, hk2I, hn, hnI, ha, haI, hb, hbI]; (repeat' apply And.intro); all_goals first | exact hK | omega))
                                  apply run_guard rfl rfl rfl rfl
                                  · intro _
                                    (apply Exists.intro; apply And.intro; focus (intro L K hK; simp [-List.reduceReplicate, -List.getD_eq_getElem?_getD, tab38, ty38, tab22, ty22, tab5, ty5, tab3, ty3, tab4, ty4, ntmps30, hkI, hk2, hk2I, hn, hnI, ha, haI, hb, hbI]; (repeat' apply And.intro); all_goals first | exact hK | omega))
                                    repeat (first
    | rw [run_ops0]
    | rw [run_seq]
    | rw [run_region]
    | rw [run_block]
    | rw [run_blk]
    | rw [run_skip]
    | (apply run_go rfl; focus (intro L K hK; simp [-List.reduceReplicate, -List.getD_eq_getElem?_getD, tab38, ty38, tab22, ty22, tab5, ty5, tab3, ty3, tab4, ty4, ntmps30, hkI, hk2, hk2I, hn, hnI, ha, haI, hb, hbI]; (repeat' apply And.intro); all_goals first | exact hK | omega)))
                                    apply run_guard rfl rfl rfl rfl
                                    · intro _
                                      (apply Exists.intro; apply And.intro; focus (intro L K hK; simp [-List.reduceReplicate, -List.getD_eq_getElem?_getD, tab38, ty38, tab22, ty22, tab5, ty5, tab3, ty3, tab4, ty4, ntmps30, hkI, hk2, hk2I, hn, hnI, ha, haI, hb, hbI]; (repeat' apply And.intro); all_goals first | exact hK | omega))
                                      apply run_guard rfl rfl rfl rfl
                                      · intro _
                                        (apply Exists.intro; apply And.intro; focus (intro L K hK; simp [-List.reduceReplicate, -List.getD_eq_getElem?_getD, tab38, ty38, tab22, ty22, tab5, ty5, tab3, ty3, tab4, ty4, ntmps30, hkI, hk2, hk2I, hn, hnI, ha, haI, hb, hbI]; (repeat' apply And.intro); all_goals first | exact hK | omega))
                                        apply run_guard rfl rfl rfl rfl
                                        · intro _
                                          (apply Exists.intro; apply And.intro; focus (intro L K hK; simp [-List.reduceReplicate, -List.getD_eq_getElem?_getD, tab38, ty38, tab22, ty22, tab5, ty5, tab3, ty3, tab4, ty4, ntmps30, hkI, hk2, hk2I, hn, hnI, ha, haI, hb, hbI]; (repeat' apply And.intro); all_goals first | exact hK | omega))
                                          apply run_guard rfl rfl rfl rfl
                                          · intro _
                                            (apply Exists.intro; apply And.intro; focus (intro L K hK; simp [-List.reduceReplicate, -List.getD_eq_getElem?_getD, tab38, ty38, tab22, ty22, tab5, ty5, tab3, ty3, tab4, ty4, ntmps30, hkI, hk2, hk2I, hn, hnI, ha, haI, hb, hbI]; (repeat' apply And.intro); all_goals first | exact hK | omega))
                                            repeat (first
    | rw [run_ops0]
    | rw [run_seq]
    | rw [run_region]
    | rw [run_block]
    | rw [run_blk]
    | rw [run_skip]
    | (apply run_go rfl; focus (intro L K hK; simp [-List.reduceReplicate, -List.getD_eq_getElem?_getD, tab38, ty38, tab22, ty22, tab5, ty5, tab3, ty3, tab4, ty4, ntmps30, hkI, hk2, hk2I, hn, hnI, ha, haI, hb, hbI]; (repeat' apply And.intro); all_goals first | exact hK | omega)))
                                            rw [run_ret]
                                            simp [-List.reduceReplicate, -List.getD_eq_getElem?_getD, results30, f30, jmem, fitB, tab38, ty38, hkI, hk2, hk2I, hn, hnI, ha, haI, hb, hbI]
                                          · intro h; first | cases h | (simp [hkI, hk2, hk2I, hn, hnI, ha, haI, hb, hbI] at h; done)
                                        · intro h; first | cases h | (simp [hkI, hk2, hk2I, hn, hnI, ha, haI, hb, hbI] at h; done)
                                      · intro h; first | cases h | (simp [hkI, hk2, hk2I, hn, hnI, ha, haI, hb, hbI] at h; done)
                                    · intro h; first | cases h | (simp [hkI, hk2, hk2I, hn, hnI, ha, haI, hb, hbI] at h; done)
                                  · intro h; first | cases h | (simp [hkI, hk2, hk2I, hn, hnI, ha, haI, hb, hbI] at h; done)
                                · intro h; first | cases h | (simp [hkI, hk2, hk2I, hn, hnI, ha, haI, hb, hbI] at h; done)
                              · intro h; first | cases h | (simp [hkI, hk2, hk2I, hn, hnI, ha, haI, hb, hbI] at h; done)
                            · intro h; first | cases h | (simp [hkI, hk2, hk2I, hn, hnI, ha, haI, hb, hbI] at h; done)
                          · intro h; first | cases h | (simp [hkI, hk2, hk2I, hn, hnI, ha, haI, hb, hbI] at h; done)
                        · intro h; first | cases h | (simp [hkI, hk2, hk2I, hn, hnI, ha, haI, hb, hbI] at h; done)
                      · intro h; first | cases h | (simp [hkI, hk2, hk2I, hn, hnI, ha, haI, hb, hbI] at h; done)
                    · intro h; first | cases h | (simp [hkI, hk2, hk2I, hn, hnI, ha, haI, hb, hbI] at h; done)
                  · intro h; first | cases h | (simp [hkI, hk2, hk2I, hn, hnI, ha, haI, hb, hbI] at h; done)
                · intro h; first | cases h | (simp [hkI, hk2, hk2I, hn, hnI, ha, haI, hb, hbI] at h; done)
              · intro h; first | cases h | (simp [hkI, hk2, hk2I, hn, hnI, ha, haI, hb, hbI] at h; done)
            · intro h; first | cases h | (simp [hkI, hk2, hk2I, hn, hnI, ha, haI, hb, hbI] at h; done)
        · have haI : ¬ (na : Int) ≤ 200 := by omega
          repeat (first
    | rw [run_ops0]
    | rw [run_seq]
    | rw [run_region]
    | rw [run_block]
    | rw [run_blk]
    | rw [run_skip]
    | (apply run_go rfl; focus (intro L K hK; simp [-List.reduceReplicate, -List.getD_eq_getElem?_getD, tab38, ty38, tab22, ty22, tab5, ty5, tab3, ty3, tab4, ty4, ntmps30, hkI, hk2, hk2I, hn, hnI, ha, haI]; (repeat' apply And.intro); all_goals first | exact hK | omega)))
          apply run_guard rfl rfl rfl rfl
          · intro _
            (apply Exists.intro; apply And.intro; focus (intro L K hK; simp [-List.reduceReplicate, -List.getD_eq_getElem?_getD, tab38, ty38, tab22, ty22, tab5, ty5, tab3, ty3, tab4, ty4, ntmps30, hkI, hk2, hk2I, hn, hnI, ha, haI]; (repeat' apply And.intro); all_goals first | exact hK | omega))
            apply run_guard rfl rfl rfl rfl
            · intro _
              (apply Exists.intro; apply And.intro; focus (intro L K hK; simp [-List.reduceReplicate, -List.getD_eq_getElem?_getD, tab38, ty38, tab22, ty22, tab5, ty5, tab3, ty3, tab4, ty4, ntmps30, hkI, hk2, hk2I, hn, hnI, ha, haI]; (repeat' apply And.intro); all_goals first | exact hK | omega))
              apply run_guard rfl rfl rfl rfl
              · intro _
                (apply Exists.intro; apply And.intro; focus (intro L K hK; simp [-List.reduceReplicate, -List.getD_eq_getElem?_getD, tab38, ty38, tab22, ty22, tab5, ty5, tab3, ty3, tab4, ty4, ntmps30, hkI, hk2, hk2I, hn, hnI, ha, haI]; (repeat' apply And.intro); all_goals first | exact hK | omega))
                apply run_guard rfl rfl rfl rfl
                · intro _
                  (apply Exists.intro; apply And.intro; focus (intro L K hK; simp [-List.reduceReplicate, -List.getD_eq_getElem?_getD, tab38, ty38, tab22, ty22, tab5, ty5, tab3, ty3, tab4, ty4, ntmps30, hkI, hk2, hk2I, hn, hnI, ha, haI]; (repeat' apply And.intro); all_goals first | exact hK | omega))
                  repeat (first
    | rw [run_ops0]
    | rw [run_seq]
    | rw [run_region]
    | rw [run_block]
    | rw [run_blk]
    | rw [run_skip]
    | (apply run_go rfl; focus (intro L K hK; simp [-List.reduceReplicate, -List.getD_eq_getElem?_getD, tab38, ty38, tab22, ty22, tab5, ty5, tab3, ty3, tab4, ty4, ntmps30, hkI, hk2, hk2I, hn, hnI, ha, haI]; (repeat' apply And.intro); all_goals first | exact hK | omega)))
                  apply run_guard rfl rfl rfl rfl
                  · intro _
                    (apply Exists.intro; apply And.intro; focus (intro L K hK; simp [-List.reduceReplicate, -List.getD_eq_getElem?_getD, tab38, ty38, tab22, ty22, tab5, ty5, tab3, ty3, tab4, ty4, ntmps30, hkI, hk2, hk2I, hn, hnI, ha, haI]; (repeat' apply And.intro); all_goals first | exact hK | omega))
                    apply run_guard rfl rfl rfl rfl
                    · intro _
                      (apply Exists.intro; apply And.intro; focus (intro L K hK; simp [-List.reduceReplicate, -List.getD_eq_getElem?_getD, tab38, ty38, tab22, ty22, tab5, ty5, tab3, ty3, tab4, ty4, ntmps30, hkI, hk2, hk2I, hn, hnI, ha, haI]; (repeat' apply And.intro); all_goals first | exact hK | omega))
                      apply run_guard rfl rfl rfl rfl
                      · intro _
                        (apply Exists.intro; apply And.intro; focus (intro L K hK; simp [-List.reduceReplicate, -List.getD_eq_getElem?_getD, tab38, ty38, tab22, ty22, tab5, ty5, tab3, ty3, tab4, ty4, ntmps30, hkI, hk2, hk2I, hn, hnI, ha, haI]; (repeat' apply And.intro); all_goals first | exact hK | omega))
                        apply run_guard rfl rfl rfl rfl
                        · intro _
                          (apply Exists.intro; apply And.intro; focus (intro L K hK; simp [-List.reduceReplicate, -List.getD_eq_getElem?_getD, tab38, ty38, tab22, ty22, tab5, ty5, tab3, ty3, tab4, ty4, ntmps30, hkI, hk2, hk2I, hn, hnI, ha, haI]; (repeat' apply And.intro); all_goals first | exact hK | omega))
                          repeat (first
    | rw [run_ops0]
    | rw [run_seq]
    | rw [run_region]
    | rw [run_block]
    | rw [run_blk]
    | rw [run_skip]
    | (apply run_go rfl; focus (intro L K hK; simp [-List.reduceReplicate, -List.getD_eq_getElem?_getD, tab38, ty38, tab22, ty22, tab5, ty5, tab3, ty3, tab4, ty4, ntmps30, hkI, hk2, hk2I, hn, hnI, ha, haI]; (repeat' apply And.intro); all_goals first | exact hK | omega)))
                          apply run_guard rfl rfl rfl rfl
                          · intro _
                            (apply Exists.intro; apply And.intro; focus (intro L K hK; simp [-List.reduceReplicate, -List.getD_eq_getElem?_getD, tab38, ty38, tab22, ty22, tab5, ty5, tab3, ty3, tab4, ty4, ntmps30, hkI, hk2, hk2I, hn, hnI, ha, haI]; (repeat' apply And.intro); all_goals first | exact hK | omega))
                            apply run_guard rfl rfl rfl rfl
                            · intro _
                              (apply Exists.intro; apply And.intro; focus (intro L K hK; simp [-List.reduceReplicate, -List.getD_eq_getElem?_getD, tab38, ty38, tab22, ty22, tab5, ty5, tab3, ty3, tab4, ty4, ntmps30, hkI, hk2, hk2I, hn, hnI, ha, haI]; (repeat' apply And.intro); all_goals first | exact hK | omega))
                              apply run_guard rfl rfl rfl rfl
                              · intro _
                                (apply Exists.intro; apply And.intro; focus (intro L K hK; simp [-List.reduceReplicate, -List.getD_eq_getElem?_getD, tab38, ty38, tab22, ty22, tab5, ty5, tab3, ty3, tab4, ty4, ntmps30, hkI, hk2, hk2I, hn, hnI, ha, haI]; (repeat' apply And.intro); all_goals first | exact hK | omega))
                                apply run_guard rfl rfl rfl rfl
                                · intro _
                                  (apply Exists.intro; apply And.intro; focus (intro L K hK; simp [-List.reduceReplicate, -List.getD_eq_getElem?_getD, tab38, ty38, tab22, ty22, tab5, ty5, tab3, ty3, tab4, ty4, ntmps30, hkI, hk2, hk2I, hn, hnI, ha, haI]; (repeat' apply And.intro); all_goals first | exact hK | omega))
                                  repeat (first
    | rw [run_ops0]
    | rw [run_seq]
    | rw [run_region]
    | rw [run_block]
    | rw [run_blk]
    | rw [run_skip]
    | (apply run_go rfl; focus (intro L K hK; simp [-List.reduceReplicate, -List.getD_eq_getElem?_getD, tab38, ty38, tab22, ty22, tab5, ty5, tab3, ty3, tab4, ty4, ntmps30, hkI, hk2, hk2I, hn, hnI, ha, haI]; (repeat' apply And.intro); all_goals first | exact hK | omega)))
                                  apply run_guard rfl rfl rfl rfl
                                  · intro h; first | cases h | (simp [hkI, hk2, hk2I, hn, hnI, ha, haI] at h; done)
                                  intro _
                                  refine ⟨Nat.le_of_ble_eq_true rfl, ?_⟩
                                  simp only [St.put]
                                  apply run_guard rfl rfl rfl rfl
                                  · intro h; first | cases h | (simp [hkI, hk2, hk2I, hn, hnI, ha, haI] at h; done)
                                  intro _
                                  refine ⟨Nat.le_of_ble_eq_true rfl, ?_⟩
                                  simp only [St.put]
                                  apply run_guard rfl rfl rfl rfl
                                  · intro h; first | cases h | (simp [hkI, hk2, hk2I, hn, hnI, ha, haI] at h; done)
                                  intro _
                                  refine ⟨Nat.le_of_ble_eq_true rfl, ?_⟩
                                  simp only [St.put]
                                  apply run_guard rfl rfl rfl rfl
                                  · intro h; first | cases h | (simp [hkI, hk2, hk2I, hn, hnI, ha, haI] at h; done)
                                  intro _
                                  refine ⟨Nat.le_of_ble_eq_true rfl, ?_⟩
                                  simp only [St.put]
                                  repeat (first
    | rw [run_ops0]
    | rw [run_seq]
    | rw [run_region]
    | rw [run_block]
    | rw [run_blk]
    | rw [run_skip]
    | (apply run_go rfl; focus (intro L K hK; simp [-List.reduceReplicate, -List.getD_eq_getElem?_getD, tab38, ty38, tab22, ty22, tab5, ty5, tab3, ty3, tab4, ty4, ntmps30, hkI, hk2, hk2I, hn, hnI, ha, haI]; (repeat' apply And.intro); all_goals first | exact hK | omega)))
                                  rw [run_ret]
                                  simp [-List.reduceReplicate, -List.getD_eq_getElem?_getD, results30, f30, jmem, fitB, tab38, ty38, hkI, hk2, hk2I, hn, hnI, ha, haI]
                                · intro h; first | cases h | (simp [hkI, hk2, hk2I, hn, hnI, ha, haI] at h; done)
                              · intro h; first | cases h | (simp [hkI, hk2, hk2I, hn, hnI, ha, haI] at h; done)
                            · intro h; first | cases h | (simp [hkI, hk2, hk2I, hn, hnI, ha, haI] at h; done)
                          · intro h; first | cases h | (simp [hkI, hk2, hk2I, hn, hnI, ha, haI] at h; done)
                        · intro h; first | cases h | (simp [hkI, hk2, hk2I, hn, hnI, ha, haI] at h; done)
                      · intro h; first | cases h | (simp [hkI, hk2, hk2I, hn, hnI, ha, haI] at h; done)
                    · intro h; first | cases h | (simp [hkI, hk2, hk2I, hn, hnI, ha, haI] at h; done)
                  · intro h; first | cases h | (simp [hkI, hk2, hk2I, hn, hnI, ha, haI] at h; done)
                · intro h; first | cases h | (simp [hkI, hk2, hk2I, hn, hnI, ha, haI] at h; done)
              · intro h; first | cases h | (simp [hkI, hk2, hk2I, hn, hnI, ha, haI] at h; done)
            · intro h; first | cases h | (simp [hkI, hk2, hk2I, hn, hnI, ha, haI] at h; done)
          · intro h; first | cases h | (simp [hkI, hk2, hk2I, hn, hnI, ha, haI] at h; done)
      · have hnI : ¬ (nn : Int) = 12 := by omega
        repeat (first
    | rw [run_ops0]
    | rw [run_seq]
    | rw [run_region]
    | rw [run_block]
    | rw [run_blk]
    | rw [run_skip]
    | (apply run_go rfl; focus (intro L K hK; simp [-List.reduceReplicate, -List.getD_eq_getElem?_getD, tab38, ty38, tab22, ty22, tab5, ty5, tab3, ty3, tab4, ty4, ntmps30, hkI, hk2, hk2I, hn, hnI]; (repeat' apply And.intro); all_goals first | exact hK | omega)))
        apply run_guard rfl rfl rfl rfl
        · intro _
          (apply Exists.intro; apply And.intro; focus (intro L K hK; simp [-List.reduceReplicate, -List.getD_eq_getElem?_getD, tab38, ty38, tab22, ty22, tab5, ty5, tab3, ty3, tab4, ty4, ntmps30, hkI, hk2, hk2I, hn, hnI]; (repeat' apply And.intro); all_goals first | exact hK | omega))
          apply run_guard rfl rfl rfl rfl
          · intro _
            (apply Exists.intro; apply And.intro; focus (intro L K hK; simp [-List.reduceReplicate, -List.getD_eq_getElem?_getD, tab38, ty38, tab22, ty22, tab5, ty5, tab3, ty3, tab4, ty4, ntmps30, hkI, hk2, hk2I, hn, hnI]; (repeat' apply And.intro); all_goals first | exact hK | omega))
            apply run_guard rfl rfl rfl rfl
            · intro _
              (apply Exists.intro; apply And.intro; focus (intro L K hK; simp [-List.reduceReplicate, -List.getD_eq_getElem?_getD, tab38, ty38, tab22, ty22, tab5, ty5, tab3, ty3, tab4, ty4, ntmps30, hkI, hk2, hk2I, hn, hnI]; (repeat' apply And.intro); all_goals first | exact hK | omega))
              apply run_guard rfl rfl rfl rfl
              · intro _
                (apply Exists.intro; apply And.intro; focus (intro L K hK; simp [-List.reduceReplicate, -List.getD_eq_getElem?_getD, tab38, ty38, tab22, ty22, tab5, ty5, tab3, ty3, tab4, ty4, ntmps30, hkI, hk2, hk2I, hn, hnI]; (repeat' apply And.intro); all_goals first | exact hK | omega))
                repeat (first
    | rw [run_ops0]
    | rw [run_seq]
    | rw [run_region]
    | rw [run_block]
    | rw [run_blk]
    | rw [run_skip]
    | (apply run_go rfl; focus (intro L K hK; simp [-List.reduceReplicate, -List.getD_eq_getElem?_getD, tab38, ty38, tab22, ty22, tab5, ty5, tab3, ty3, tab4, ty4, ntmps30, hkI, hk2, hk2I, hn, hnI]; (repeat' apply And.intro); all_goals first | exact hK | omega)))
                apply run_guard rfl rfl rfl rfl
                · intro _
                  (apply Exists.intro; apply And.intro; focus (intro L K hK; simp [-List.reduceReplicate, -List.getD_eq_getElem?_getD, tab38, ty38, tab22, ty22, tab5, ty5, tab3, ty3, tab4, ty4, ntmps30, hkI, hk2, hk2I, hn, hnI]; (repeat' apply And.intro); all_goals first | exact hK | omega))
                  apply run_guard rfl rfl rfl rfl
                  · intro _
                    (apply Exists.intro; apply And.intro; focus (intro L K hK; simp [-List.reduceReplicate, -List.getD_eq_getElem?_getD, tab38, ty38, tab22, ty22, tab5, ty5, tab3, ty3, tab4, ty4, ntmps30, hkI, hk2, hk2I, hn, hnI]; (repeat' apply And.intro); all_goals first | exact hK | omega))
                    apply run_guard rfl rfl rfl rfl
                    · intro _
                      (apply Exists.intro; apply And.intro; focus (intro L K hK; simp [-List.reduceReplicate, -List.getD_eq_getElem?_getD, tab38, ty38, tab22, ty22, tab5, ty5, tab3, ty3, tab4, ty4, ntmps30, hkI, hk2, hk2I, hn, hnI]; (repeat' apply And.intro); all_goals first | exact hK | omega))
                      apply run_guard rfl rfl rfl rfl
                      · intro _
                        (apply Exists.intro; apply And.intro; focus (intro L K hK; simp [-List.reduceReplicate, -List.getD_eq_getElem?_getD, tab38, ty38, tab22, ty22, tab5, ty5, tab3, ty3, tab4, ty4, ntmps30, hkI, hk2, hk2I, hn, hnI]; (repeat' apply And.intro); all_goals first | exact hK | omega))
                        repeat (first
    | rw [run_ops0]
    | rw [run_seq]
    | rw [run_region]
    | rw [run_block]
    | rw [run_blk]
    | rw [run_skip]
    | (apply run_go rfl; focus (intro L K hK; simp [-List.reduceReplicate, -List.getD_eq_getElem?_getD, tab38, ty38, tab22, ty22, tab5, ty5, tab3, ty3, tab4, ty4, ntmps30, hkI, hk2, hk2I, hn, hnI]; (repeat' apply And.intro); all_goals first | exact hK | omega)))
                        apply run_guard rfl rfl rfl rfl
                        · intro h; first | cases h | (simp [hkI, hk2, hk2I, hn, hnI] at h; done)
                        intro _
                        refine ⟨Nat.le_of_ble_eq_true rfl, ?_⟩
                        simp only [St.put]
                        apply run_guard rfl rfl rfl rfl
                        · intro h; first | cases h | (simp [hkI, hk2, hk2I, hn, hnI] at h; done)
                        intro _
                        refine ⟨Nat.le_of_ble_eq_true rfl, ?_⟩
                        simp only [St.put]
                        apply run_guard rfl rfl rfl rfl
                        · intro h; first | cases h | (simp [hkI, hk2, hk2I, hn, hnI] at h; done)
                        intro _
                        refine ⟨Nat.le_of_ble_eq_true rfl, ?_⟩
                        simp only [St.put]
                        apply run_guard rfl rfl rfl rfl
                        · intro h; first | cases h | (simp [hkI, hk2, hk2I, hn, hnI] at h; done)
                        intro _
                        refine ⟨Nat.le_of_ble_eq_true rfl, ?_⟩
                        simp only [St.put]
                        repeat (first
    | rw [run_ops0]
    | rw [run_seq]
    | rw [run_region]
    | rw [run_block]
    | rw [run_blk]
    | rw [run_skip]
    | (apply run_go rfl; focus (intro L K hK; simp [-List.reduceReplicate, -List.getD_eq_getElem?_getD, tab38, ty38, tab22, ty22, tab5, ty5, tab3, ty3, tab4, ty4, ntmps30, hkI, hk2, hk2I, hn, hnI]; (repeat' apply And.intro); all_goals first | exact hK | omega)))
                        apply run_guard rfl rfl rfl rfl
                        · intro h; first | cases h | (simp [hkI, hk2, hk2I, hn, hnI] at h; done)
                        intro _
                        refine ⟨Nat.le_of_ble_eq_true rfl, ?_⟩
                        simp only [St.put]
                        apply run_guard rfl rfl rfl rfl
                        · intro h; first | cases h | (simp [hkI, hk2, hk2I, hn, hnI] at h; done)
                        intro _
                        refine ⟨Nat.le_of_ble_eq_true rfl, ?_⟩
                        simp only [St.put]
                        apply run_guard rfl rfl rfl rfl
                        · intro h; first | cases h | (simp [hkI, hk2, hk2I, hn, hnI] at h; done)
                        intro _
                        refine ⟨Nat.le_of_ble_eq_true rfl, ?_⟩
                        simp only [St.put]
                        apply run_guard rfl rfl rfl rfl
                        · intro h; first | cases h | (simp [hkI, hk2, hk2I, hn, hnI] at h; done)
                        intro _
                        refine ⟨Nat.le_of_ble_eq_true rfl, ?_⟩
                        simp only [St.put]
                        repeat (first
    | rw [run_ops0]
    | rw [run_seq]
    | rw [run_region]
    | rw [run_block]
    | rw [run_blk]
    | rw [run_skip]
    | (apply run_go rfl; focus (intro L K hK; simp [-List.reduceReplicate, -List.getD_eq_getElem?_getD, tab38, ty38, tab22, ty22, tab5, ty5, tab3, ty3, tab4, ty4, ntmps30, hkI, hk2, hk2I, hn, hnI]; (repeat' apply And.intro); all_goals first | exact hK | omega)))
                        rw [run_ret]
                        simp [-List.reduceReplicate, -List.getD_eq_getElem?_getD, results30, f30, jmem, fitB, tab38, ty38, hkI, hk2, hk2I, hn, hnI]
                      · intro h; first | cases h | (simp [hkI, hk2, hk2I, hn, hnI] at h; done)
                    · intro h; first | cases h | (simp [hkI, hk2, hk2I, hn, hnI] at h; done)
                  · intro h; first | cases h | (simp [hkI, hk2, hk2I, hn, hnI] at h; done)
                · intro h; first | cases h | (simp [hkI, hk2, hk2I, hn, hnI] at h; done)
              · intro h; first | cases h | (simp [hkI, hk2, hk2I, hn, hnI] at h; done)
            · intro h; first | cases h | (simp [hkI, hk2, hk2I, hn, hnI] at h; done)
          · intro h; first | cases h | (simp [hkI, hk2, hk2I, hn, hnI] at h; done)
        · intro h; first | cases h | (simp [hkI, hk2, hk2I, hn, hnI] at h; done)
    · have hk2I : ¬ (nk : Int) = 32 := by omega
      repeat (first
    | rw [run_ops0]
    | rw [run_seq]
    | rw [run_region]
    | rw [run_block]
    | rw [run_blk]
    | rw [run_skip]
    | (apply run_go rfl; focus (intro L K hK; simp [-List.reduceReplicate, -List.getD_eq_getElem?_getD, tab38, ty38, tab22, ty22, tab5, ty5, tab3, ty3, tab4, ty4, ntmps30, hk, hkI, hk2, hk2I]; (repeat' apply And.intro); all_goals first | exact hK | omega)))
      apply run_guard rfl rfl rfl rfl
      · intro _
        (apply Exists.intro; apply And.intro; focus (intro L K hK; simp [-List.reduceReplicate, -List.getD_eq_getElem?_getD, tab38, ty38, tab22, ty22, tab5, ty5, tab3, ty3, tab4, ty4, ntmps30, hk, hkI, hk2, hk2I]; (repeat' apply And.intro); all_goals first | exact hK | omega))
        apply run_guard rfl rfl rfl rfl
        · intro _
          (apply Exists.intro; apply And.intro; focus (intro L K hK; simp [-List.reduceReplicate, -List.getD_eq_getElem?_getD, tab38, ty38, tab22, ty22, tab5, ty5, tab3, ty3, tab4, ty4, ntmps30, hk, hkI, hk2, hk2I]; (repeat' apply And.intro); all_goals first | exact hK | omega))
          apply run_guard rfl rfl rfl rfl
          · intro _
            (apply Exists.intro; apply And.intro; focus (intro L K hK; simp [-List.reduceReplicate, -List.getD_eq_getElem?_getD, tab38, ty38, tab22, ty22, tab5, ty5, tab3, ty3, tab4, ty4, ntmps30, hk, hkI, hk2, hk2I]; (repeat' apply And.intro); all_goals first | exact hK | omega))
            apply run_guard rfl rfl rfl rfl
            · intro _
              (apply Exists.intro; apply And.intro; focus (intro L K hK; simp [-List.reduceReplicate, -List.getD_eq_getElem?_getD, tab38, ty38, tab22, ty22, tab5, ty5, tab3, ty3, tab4, ty4, ntmps30, hk, hkI, hk2, hk2I]; (repeat' apply And.intro); all_goals first | exact hK | omega))
              repeat (first
    | rw [run_ops0]
    | rw [run_seq]
    | rw [run_region]
    | rw [run_block]
    | rw [run_blk]
    | rw [run_skip]
    | (apply run_go rfl; focus (intro L K hK; simp [-List.reduceReplicate, -List.getD_eq_getElem?_getD, tab38, ty38, tab22, ty22, tab5, ty5, tab3, ty3, tab4, ty4, ntmps30, hk, hkI, hk2, hk2I]; (repeat' apply And.intro); all_goals first | exact hK | omega)))
              apply run_guard rfl rfl rfl rfl
              · intro h; first | cases h | (simp [hk, hkI, hk2, hk2I] at h; done)
              intro _
              refine ⟨Nat.le_of_ble_eq_true rfl, ?_⟩
              simp only [St.put]
              apply run_guard rfl rfl rfl rfl
              · intro h; first | cases h | (simp [hk, hkI, hk2, hk2I] at h; done)
              intro _
              refine ⟨Nat.le_of_ble_eq_true rfl, ?_⟩
              simp only [St.put]
              apply run_guard rfl rfl rfl rfl
              · intro h; first | cases h | (simp [hk, hkI, hk2, hk2I] at h; done)
              intro _
              refine ⟨Nat.le_of_ble_eq_true rfl, ?_⟩
              simp only [St.put]
              apply run_guard rfl rfl rfl rfl
              · intro h; first | cases h | (simp [hk, hkI, hk2, hk2I] at h; done)
              intro _
              refine ⟨Nat.le_of_ble_eq_true rfl, ?_⟩
              simp only [St.put]
              repeat (first
    | rw [run_ops0]
    | rw [run_seq]
    | rw [run_region]
    | rw [run_block]
    | rw [run_blk]
    | rw [run_skip]
    | (apply run_go rfl; focus (intro L K hK; simp [-List.reduceReplicate, -List.getD_eq_getElem?_getD, tab38, ty38, tab22, ty22, tab5, ty5, tab3, ty3, tab4, ty4, ntmps30, hk, hkI, hk2, hk2I]; (repeat' apply And.intro); all_goals first | exact hK | omega)))
              apply run_guard rfl rfl rfl rfl
              · intro h; first | cases h | (simp [hk, hkI, hk2, hk2I] at h; done)
              intro _
              refine ⟨Nat.le_of_ble_eq_true rfl, ?_⟩
              simp only [St.put]
              apply run_guard rfl rfl rfl rfl
              · intro h; first | cases h | (simp [hk, hkI, hk2, hk2I] at h; done)
              intro _
              refine ⟨Nat.le_of_ble_eq_true rfl, ?_⟩
              simp only [St.put]
              apply run_guard rfl rfl rfl rfl
              · intro h; first | cases h | (simp [hk, hkI, hk2, hk2I] at h; done)
              intro _
              refine ⟨Nat.le_of_ble_eq_true rfl, ?_⟩
              simp only [St.put]
              apply run_guard rfl rfl rfl rfl
              · intro h; first | cases h | (simp [hk, hkI, hk2, hk2I] at h; done)
              intro _
              refine ⟨Nat.le_of_ble_eq_true rfl, ?_⟩
              simp only [St.put]
              repeat (first
    | rw [run_ops0]
    | rw [run_seq]
    | rw [run_region]
    | rw [run_block]
    | rw [run_blk]
    | rw [run_skip]
    | (apply run_go rfl; focus (intro L K hK; simp [-List.reduceReplicate, -List.getD_eq_getElem?_getD, tab38, ty38, tab22, ty22, tab5, ty5, tab3, ty3, tab4, ty4, ntmps30, hk, hkI, hk2, hk2I]; (repeat' apply And.intro); all_goals first | exact hK | omega)))
              apply run_guard rfl rfl rfl rfl
              · intro h; first | cases h | (simp [hk, hkI, hk2, hk2I] at h; done)
              intro _
              refine ⟨Nat.le_of_ble_eq_true rfl, ?_⟩
              simp only [St.put]
              apply run_guard rfl rfl rfl rfl
              · intro h; first | cases h | (simp [hk, hkI, hk2, hk2I] at h; done)
              intro _
              refine ⟨Nat.le_of_ble_eq_true rfl, ?_⟩
              simp only [St.put]
              apply run_guard rfl rfl rfl rfl
              · intro h; first | cases h | (simp [hk, hkI, hk2, hk2I] at h; done)
              intro _
              refine ⟨Nat.le_of_ble_eq_true rfl, ?_⟩
              simp only [St.put]
              apply run_guard rfl rfl rfl rfl
              · intro h; first | cases h | (simp [hk, hkI, hk2, hk2I] at h; done)
              intro _
              refine ⟨Nat.le_of_ble_eq_true rfl, ?_⟩
              simp only [St.put]
              repeat (first
    | rw [run_ops0]
    | rw [run_seq]
    | rw [run_region]
    | rw [run_block]
    | rw [run_blk]
    | rw [run_skip]
    | (apply run_go rfl; focus (intro L K hK; simp [-List.reduceReplicate, -List.getD_eq_getElem?_getD, tab38, ty38, tab22, ty22, tab5, ty5, tab3, ty3, tab4, ty4, ntmps30, hk, hkI, hk2, hk2I]; (repeat' apply And.intro); all_goals first | exact hK | omega)))
              rw [run_ret]
              simp [-List.reduceReplicate, -List.getD_eq_getElem?_getD, results30, f30, jmem, fitB, tab38, ty38, hk, hkI, hk2, hk2I]
            · intro h; first | cases h | (simp [hk, hkI, hk2, hk2I] at h; done)
          · intro h; first | cases h | (simp [hk, hkI, hk2, hk2I] at h; done)
        · intro h; first | cases h | (simp [hk, hkI, hk2, hk2I] at h; done)
      · intro h; first | cases h | (simp [hk, hkI, hk2, hk2I] at h; done)
/-- fit as a plain call, over what a law reads. -/
noncomputable def pureJ : Pure := fun m f l => if f = 30 then (match l with
  | [.one (.st [⟨1, .s (.sl 0 0 nk ck 1)⟩, ⟨1, .s (.sl 1 0 nn cn 1)⟩, ⟨1, .s (.sl 2 0 na ca 1)⟩, ⟨1, .s (.sl 3 0 nb cb 1)⟩])] => (match datOf m 0, datOf m 1, datOf m 2, datOf m 3 with
    | some _, some _, some _, some _ => some (one (.b (fitB nk nn na nb)))
    | _, _, _, _ => none)
  | _ => none) else pureR m f l
theorem pureJ_sub : PureSub pureJ := by
  intro m m' f l v hs h
  unfold pureJ at h ⊢
  split at h
  · rename_i hf
    rw [if_pos hf]
    split at h
    · split at h
      · rename_i h0 h1 h2 h3
        simp only [datOf_sub hs h0, datOf_sub hs h1, datOf_sub hs h2, datOf_sub hs h3]
        exact h
      · cases h
    · cases h
  · rename_i hf; rw [if_neg hf]; exact pureR_sub m m' f l v hs h
theorem pureJ_ok : PureOK prog pureJ := by
  intro m f svs sv h E w ℓ vs hm hd
  unfold pureJ at h
  split at h
  · rename_i hf
    subst hf
    split at h
    · rename_i nk ck nn cn na ca nb cb
      split at h
      · rename_i K N D B h0 h1 h2 h3
        cases h
        obtain ⟨e0, a0, b0⟩ := datOf_get h0
        obtain ⟨e1, a1, b1⟩ := datOf_get h1
        obtain ⟨e2, a2, b2⟩ := datOf_get h2
        obtain ⟨e3, a3, b3⟩ := datOf_get h3
        exact ⟨⟨f30, func30, nofun, by decide⟩, pure_use (spec30 K N D B nk ck nn cn na ca nb cb) (by simp [jmem]) rfl hm [0, 1, 2, 3] (by simp) (by simp [jmem, matchM, ix, renA, belA, a0, a1, a2, a3, b0, b1, b2, b3]) rfl (by simpa [jobV, renV, renA, renSeg, renR, renS, ix, one] using hd)⟩
      · cases h
    · cases h
  · exact pureR_ok m f svs sv h E w ℓ vs hm hd
end Go.V
end
section
set_option linter.unusedSimpArgs false
set_option linter.unusedVariables false
set_option maxRecDepth 10000
namespace Go.V
/-- The byte of the key stream. -/
def ks (W : B8) (nr : Nat) (N : B8) (k : Nat) : BitVec 8 := (rounds (stC N (16 * (k / 16) + 1)) W nr (nr - 1)).getD (k % 16) 0
theorem lay_get (o X : B8) (i k : Nat) (hi : i ≤ o.length) (hk : k < o.length) : (lay o X i).getD k 0 = if k < i then o.getD k 0 else if k < i + X.length then X.getD (k - i) 0 else o.getD k 0 := by
  have ht : (o.take i).length = i := by simp; omega
  have hl : (X.take (o.length - i)).length = min (o.length - i) X.length := by simp
  unfold lay
  rw [List.append_assoc]
  simp only [List.getD_eq_getElem?_getD]
  by_cases h : k < i
  · rw [if_pos h, List.getElem?_append_left (by omega), List.getElem?_take_of_lt h]
  · rw [if_neg h, List.getElem?_append_right (by omega), ht]
    by_cases h2 : k < i + X.length
    · rw [if_pos h2, List.getElem?_append_left (by omega), List.getElem?_take_of_lt (by omega)]
    · rw [if_neg h2, List.getElem?_append_right (by omega), List.getElem?_drop, hl]
      congr 2
      omega
theorem stO_at (W : B8) (nr : Nat) (N b : B8) (hN : N.length = 12) : ∀ i, i ≤ b.length → ∀ k, k < b.length → (stO W nr N b i).getD k 0 = if k < i then b.getD k 0 ^^^ ks W nr N k else if k < 16 * ((i + 15) / 16) then ks W nr N k else 0
  | 0, _, k, hk => by
    rw [stO, if_neg (by omega), if_neg (by omega), List.getD_eq_getElem?_getD, List.getElem?_replicate]
    split <;> rfl
  | i + 1, hi, k, hk => by
    have ih := stO_at W nr N b hN i (by omega)
    have hl := stO_len W nr N b i (by omega)
    have hm : ∀ k, k < b.length → (stM W nr N i (stO W nr N b i)).getD k 0 = if k < i then b.getD k 0 ^^^ ks W nr N k else if k < 16 * (i / 16) + 16 then ks W nr N k else 0 := by
      intro k hk
      unfold stM
      by_cases h : i % 16 = 0
      · rw [if_pos h, lay_get _ _ _ _ (by omega) (by omega)]
        have hx : (rounds (stC N (i + 1)) W nr (nr - 1)).length = 16 := by
          have := rounds_len (stC N (i + 1)) W nr (nr - 1)
          have := stC_len hN (i + 1)
          omega
        rw [hx]
        by_cases h1 : k < i
        · rw [if_pos h1, if_pos h1, ih k hk, if_pos h1]
        · rw [if_neg h1, if_neg h1]
          by_cases h2 : k < i + 16
          · rw [if_pos h2, if_pos (by omega), ks, show 16 * (k / 16) + 1 = i + 1 by omega, show k % 16 = k - i by omega]
          · rw [if_neg h2, if_neg (by omega), ih k hk, if_neg h1, if_neg (by omega)]
      · rw [if_neg h, ih k hk, show 16 * ((i + 15) / 16) = 16 * (i / 16) + 16 by omega]
    have hml := stM_len W nr N b (i := i) (by omega)
    rw [stO, List.getD_eq_getElem?_getD, List.getElem?_set]
    by_cases h : i = k
    · subst h
      rw [if_pos rfl, if_pos (by omega), if_pos (by omega), hm i hk, if_neg (by omega), if_pos (by omega)]
      show ks W nr N i ^^^ b.getD i 0 = _
      exact BitVec.xor_comm _ _
    · rw [if_neg h, ← List.getD_eq_getElem?_getD, hm k hk]
      by_cases h1 : k < i
      · rw [if_pos h1, if_pos (by omega)]
      · rw [if_neg h1, if_neg (show ¬ k < i + 1 by omega), show 16 * ((i + 1 + 15) / 16) = 16 * (i / 16) + 16 by omega]
theorem stO_get (W : B8) (nr : Nat) {N : B8} (b : B8) (hN : N.length = 12) {k : Nat} (hk : k < b.length) : (stO W nr N b b.length).getD k 0 = b.getD k 0 ^^^ ks W nr N k := by
  rw [stO_at W nr N b hN _ (Nat.le_refl _) k hk, if_pos hk]
theorem ext_getD2 {a b : B8} (hl : a.length = b.length) (h : ∀ k, k < b.length → a.getD k 0 = b.getD k 0) : a = b := by
  refine List.ext_getElem hl fun i h1 h2 => ?_
  have := h i h2
  rw [List.getD_eq_getElem?_getD, List.getD_eq_getElem?_getD, List.getElem?_eq_getElem h1, List.getElem?_eq_getElem h2] at this
  exact this
theorem stO_inv (W : B8) (nr : Nat) {N : B8} (b : B8) (hN : N.length = 12) {n : Nat} (hn : b.length = n) : stO W nr N (stO W nr N b n) n = b := by
  subst hn
  have hl := stO_len W nr N b b.length (Nat.le_refl _)
  have hl2 := stO_len W nr N (stO W nr N b b.length) b.length (by omega)
  refine ext_getD2 (by omega) fun k hk => ?_
  have := stO_get W nr (stO W nr N b b.length) hN (k := k) (by omega)
  rw [hl] at this
  rw [this, stO_get W nr b hN hk, BitVec.xor_assoc, BitVec.xor_self, BitVec.xor_zero]
end Go.V
end
section
set_option linter.unusedSimpArgs false
set_option linter.unusedVariables false
set_option maxRecDepth 10000
namespace Go.V
open Go Go.Proofs.Try
theorem fitB_true {nk nn na nb : Nat} (h : fitB nk nn na nb = true) : (nk = 4 * 4 ∨ nk = 4 * 8) ∧ nn = 12 ∧ na ≤ 200 ∧ nb ≤ 300 := by
  unfold fitB at h
  exact of_decide_eq_true h
theorem tagB_len (W : B8) (nr : Nat) (N A C : B8) : (tagB W nr N A C).length = 16 := by unfold tagB; rw [tagX_len, hashG_len]
theorem sealed_len {W N A B : B8} {nr nb : Nat} (hB : B.length = nb) : (stO W nr N B nb ++ tagB W nr N A (stO W nr N B nb)).length = nb + 16 := by
  have hl := stO_len W nr N B nb (by omega)
  rw [List.length_append, tagB_len, hl, hB]
theorem sealed_take {W N A B : B8} {nr nb : Nat} (hB : B.length = nb) : (stO W nr N B nb ++ tagB W nr N A (stO W nr N B nb)).take nb = stO W nr N B nb := by
  have hl := stO_len W nr N B nb (by omega)
  exact List.take_left' (by omega)
theorem sealed_drop {W N A B : B8} {nr nb : Nat} (hB : B.length = nb) : (stO W nr N B nb ++ tagB W nr N A (stO W nr N B nb)).drop nb = tagB W nr N A (stO W nr N B nb) := by
  have hl := stO_len W nr N B nb (by omega)
  exact List.drop_left' (by omega)
theorem spec9 (K N D B : B8) (nk ck nn cn na ca nb cb : Nat) (hK : K.length = nk) (hck : nk ≤ ck) (hN : N.length = nn) (hcn : nn ≤ cn) (hD : D.length = na) (hca : na ≤ ca) (hBl : B.length = nb) (hcb : nb ≤ cb) : Spec prog 9 [.one (jobV nk ck nn cn na ca nb cb)] (jmem K N D B) [] (fun r _ => r = one (.b true)) := by
  refine spec_of_body tabOK func9 rfl (Nat.le_of_ble_eq_true rfl) ?_
  intro E Q0 hB
  refine ok_run hB tabOK pureJ_ok 100 ?_
  simp only [argSl, jmem, jobV]
  repeat (first
    | rw [run_ops0]
    | rw [run_seq]
    | rw [run_region]
    | rw [run_block]
    | rw [run_blk]
    | rw [run_skip]
    | (apply run_go rfl; focus (intro L K hK; simp [-List.reduceReplicate, -List.getD_eq_getElem?_getD, tab38, ty38, tab22, ty22, tab25, ty25, tab26, ty26, tab105, ty105, tab103, ty103, tab5, ty5, tab3, ty3, tab4, ty4, tab9, ty9, ntmps9, pureJ, pureR, datOf]; (repeat' apply And.intro); all_goals first | exact hK | omega)))
  apply run_cond2 rfl
  · intro h; first | cases h | (simp at h; done)
  intro _
  repeat (first
    | rw [run_ops0]
    | rw [run_seq]
    | rw [run_region]
    | rw [run_block]
    | rw [run_blk]
    | rw [run_skip]
    | (apply run_go rfl; focus (intro L K hK; simp [-List.reduceReplicate, -List.getD_eq_getElem?_getD, tab38, ty38, tab22, ty22, tab25, ty25, tab26, ty26, tab105, ty105, tab103, ty103, tab5, ty5, tab3, ty3, tab4, ty4, tab9, ty9, ntmps9, pureJ, datOf]; (repeat' apply And.intro); all_goals first | exact hK | omega)))
  apply run_cond2 rfl
  · intro _
    repeat (first
    | rw [run_ops0]
    | rw [run_seq]
    | rw [run_region]
    | rw [run_block]
    | rw [run_blk]
    | rw [run_skip]
    | (apply run_go rfl; focus (intro L K hK; simp [-List.reduceReplicate, -List.getD_eq_getElem?_getD, tab38, ty38, tab22, ty22, tab25, ty25, tab26, ty26, tab105, ty105, tab103, ty103, tab5, ty5, tab3, ty3, tab4, ty4, tab9, ty9, ntmps9]; (repeat' apply And.intro); all_goals first | exact hK | omega)))
    rw [run_ret]
    simp [-List.reduceReplicate, -List.getD_eq_getElem?_getD, results9, f9, jmem]
  intro hf
  simp at hf
  obtain ⟨hk4, hnn, hna, hnb⟩ := fitB_true hf
  obtain ⟨q, hq, hq2⟩ : ∃ q, nk = 4 * q ∧ (q = 4 ∨ q = 8) := by
    rcases hk4 with h | h
    · exact ⟨4, h, .inl rfl⟩
    · exact ⟨8, h, .inr rfl⟩
  subst hnn
  subst hq
  repeat (first
    | rw [run_ops0]
    | rw [run_seq]
    | rw [run_region]
    | rw [run_block]
    | rw [run_blk]
    | rw [run_skip]
    | (apply run_go rfl; focus (intro L K hK; simp [-List.reduceReplicate, -List.getD_eq_getElem?_getD, tab38, ty38, tab22, ty22, tab25, ty25, tab26, ty26, tab105, ty105, tab103, ty103, tab5, ty5, tab3, ty3, tab4, ty4, tab9, ty9, ntmps9]; (repeat' apply And.intro); all_goals first | exact hK | omega)))
  refine run_call rfl rfl rfl rfl ?_
  refine ok_call [0] rfl rfl ⟨f21, func21, nofun, by decide⟩ (spec21 K q ck hK hq2 hck) trivial (by simp) (by simp [matchM, ix, renA, belA]) rfl rfl (Nat.le_of_ble_eq_true rfl) ?_
  rintro sv m' ⟨rfl, cap, rfl⟩ _
  have hwl := sch_len (key := K) (nk := q) (by omega) (by omega) (4 * (q + 7))
  simp only [smem, jmem, tagE, newMem, afterM, putM, renMk, renA, renSeg, renR, renS, renV, ix, St.put, List.map_cons, List.map_nil, List.drop, List.length_cons, List.length_nil, List.cons_append, List.nil_append, one]
  generalize (sch K q (4 * (q + 7))).1 = W at hwl ⊢
  simp [-List.reduceReplicate]
  refine ok_run hB tabOK pureNone_ok 100 ?_
  repeat (first
    | rw [run_ops0]
    | rw [run_seq]
    | rw [run_region]
    | rw [run_block]
    | rw [run_blk]
    | rw [run_skip]
    | (apply run_go rfl; focus (intro L K hK; simp [-List.reduceReplicate, -List.getD_eq_getElem?_getD, tab38, ty38, tab22, ty22, tab25, ty25, tab26, ty26, tab105, ty105, tab103, ty103, tab5, ty5, tab3, ty3, tab4, ty4, tab9, ty9, ntmps9]; (repeat' apply And.intro); all_goals first | exact hK | omega)))
  refine run_call rfl rfl rfl rfl ?_
  refine ok_call [6, 7, 1, 3, 2] rfl rfl ⟨f28, func28, nofun, by decide⟩ (spec28 W N (q + 7) cap 0 cn D B 0 na ca 0 nb cb (by omega) hca (by omega) (by omega) hcb (by omega) (by omega) (by omega) (by omega) (by omega) (by omega)) trivial (by simp) (by simp [smem, matchM, ix, renA, renSeg, renR, renS, belA, belR, belS, A.len, segLen]) rfl rfl (Nat.le_of_ble_eq_true rfl) ?_
  rintro sv m' ⟨cap2, hcap2, rfl, rfl⟩ _
  have hN0 : (N.drop 0).take 12 = N := List.take_of_length_le (by simp; omega)
  have hD0 : (D.drop 0).take na = D := List.take_of_length_le (by simp; omega)
  have hB0 : (B.drop 0).take nb = B := List.take_of_length_le (by simp; omega)
  have hc1 := sealed_len (W := W) (N := N) (A := D) (nr := q + 7) hBl
  have hc2 := sealed_take (W := W) (N := N) (A := D) (nr := q + 7) hBl
  have hc3 := sealed_drop (W := W) (N := N) (A := D) (nr := q + 7) hBl
  have hinv := stO_inv W (q + 7) B hN hBl
  rw [hN0, hD0, hB0]
  generalize hC : stO W (q + 7) N B nb ++ tagB W (q + 7) N D (stO W (q + 7) N B nb) = C at hc1 hc2 hc3 ⊢
  generalize stO W (q + 7) N B nb = P at hinv hc2 hc3 ⊢
  have he : eqAns (tagB W (q + 7) ((N.drop 0).take 12) ((D.drop 0).take na) ((C.drop 0).take nb)) (C.drop (0 + nb)) 16 16 = true := by
    rw [hN0, hD0, List.drop_zero, hc2, Nat.zero_add, hc3]
    exact eqAns_self _
  have hrd : stO W (q + 7) ((N.drop 0).take 12) ((C.drop 0).take nb) nb = B := by
    rw [hN0, List.drop_zero, hc2]
    exact hinv
  clear hc2 hc3 hinv hC
  simp only [smem, jmem, tagE, newMem, afterM, putM, renMk, renA, renSeg, renR, renS, renV, ix, St.put, List.map_cons, List.map_nil, List.drop, List.length_cons, List.length_nil, List.cons_append, List.nil_append, one]
  simp [-List.reduceReplicate]
  refine ok_run hB tabOK pureNone_ok 100 ?_
  repeat (first
    | rw [run_ops0]
    | rw [run_seq]
    | rw [run_region]
    | rw [run_block]
    | rw [run_blk]
    | rw [run_skip]
    | (apply run_go rfl; focus (intro L K hK; simp [-List.reduceReplicate, -List.getD_eq_getElem?_getD, tab38, ty38, tab22, ty22, tab25, ty25, tab26, ty26, tab105, ty105, tab103, ty103, tab5, ty5, tab3, ty3, tab4, ty4, tab9, ty9, ntmps9]; (repeat' apply And.intro); all_goals first | exact hK | omega)))
  refine run_call rfl rfl rfl rfl ?_
  refine ok_call [6, 7, 1, 8, 2] rfl rfl ⟨f29, func29, nofun, by decide⟩ (spec29O W N C (q + 7) cap 0 cn 0 nb cap2 D 0 na ca (by omega) hca (by omega) (by omega) (by omega) (by omega) (by omega) (by omega) (by omega) hcap2 (by omega) he) trivial (by simp) (by simp [smem, matchM, ix, renA, renSeg, renR, renS, belA, belR, belS, A.len, segLen]) rfl rfl (Nat.le_of_ble_eq_true rfl) ?_
  rintro sv m' ⟨rfl, rfl⟩ _
  rw [hrd]
  simp only [smem, jmem, tagE, newMem, afterM, putM, renMk, renA, renSeg, renR, renS, renV, ix, St.put, List.map_cons, List.map_nil, List.drop, List.length_cons, List.length_nil, List.cons_append, List.nil_append, one]
  simp [-List.reduceReplicate]
  refine ok_run hB tabOK pureNone_ok 100 ?_
  have hBt : B.take nb = B := List.take_of_length_le (by omega)
  repeat (first
    | rw [run_ops0]
    | rw [run_seq]
    | rw [run_region]
    | rw [run_block]
    | rw [run_blk]
    | rw [run_skip]
    | (apply run_go rfl; focus (intro L K hK; simp [-List.reduceReplicate, -List.getD_eq_getElem?_getD, tab38, ty38, tab22, ty22, tab25, ty25, tab26, ty26, tab105, ty105, tab103, ty103, tab5, ty5, tab3, ty3, tab4, ty4, tab9, ty9, ntmps9]; (repeat' apply And.intro); all_goals first | exact hK | omega)))
  apply run_guard rfl rfl rfl rfl
  · intro _
    (apply Exists.intro; apply And.intro; focus (intro L K hK; simp [-List.reduceReplicate, -List.getD_eq_getElem?_getD, tab38, ty38, tab22, ty22, tab25, ty25, tab26, ty26, tab105, ty105, tab103, ty103, tab5, ty5, tab3, ty3, tab4, ty4, tab9, ty9, ntmps9, hBt, hBl]; (repeat' apply And.intro); all_goals first | exact hK | omega))
    apply run_guard rfl rfl rfl rfl
    · intro _
      (apply Exists.intro; apply And.intro; focus (intro L K hK; simp [-List.reduceReplicate, -List.getD_eq_getElem?_getD, tab38, ty38, tab22, ty22, tab25, ty25, tab26, ty26, tab105, ty105, tab103, ty103, tab5, ty5, tab3, ty3, tab4, ty4, tab9, ty9, ntmps9, hBt, hBl]; (repeat' apply And.intro); all_goals first | exact hK | omega))
      apply run_guard rfl rfl rfl rfl
      · intro _
        (apply Exists.intro; apply And.intro; focus (intro L K hK; simp [-List.reduceReplicate, -List.getD_eq_getElem?_getD, tab38, ty38, tab22, ty22, tab25, ty25, tab26, ty26, tab105, ty105, tab103, ty103, tab5, ty5, tab3, ty3, tab4, ty4, tab9, ty9, ntmps9, hBt, hBl]; (repeat' apply And.intro); all_goals first | exact hK | omega))
        apply run_guard rfl rfl rfl rfl
        · intro _
          (apply Exists.intro; apply And.intro; focus (intro L K hK; simp [-List.reduceReplicate, -List.getD_eq_getElem?_getD, tab38, ty38, tab22, ty22, tab25, ty25, tab26, ty26, tab105, ty105, tab103, ty103, tab5, ty5, tab3, ty3, tab4, ty4, tab9, ty9, ntmps9, hBt, hBl]; (repeat' apply And.intro); all_goals first | exact hK | omega))
          apply run_guard rfl rfl rfl rfl
          · intro _
            (apply Exists.intro; apply And.intro; focus (intro L K hK; simp [-List.reduceReplicate, -List.getD_eq_getElem?_getD, tab38, ty38, tab22, ty22, tab25, ty25, tab26, ty26, tab105, ty105, tab103, ty103, tab5, ty5, tab3, ty3, tab4, ty4, tab9, ty9, ntmps9, hBt, hBl]; (repeat' apply And.intro); all_goals first | exact hK | omega))
            apply run_guard rfl rfl rfl rfl
            · intro _
              (apply Exists.intro; apply And.intro; focus (intro L K hK; simp [-List.reduceReplicate, -List.getD_eq_getElem?_getD, tab38, ty38, tab22, ty22, tab25, ty25, tab26, ty26, tab105, ty105, tab103, ty103, tab5, ty5, tab3, ty3, tab4, ty4, tab9, ty9, ntmps9, hBt, hBl]; (repeat' apply And.intro); all_goals first | exact hK | omega))
              repeat (first
    | rw [run_ops0]
    | rw [run_seq]
    | rw [run_region]
    | rw [run_block]
    | rw [run_blk]
    | rw [run_skip]
    | (apply run_go rfl; focus (intro L K hK; simp [-List.reduceReplicate, -List.getD_eq_getElem?_getD, tab38, ty38, tab22, ty22, tab25, ty25, tab26, ty26, tab105, ty105, tab103, ty103, tab5, ty5, tab3, ty3, tab4, ty4, tab9, ty9, ntmps9, hBt, hBl, hcb]; (repeat' apply And.intro); all_goals first | exact hK | omega)))
              rw [run_ret]
              simp [-List.reduceReplicate, -List.getD_eq_getElem?_getD, results9, f9, jmem]
            · intro h; first | cases h | (simp [hBt, hBl] at h; done)
          · intro h; first | cases h | (simp [hBt, hBl] at h; done)
        · intro h; first | cases h | (simp [hBt, hBl] at h; done)
      · intro h; first | cases h | (simp [hBt, hBl] at h; done)
    · intro h; first | cases h | (simp [hBt, hBl] at h; done)
  · intro h; first | cases h | (simp [hBt, hBl] at h; done)
end Go.V
end
