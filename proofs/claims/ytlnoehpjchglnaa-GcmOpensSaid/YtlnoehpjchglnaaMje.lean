/- Texts of the walks, put together: Wh Wi Wj Yb Xf Ld Lf Xo Xg Lg Xp Xh Xc Xi. No condition. -/
import Derived.Test.YtlnoehpjchglnaaMjd
section
set_option linter.unusedSimpArgs false
set_option linter.unusedVariables false
set_option maxRecDepth 10000
namespace Go.V
open Go Go.Proofs.Try
theorem spec23nil (b : B8) (hb : b.length = 16) : Spec prog 23 [.one (.s .nil), .one (.a8 b)] [] [] (fun r _ => r = .one (.a8 zero16)) := by
  refine spec_of_body tabOK func23 rfl (Nat.le_of_ble_eq_true rfl) ?_
  intro E Q0 hB
  refine ok_run hB tabOK pureE_ok 100 ?_
  simp only [argSl]
  repeat (first
    | rw [run_ops0]
    | rw [run_seq]
    | rw [run_region]
    | rw [run_block]
    | rw [run_blk]
    | rw [run_skip]
    | (apply run_go rfl; focus (intro L K hK; simp [-List.reduceReplicate, -List.getD_eq_getElem?_getD, hb]; (repeat' apply And.intro); all_goals first | exact hK | omega)))
  apply run_cond2 rfl
  · intro _
    repeat (first
    | rw [run_ops0]
    | rw [run_seq]
    | rw [run_region]
    | rw [run_block]
    | rw [run_blk]
    | rw [run_skip]
    | (apply run_go rfl; focus (intro L K hK; simp [-List.reduceReplicate, -List.getD_eq_getElem?_getD, hb]; (repeat' apply And.intro); all_goals first | exact hK | omega)))
    rw [run_ret]
    simp [-List.reduceReplicate, -List.getD_eq_getElem?_getD, results23, f23, zero16]
  · intro h; cases h
theorem spec21bad (key : B8) (n cap0 : Nat) (hk : key.length = n) (hcap0 : n ≤ cap0) (h16 : n ≠ 16) (h32 : n ≠ 32) (hn : n < 2 ^ 62) : Spec prog 21 [one (.sl 0 0 n cap0 1)] [.ent ⟨false, 5, none, .a8 key⟩] [] (fun r m => r = .tup [.s .nil, .s (.i 2)] ∧ m = [.ent ⟨false, 5, none, .a8 key⟩]) := by
  refine spec_of_body tabOK func21 rfl (Nat.le_of_ble_eq_true rfl) ?_
  intro E Q0 hB
  refine ok_run hB tabOK pureE_ok 100 ?_
  simp only [argSl]
  have h16' : (n : Int) ≠ 16 := by omega
  have h32' : (n : Int) ≠ 32 := by omega
  have d4 : (n : Int).tdiv 4 = (n : Int) / 4 := by rw [Int.tdiv_eq_ediv_of_nonneg (by omega)]
  repeat (first
    | rw [run_ops0]
    | rw [run_seq]
    | rw [run_region]
    | rw [run_block]
    | rw [run_blk]
    | rw [run_skip]
    | (apply run_go rfl; focus (intro L K hK; simp [-List.reduceReplicate, -List.getD_eq_getElem?_getD, d4]; (repeat' apply And.intro); all_goals first | exact hK | omega)))
  apply run_guard rfl rfl rfl rfl
  · intro _
    (apply Exists.intro; apply And.intro; focus (intro L K hK; simp [-List.reduceReplicate, -List.getD_eq_getElem?_getD]; (repeat' apply And.intro); all_goals first | exact hK | omega))
    apply run_guard rfl rfl rfl rfl
    · intro _
      (apply Exists.intro; apply And.intro; focus (intro L K hK; simp [-List.reduceReplicate, -List.getD_eq_getElem?_getD]; (repeat' apply And.intro); all_goals first | exact hK | omega))
      apply run_guard rfl rfl rfl rfl
      · intro _
        (apply Exists.intro; apply And.intro; focus (intro L K hK; simp [-List.reduceReplicate, -List.getD_eq_getElem?_getD]; (repeat' apply And.intro); all_goals first | exact hK | omega))
        repeat (first
    | rw [run_ops0]
    | rw [run_seq]
    | rw [run_region]
    | rw [run_block]
    | rw [run_blk]
    | rw [run_skip]
    | (apply run_go rfl; focus (intro L K hK; simp [-List.reduceReplicate, -List.getD_eq_getElem?_getD]; (repeat' apply And.intro); all_goals first | exact hK | omega)))
        apply run_cond2 rfl
        · intro _
          repeat (first
    | rw [run_ops0]
    | rw [run_seq]
    | rw [run_region]
    | rw [run_block]
    | rw [run_blk]
    | rw [run_skip]
    | (apply run_go rfl; focus (intro L K hK; simp [-List.reduceReplicate, -List.getD_eq_getElem?_getD]; (repeat' apply And.intro); all_goals first | exact hK | omega)))
          rw [run_ret]
          simp [-List.reduceReplicate, -List.getD_eq_getElem?_getD, results21, f21]
        · intro h; first | (simp at h; done) | (simp at h; omega)
      · intro h; first | (simp at h; done) | (simp at h; omega)
    · intro h; first | (simp at h; done) | (simp at h; omega)
  · intro h; first | (simp at h; done) | (simp at h; omega)
theorem spec22bad (key : B8) (n cap0 : Nat) (hk : key.length = n) (hcap0 : n ≤ cap0) (h16 : n ≠ 16) (h32 : n ≠ 32) (hn : n < 2 ^ 62) : Spec prog 22 [one (.sl 0 0 n cap0 1)] [.ent ⟨false, 5, none, .a8 key⟩] [] (fun r m => r = one .nil ∧ m = [.ent ⟨false, 5, none, .a8 key⟩]) := by
  refine spec_of_body tabOK func22 rfl (Nat.le_of_ble_eq_true rfl) ?_
  intro E Q0 hB
  refine ok_run hB tabOK pureE_ok 100 ?_
  simp only [argSl]
  have h16' : (n : Int) ≠ 16 := by omega
  have h32' : (n : Int) ≠ 32 := by omega
  repeat (first
    | rw [run_ops0]
    | rw [run_seq]
    | rw [run_region]
    | rw [run_block]
    | rw [run_blk]
    | rw [run_skip]
    | (apply run_go rfl; focus (intro L K hK; simp [-List.reduceReplicate, -List.getD_eq_getElem?_getD]; (repeat' apply And.intro); all_goals first | exact hK | omega)))
  apply run_guard rfl rfl rfl rfl
  · intro _
    (apply Exists.intro; apply And.intro; focus (intro L K hK; simp [-List.reduceReplicate, -List.getD_eq_getElem?_getD]; (repeat' apply And.intro); all_goals first | exact hK | omega))
    apply run_guard rfl rfl rfl rfl
    · intro _
      (apply Exists.intro; apply And.intro; focus (intro L K hK; simp [-List.reduceReplicate, -List.getD_eq_getElem?_getD]; (repeat' apply And.intro); all_goals first | exact hK | omega))
      apply run_guard rfl rfl rfl rfl
      · intro _
        (apply Exists.intro; apply And.intro; focus (intro L K hK; simp [-List.reduceReplicate, -List.getD_eq_getElem?_getD]; (repeat' apply And.intro); all_goals first | exact hK | omega))
        repeat (first
    | rw [run_ops0]
    | rw [run_seq]
    | rw [run_region]
    | rw [run_block]
    | rw [run_blk]
    | rw [run_skip]
    | (apply run_go rfl; focus (intro L K hK; simp [-List.reduceReplicate, -List.getD_eq_getElem?_getD]; (repeat' apply And.intro); all_goals first | exact hK | omega)))
        apply run_cond2 rfl
        · intro _
          repeat (first
    | rw [run_ops0]
    | rw [run_seq]
    | rw [run_region]
    | rw [run_block]
    | rw [run_blk]
    | rw [run_skip]
    | (apply run_go rfl; focus (intro L K hK; simp [-List.reduceReplicate, -List.getD_eq_getElem?_getD]; (repeat' apply And.intro); all_goals first | exact hK | omega)))
          rw [run_ret]
          simp [-List.reduceReplicate, -List.getD_eq_getElem?_getD, results22, f22]
        · intro h; first | (simp at h; done) | (simp at h; omega)
      · intro h; first | (simp at h; done) | (simp at h; omega)
    · intro h; first | (simp at h; done) | (simp at h; omega)
  · intro h; first | (simp at h; done) | (simp at h; omega)

/-! keys in memory, as plain calls read them -/
/-- A key's block of the program: how many rows, and their bytes. -/
def kOf (m : Mem) (id : Nat) : Option (Nat × Nat × Nat × B8) :=
  match m[id]? with
  | some (.ent e) => match e.c with
    | .st [⟨1, .s (.sl j 0 nr cap 16)⟩] => match m[j]? with
      | some (.ent e2) => match e2.c with
        | .a8 W => some (j, nr, cap, W)
        | _ => none
      | _ => none
    | _ => none
  | _ => none
/-- A key's block of the document. -/
def rOf (m : Mem) (id : Nat) : Option (Nat × Nat × Nat × Int × LI × LI) :=
  match m[id]? with
  | some (.ent e) => match e.c with
    | .st [⟨1, .s (.sl j 0 nw cap 4)⟩, ⟨256, .ai sb⟩, ⟨1, .s (.i N)⟩] => match m[j]? with
      | some (.ent e2) => match e2.c with
        | .ai W => some (j, nw, cap, N, sb, W)
        | _ => none
      | _ => none
    | _ => none
  | _ => none
theorem kOf_get {m : Mem} {id j nr cap : Nat} {W : B8} (h : kOf m id = some (j, nr, cap, W)) : ∃ e e2 : Ent, m[id]? = some (.ent e) ∧ e.c = .st [⟨1, .s (.sl j 0 nr cap 16)⟩] ∧ m[j]? = some (.ent e2) ∧ e2.c = .a8 W := by
  unfold kOf at h
  split at h
  · split at h
    · split at h
      · split at h
        · cases h
          exact ⟨_, _, by assumption, by assumption, by assumption, by assumption⟩
        · cases h
      · cases h
    · cases h
  · cases h
theorem rOf_get {m : Mem} {id j nw cap : Nat} {N : Int} {sb W : LI} (h : rOf m id = some (j, nw, cap, N, sb, W)) : ∃ e e2 : Ent, m[id]? = some (.ent e) ∧ e.c = .st [⟨1, .s (.sl j 0 nw cap 4)⟩, ⟨256, .ai sb⟩, ⟨1, .s (.i N)⟩] ∧ m[j]? = some (.ent e2) ∧ e2.c = .ai W := by
  unfold rOf at h
  split at h
  · split at h
    · split at h
      · split at h
        · cases h
          exact ⟨_, _, by assumption, by assumption, by assumption, by assumption⟩
        · cases h
      · cases h
    · cases h
  · cases h
theorem kOf_app {m : Mem} {id : Nat} {v : Nat × Nat × Nat × B8} (x : Mem) (h : kOf m id = some v) : kOf (m ++ x) id = some v := by
  obtain ⟨j, nr, cap, W⟩ := v
  obtain ⟨e, e2, h1, h2, h3, h4⟩ := kOf_get h
  unfold kOf
  simp only [get_app h1, h2, get_app h3, h4]
theorem rOf_app {m : Mem} {id : Nat} {v : Nat × Nat × Nat × Int × LI × LI} (x : Mem) (h : rOf m id = some v) : rOf (m ++ x) id = some v := by
  obtain ⟨j, nw, cap, N, sb, W⟩ := v
  obtain ⟨e, e2, h1, h2, h3, h4⟩ := rOf_get h
  unfold rOf
  simp only [get_app h1, h2, get_app h3, h4]
/-- A key as it may be handed to Block. -/
def kFit (b W : B8) (nr : Nat) : Prop := b.length = 16 ∧ 16 * nr ≤ W.length ∧ 0 < nr ∧ nr < 1000
def rFit (b : B8) (sb W : LI) (nw : Nat) (N : Int) : Prop := b.length = 16 ∧ 4 * nw ≤ W.length ∧ (nw : Int) = 4 * (N + 7) ∧ 0 ≤ N ∧ N < 100 ∧ sb.length = 256 ∧ Byt W ∧ Byt sb
open Classical in
/-- What Block answers, over keys in memory; the law's own test is passed as it is. -/
noncomputable def pureK (snd : Bool) : Pure := fun m f l =>
  match f, l with
  | 20, [] => if snd = true then some (one (.b true)) else none
  | 23, [.one (.s .nil), .one (.a8 b)] => if b.length = 16 then some (.one (.a8 zero16)) else none
  | 23, [.one (.s (.ptr id 0 0)), .one (.a8 b)] => match kOf m id with
    | some (j, nr, _, W) => if kFit b W nr ∧ id ≠ j then some (.one (.a8 (rounds b W nr (nr - 1)))) else none
    | none => none
  | 24, [.one (.s (.ptr id 0 0)), .one (.a8 b)] => match rOf m id with
    | some (j, nw, _, N, sb, W) => if rFit b sb W nw N ∧ id ≠ j then some (.one (.a8 (outB (rRounds sb W N.toNat (iniS b W 16) (N.toNat + 6)) 16))) else none
    | none => none
  | _, _ => none
theorem pureK_mono (snd : Bool) : PureMono (pureK snd) := by
  intro m x f l v h
  unfold pureK at h ⊢
  split at h
  · exact h
  · exact h
  · split at h
    · rename_i hk
      simp only [kOf_app x hk]
      exact h
    · cases h
  · split at h
    · rename_i hk
      simp only [rOf_app x hk]
      exact h
    · cases h
  · cases h
theorem pureK_ok (snd : Bool) (hs : snd = true → Spec prog 20 [] [] [] (fun r _ => r = one (.b true))) : PureOK prog (pureK snd) := by
  intro m f svs sv h E w ℓ vs hm hd
  unfold pureK at h
  split at h
  · split at h
    · rename_i hc
      cases h
      exact ⟨⟨f20, func20, nofun, by decide⟩, pure_spec (hs hc) rfl rfl w ℓ vs hd⟩
    · cases h
  · split at h
    · rename_i hc
      cases h
      exact ⟨⟨f23, func23, nofun, by decide⟩, pure_spec (spec23nil _ hc) rfl rfl w ℓ vs hd⟩
    · cases h
  · split at h
    · rename_i id b _ j nr cap W hk
      split at h
      · rename_i hc
        obtain ⟨⟨hb, hW, hR, hR2⟩, hne⟩ := hc
        cases h
        obtain ⟨e, e2, h1, h2, h3, h4⟩ := kOf_get hk
        refine ⟨⟨f23, func23, nofun, by decide⟩, pure_use (spec23 b W nr cap hb hW hR hR2) (by simp [kmem]) rfl hm [id, j] (by simp [hne]) ?_ rfl ?_⟩
        · simp [matchM, kmem, h1, h2, h3, h4, renA, renSeg, renR, renS, ix, belA, belR, belS, segLen, A.len]
        · simpa [renV, renA, renS, ix, one] using hd
      · cases h
    · cases h
  · split at h
    · rename_i id b _ j nw cap N sb W hk
      split at h
      · rename_i hc
        obtain ⟨⟨hb, hW, hN, hN0, hN1, hsl, hWb, hsb⟩, hne⟩ := hc
        cases h
        obtain ⟨e, e2, h1, h2, h3, h4⟩ := rOf_get hk
        have hNn : N = (N.toNat : Int) := by omega
        refine ⟨⟨f24, func24, nofun, by decide⟩, pure_use (spec24 b sb W nw cap N.toNat hb hW (by omega) (by omega) hsl hWb hsb) (by simp [rkmem]) rfl hm [id, j] (by simp [hne]) ?_ rfl ?_⟩
        · rw [hNn] at h2
          simp [matchM, rkmem, h1, h2, h3, h4, renA, renSeg, renR, renS, ix, belA, belR, belS, segLen, A.len]
        · simpa [renV, renA, renS, ix, one] using hd
      · cases h
    · cases h
  · cases h
end Go.V
end
section
set_option linter.unusedSimpArgs false
set_option linter.unusedVariables false
set_option maxRecDepth 10000
namespace Go.V
open Go Go.Proofs.Try
theorem run_call {T : Tab} {pu : Pure} {fr : Nat → Bool} {N : Nat} {fin : St → Prop} {leaf : List Item → St → Prop} {n : Nat} {k : List Item} {st : St} {all r : List Oper} {o : Oper} {c : Call} {f : FuncId} (hg : o.guard = none) (ho : o.op = .call c) (hc : c.callee = .value (.func f)) (hp : pu st.m f (c.args.toList.map st.ev) = none)
    (h : leaf (.ops all (o :: r) :: k) st) : run T pu fr N fin leaf (n + 1) (.ops all (o :: r) :: k) st := by
  rw [run_ops]
  unfold guardOf
  rw [hg]
  simp only [step1, ho]
  obtain ⟨callee, args, ats⟩ := c
  simp only at hc hp
  subst hc
  simp only [hp]
  exact h
def keyT : Nat → B8
  | 0 => zero16
  | j + 1 => (keyT j).set j (BitVec.ofInt 8 j)
def blkT : Nat → B8
  | 0 => zero16
  | j + 1 => (blkT j).set j (BitVec.ofInt 8 (17 * j))
theorem keyT_len : ∀ j, (keyT j).length = 16
  | 0 => rfl
  | j + 1 => by simp [keyT, keyT_len j]
theorem blkT_len : ∀ j, (blkT j).length = 16
  | 0 => rfl
  | j + 1 => by simp [blkT, blkT_len j]
theorem sound_val : (rounds (blkT 16) (sch (keyT 16) 4 (4 * (4 + 7))).1 11 10).getD 0 0#8 = 105#8 ∧ (rounds (blkT 16) (sch (keyT 16) 4 (4 * (4 + 7))).1 11 10).getD 15 0#8 = 90#8 := by decide +kernel
theorem spec20 : Spec prog 20 [] [] [] (fun r _ => r = one (.b true)) := by
  refine spec_of_body tabOK func20 rfl (Nat.le_of_ble_eq_true rfl) ?_
  intro E Q0 hB
  have puOK := pureK_ok false (by intro h; cases h)
  refine ok_run hB tabOK puOK 100 ?_
  simp only [argSl]
  repeat (first
    | rw [run_ops0]
    | rw [run_seq]
    | rw [run_region]
    | rw [run_block]
    | rw [run_blk]
    | rw [run_skip]
    | (apply run_go rfl; focus (intro L K hK; simp [-List.reduceReplicate, -List.getD_eq_getElem?_getD]; (repeat' apply And.intro); all_goals first | exact hK | omega)))
  rw [run_loop]
  refine ok_loop (X := Nat) (fun j => ⟨[(8, one (.i j)), (2, one (.ptr 1 0 0)), (1, one (.sl 0 0 16 16 1))], [.ent ⟨true, 5, none, .a8 (keyT j)⟩, .ent ⟨true, 23, some 16, .a8 (blkT j)⟩]⟩) (fun j => j ≤ 16) (fun j => 16 - j) (fun j i L h => absurd (hB.anc i L h) (by simp)) ⟨0, by omega, by simp [-List.reduceReplicate, -List.getD_eq_getElem?_getD, keyT, blkT, zero16, List.replicate]⟩ ?_
  intro j hj
  refine ok_run hB tabOK puOK 100 ?_
  have hkl := keyT_len j
  have hbl := blkT_len j
  repeat (first
    | rw [run_ops0]
    | rw [run_seq]
    | rw [run_region]
    | rw [run_block]
    | rw [run_blk]
    | rw [run_skip]
    | (apply run_go rfl; focus (intro L K hK; simp [-List.reduceReplicate, -List.getD_eq_getElem?_getD]; (repeat' apply And.intro); all_goals first | exact hK | omega)))
  apply run_cond2 rfl
  · intro h
    simp at h
    repeat (first
    | rw [run_ops0]
    | rw [run_seq]
    | rw [run_region]
    | rw [run_block]
    | rw [run_blk]
    | rw [run_skip]
    | (apply run_go rfl; focus (intro L K hK; simp [-List.reduceReplicate, -List.getD_eq_getElem?_getD, hkl, hbl]; (repeat' apply And.intro); all_goals first | exact hK | omega)))
    rw [run_back]
    refine ⟨j + 1, by omega, by omega, ?_⟩
    simp [-List.reduceReplicate, -List.getD_eq_getElem?_getD, keyT, blkT]
  · intro h
    simp at h
    obtain rfl : j = 16 := by omega
    apply run_exit2 rfl
    repeat (first
    | rw [run_ops0]
    | rw [run_seq]
    | rw [run_region]
    | rw [run_block]
    | rw [run_blk]
    | rw [run_skip]
    | (apply run_go rfl; focus (intro L K hK; simp [-List.reduceReplicate, -List.getD_eq_getElem?_getD]; (repeat' apply And.intro); all_goals first | exact hK | omega)))
    refine run_call rfl rfl rfl rfl ?_
    refine ok_call [0] rfl rfl ⟨f21, func21, nofun, by decide⟩ (spec21 (keyT 16) 4 16 (keyT_len 16) (.inl rfl) (by decide)) trivial (by simp) (by simp [matchM, ix, renA, belA]) rfl rfl (Nat.le_of_ble_eq_true rfl) ?_
    rintro sv m' ⟨rfl, cap, rfl⟩ _
    have hv := sound_val
    have hwl := sch_len (key := keyT 16) (nk := 4) (keyT_len 16) (by omega) (4 * (4 + 7))
    simp only [newMem, afterM, putM, renMk, renA, renSeg, renR, renS, renV, ix, St.put, List.map_cons, List.map_nil, List.drop, List.length_cons, List.length_nil, List.cons_append, List.nil_append]
    generalize (sch (keyT 16) 4 (4 * (4 + 7))).1 = W at hv hwl ⊢
    simp
    refine ok_run hB tabOK puOK 100 ?_
    have hb16 := blkT_len 16
    have hfit : kFit (blkT 16) W 11 := ⟨hb16, by omega, by omega, by omega⟩
    repeat (first
    | rw [run_ops0]
    | rw [run_seq]
    | rw [run_region]
    | rw [run_block]
    | rw [run_blk]
    | rw [run_skip]
    | (apply run_go rfl; focus (intro L K hK; simp [-List.reduceReplicate, -List.getD_eq_getElem?_getD, pureK, kOf, hfit, hb16, hwl, rounds_len]; (repeat' apply And.intro); all_goals first | exact hK | omega)))
    apply run_guard rfl rfl rfl rfl
    · intro _
      (apply Exists.intro; apply And.intro; focus (intro L K hK; simp [-List.reduceReplicate, -List.getD_eq_getElem?_getD, rounds_len, hb16, hv]; (repeat' apply And.intro); all_goals first | exact hK | omega))
      apply run_guard rfl rfl rfl rfl
      · intro _
        (apply Exists.intro; apply And.intro; focus (intro L K hK; simp [-List.reduceReplicate, -List.getD_eq_getElem?_getD, rounds_len, hb16, hv]; (repeat' apply And.intro); all_goals first | exact hK | omega))
        apply run_guard rfl rfl rfl rfl
        · intro _
          (apply Exists.intro; apply And.intro; focus (intro L K hK; simp [-List.reduceReplicate, -List.getD_eq_getElem?_getD, rounds_len, hb16, hv]; (repeat' apply And.intro); all_goals first | exact hK | omega))
          repeat (first
    | rw [run_ops0]
    | rw [run_seq]
    | rw [run_region]
    | rw [run_block]
    | rw [run_blk]
    | rw [run_skip]
    | (apply run_go rfl; focus (intro L K hK; simp [-List.reduceReplicate, -List.getD_eq_getElem?_getD, rounds_len, hb16, hv]; (repeat' apply And.intro); all_goals first | exact hK | omega)))
          apply run_guard rfl rfl rfl rfl
          · intro _
            (apply Exists.intro; apply And.intro; focus (intro L K hK; simp [-List.reduceReplicate, -List.getD_eq_getElem?_getD, rounds_len, hb16, hv]; (repeat' apply And.intro); all_goals first | exact hK | omega))
            apply run_guard rfl rfl rfl rfl
            · intro _
              (apply Exists.intro; apply And.intro; focus (intro L K hK; simp [-List.reduceReplicate, -List.getD_eq_getElem?_getD, rounds_len, hb16, hv]; (repeat' apply And.intro); all_goals first | exact hK | omega))
              apply run_guard rfl rfl rfl rfl
              · intro _
                (apply Exists.intro; apply And.intro; focus (intro L K hK; simp [-List.reduceReplicate, -List.getD_eq_getElem?_getD, rounds_len, hb16, hv]; (repeat' apply And.intro); all_goals first | exact hK | omega))
                repeat (first
    | rw [run_ops0]
    | rw [run_seq]
    | rw [run_region]
    | rw [run_block]
    | rw [run_blk]
    | rw [run_skip]
    | (apply run_go rfl; focus (intro L K hK; simp [-List.reduceReplicate, -List.getD_eq_getElem?_getD, rounds_len, hb16, hv]; (repeat' apply And.intro); all_goals first | exact hK | omega)))
                rw [run_ret]
                simp [-List.reduceReplicate, -List.getD_eq_getElem?_getD, results20, f20]
              · intro h; first | (simp [hv] at h; done) | (simp at h; done)
            · intro h; first | (simp [hv] at h; done) | (simp at h; done)
          · intro h; first | (simp [hv] at h; done) | (simp at h; done)
        · intro h; first | (simp [hv] at h; done) | (simp at h; done)
      · intro h; first | (simp [hv] at h; done) | (simp at h; done)
    · intro h; first | (simp [hv] at h; done) | (simp at h; done)
end Go.V
end
section
set_option linter.unusedSimpArgs false
set_option linter.unusedVariables false
set_option maxRecDepth 10000
namespace Go.V
open Go Go.Proofs.Try
theorem pureT_ok : PureOK prog (pureK true) := pureK_ok true (fun _ => spec20)
/-- The program's and the document's schedules of a key are alike. -/
theorem newW {key : B8} {nk : Nat} (hk : key.length = 4 * nk) (hnk : nk = 4 ∨ nk = 8) : ∃ W : B8, (sch key nk (4 * (nk + 7))).1 = W ∧ W.length = 16 * (nk + 7) ∧ rsch key (tabR 256) nk (4 * (nk + 7)) = toI W := by
  refine ⟨_, rfl, ?_, sched_eq tab_ok hnk hk _ (Nat.le_refl _)⟩
  rw [sch_len hk (by omega)]
  omega
theorem kfit {b W : B8} {nk : Nat} (hb : b.length = 16) (hW : W.length = 16 * (nk + 7)) (hnk : nk = 4 ∨ nk = 8) : kFit b W (nk + 7) := ⟨hb, by omega, by omega, by omega⟩
theorem rfit {b W : B8} {nk : Nat} (hb : b.length = 16) (hW : W.length = 16 * (nk + 7)) (hnk : nk = 4 ∨ nk = 8) : rFit b (tabR 256) (toI W) (4 * (nk + 7)) nk :=
  ⟨hb, by rw [toI_len]; omega, by omega, by omega, by omega, tabR_len 256, toI_byt W, tab_byt⟩
theorem spec3 (key b : B8) (n cap0 : Nat) (hk : key.length = n) (hcap0 : n ≤ cap0) (hb : b.length = 16) : Spec prog 3 [one (.sl 0 0 n cap0 1), .one (.a8 b)] [.ent ⟨false, 5, none, .a8 key⟩] [] (fun r _ => r = one (.b true)) := by
  refine spec_of_body tabOK func3 rfl (Nat.le_of_ble_eq_true rfl) ?_
  intro E Q0 hB
  refine ok_run hB tabOK pureT_ok 100 ?_
  simp only [argSl]
  repeat (first
    | rw [run_ops0]
    | rw [run_seq]
    | rw [run_region]
    | rw [run_block]
    | rw [run_blk]
    | rw [run_skip]
    | (apply run_go rfl; focus (intro L K hK; simp [-List.reduceReplicate, -List.getD_eq_getElem?_getD, hb, pureK]; (repeat' apply And.intro); all_goals first | exact hK | omega)))
  apply run_cond2 rfl
  · intro h; cases h
  intro _
  repeat (first
    | rw [run_ops0]
    | rw [run_seq]
    | rw [run_region]
    | rw [run_block]
    | rw [run_blk]
    | rw [run_skip]
    | (apply run_go rfl; focus (intro L K hK; simp [-List.reduceReplicate, -List.getD_eq_getElem?_getD]; (repeat' apply And.intro); all_goals first | exact hK | omega)))
  apply run_cond2 rfl
  · intro h
    repeat (first
    | rw [run_ops0]
    | rw [run_seq]
    | rw [run_region]
    | rw [run_block]
    | rw [run_blk]
    | rw [run_skip]
    | (apply run_go rfl; focus (intro L K hK; simp [-List.reduceReplicate, -List.getD_eq_getElem?_getD]; (repeat' apply And.intro); all_goals first | exact hK | omega)))
    rw [run_ret]
    simp [-List.reduceReplicate, -List.getD_eq_getElem?_getD, results3, f3]
  intro h100
  simp at h100
  repeat (first
    | rw [run_ops0]
    | rw [run_seq]
    | rw [run_region]
    | rw [run_block]
    | rw [run_blk]
    | rw [run_skip]
    | (apply run_go rfl; focus (intro L K hK; simp [-List.reduceReplicate, -List.getD_eq_getElem?_getD]; (repeat' apply And.intro); all_goals first | exact hK | omega)))
  refine run_call rfl rfl rfl rfl ?_
  by_cases hnk : ∃ nk, n = 4 * nk ∧ (nk = 4 ∨ nk = 8)
  · obtain ⟨nk, rfl, hnk⟩ := hnk
    refine ok_call [0] rfl rfl ⟨f21, func21, nofun, by decide⟩ (spec21 key nk cap0 hk hnk hcap0) trivial (by simp) (by simp [matchM, ix, renA, belA]) rfl rfl (Nat.le_of_ble_eq_true rfl) ?_
    rintro sv m' ⟨rfl, cap, rfl⟩ _
    obtain ⟨W, hWe, hWl, hWr⟩ := newW hk hnk
    simp only [newMem, hWe, afterM, putM, renMk, renA, renSeg, renR, renS, renV, ix, St.put, List.map_cons, List.map_nil, List.drop, List.length_cons, List.length_nil, List.cons_append, List.nil_append]
    simp
    refine ok_run hB tabOK pureT_ok 100 ?_
    repeat (first
    | rw [run_ops0]
    | rw [run_seq]
    | rw [run_region]
    | rw [run_block]
    | rw [run_blk]
    | rw [run_skip]
    | (apply run_go rfl; focus (intro L K hK; simp [-List.reduceReplicate, -List.getD_eq_getElem?_getD]; (repeat' apply And.intro); all_goals first | exact hK | omega)))
    refine run_call rfl rfl rfl rfl ?_
    refine ok_call [0] rfl rfl ⟨f22, func22, nofun, by decide⟩ (spec22 key nk cap0 hk hnk hcap0) trivial (by simp) (by simp [matchM, ix, renA, belA]) rfl rfl (Nat.le_of_ble_eq_true rfl) ?_
    rintro sv m' ⟨rfl, capr, rfl⟩ _
    simp only [rnewMem, hWr, afterM, putM, renMk, renA, renSeg, renR, renS, renV, ix, St.put, List.map_cons, List.map_nil, List.drop, List.length_cons, List.length_nil, List.cons_append, List.nil_append, one]
    simp
    refine ok_run hB tabOK pureT_ok 100 ?_
    repeat (first
    | rw [run_ops0]
    | rw [run_seq]
    | rw [run_region]
    | rw [run_block]
    | rw [run_blk]
    | rw [run_skip]
    | (apply run_go rfl; focus (intro L K hK; simp [-List.reduceReplicate, -List.getD_eq_getElem?_getD]; (repeat' apply And.intro); all_goals first | exact hK | omega)))
    apply run_cond2 rfl
    · intro h; cases h
    intro _
    repeat (first
    | rw [run_ops0]
    | rw [run_seq]
    | rw [run_region]
    | rw [run_block]
    | rw [run_blk]
    | rw [run_skip]
    | (apply run_go rfl; focus (intro L K hK; simp [-List.reduceReplicate, -List.getD_eq_getElem?_getD]; (repeat' apply And.intro); all_goals first | exact hK | omega)))
    have hkf := kfit hb hWl hnk
    have hrf := rfit hb hWl hnk
    have hbe := block_eq tab_ok hb W nk
    rw [run_draw]
    refine ok_draw2 11 tabOK pureT_ok (pureK_mono _) mixed (by decide +kernel) rfl rfl ?_
    repeat (first
    | (apply hd_go rfl rfl rfl rfl (Nat.le_of_ble_eq_true rfl); focus (intro K' hK; simp [-List.reduceReplicate, -List.getD_eq_getElem?_getD, hkf, hrf, hb, hbe, rounds_len, pureK, kOf, rOf]; (repeat' apply And.intro); all_goals first | exact hK | omega))
    | (apply hd_new rfl rfl rfl rfl (Nat.le_of_ble_eq_true rfl); focus (intro K' hK; simp [-List.reduceReplicate, -List.getD_eq_getElem?_getD, hkf, hrf, hb, hbe, rounds_len, pureK, kOf, rOf]; (repeat' apply And.intro); all_goals first | exact hK | omega)))
    apply hd_guard rfl rfl rfl rfl rfl (Nat.le_of_ble_eq_true rfl) rfl
    · intro _
      (apply Exists.intro; apply And.intro; focus (intro K' hK; simp [-List.reduceReplicate, -List.getD_eq_getElem?_getD, hkf, hrf, hb, hbe, rounds_len, pureK, kOf, rOf]; (repeat' apply And.intro); all_goals first | exact hK | omega))
      apply hd_guard rfl rfl rfl rfl rfl (Nat.le_of_ble_eq_true rfl) rfl
      · intro _
        (apply Exists.intro; apply And.intro; focus (intro K' hK; simp [-List.reduceReplicate, -List.getD_eq_getElem?_getD, hkf, hrf, hb, hbe, rounds_len, pureK, kOf, rOf]; (repeat' apply And.intro); all_goals first | exact hK | omega))
        apply hd_guard rfl rfl rfl rfl rfl (Nat.le_of_ble_eq_true rfl) rfl
        · intro _
          (apply Exists.intro; apply And.intro; focus (intro K' hK; simp [-List.reduceReplicate, -List.getD_eq_getElem?_getD, hkf, hrf, hb, hbe, rounds_len, pureK, kOf, rOf]; (repeat' apply And.intro); all_goals first | exact hK | omega))
          apply hd_guard rfl rfl rfl rfl rfl (Nat.le_of_ble_eq_true rfl) rfl
          · intro _
            (apply Exists.intro; apply And.intro; focus (intro K' hK; simp [-List.reduceReplicate, -List.getD_eq_getElem?_getD, hkf, hrf, hb, hbe, rounds_len, pureK, kOf, rOf]; (repeat' apply And.intro); all_goals first | exact hK | omega))
            apply hd_guard rfl rfl rfl rfl rfl (Nat.le_of_ble_eq_true rfl) rfl
            · intro _
              (apply Exists.intro; apply And.intro; focus (intro K' hK; simp [-List.reduceReplicate, -List.getD_eq_getElem?_getD, hkf, hrf, hb, hbe, rounds_len, pureK, kOf, rOf]; (repeat' apply And.intro); all_goals first | exact hK | omega))
              apply hd_guard rfl rfl rfl rfl rfl (Nat.le_of_ble_eq_true rfl) rfl
              · intro _
                (apply Exists.intro; apply And.intro; focus (intro K' hK; simp [-List.reduceReplicate, -List.getD_eq_getElem?_getD, hkf, hrf, hb, hbe, rounds_len, pureK, kOf, rOf]; (repeat' apply And.intro); all_goals first | exact hK | omega))
                apply hd_guard rfl rfl rfl rfl rfl (Nat.le_of_ble_eq_true rfl) rfl
                · intro _
                  (apply Exists.intro; apply And.intro; focus (intro K' hK; simp [-List.reduceReplicate, -List.getD_eq_getElem?_getD, hkf, hrf, hb, hbe, rounds_len, pureK, kOf, rOf]; (repeat' apply And.intro); all_goals first | exact hK | omega))
                  repeat (first
    | (apply hd_go rfl rfl rfl rfl (Nat.le_of_ble_eq_true rfl); focus (intro K' hK; simp [-List.reduceReplicate, -List.getD_eq_getElem?_getD, hkf, hrf, hb, hbe, rounds_len, pureK, kOf, rOf]; (repeat' apply And.intro); all_goals first | exact hK | omega))
    | (apply hd_new rfl rfl rfl rfl (Nat.le_of_ble_eq_true rfl); focus (intro K' hK; simp [-List.reduceReplicate, -List.getD_eq_getElem?_getD, hkf, hrf, hb, hbe, rounds_len, pureK, kOf, rOf]; (repeat' apply And.intro); all_goals first | exact hK | omega)))
                  refine hd_nil ?_
                  simp only [List.map_cons, List.map_nil, List.append_nil, List.nil_append, List.cons_append]
                  refine ok_run hB tabOK pureT_ok 100 ?_
                  repeat (first
    | rw [run_ops0]
    | rw [run_seq]
    | rw [run_region]
    | rw [run_block]
    | rw [run_blk]
    | rw [run_skip]
    | (apply run_go rfl; focus (intro L K hK; simp [-List.reduceReplicate, -List.getD_eq_getElem?_getD]; (repeat' apply And.intro); all_goals first | exact hK | omega)))
                  rw [run_ret]
                  simp [-List.reduceReplicate, -List.getD_eq_getElem?_getD, results3, f3]
                · intro h; first | cases h | (simp at h; done)
              · intro h; first | cases h | (simp at h; done)
            · intro h; first | cases h | (simp at h; done)
          · intro h; first | cases h | (simp at h; done)
        · intro h; first | cases h | (simp at h; done)
      · intro h; first | cases h | (simp at h; done)
    · intro h; first | cases h | (simp at h; done)
  · -- another length
    have h16 : n ≠ 16 := fun h => hnk ⟨4, by omega, .inl rfl⟩
    have h32 : n ≠ 32 := fun h => hnk ⟨8, by omega, .inr rfl⟩
    refine ok_call [0] rfl rfl ⟨f21, func21, nofun, by decide⟩ (spec21bad key n cap0 hk hcap0 h16 h32 (by omega)) trivial (by simp) (by simp [matchM, ix, renA, belA]) rfl rfl (Nat.le_of_ble_eq_true rfl) ?_
    rintro sv m' ⟨rfl, rfl⟩ _
    simp only [afterM, putM, renMk, renA, renSeg, renR, renS, renV, ix, St.put, List.map_cons, List.map_nil, List.drop, List.length_cons, List.length_nil, List.cons_append, List.nil_append]
    simp
    refine ok_run hB tabOK pureT_ok 100 ?_
    repeat (first
    | rw [run_ops0]
    | rw [run_seq]
    | rw [run_region]
    | rw [run_block]
    | rw [run_blk]
    | rw [run_skip]
    | (apply run_go rfl; focus (intro L K hK; simp [-List.reduceReplicate, -List.getD_eq_getElem?_getD]; (repeat' apply And.intro); all_goals first | exact hK | omega)))
    refine run_call rfl rfl rfl rfl ?_
    refine ok_call [0] rfl rfl ⟨f22, func22, nofun, by decide⟩ (spec22bad key n cap0 hk hcap0 h16 h32 (by omega)) trivial (by simp) (by simp [matchM, ix, renA, belA]) rfl rfl (Nat.le_of_ble_eq_true rfl) ?_
    rintro sv m' ⟨rfl, rfl⟩ _
    simp only [afterM, putM, renMk, renA, renSeg, renR, renS, renV, ix, St.put, List.map_cons, List.map_nil, List.drop, List.length_cons, List.length_nil, List.cons_append, List.nil_append, one]
    simp
    refine ok_run hB tabOK pureT_ok 100 ?_
    repeat (first
    | rw [run_ops0]
    | rw [run_seq]
    | rw [run_region]
    | rw [run_block]
    | rw [run_blk]
    | rw [run_skip]
    | (apply run_go rfl; focus (intro L K hK; simp [-List.reduceReplicate, -List.getD_eq_getElem?_getD]; (repeat' apply And.intro); all_goals first | exact hK | omega)))
    apply run_cond2 rfl
    · intro _
      repeat (first
    | rw [run_ops0]
    | rw [run_seq]
    | rw [run_region]
    | rw [run_block]
    | rw [run_blk]
    | rw [run_skip]
    | (apply run_go rfl; focus (intro L K hK; simp [-List.reduceReplicate, -List.getD_eq_getElem?_getD]; (repeat' apply And.intro); all_goals first | exact hK | omega)))
      apply run_guard rfl rfl rfl rfl
      · intro _
        (apply Exists.intro; apply And.intro; focus (intro L K hK; simp [-List.reduceReplicate, -List.getD_eq_getElem?_getD, hb, pureK, zero16]; (repeat' apply And.intro); all_goals first | exact hK | omega))
        apply run_guard rfl rfl rfl rfl
        · intro _
          (apply Exists.intro; apply And.intro; focus (intro L K hK; simp [-List.reduceReplicate, -List.getD_eq_getElem?_getD, hb, pureK, zero16]; (repeat' apply And.intro); all_goals first | exact hK | omega))
          repeat (first
    | rw [run_ops0]
    | rw [run_seq]
    | rw [run_region]
    | rw [run_block]
    | rw [run_blk]
    | rw [run_skip]
    | (apply run_go rfl; focus (intro L K hK; simp [-List.reduceReplicate, -List.getD_eq_getElem?_getD, hb, pureK, zero16]; (repeat' apply And.intro); all_goals first | exact hK | omega)))
          apply run_guard rfl rfl rfl rfl
          · intro _
            (apply Exists.intro; apply And.intro; focus (intro L K hK; simp [-List.reduceReplicate, -List.getD_eq_getElem?_getD, hb, pureK, zero16]; (repeat' apply And.intro); all_goals first | exact hK | omega))
            apply run_guard rfl rfl rfl rfl
            · intro _
              (apply Exists.intro; apply And.intro; focus (intro L K hK; simp [-List.reduceReplicate, -List.getD_eq_getElem?_getD, hb, pureK, zero16]; (repeat' apply And.intro); all_goals first | exact hK | omega))
              apply run_guard rfl rfl rfl rfl
              · intro _
                (apply Exists.intro; apply And.intro; focus (intro L K hK; simp [-List.reduceReplicate, -List.getD_eq_getElem?_getD, hb, pureK, zero16]; (repeat' apply And.intro); all_goals first | exact hK | omega))
                apply run_guard rfl rfl rfl rfl
                · intro _
                  (apply Exists.intro; apply And.intro; focus (intro L K hK; simp [-List.reduceReplicate, -List.getD_eq_getElem?_getD, hb, pureK, zero16]; (repeat' apply And.intro); all_goals first | exact hK | omega))
                  apply run_guard rfl rfl rfl rfl
                  · intro _
                    (apply Exists.intro; apply And.intro; focus (intro L K hK; simp [-List.reduceReplicate, -List.getD_eq_getElem?_getD, hb, pureK, zero16]; (repeat' apply And.intro); all_goals first | exact hK | omega))
                    repeat (first
    | rw [run_ops0]
    | rw [run_seq]
    | rw [run_region]
    | rw [run_block]
    | rw [run_blk]
    | rw [run_skip]
    | (apply run_go rfl; focus (intro L K hK; simp [-List.reduceReplicate, -List.getD_eq_getElem?_getD, hb, pureK, zero16]; (repeat' apply And.intro); all_goals first | exact hK | omega)))
                    rw [run_ret]
                    simp [-List.reduceReplicate, -List.getD_eq_getElem?_getD, results3, f3]
                  · intro h; first | cases h | (simp at h; done)
                · intro h; first | cases h | (simp at h; done)
              · intro h; first | cases h | (simp at h; done)
            · intro h; first | cases h | (simp at h; done)
          · intro h; first | cases h | (simp at h; done)
        · intro h; first | cases h | (simp at h; done)
      · intro h; first | cases h | (simp at h; done)
    · intro h; cases h
end Go.V
end
section
set_option linter.unusedSimpArgs false
set_option linter.unusedVariables false
set_option maxRecDepth 10000
namespace Go.V
open Go Go.Proofs.Try
/-- What ref05.New makes: the key's block and the words. -/
def rnewQ (key : B8) (nk b : Nat) : List Ent := [⟨true, 110, some 258, .st [⟨1, .s (.slq (b + 1) 0 (4 * (nk + 7)) 4)⟩, ⟨256, .ai (tabR 256)⟩, ⟨1, .s (.i nk)⟩]⟩, ⟨true, 111, none, .ai (rsch key (tabR 256) nk (4 * (nk + 7)))⟩]
theorem spec22Q (key : B8) (nk cap0 : Nat) (hk : 4 * nk ≤ key.length) (hnk : nk = 4 ∨ nk = 8) (hcap0 : 4 * nk ≤ cap0) : Spec prog 22 [one (.sl 0 0 (4 * nk) cap0 1)] [.ent ⟨false, 5, none, .a8 key⟩] [] (fun r m => r = one (.ptr 1 0 0) ∧ m = [.ent ⟨false, 5, none, .a8 key⟩] ++ (rnewQ key nk 1).map .ent) := by
  intro w ℓ vs hd hm
  refine (spec22L key nk cap0 hk hnk hcap0 w ℓ vs hd hm).mono ?_
  rintro e w' ⟨sv, m', ℓ', v, rfl, ⟨rfl, cap, rfl⟩, h3, h4, h5, h6⟩
  refine ⟨_, _, ℓ', v, rfl, ⟨rfl, rfl⟩, by simp, rfl, h5, ?_⟩
  have := h6.again (i0 := 1) (c := .st [⟨1, .s (.slq 2 0 (4 * (nk + 7)) 4)⟩, ⟨256, .ai (tabR 256)⟩, ⟨1, .s (.i nk)⟩]) rfl rfl ⟨rfl, tabR_len 256, rfl, trivial⟩ (fun us hus => by
    cases us with
    | nil => exact hus.elim
    | cons u r =>
      obtain ⟨⟨L, g1, g2⟩, g3⟩ := hus
      exact ⟨⟨L, g1, cap, g2⟩, g3⟩)
  exact this
def nuA : New := fun m f l nid => match f, l with
  | 22, [.one (.s (.sl id 0 len cap 1))] => match m[id]? with
    | some (.ent e) => match e.c with
      | .a8 key => if len = 16 ∧ 16 ≤ key.length ∧ 16 ≤ cap then some (one (.ptr nid 0 0), rnewQ key 4 nid) else if len = 32 ∧ 32 ≤ key.length ∧ 32 ≤ cap then some (one (.ptr nid 0 0), rnewQ key 8 nid) else none
      | _ => none
    | _ => none
  | _, _ => none
theorem nuA_sub : NewSub nuA := by
  intro m m' f l nid r hs h
  unfold nuA at h ⊢
  split at h
  · split at h
    · rename_i hm
      simp only [hs _ _ hm]
      exact h
    · cases h
  · cases h
theorem nuA_use {E : Env} {w : World} {ℓ : Nat → Option Loc} {m : Mem} {vs : List Value} (hm : MH E ℓ m w) {id nk cap nid : Nat} {key : B8} {e : Ent} (he : m[id]? = some (.ent e)) (hc : e.c = .a8 key) (hk : 4 * nk ≤ key.length) (hnk : nk = 4 ∨ nk = 8) (hcap : 4 * nk ≤ cap) (hd : DenVs ℓ [.one (.s (.sl id 0 (4 * nk) cap 1))] vs) (hh : ∀ k, k < 2 → m[nid + k]? = some .hole) :
    Calls prog 22 vs.toArray w (fun e w' => ∃ v ℓ', e = .returned v ∧ Le ℓ ℓ' ∧ DenV ℓ' (one (.ptr nid 0 0)) v ∧ MH E ℓ' (fillL m nid (rnewQ key nk nid)) w') := by
  have h := new_use (spec22Q key nk cap hk hnk hcap) (by simp) hm [id] (by simp) (by simp [matchM, ix, renA, belA, he, hc]) rfl (by simpa [renV, renA, renS, ix, one] using hd) (nid := nid) (by simpa [rnewQ] using hh)
  refine h.mono ?_
  rintro e w' ⟨v, ℓ', g1, g2, g3, g4⟩
  refine ⟨v, ℓ', g1, g2, ?_, ?_⟩
  · simpa [renV, renA, renS, ix, one] using g3
  · have : (rnewQ key nk 1).map (renE (ix [id] nid)) = rnewQ key nk nid := by simp [rnewQ, renE, renA, renSeg, renR, renS, ix]
    rw [this] at g4
    exact g4
theorem nuA_ok : NewOK prog nuA := by
  intro m f svs nid sv es h E w ℓ vs hm hh hd
  unfold nuA at h
  split at h
  · split at h
    · rename_i e he
      split at h
      · rename_i key hc
        split at h
        · rename_i hcond
          obtain ⟨rfl, h1, h2⟩ := hcond
          cases h
          exact ⟨⟨f22, func22, nofun, by decide⟩, nuA_use hm he hc h1 (.inl rfl) h2 hd hh⟩
        · split at h
          · rename_i hcond
            obtain ⟨rfl, h1, h2⟩ := hcond
            cases h
            exact ⟨⟨f22, func22, nofun, by decide⟩, nuA_use hm he hc h1 (.inr rfl) h2 hd hh⟩
          · cases h
      · cases h
    · cases h
  · cases h

/-! Block of the document over a key whose slice's room is not known -/
def rkmemQ (nw : Nat) (N : Int) (sb W : LI) : Mem := [.ent ⟨false, 110, some 258, .st [⟨1, .s (.slq 1 0 nw 4)⟩, ⟨256, .ai sb⟩, ⟨1, .s (.i N)⟩]⟩, .ent ⟨false, 111, none, .ai W⟩]
theorem spec24Q (b : B8) (sb W : LI) (nw n : Nat) (hb : b.length = 16) (hW : 4 * nw ≤ W.length) (hN : nw = 4 * (n + 7)) (hn : n < 100) (hsb : sb.length = 256) (hWb : Byt W) (hsbb : Byt sb) : Spec prog 24 [one (.ptr 0 0 0), .one (.a8 b)] (rkmemQ nw n sb W) [] (fun r _ => r = .one (.a8 (outB (rRounds sb W n (iniS b W 16) (n + 6)) 16))) := by
  intro w ℓ vs hd hm
  have hm0 := hm (fun _ => none) (fun _ _ h => by cases h)
  obtain ⟨L0, a1, a2, _⟩ := hm0.ent 0 _ rfl
  obtain ⟨L1, b1, b2, _⟩ := hm0.ent 1 _ rfl
  obtain ⟨a3, a4⟩ := a2
  rw [if_neg (by simp)] at a4
  obtain ⟨us, hus, hcell⟩ := a4
  obtain ⟨cap, hus'⟩ : ∃ cap, DenL ℓ (A.st [⟨1, .s (.sl 1 0 nw cap 4)⟩, ⟨256, .ai sb⟩, ⟨1, .s (.i (n : Int))⟩]).cells us := by
    cases us with
    | nil => exact hus.elim
    | cons u r =>
      obtain ⟨⟨L, g1, cap, g2⟩, g3⟩ := hus
      exact ⟨cap, ⟨⟨L, g1, g2⟩, g3⟩⟩
  have rok : ROK (rkmem nw cap n sb W) ℓ w := by
    refine ⟨?_, fun i hi => hm0.dom i (.inl hi)⟩
    intro id x hx
    match id with
    | 0 =>
      simp [rkmem] at hx
      refine ⟨_, L0, hx.symm, rfl, a1, ⟨⟨by intro k hk; exact a3.1 k hk, ⟨rfl, hsb, rfl, trivial⟩⟩, ?_⟩⟩
      rw [if_neg (by simp)]
      exact ⟨us, hus', hcell⟩
    | 1 =>
      simp [rkmem] at hx
      exact ⟨_, L1, hx.symm, rfl, b1, b2⟩
    | k + 2 => simp [rkmem] at hx
  refine (spec24 b sb W nw cap n hb hW hN hn hsb hWb hsbb w ℓ vs hd (mh_ro rok)).mono ?_
  rintro e w' ⟨sv, m', ℓ', v, h1, h2, h3, h4, h5, h6⟩
  refine ⟨sv, m', ℓ', v, h1, h2, h3, h4, h5, ?_⟩
  have e1 : ownBlk (rkmem nw cap n sb W) ℓ = ownBlk (rkmemQ nw n sb W) ℓ := by
    funext k
    apply propext
    constructor
    · intro hx; exact (no_own (by simp [rkmem]) hx).elim
    · intro hx; exact (no_own (by simp [rkmemQ]) hx).elim
  rw [e1] at h6
  exact h6
def slOf : S → Option (Nat × Nat)
  | .sl j 0 nw _ 4 => some (j, nw)
  | .slq j 0 nw 4 => some (j, nw)
  | _ => none
/-- A key's block of the document, whatever its slice's room. -/
def rOf2 (m : Mem) (id : Nat) : Option (Nat × Nat × Int × LI × LI) :=
  match m[id]? with
  | some (.ent e) => match e.c with
    | .st [⟨1, .s x⟩, ⟨256, .ai sb⟩, ⟨1, .s (.i N)⟩] => match slOf x with
      | some (j, nw) => match m[j]? with
        | some (.ent e2) => match e2.c with
          | .ai W => some (j, nw, N, sb, W)
          | _ => none
        | _ => none
      | _ => none
    | _ => none
  | _ => none
theorem rOf2_get {m : Mem} {id j nw : Nat} {N : Int} {sb W : LI} (h : rOf2 m id = some (j, nw, N, sb, W)) : ∃ (e e2 : Ent) (x : S), m[id]? = some (.ent e) ∧ e.c = .st [⟨1, .s x⟩, ⟨256, .ai sb⟩, ⟨1, .s (.i N)⟩] ∧ slOf x = some (j, nw) ∧ m[j]? = some (.ent e2) ∧ e2.c = .ai W := by
  unfold rOf2 at h
  split at h
  · split at h
    · split at h
      · split at h
        · split at h
          · cases h
            exact ⟨_, _, _, by assumption, by assumption, by assumption, by assumption, by assumption⟩
          · cases h
        · cases h
      · cases h
    · cases h
  · cases h
theorem rOf2_sub {m m' : Mem} {id : Nat} {v : Nat × Nat × Int × LI × LI} (hs : Sub m m') (h : rOf2 m id = some v) : rOf2 m' id = some v := by
  obtain ⟨j, nw, N, sb, W⟩ := v
  obtain ⟨e, e2, x, h1, h2, h3, h4, h5⟩ := rOf2_get h
  unfold rOf2
  simp only [hs _ _ h1, h2, h3, hs _ _ h4, h5]
theorem kOf_sub {m m' : Mem} {id : Nat} {v : Nat × Nat × Nat × B8} (hs : Sub m m') (h : kOf m id = some v) : kOf m' id = some v := by
  obtain ⟨j, nr, cap, W⟩ := v
  obtain ⟨e, e2, h1, h2, h3, h4⟩ := kOf_get h
  unfold kOf
  simp only [hs _ _ h1, h2, hs _ _ h3, h4]
open Classical in
/-- What Block answers, over keys in memory; the law's own test is passed. -/
noncomputable def pureL : Pure := fun m f l =>
  match f, l with
  | 20, [] => some (one (.b true))
  | 23, [.one (.s .nil), .one (.a8 b)] => if b.length = 16 then some (.one (.a8 zero16)) else none
  | 23, [.one (.s (.ptr id 0 0)), .one (.a8 b)] => match kOf m id with
    | some (j, nr, _, W) => if kFit b W nr ∧ id ≠ j then some (.one (.a8 (rounds b W nr (nr - 1)))) else none
    | none => none
  | 24, [.one (.s (.ptr id 0 0)), .one (.a8 b)] => match rOf2 m id with
    | some (j, nw, N, sb, W) => if rFit b sb W nw N ∧ id ≠ j then some (.one (.a8 (outB (rRounds sb W N.toNat (iniS b W 16) (N.toNat + 6)) 16))) else none
    | none => none
  | _, _ => none
theorem pureL_sub : PureSub pureL := by
  intro m m' f l v hs h
  unfold pureL at h ⊢
  split at h
  · exact h
  · exact h
  · split at h
    · rename_i hk
      simp only [kOf_sub hs hk]
      exact h
    · cases h
  · split at h
    · rename_i hk
      simp only [rOf2_sub hs hk]
      exact h
    · cases h
  · cases h
theorem pureL_ok : PureOK prog pureL := by
  intro m f svs sv h E w ℓ vs hm hd
  unfold pureL at h
  split at h
  · cases h
    exact ⟨⟨f20, func20, nofun, by decide⟩, pure_spec spec20 rfl rfl w ℓ vs hd⟩
  · split at h
    · rename_i hc
      cases h
      exact ⟨⟨f23, func23, nofun, by decide⟩, pure_spec (spec23nil _ hc) rfl rfl w ℓ vs hd⟩
    · cases h
  · split at h
    · rename_i id b _ j nr cap W hk
      split at h
      · rename_i hc
        obtain ⟨⟨hb, hW, hR, hR2⟩, hne⟩ := hc
        cases h
        obtain ⟨e, e2, h1, h2, h3, h4⟩ := kOf_get hk
        refine ⟨⟨f23, func23, nofun, by decide⟩, pure_use (spec23 b W nr cap hb hW hR hR2) (by simp [kmem]) rfl hm [id, j] (by simp [hne]) ?_ rfl ?_⟩
        · simp [matchM, kmem, h1, h2, h3, h4, renA, renSeg, renR, renS, ix, belA, belR, belS, segLen, A.len]
        · simpa [renV, renA, renS, ix, one] using hd
      · cases h
    · cases h
  · split at h
    · rename_i id b _ j nw N sb W hk
      split at h
      · rename_i hc
        obtain ⟨⟨hb, hW, hN, hN0, hN1, hsl, hWb, hsb⟩, hne⟩ := hc
        cases h
        obtain ⟨e, e2, x, h1, h2, hx, h3, h4⟩ := rOf2_get hk
        have hNn : N = (N.toNat : Int) := by omega
        have hd' : DenVs ℓ ([one (.ptr 0 0 0), .one (.a8 b)].map (renV (ix [id, j] m.length))) vs := by simpa [renV, renA, renS, ix, one] using hd
        refine ⟨⟨f24, func24, nofun, by decide⟩, ?_⟩
        unfold slOf at hx
        split at hx
        · rename_i j' nw' cap
          cases hx
          refine pure_use (spec24 b sb W nw cap N.toNat hb hW (by omega) (by omega) hsl hWb hsb) (by simp [rkmem]) rfl hm [id, j] (by simp [hne]) ?_ rfl hd'
          rw [hNn] at h2
          simp [matchM, rkmem, h1, h2, h3, h4, renA, renSeg, renR, renS, ix, belA, belR, belS, segLen, A.len]
        · rename_i j' nw'
          cases hx
          refine pure_use (spec24Q b sb W nw N.toNat hb hW (by omega) (by omega) hsl hWb hsb) (by simp [rkmemQ]) rfl hm [id, j] (by simp [hne]) ?_ rfl hd'
          rw [hNn] at h2
          simp [matchM, rkmemQ, h1, h2, h3, h4, renA, renSeg, renR, renS, ix, belA, belR, belS, segLen, A.len]
        · cases hx
      · cases h
    · cases h
  · cases h
end Go.V
end
section
set_option linter.unusedSimpArgs false
set_option linter.unusedVariables false
set_option maxRecDepth 10000
namespace Go.V
open Go Go.Proofs.Try
theorem pureL_mono : PureMono pureL := fun m x f l v h => pureL_sub m (m ++ x) f l v (fun id e he => get_app he) h
/-- A counter is laid into the last four bytes. -/
def ctrSet (c : B8) (n : Nat) : Nat → B8
  | 0 => c
  | k + 1 => (ctrSet c n k).set (15 - k) (BitVec.ofInt 8 ((n : Int) / 2 ^ (8 * k)))
theorem ctrSet_len (c : B8) (n : Nat) : ∀ k, (ctrSet c n k).length = c.length
  | 0 => rfl
  | k + 1 => by simp [ctrSet, ctrSet_len c n k]
def ctr0 (nonce : B8) : B8 := nonce ++ [0, 0, 0, 0]
/-- The counter block after so many bytes. -/
def stC (nonce : B8) : Nat → B8
  | 0 => ctr0 nonce
  | i + 1 => if i % 16 = 0 then ctrSet (stC nonce i) (2 + i / 16) 4 else stC nonce i
theorem stC_len {nonce : B8} (h : nonce.length = 12) : ∀ i, (stC nonce i).length = 16
  | 0 => by simp [stC, ctr0, h]
  | i + 1 => by
    rw [stC]
    split
    · rw [ctrSet_len, stC_len h i]
    · exact stC_len h i
/-- The block of a counter, put over what follows. -/
def lay (o X : B8) (i : Nat) : B8 := o.take i ++ (X.take (o.length - i)) ++ o.drop (i + (X.take (o.length - i)).length)
def stM (W : B8) (nr : Nat) (nonce : B8) (i : Nat) (o : B8) : B8 := if i % 16 = 0 then lay o (rounds (stC nonce (i + 1)) W nr (nr - 1)) i else o
def stO (W : B8) (nr : Nat) (nonce b : B8) : Nat → B8
  | 0 => List.replicate b.length 0
  | i + 1 => (stM W nr nonce i (stO W nr nonce b i)).set i ((stM W nr nonce i (stO W nr nonce b i)).getD i 0 ^^^ b.getD i 0)
theorem lay_len (o X : B8) {i : Nat} (h : i ≤ o.length) : (lay o X i).length = o.length := by
  simp only [lay, List.length_append, List.length_take, List.length_drop]
  omega
theorem stO_len (W : B8) (nr : Nat) (nonce b : B8) : ∀ i, i ≤ b.length → (stO W nr nonce b i).length = b.length
  | 0, _ => by simp [stO]
  | i + 1, h => by
    have ih := stO_len W nr nonce b i (by omega)
    rw [stO, List.length_set]
    unfold stM
    split
    · rw [lay_len _ _ (by omega), ih]
    · exact ih
theorem stM_len (W : B8) (nr : Nat) (nonce b : B8) {i : Nat} (h : i ≤ b.length) : (stM W nr nonce i (stO W nr nonce b i)).length = b.length := by
  have ih := stO_len W nr nonce b i h
  unfold stM
  split
  · rw [lay_len _ _ (by omega), ih]
  · exact ih
/-- The memory that stream reads: the key's block, its rows, the nonce, the bytes. -/
def smem (nr cap : Nat) (W N B : B8) : Mem := [.ent ⟨false, 105, some 1, .st [⟨1, .s (.sl 1 0 nr cap 16)⟩]⟩, .ent ⟨false, 23, none, .a8 W⟩, .ent ⟨false, 5, none, .a8 N⟩, .ent ⟨false, 5, none, .a8 B⟩]
set_option maxHeartbeats 1000000 in
theorem spec69 (W N B : B8) (nr cap on cn ob nb cb : Nat) (hW : 16 * nr ≤ W.length) (hR : 0 < nr) (hR2 : nr < 1000) (hN : on + 12 ≤ N.length) (hcn : 12 ≤ cn) (hb : ob + nb ≤ B.length) (hcb : nb ≤ cb) (hmx : nb ≤ 140737488355328) :
    Spec prog 69 [one (.ptr 0 0 0), one (.sl 2 on 12 cn 1), one (.sl 3 ob nb cb 1)] (smem nr cap W N B) [] (fun r m => r = one (.sl 4 0 nb nb 1) ∧ m = smem nr cap W N B ++ [.ent ⟨true, 5, none, .a8 (stO W nr ((N.drop on).take 12) ((B.drop ob).take nb) nb)⟩, .ent ⟨true, 23, some 16, .a8 (stC ((N.drop on).take 12) nb)⟩]) := by
  refine spec_of_body tabOK func69 rfl (Nat.le_of_ble_eq_true rfl) ?_
  intro E Q0 hB
  refine ok_run hB tabOK pureL_ok 100 ?_
  simp only [argSl, smem]
  have hnl : ((N.drop on).take 12).length = 12 := by simp; omega
  have hbl : ((B.drop ob).take nb).length = nb := by simp; omega
  have h0 : ctr0 ((N.drop on).take 12) = (N.drop on).take 12 ++ [0#8, 0#8, 0#8, 0#8] := rfl
  repeat (first
    | rw [run_ops0]
    | rw [run_seq]
    | rw [run_region]
    | rw [run_block]
    | rw [run_blk]
    | rw [run_skip]
    | (apply run_go rfl; focus (intro L K hK; simp [-List.reduceReplicate, -List.getD_eq_getElem?_getD, hnl]; (repeat' apply And.intro); all_goals first | exact hK | omega)))
  -- the loop
  generalize hNN : (N.drop on).take 12 = NN at hnl h0 ⊢
  generalize hBB : (B.drop ob).take nb = BB at hbl ⊢
  have hgB : ∀ i, i < nb → BB.getD i 0#8 = B.getD (ob + i) 0#8 := fun i hi => by
    rw [← hBB, List.getD_eq_getElem?_getD, List.getD_eq_getElem?_getD, List.getElem?_take_of_lt hi, List.getElem?_drop]
  have hi0 : stO W nr NN BB 0 = List.replicate nb 0#8 := by rw [stO, hbl]; rfl
  have hc0 : stC NN 0 = NN ++ [0#8, 0#8, 0#8, 0#8] := h0
  rw [run_loop]
  refine ok_loop (X := Nat) (fun i => ⟨[(20, one (.i i)), (19, one (.i nb)), (8, one (.ptr 5 0 0)), (7, one (.sl 4 0 nb nb 1)), (0, one (.ptr 0 0 0)), (2, one (.sl 3 ob nb cb 1))], [.ent ⟨false, 105, some 1, .st [⟨1, .s (.sl 1 0 nr cap 16)⟩]⟩, .ent ⟨false, 23, none, .a8 W⟩, .ent ⟨false, 5, none, .a8 N⟩, .ent ⟨false, 5, none, .a8 B⟩, .ent ⟨true, 5, none, .a8 (stO W nr NN BB i)⟩, .ent ⟨true, 23, some 16, .a8 (stC NN i)⟩]⟩) (fun i => i ≤ nb) (fun i => nb - i) (fun j i L h => by have := hB.anc i L h; simp [smem] at this ⊢; omega) ⟨0, by omega, by simp [-List.reduceReplicate, -List.getD_eq_getElem?_getD, hi0, hc0]⟩ ?_
  intro i hi
  refine ok_run hB tabOK pureL_ok 15 ?_
  have hol := stO_len W nr NN BB i (by omega)
  have hml := stM_len W nr NN BB (i := i) (by omega)
  have hcl := stC_len hnl i
  have hcl1 := stC_len hnl (i + 1)
  rw [hbl] at hol hml
  repeat (first
    | rw [run_ops0]
    | rw [run_seq]
    | rw [run_region]
    | rw [run_block]
    | rw [run_blk]
    | rw [run_skip]
    | (apply run_go rfl; focus (intro L K hK; simp [-List.reduceReplicate, -List.getD_eq_getElem?_getD]; (repeat' apply And.intro); all_goals first | exact hK | omega)))
  apply run_cond2 rfl
  · intro h1
    simp at h1
    have q2 : (i : Int).tmod 16 = (i : Int) % 16 := Int.tmod_eq_emod_of_nonneg (by omega)
    have q1 : (i : Int).tdiv 16 = (i : Int) / 16 := Int.tdiv_eq_ediv_of_nonneg (by omega)
    repeat (first
    | rw [run_ops0]
    | rw [run_seq]
    | rw [run_region]
    | rw [run_block]
    | rw [run_blk]
    | rw [run_skip]
    | (apply run_go rfl; focus (intro L K hK; simp [-List.reduceReplicate, -List.getD_eq_getElem?_getD, q2]; (repeat' apply And.intro); all_goals first | exact hK | omega)))
    rw [run_zero]
    refine ok_join (X := Unit) (fun _ => ⟨[(9, one (.i i)), (20, one (.i i)), (19, one (.i nb)), (8, one (.ptr 5 0 0)), (7, one (.sl 4 0 nb nb 1)), (0, one (.ptr 0 0 0)), (2, one (.sl 3 ob nb cb 1))], [.ent ⟨false, 105, some 1, .st [⟨1, .s (.sl 1 0 nr cap 16)⟩]⟩, .ent ⟨false, 23, none, .a8 W⟩, .ent ⟨false, 5, none, .a8 N⟩, .ent ⟨false, 5, none, .a8 B⟩, .ent ⟨true, 5, none, .a8 (stM W nr NN i (stO W nr NN BB i))⟩, .ent ⟨true, 23, some 16, .a8 (stC NN (i + 1))⟩]⟩) (fun _ => True) (fun j i L h => by have := hB.anc i L h; simp [smem] at this ⊢; omega) ?_ ?_
    · refine ok_run hB tabOK pureL_ok 100 ?_
      repeat (first
    | rw [run_ops0]
    | rw [run_seq]
    | rw [run_region]
    | rw [run_block]
    | rw [run_blk]
    | rw [run_skip]
    | (apply run_go rfl; focus (intro L K hK; simp [-List.reduceReplicate, -List.getD_eq_getElem?_getD, q2]; (repeat' apply And.intro); all_goals first | exact hK | omega)))
      apply run_cond2 rfl
      · intro h2
        simp at h2
        have h2' : i % 16 = 0 := by omega
        have hcs : stC NN (i + 1) = ctrSet (stC NN i) (2 + i / 16) 4 := by rw [stC, if_pos h2']
        have hms : stM W nr NN i (stO W nr NN BB i) = lay (stO W nr NN BB i) (rounds (stC NN (i + 1)) W nr (nr - 1)) i := by rw [stM, if_pos h2']
        generalize hC : stC NN i = c at hcl hcs ⊢
        generalize hO : stO W nr NN BB i = o at hol hml hms ⊢
        repeat (first
    | rw [run_ops0]
    | rw [run_seq]
    | rw [run_region]
    | rw [run_block]
    | rw [run_blk]
    | rw [run_skip]
    | (apply run_go rfl; focus (intro L K hK; simp [-List.reduceReplicate, -List.getD_eq_getElem?_getD]; (repeat' apply And.intro); all_goals first | exact hK | omega)))
        rw [run_loop]
        refine ok_loop (X := Nat) (fun k => ⟨[(26, one (.i k)), (9, one (.i i)), (20, one (.i i)), (19, one (.i nb)), (8, one (.ptr 5 0 0)), (7, one (.sl 4 0 nb nb 1)), (0, one (.ptr 0 0 0)), (2, one (.sl 3 ob nb cb 1))], [.ent ⟨false, 105, some 1, .st [⟨1, .s (.sl 1 0 nr cap 16)⟩]⟩, .ent ⟨false, 23, none, .a8 W⟩, .ent ⟨false, 5, none, .a8 N⟩, .ent ⟨false, 5, none, .a8 B⟩, .ent ⟨true, 5, none, .a8 o⟩, .ent ⟨true, 23, some 16, .a8 (ctrSet c (2 + i / 16) k)⟩]⟩) (fun k => k ≤ 4) (fun k => 4 - k) (fun j i L h => by have := hB.anc i L h; simp [smem] at this ⊢; omega) ⟨0, by omega, by simp [-List.reduceReplicate, -List.getD_eq_getElem?_getD, ctrSet]⟩ ?_
        intro k hk
        refine ok_run hB tabOK pureL_ok 100 ?_
        have hkl := ctrSet_len c (2 + i / 16) k
        repeat (first
    | rw [run_ops0]
    | rw [run_seq]
    | rw [run_region]
    | rw [run_block]
    | rw [run_blk]
    | rw [run_skip]
    | (apply run_go rfl; focus (intro L K hK; simp [-List.reduceReplicate, -List.getD_eq_getElem?_getD]; (repeat' apply And.intro); all_goals first | exact hK | omega)))
        apply run_cond2 rfl
        · intro h3
          simp at h3
          have e1 : (15 - (k : Int)).toNat = 15 - k := by omega
          have e2 : (8 * (k : Int)).toNat = 8 * k := by omega
          repeat (first
    | rw [run_ops0]
    | rw [run_seq]
    | rw [run_region]
    | rw [run_block]
    | rw [run_blk]
    | rw [run_skip]
    | (apply run_go rfl; focus (intro L K hK; simp [-List.reduceReplicate, -List.getD_eq_getElem?_getD, q1, e1, e2, hkl, hcl]; (repeat' apply And.intro); all_goals first | exact hK | omega)))
          rw [run_back]
          refine ⟨k + 1, by omega, by omega, ?_⟩
          simp [-List.reduceReplicate, -List.getD_eq_getElem?_getD, ctrSet]
        · intro h3
          simp at h3
          obtain rfl : k = 4 := by omega
          apply run_exit2 rfl
          rw [← hcs] at hkl ⊢
          generalize stC NN (i + 1) = c1 at hcl1 hkl hms ⊢
          have hkf : kFit c1 W nr := ⟨hcl1, hW, hR, hR2⟩
          have hrl := rounds_len c1 W nr (nr - 1)
          obtain ⟨X, hX⟩ : ∃ X, rounds c1 W nr (nr - 1) = X := ⟨_, rfl⟩
          rw [hX] at hrl hms
          have hrl16 : X.length = 16 := by omega
          repeat (first
    | rw [run_ops0]
    | rw [run_seq]
    | rw [run_region]
    | rw [run_block]
    | rw [run_blk]
    | rw [run_skip]
    | (apply run_go rfl; focus (intro L K hK; simp [-List.reduceReplicate, -List.getD_eq_getElem?_getD, hkf, hcl1, hX, hrl16, pureL, kOf]; (repeat' apply And.intro); all_goals first | exact hK | omega)))
          rw [run_draw]
          refine ok_draw2 4 tabOK pureL_ok pureL_mono mixed (by decide +kernel) rfl rfl ?_
          have e3 : (nb : Int) - (i : Int) = ((nb - i : Nat) : Int) := by omega
          repeat (first
    | (apply hd_go rfl rfl rfl rfl (Nat.le_of_ble_eq_true rfl); focus (intro K' hK; simp [-List.reduceReplicate, -List.getD_eq_getElem?_getD, e3]; (repeat' apply And.intro); all_goals first | exact hK | omega))
    | (apply hd_new rfl rfl rfl rfl (Nat.le_of_ble_eq_true rfl); focus (intro K' hK; simp [-List.reduceReplicate, -List.getD_eq_getElem?_getD, e3]; (repeat' apply And.intro); all_goals first | exact hK | omega)))
          refine hd_nil ?_
          simp only [List.map_nil, List.append_nil]
          refine ok_run hB tabOK pureL_ok 100 ?_
          repeat (first
    | rw [run_ops0]
    | rw [run_seq]
    | rw [run_region]
    | rw [run_block]
    | rw [run_blk]
    | rw [run_skip]
    | (apply run_go rfl; focus (intro L K hK; simp [-List.reduceReplicate, -List.getD_eq_getElem?_getD, hol, hrl16]; (repeat' apply And.intro); all_goals first | exact hK | omega)))
          rw [run_back]
          refine ⟨(), trivial, ?_⟩
          have hX16 : X.take (nb - i) = X.take (min 16 (nb - i)) := by
            conv => lhs; rw [← List.take_of_length_le (l := X) (i := 16) (by omega)]
            rw [List.take_take, Nat.min_comm]
          have hlay : lay o X i = o.take i ++ (X.take (min 16 (nb - i)) ++ o.drop (i + min 16 (nb - i))) := by
            unfold lay
            rw [hol, hX16, List.append_assoc]
            congr 2
            simp [hrl16]
          rw [hms, hlay]
          simp [-List.reduceReplicate, -List.getD_eq_getElem?_getD]
      · intro h2
        simp at h2
        have h2' : ¬ i % 16 = 0 := by omega
        have hcs : stC NN (i + 1) = stC NN i := by rw [stC, if_neg h2']
        have hms : stM W nr NN i (stO W nr NN BB i) = stO W nr NN BB i := by rw [stM, if_neg h2']
        repeat (first
    | rw [run_ops0]
    | rw [run_seq]
    | rw [run_region]
    | rw [run_block]
    | rw [run_blk]
    | rw [run_skip]
    | (apply run_go rfl; focus (intro L K hK; simp [-List.reduceReplicate, -List.getD_eq_getElem?_getD]; (repeat' apply And.intro); all_goals first | exact hK | omega)))
        rw [run_back]
        refine ⟨(), trivial, ?_⟩
        simp [-List.reduceReplicate, -List.getD_eq_getElem?_getD, hcs, hms]
    · intro _ _
      refine ok_run hB tabOK pureL_ok 100 ?_
      have hO1 : stO W nr NN BB (i + 1) = (stM W nr NN i (stO W nr NN BB i)).set i ((stM W nr NN i (stO W nr NN BB i)).getD i 0 ^^^ BB.getD i 0) := rfl
      have hgi := hgB i (by omega)
      generalize stM W nr NN i (stO W nr NN BB i) = M at hml hO1 ⊢
      repeat (first
    | rw [run_ops0]
    | rw [run_seq]
    | rw [run_region]
    | rw [run_block]
    | rw [run_blk]
    | rw [run_skip]
    | (apply run_go rfl; focus (intro L K hK; simp [-List.reduceReplicate, -List.getD_eq_getElem?_getD]; (repeat' apply And.intro); all_goals first | exact hK | omega)))
      rw [run_draw]
      refine ok_draw2 9 tabOK pureL_ok pureL_mono mixed (by decide +kernel) rfl rfl ?_
      repeat (first
    | (apply hd_go rfl rfl rfl rfl (Nat.le_of_ble_eq_true rfl); focus (intro K' hK; simp [-List.reduceReplicate, -List.getD_eq_getElem?_getD, hml]; (repeat' apply And.intro); all_goals first | exact hK | omega))
    | (apply hd_new rfl rfl rfl rfl (Nat.le_of_ble_eq_true rfl); focus (intro K' hK; simp [-List.reduceReplicate, -List.getD_eq_getElem?_getD, hml]; (repeat' apply And.intro); all_goals first | exact hK | omega)))
      refine hd_nil ?_
      simp only [List.map_nil, List.append_nil]
      refine ok_run hB tabOK pureL_ok 100 ?_
      repeat (first
    | rw [run_ops0]
    | rw [run_seq]
    | rw [run_region]
    | rw [run_block]
    | rw [run_blk]
    | rw [run_skip]
    | (apply run_go rfl; focus (intro L K hK; simp [-List.reduceReplicate, -List.getD_eq_getElem?_getD, hml]; (repeat' apply And.intro); all_goals first | exact hK | omega)))
      rw [run_back]
      refine ⟨i + 1, by omega, by omega, ?_⟩
      rw [hO1]
      simp [-List.reduceReplicate, -List.getD_eq_getElem?_getD, hgi]
  · intro h1
    simp at h1
    obtain rfl : i = nb := by omega
    apply run_exit2 rfl
    repeat (first
    | rw [run_ops0]
    | rw [run_seq]
    | rw [run_region]
    | rw [run_block]
    | rw [run_blk]
    | rw [run_skip]
    | (apply run_go rfl; focus (intro L K hK; simp [-List.reduceReplicate, -List.getD_eq_getElem?_getD]; (repeat' apply And.intro); all_goals first | exact hK | omega)))
    rw [run_ret]
    simp [-List.reduceReplicate, -List.getD_eq_getElem?_getD, results69, f69, smem, hNN, hBB]
end Go.V
end
section
set_option linter.unusedSimpArgs false
set_option linter.unusedVariables false
set_option maxRecDepth 10000
namespace Go.V
/-- The byte of the key stream. -/
def ks (W : B8) (nr : Nat) (N : B8) (k : Nat) : BitVec 8 := (rounds (stC N (16 * (k / 16) + 1)) W nr (nr - 1)).getD (k % 16) 0
theorem lay_get (o X : B8) (i k : Nat) (hi : i ≤ o.length) (hk : k < o.length) : (lay o X i).getD k 0 = if k < i then o.getD k 0 else if k < i + X.length then X.getD (k - i) 0 else o.getD k 0 := by
  have ht : (o.take i).length = i := by simp; omega
  have hl : (X.take (o.length - i)).length = min (o.length - i) X.length := by simp
  unfold lay
  rw [List.append_assoc]
  simp only [List.getD_eq_getElem?_getD]
  by_cases h : k < i
  · rw [if_pos h, List.getElem?_append_left (by omega), List.getElem?_take_of_lt h]
  · rw [if_neg h, List.getElem?_append_right (by omega), ht]
    by_cases h2 : k < i + X.length
    · rw [if_pos h2, List.getElem?_append_left (by omega), List.getElem?_take_of_lt (by omega)]
    · rw [if_neg h2, List.getElem?_append_right (by omega), List.getElem?_drop, hl]
      congr 2
      omega
theorem stO_at (W : B8) (nr : Nat) (N b : B8) (hN : N.length = 12) : ∀ i, i ≤ b.length → ∀ k, k < b.length → (stO W nr N b i).getD k 0 = if k < i then b.getD k 0 ^^^ ks W nr N k else if k < 16 * ((i + 15) / 16) then ks W nr N k else 0
  | 0, _, k, hk => by
    rw [stO, if_neg (by omega), if_neg (by omega), List.getD_eq_getElem?_getD, List.getElem?_replicate]
    split <;> rfl
  | i + 1, hi, k, hk => by
    have ih := stO_at W nr N b hN i (by omega)
    have hl := stO_len W nr N b i (by omega)
    have hm : ∀ k, k < b.length → (stM W nr N i (stO W nr N b i)).getD k 0 = if k < i then b.getD k 0 ^^^ ks W nr N k else if k < 16 * (i / 16) + 16 then ks W nr N k else 0 := by
      intro k hk
      unfold stM
      by_cases h : i % 16 = 0
      · rw [if_pos h, lay_get _ _ _ _ (by omega) (by omega)]
        have hx : (rounds (stC N (i + 1)) W nr (nr - 1)).length = 16 := by
          have := rounds_len (stC N (i + 1)) W nr (nr - 1)
          have := stC_len hN (i + 1)
          omega
        rw [hx]
        by_cases h1 : k < i
        · rw [if_pos h1, if_pos h1, ih k hk, if_pos h1]
        · rw [if_neg h1, if_neg h1]
          by_cases h2 : k < i + 16
          · rw [if_pos h2, if_pos (by omega), ks, show 16 * (k / 16) + 1 = i + 1 by omega, show k % 16 = k - i by omega]
          · rw [if_neg h2, if_neg (by omega), ih k hk, if_neg h1, if_neg (by omega)]
      · rw [if_neg h, ih k hk, show 16 * ((i + 15) / 16) = 16 * (i / 16) + 16 by omega]
    have hml := stM_len W nr N b (i := i) (by omega)
    rw [stO, List.getD_eq_getElem?_getD, List.getElem?_set]
    by_cases h : i = k
    · subst h
      rw [if_pos rfl, if_pos (by omega), if_pos (by omega), hm i hk, if_neg (by omega), if_pos (by omega)]
      show ks W nr N i ^^^ b.getD i 0 = _
      exact BitVec.xor_comm _ _
    · rw [if_neg h, ← List.getD_eq_getElem?_getD, hm k hk]
      by_cases h1 : k < i
      · rw [if_pos h1, if_pos (by omega)]
      · rw [if_neg h1, if_neg (show ¬ k < i + 1 by omega), show 16 * ((i + 1 + 15) / 16) = 16 * (i / 16) + 16 by omega]
theorem stO_get (W : B8) (nr : Nat) {N : B8} (b : B8) (hN : N.length = 12) {k : Nat} (hk : k < b.length) : (stO W nr N b b.length).getD k 0 = b.getD k 0 ^^^ ks W nr N k := by
  rw [stO_at W nr N b hN _ (Nat.le_refl _) k hk, if_pos hk]
theorem ext_getD2 {a b : B8} (hl : a.length = b.length) (h : ∀ k, k < b.length → a.getD k 0 = b.getD k 0) : a = b := by
  refine List.ext_getElem hl fun i h1 h2 => ?_
  have := h i h2
  rw [List.getD_eq_getElem?_getD, List.getD_eq_getElem?_getD, List.getElem?_eq_getElem h1, List.getElem?_eq_getElem h2] at this
  exact this
theorem stO_inv (W : B8) (nr : Nat) {N : B8} (b : B8) (hN : N.length = 12) {n : Nat} (hn : b.length = n) : stO W nr N (stO W nr N b n) n = b := by
  subst hn
  have hl := stO_len W nr N b b.length (Nat.le_refl _)
  have hl2 := stO_len W nr N (stO W nr N b b.length) b.length (by omega)
  refine ext_getD2 (by omega) fun k hk => ?_
  have := stO_get W nr (stO W nr N b b.length) hN (k := k) (by omega)
  rw [hl] at this
  rw [this, stO_get W nr b hN hk, BitVec.xor_assoc, BitVec.xor_self, BitVec.xor_zero]
end Go.V
end
section
set_option linter.unusedSimpArgs false
set_option linter.unusedVariables false
set_option maxRecDepth 10000
namespace Go.V
abbrev BL := List Bool
def fnL (l : BL) : Po := fun n => l.getD n false
theorem fnL_set (l : BL) (i : Nat) (x : Bool) (n : Nat) (hi : i < l.length) : fnL (l.set i x) n = if n = i then x else fnL l n := by
  unfold fnL
  rw [List.getD_eq_getElem?_getD, List.getElem?_set, List.getD_eq_getElem?_getD]
  by_cases h : n = i
  · subst h; rw [if_pos rfl, if_pos hi, if_pos rfl]; rfl
  · rw [if_neg (Ne.symm h), if_neg h]
def Rel (g : G) (p : BL) : Prop := p.length = 128 ∧ ∀ n, n < 128 → fnL p n = coG g n
/-! a block -/
def dBit (b : B8) (i : Nat) : Bool := decide ((b.getD (i / 8) 0 >>> (7 - i % 8)) % 2#8 = 1#8)
def dOf (b : B8) : Nat → BL
  | 0 => List.replicate 128 false
  | i + 1 => (dOf b i).set i (dBit b i)
theorem dOf_len (b : B8) : ∀ i, (dOf b i).length = 128
  | 0 => by simp [dOf]
  | i + 1 => by rw [dOf, List.length_set, dOf_len b i]
theorem low8 (x : BitVec 8) : decide (x % 2#8 = 1#8) = x.getLsbD 0 := by
  have : ∀ k : Fin 256, decide ((BitVec.ofFin k : BitVec 8) % 2#8 = 1#8) = (BitVec.ofFin k : BitVec 8).getLsbD 0 := by decide +kernel
  exact this x.toFin
theorem dBit_eq (b : B8) (i : Nat) : dBit b i = (b.getD (i / 8) 0).getLsbD (7 - i % 8) := by
  unfold dBit
  rw [low8, BitVec.getLsbD_ushiftRight, Nat.add_zero]
theorem dOf_fn (b : B8) : ∀ i, i ≤ 128 → ∀ n, fnL (dOf b i) n = (decide (n < i) && (b.getD (n / 8) 0).getLsbD (7 - n % 8))
  | 0, _, n => by
    unfold fnL dOf
    rw [List.getD_eq_getElem?_getD, List.getElem?_replicate]
    split <;> simp
  | i + 1, hi, n => by
    rw [dOf, fnL_set _ _ _ _ (by rw [dOf_len]; omega), dOf_fn b i (by omega) n]
    by_cases h : n = i
    · subst h; simp [dBit_eq]
    · rw [if_neg h]
      have : decide (n < i) = decide (n < i + 1) := decide_eq_decide.2 (by omega)
      rw [this]
theorem ofH_bit (x : B8) : ∀ k, k ≤ 8 → ∀ m, m < 64 → (ofH x k).getLsbD m = (decide (m < 8 * k) && (x.getD (k - 1 - m / 8) 0).getLsbD (m % 8))
  | 0, _, m, _ => by simp [ofH]
  | k + 1, hk, m, hm => by
    rw [ofH, BitVec.getLsbD_or, BitVec.getLsbD_shiftLeft, BitVec.getLsbD_setWidth]
    by_cases h : m < 8
    · have h1 : decide (m < 8 * (k + 1)) = true := by simp; omega
      rw [h1, show k + 1 - 1 - m / 8 = k by omega, show m % 8 = m by omega]
      simp [h, hm]
    · rw [ofH_bit x k (by omega) (m - 8) (by omega), BitVec.getLsbD_of_ge (x.getD k 0) m (by omega)]
      have h1 : decide (m - 8 < 8 * k) = decide (m < 8 * (k + 1)) := decide_eq_decide.2 (by omega)
      rw [h1, show k - 1 - (m - 8) / 8 = k + 1 - 1 - m / 8 by omega, show (m - 8) % 8 = m % 8 by omega]
      simp [h, hm]
theorem ofL_bit (x : B8) : ∀ k, k ≤ 8 → ∀ m, m < 64 → (ofL x k).getLsbD m = (decide (m < 8 * k) && (x.getD (8 + (k - 1 - m / 8)) 0).getLsbD (m % 8))
  | 0, _, m, _ => by simp [ofL]
  | k + 1, hk, m, hm => by
    rw [ofL, BitVec.getLsbD_or, BitVec.getLsbD_shiftLeft, BitVec.getLsbD_setWidth]
    by_cases h : m < 8
    · have h1 : decide (m < 8 * (k + 1)) = true := by simp; omega
      rw [h1, show 8 + (k + 1 - 1 - m / 8) = 8 + k by omega, show m % 8 = m by omega]
      simp [h, hm]
    · rw [ofL_bit x k (by omega) (m - 8) (by omega), BitVec.getLsbD_of_ge (x.getD (8 + k) 0) m (by omega)]
      have h1 : decide (m - 8 < 8 * k) = decide (m < 8 * (k + 1)) := decide_eq_decide.2 (by omega)
      by_cases h2 : m < 8 * (k + 1)
      · rw [h1, show 8 + (k - 1 - (m - 8) / 8) = 8 + (k + 1 - 1 - m / 8) by omega, show (m - 8) % 8 = m % 8 by omega]
        simp [h, hm]
      · rw [h1]; simp [h2]
theorem co_of (x : B8) (n : Nat) (hn : n < 128) : coG (ofG x) n = (x.getD (n / 8) 0).getLsbD (7 - n % 8) := by
  unfold coG ofG
  by_cases h : n < 64
  · rw [if_pos h, ofH_bit x 8 (Nat.le_refl _) _ (by omega), show 8 - 1 - (63 - n) / 8 = n / 8 by omega, show (63 - n) % 8 = 7 - n % 8 by omega]
    have : decide (63 - n < 8 * 8) = true := by simp; omega
    rw [this, Bool.true_and]
  · rw [if_neg h, ofL_bit x 8 (Nat.le_refl _) _ (by omega), show 8 + (8 - 1 - (127 - n) / 8) = n / 8 by omega, show (127 - n) % 8 = 7 - n % 8 by omega]
    have : decide (127 - n < 8 * 8) = true := by simp; omega
    rw [this, Bool.true_and]
theorem pad_getD (x : B8) (i : Nat) : (pad16 x).getD i 0 = x.getD i 0 := by
  unfold pad16
  by_cases h : i < x.length
  · rw [List.getD_eq_getElem?_getD, List.getElem?_append_left h, ← List.getD_eq_getElem?_getD]
  · rw [List.getD_eq_getElem?_getD, List.getElem?_append_right (by omega), List.getElem?_drop, List.getD_eq_getElem?_getD, List.getElem?_eq_none (show x.length ≤ i by omega)]
    have hz : ∀ k, zero16[k]?.getD 0 = 0#8 := fun k => by
      by_cases h : k < 16
      · have : ∀ k : Fin 16, zero16[k.1]?.getD 0 = 0#8 := by decide
        exact this ⟨k, h⟩
      · rw [List.getElem?_eq_none (by simp [zero16]; omega)]; rfl
    exact hz _
theorem rel_of (x : B8) (h : x.length ≤ 16) : Rel (ofG (pad16 x)) (dOf x (8 * x.length)) := by
  refine ⟨dOf_len _ _, fun n hn => ?_⟩
  rw [dOf_fn _ _ (by omega), co_of _ _ hn, pad_getD]
  by_cases h2 : n < 8 * x.length
  · simp [h2]
  · rw [List.getD_eq_getElem?_getD, List.getElem?_eq_none (show x.length ≤ n / 8 by omega)]
    simp
/-! the sum -/
def dXor (a b : BL) : Nat → BL
  | 0 => a
  | i + 1 => (dXor a b i).set i ((dXor a b i).getD i false != b.getD i false)
theorem dXor_len (a b : BL) : ∀ i, (dXor a b i).length = a.length
  | 0 => rfl
  | i + 1 => by rw [dXor, List.length_set, dXor_len a b i]
theorem dXor_fn (a b : BL) : ∀ i, i ≤ a.length → ∀ n, fnL (dXor a b i) n = (fnL a n ^^ (decide (n < i) && fnL b n))
  | 0, _, n => by simp [dXor]
  | i + 1, hi, n => by
    have ih := dXor_fn a b i (by omega)
    rw [dXor, fnL_set _ _ _ _ (by rw [dXor_len]; omega)]
    by_cases h : n = i
    · subst h
      have := ih n
      unfold fnL at this ⊢
      rw [this]
      cases l1 : a.getD n false <;> cases l2 : b.getD n false <;> simp
    · rw [if_neg h, ih n]
      have : decide (n < i) = decide (n < i + 1) := decide_eq_decide.2 (by omega)
      rw [this]
theorem rel_xor {a b : G} {p q : BL} (ha : Rel a p) (hb : Rel b q) : Rel (xorG a b) (dXor p q 128) := by
  refine ⟨(dXor_len _ _ _).trans ha.1, fun n hn => ?_⟩
  rw [dXor_fn _ _ _ (by rw [ha.1]; exact Nat.le_refl _), co_xor, ha.2 n hn, hb.2 n hn]
  simp [hn]
/-! the product -/
def dTk (b : BL) (i : Nat) (t : BL) : Nat → BL
  | 0 => t
  | k + 1 => (dTk b i t k).set (i + k) ((dTk b i t k).getD (i + k) false != b.getD k false)
def dTi (a b : BL) : Nat → BL
  | 0 => List.replicate 255 false
  | i + 1 => if a.getD i false then dTk b i (dTi a b i) 128 else dTi a b i
theorem dTk_len (b : BL) (i : Nat) (t : BL) : ∀ k, (dTk b i t k).length = t.length
  | 0 => rfl
  | k + 1 => by rw [dTk, List.length_set, dTk_len b i t k]
theorem dTi_len (a b : BL) : ∀ i, (dTi a b i).length = 255
  | 0 => by simp [dTi]
  | i + 1 => by
    rw [dTi]
    split
    · rw [dTk_len, dTi_len a b i]
    · exact dTi_len a b i
theorem dTk_fn (b : BL) (i : Nat) (t : BL) : ∀ k, i + k ≤ t.length → ∀ n, fnL (dTk b i t k) n = (fnL t n ^^ (decide (i ≤ n) && decide (n < i + k) && fnL b (n - i)))
  | 0, _, n => by
    have : (decide (i ≤ n) && decide (n < i + 0)) = false := by
      rw [Bool.eq_false_iff]; simp
    rw [this, dTk]; simp
  | k + 1, hk, n => by
    have ih := dTk_fn b i t k (by omega)
    rw [dTk, fnL_set _ _ _ _ (by rw [dTk_len]; omega)]
    by_cases h : n = i + k
    · subst h
      have := ih (i + k)
      unfold fnL at this ⊢
      rw [if_pos rfl, this, show i + k - i = k by omega]
      simp
    · rw [if_neg h, ih n]
      have : decide (n < i + k) = decide (n < i + (k + 1)) := decide_eq_decide.2 (by omega)
      rw [this]
theorem dTi_fn (a b : BL) : ∀ i, i ≤ 128 → ∀ n, fnL (dTi a b i) n = smF (fun i => fun n => fnL a i && shF i (fnL b) n) i n
  | 0, _, n => by
    unfold fnL dTi
    rw [List.getD_eq_getElem?_getD, List.getElem?_replicate]
    split <;> simp [smF]
  | i + 1, hi, n => by
    have ih := dTi_fn a b i (by omega) n
    have hx : a.getD i false = fnL a i := rfl
    show fnL (dTi a b (i + 1)) n = (smF (fun i => fun n => fnL a i && shF i (fnL b) n) i n ^^ (fnL a i && shF i (fnL b) n))
    rw [dTi, ← ih, hx]
    cases fnL a i
    · simp
    · rw [if_pos rfl, dTk_fn _ _ _ _ (by rw [dTi_len]; omega)]
      simp [shF]
def flipL (t : BL) (n : Nat) : BL := t.set n (!(t.getD n false))
theorem flipL_len (t : BL) (n : Nat) : (flipL t n).length = t.length := by simp [flipL]
theorem flipL_fn (t : BL) (i n : Nat) (hi : i < t.length) : fnL (flipL t i) n = (fnL t n ^^ (n == i)) := by
  unfold flipL
  rw [fnL_set _ _ _ _ hi]
  by_cases h : n = i
  · subst h; simp [fnL]
  · rw [if_neg h, beq_eq_false_iff_ne.2 h, Bool.xor_false]
def dStep (i : Nat) (t : BL) : BL := if t.getD i false then flipL (flipL (flipL (flipL t (i - 128)) (i - 127)) (i - 126)) (i - 121) else t
theorem dStep_len (i : Nat) (t : BL) : (dStep i t).length = t.length := by
  unfold dStep
  split
  · simp [flipL_len]
  · rfl
theorem dStep_fn (i : Nat) (t : BL) (h1 : 128 ≤ i) (h2 : i < t.length) : fnL (dStep i t) = stF i (fnL t) := by
  funext n
  have hx : t.getD i false = fnL t i := rfl
  unfold dStep stF
  rw [hx]
  cases fnL t i
  · simp
  · rw [if_pos rfl, flipL_fn _ _ _ (by simp only [flipL_len]; omega), flipL_fn _ _ _ (by simp only [flipL_len]; omega), flipL_fn _ _ _ (by simp only [flipL_len]; omega), flipL_fn _ _ _ (by omega)]
    have e1 : (n == i - 128) = (n + 128 == i) := beq_iff (by omega)
    have e2 : (n == i - 127) = (n + 127 == i) := beq_iff (by omega)
    have e3 : (n == i - 126) = (n + 126 == i) := beq_iff (by omega)
    have e4 : (n == i - 121) = (n + 121 == i) := beq_iff (by omega)
    rw [e1, e2, e3, e4, Bool.true_and, Bool.xor_assoc, Bool.xor_assoc, Bool.xor_assoc]
    congr 1
    by_cases c1 : n + 128 = i
    · have a2 : (n + 127 == i) = false := by simp; omega
      have a3 : (n + 126 == i) = false := by simp; omega
      have a4 : (n + 121 == i) = false := by simp; omega
      rw [a2, a3, a4]; simp
    by_cases c2 : n + 127 = i
    · have a1 : (n + 128 == i) = false := by simp; omega
      have a3 : (n + 126 == i) = false := by simp; omega
      have a4 : (n + 121 == i) = false := by simp; omega
      rw [a1, a3, a4]; simp
    by_cases c3 : n + 126 = i
    · have a1 : (n + 128 == i) = false := by simp; omega
      have a2 : (n + 127 == i) = false := by simp; omega
      have a4 : (n + 121 == i) = false := by simp; omega
      rw [a1, a2, a4]; simp
    · have a1 : (n + 128 == i) = false := by simpa using c1
      have a2 : (n + 127 == i) = false := by simpa using c2
      have a3 : (n + 126 == i) = false := by simpa using c3
      rw [a1, a2, a3]; simp
def dRed (t : BL) : Nat → BL
  | 0 => t
  | j + 1 => dStep (254 - j) (dRed t j)
theorem dRed_len (t : BL) : ∀ j, (dRed t j).length = t.length
  | 0 => rfl
  | j + 1 => by rw [dRed, dStep_len, dRed_len t j]
theorem dRed_fn (t : BL) (h : t.length = 255) : ∀ j, j ≤ 127 → fnL (dRed t j) = reF (fnL t) j
  | 0, _ => rfl
  | j + 1, hj => by
    rw [dRed, dStep_fn _ _ (by omega) (by rw [dRed_len]; omega), dRed_fn t h j (by omega)]
    rfl
def dMul (a b : BL) : BL := (dRed (dTi a b 128) 127).take 128
theorem smF_congr {f g : Nat → Po} : ∀ {k : Nat}, (∀ i, i < k → f i = g i) → smF f k = smF g k
  | 0, _ => rfl
  | k + 1, h => by rw [smF, smF, smF_congr (fun i hi => h i (by omega)), h k (by omega)]
theorem dTi_rel {a b : G} {p q : BL} (ha : Rel a p) (hb : Rel b q) (k : Nat) (hk : k ≤ 128) : fnL (dTi p q k) = smF (fun i => fun n => coG a i && shF i (coG b) n) k := by
  funext m
  rw [dTi_fn _ _ k hk]
  have h : smF (fun i => fun n => fnL p i && shF i (fnL q) n) k = smF (fun i => fun n => coG a i && shF i (coG b) n) k := by
    refine smF_congr fun i hi => ?_
    funext m
    rw [ha.2 i (by omega)]
    congr 1
    unfold shF
    by_cases hm : i ≤ m ∧ m < i + 128
    · rw [hb.2 (m - i) (by omega)]
    · have : (decide (i ≤ m) && decide (m < i + 128)) = false := by
        rw [Bool.eq_false_iff]; simp; omega
      rw [this]; simp
  rw [h]
theorem rel_mul {a b : G} {p q : BL} (ha : Rel a p) (hb : Rel b q) : Rel (gR a b 128) (dMul p q) := by
  have hl : (dRed (dTi p q 128) 127).length = 255 := by rw [dRed_len, dTi_len]
  refine ⟨by rw [dMul, List.length_take, hl]; rfl, fun n hn => ?_⟩
  have h1 : fnL (dMul p q) n = fnL (dRed (dTi p q 128) 127) n := by
    unfold dMul fnL
    rw [List.getD_eq_getElem?_getD, List.getElem?_take_of_lt hn, ← List.getD_eq_getElem?_getD]
  rw [h1, dRed_fn _ (dTi_len _ _ _) 127 (Nat.le_refl _), ← reF_prod a b 128 (Nat.le_refl _) n hn, dTi_rel ha hb 128 (Nat.le_refl _)]
/-! the hash -/
theorem getD_set (l : B8) (i : Nat) (x : BitVec 8) (n : Nat) (hi : i < l.length) : (l.set i x).getD n 0 = if n = i then x else l.getD n 0 := by
  rw [List.getD_eq_getElem?_getD, List.getElem?_set, List.getD_eq_getElem?_getD]
  by_cases h : n = i
  · subst h; rw [if_pos rfl, if_pos hi, if_pos rfl]; rfl
  · rw [if_neg (Ne.symm h), if_neg h]
theorem zero_get : ∀ k : Fin 16, zero16.getD k.1 0 = 0#8 := by decide
theorem outG_get (y : G) : ∀ j, j ≤ 8 → ∀ i, i < 16 → (outG y j).getD i 0 = if i < 8 then (if 8 - j ≤ i then (y.1 >>> (8 * (7 - i))).setWidth 8 else 0#8) else (if 16 - j ≤ i then (y.2 >>> (8 * (15 - i))).setWidth 8 else 0#8)
  | 0, _, i, hi => by
    have h2 : (outG y 0).getD i 0 = 0#8 := by rw [outG]; exact zero_get ⟨i, hi⟩
    rw [h2]
    by_cases h : i < 8
    · rw [if_pos h, if_neg (by omega)]
    · rw [if_neg h, if_neg (by omega)]
  | j + 1, hj, i, hi => by
    have ih := outG_get y j (by omega) i hi
    have hl := outG_len y j
    rw [outG, getD_set _ _ _ _ (by rw [List.length_set, hl]; omega), getD_set _ _ _ _ (by rw [hl]; omega)]
    by_cases h1 : i = 15 - j
    · rw [if_pos h1, if_neg (by omega), if_pos (by omega), show 15 - i = j by omega]
    · rw [if_neg h1]
      by_cases h2 : i = 7 - j
      · rw [if_pos h2, if_pos (by omega), if_pos (by omega), show 7 - i = j by omega]
      · rw [if_neg h2, ih]
        by_cases h : i < 8
        · rw [if_pos h, if_pos h]
          by_cases h3 : 8 - j ≤ i
          · rw [if_pos h3, if_pos (by omega)]
          · rw [if_neg h3, if_neg (by omega)]
        · rw [if_neg h, if_neg h]
          by_cases h3 : 16 - j ≤ i
          · rw [if_pos h3, if_pos (by omega)]
          · rw [if_neg h3, if_neg (by omega)]
theorem outG_bit (y : G) (n : Nat) (hn : n < 128) : ((outG y 8).getD (n / 8) 0).getLsbD (7 - n % 8) = coG y n := by
  rw [outG_get y 8 (Nat.le_refl _) _ (by omega)]
  unfold coG
  have h7 : 7 - n % 8 < 8 := by omega
  by_cases h : n < 64
  · rw [if_pos (by omega), if_pos (by omega), if_pos h, BitVec.getLsbD_setWidth, BitVec.getLsbD_ushiftRight, show 8 * (7 - n / 8) + (7 - n % 8) = 63 - n by omega]
    simp [h7]
  · rw [if_neg (by omega), if_pos (by omega), if_neg h, BitVec.getLsbD_setWidth, BitVec.getLsbD_ushiftRight, show 8 * (15 - n / 8) + (7 - n % 8) = 127 - n by omega]
    simp [h7]
theorem of_out (y : G) : ofG (outG y 8) = y := co_ext fun n hn => by rw [co_of _ _ hn, outG_bit _ _ hn]
/-- The bytes of a polynomial. -/
def dOut (p : BL) : Nat → B8
  | 0 => zero16
  | i + 1 => if p.getD i false then (dOut p i).set (i / 8) ((dOut p i).getD (i / 8) 0 + (1#8 <<< (7 - i % 8))) else dOut p i
theorem dOut_len (p : BL) : ∀ i, (dOut p i).length = 16
  | 0 => rfl
  | i + 1 => by
    rw [dOut]
    split
    · rw [List.length_set, dOut_len p i]
    · exact dOut_len p i
/-- A byte's part. -/
def byP (f : Nat → Bool) : Nat → BitVec 8
  | 0 => 0#8
  | r + 1 => if f r then byP f r + (1#8 <<< (7 - r)) else byP f r
theorem dOut_get (p : BL) : ∀ i, i ≤ 128 → ∀ k, k < 16 → (dOut p i).getD k 0 = byP (fun r => p.getD (8 * k + r) false) (min 8 (i - 8 * k))
  | 0, _, k, hk => by
    rw [show min 8 (0 - 8 * k) = 0 by omega, dOut, byP]
    exact zero_get ⟨k, hk⟩
  | i + 1, hi, k, hk => by
    have ih := dOut_get p i (by omega)
    have hl := dOut_len p i
    rw [dOut]
    by_cases h : k = i / 8
    · subst h
      have e1 : min 8 (i + 1 - 8 * (i / 8)) = i % 8 + 1 := by omega
      have e2 : min 8 (i - 8 * (i / 8)) = i % 8 := by omega
      have e3 : 8 * (i / 8) + i % 8 = i := by omega
      have ih2 := ih _ hk
      rw [e2] at ih2
      rw [e1, byP, e3]
      by_cases hp : p.getD i false = true
      · rw [if_pos hp, if_pos hp, getD_set _ _ _ _ (by rw [hl]; omega), if_pos rfl, ih2]
      · rw [if_neg hp, if_neg hp, ih2]
    · have e1 : min 8 (i + 1 - 8 * k) = min 8 (i - 8 * k) := by omega
      rw [e1, ← ih k hk]
      split
      · rw [getD_set _ _ _ _ (by rw [hl]; omega), if_neg h]
      · rfl
theorem byP_bits : ∀ (b0 b1 b2 b3 b4 b5 b6 b7 : Bool) (r : Fin 8), (byP (fun i => [b0, b1, b2, b3, b4, b5, b6, b7].getD i false) 8).getLsbD (7 - r.1) = [b0, b1, b2, b3, b4, b5, b6, b7].getD r.1 false := by decide +kernel
theorem byP_congr {f g : Nat → Bool} : ∀ {n : Nat}, (∀ r, r < n → f r = g r) → byP f n = byP g n
  | 0, _ => rfl
  | n + 1, h => by rw [byP, byP, byP_congr (fun r hr => h r (by omega)), h n (by omega)]
theorem byP_bit (f : Nat → Bool) (r : Nat) (hr : r < 8) : (byP f 8).getLsbD (7 - r) = f r := by
  have h := byP_bits (f 0) (f 1) (f 2) (f 3) (f 4) (f 5) (f 6) (f 7) ⟨r, hr⟩
  have hc : ∀ i, i < 8 → [f 0, f 1, f 2, f 3, f 4, f 5, f 6, f 7].getD i false = f i := by
    intro i hi
    match i, hi with
    | 0, _ | 1, _ | 2, _ | 3, _ | 4, _ | 5, _ | 6, _ | 7, _ => rfl
  rw [byP_congr hc, hc r hr] at h
  exact h
theorem rel_out {y : G} {p : BL} (h : Rel y p) : dOut p 128 = outG y 8 := by
  refine ext_getD2 (by rw [dOut_len, outG_len]) fun k hk => ?_
  have hk' : k < 16 := by rw [outG_len] at hk; exact hk
  rw [dOut_get p 128 (Nat.le_refl _) k hk', show min 8 (128 - 8 * k) = 8 by omega]
  refine BitVec.eq_of_getLsbD_eq fun i hi => ?_
  have e1 := byP_bit (fun r => p.getD (8 * k + r) false) (7 - i) (by omega)
  have e2 := outG_bit y (8 * k + (7 - i)) (by omega)
  rw [show 7 - (7 - i) = i by omega] at e1
  rw [show (8 * k + (7 - i)) / 8 = k by omega, show 7 - (8 * k + (7 - i)) % 8 = i by omega] at e2
  rw [e1, e2]
  exact h.2 _ (by omega)
/-- Blocks of data, taken up one by one. -/
def dAbs (k y : BL) (D : B8) : Nat → BL
  | 0 => y
  | j + 1 => dMul (dXor (dAbs k y D j) (dOf ((D.drop (16 * j)).take 16) (8 * ((D.drop (16 * j)).take 16).length)) 128) k
theorem rel_abs {k y : G} {p q : BL} (hk : Rel k p) (hy : Rel y q) (D : B8) : ∀ j, Rel (absG k y D j) (dAbs p q D j)
  | 0 => hy
  | j + 1 => rel_mul (rel_xor (rel_abs hk hy D j) (rel_of _ (by simp; omega))) hk
def dAll (k y : BL) (D : B8) : BL := dAbs k y D ((D.length + 15) / 16)
def dLen (a c : Nat) : B8 := outG (BitVec.ofInt 64 a * 8#64, BitVec.ofInt 64 c * 8#64) 8
theorem mul8 (x : BitVec 64) : x * 8#64 = x <<< 3 := by
  apply BitVec.eq_of_toNat_eq
  rw [BitVec.toNat_mul, BitVec.toNat_shiftLeft, Nat.shiftLeft_eq]
  rfl
theorem rel_len (a c : Nat) : Rel (lenG a c) (dOf (dLen a c) 128) := by
  have h := rel_of (dLen a c) (by rw [dLen, outG_len]; exact Nat.le_refl _)
  have hl : (dLen a c).length = 16 := outG_len _ _
  have hp : pad16 (dLen a c) = dLen a c := by unfold pad16; rw [hl]; simp [zero16]
  rw [hl, hp, dLen, of_out, mul8, mul8] at h
  rw [dLen, mul8, mul8]
  exact h
def dZero : BL := List.replicate 128 false
theorem rel_zero : Rel (0#64, 0#64) dZero := by
  refine ⟨by simp [dZero], fun n hn => ?_⟩
  unfold fnL dZero coG
  rw [List.getD_eq_getElem?_getD, List.getElem?_replicate, if_pos hn]
  simp
/-- The document's hash. -/
def dHash (h A C : B8) : B8 := dOut (dMul (dXor (dAll (dOf h 128) (dAll (dOf h 128) dZero A) C) (dOf (dLen A.length C.length) 128) 128) (dOf h 128)) 128
theorem dHash_eq {h : B8} (hh : h.length = 16) (A C : B8) : dHash h A C = hashG h A C := by
  have hk : Rel (ofG (pad16 h)) (dOf h 128) := by
    have := rel_of h (by omega)
    rw [hh] at this
    exact this
  exact rel_out (rel_mul (rel_xor (rel_abs hk (rel_abs hk rel_zero A _) C _) (rel_len _ _)) hk)
end Go.V
end
section
set_option linter.unusedSimpArgs false
set_option linter.unusedVariables false
set_option maxRecDepth 10000
namespace Go.V
open Go Go.Proofs.Try
theorem tdiv8 (j : Nat) : (j : Int).tdiv 8 = ((j / 8 : Nat) : Int) := by
  rw [Int.tdiv_eq_ediv_of_nonneg (by omega)]; rfl
theorem tmod8 (j : Nat) : (j : Int).tmod 8 = ((j % 8 : Nat) : Int) := by
  rw [Int.tmod_eq_emod_of_nonneg (by omega)]; rfl
theorem spec66 (B : B8) (off n cap : Nat) (hn : n ≤ 16) (hB' : off + n ≤ B.length) (hcap : n ≤ cap) : Spec prog 66 [one (.sl 0 off n cap 1)] [.ent ⟨false, 5, none, .a8 B⟩] [] (fun r _ => r = .one (.ab (dOf ((B.drop off).take n) (8 * n)))) := by
  refine spec_of_body tabOK func66 rfl (Nat.le_of_ble_eq_true rfl) ?_; intro E Q0 hB; refine ok_run hB tabOK pureNone_ok 100 ?_; simp only [argSl]
  have hxl : ((B.drop off).take n).length = n := by simp; omega
  repeat (first
    | rw [run_ops0]
    | rw [run_seq]
    | rw [run_region]
    | rw [run_block]
    | rw [run_blk]
    | rw [run_skip]
    | (apply run_go rfl; focus (intro L K hK; simp [-List.reduceReplicate, -List.getD_eq_getElem?_getD]; (repeat' apply And.intro); all_goals first | exact hK | omega)))
  rw [run_loop]; refine ok_loop (X := Nat) (fun j => ⟨[(4, one (.i j)), (3, one (.ptr 2 0 0)), (2, one (.ptr 1 0 0)), (0, one (.sl 0 off n cap 1))], [.ent ⟨false, 5, none, .a8 B⟩, .ent ⟨true, 120, some 128, .ab (List.replicate 128 false)⟩, .ent ⟨true, 120, some 128, .ab (dOf ((B.drop off).take n) j)⟩]⟩) (fun j => j ≤ 8 * n) (fun j => 8 * n - j) (fun j i L h => by have := hB.anc i L h; first | (simp at this; done) | (simp at this ⊢; omega)) ⟨0, by omega, by simp [-List.reduceReplicate, -List.getD_eq_getElem?_getD, dOf]⟩ ?_; intro j hj; refine ok_run hB tabOK pureNone_ok 100 ?_
  have hl := dOf_len ((B.drop off).take n) j
  have hb : dOf ((B.drop off).take n) (j + 1) = (dOf ((B.drop off).take n) j).set j (dBit ((B.drop off).take n) j) := rfl
  generalize hx : dOf ((B.drop off).take n) j = p at hl hb ⊢
  repeat (first
    | rw [run_ops0]
    | rw [run_seq]
    | rw [run_region]
    | rw [run_block]
    | rw [run_blk]
    | rw [run_skip]
    | (apply run_go rfl; focus (intro L K hK; simp [-List.reduceReplicate, -List.getD_eq_getElem?_getD]; (repeat' apply And.intro); all_goals first | exact hK | omega)))
  apply run_cond2 rfl
  · intro h
    simp at h
    have h1 : j / 8 < n := by omega
    have e2 : ((j : Int) / 8).toNat = j / 8 := by omega
    have e3 : (7 - (j : Int) % 8).toNat = 7 - j % 8 := by omega
    have hg : B.getD (off + j / 8) 0#8 = ((B.drop off).take n).getD (j / 8) 0#8 := by
      rw [List.getD_eq_getElem?_getD, List.getD_eq_getElem?_getD, List.getElem?_take_of_lt h1, List.getElem?_drop]
    repeat (first
    | rw [run_ops0]
    | rw [run_seq]
    | rw [run_region]
    | rw [run_block]
    | rw [run_blk]
    | rw [run_skip]
    | (apply run_go rfl; focus (intro L K hK; simp [-List.reduceReplicate, -List.getD_eq_getElem?_getD, tdiv8, tmod8, e2, e3, hl, hg]; (repeat' apply And.intro); all_goals first | exact hK | omega)))
    rw [run_back]
    refine ⟨j + 1, by omega, by omega, ?_⟩
    rw [hb, dBit]
    simp [-List.reduceReplicate, -List.getD_eq_getElem?_getD]
  · intro h
    simp at h
    obtain rfl : j = 8 * n := by omega
    apply run_exit2 rfl
    repeat (first
    | rw [run_ops0]
    | rw [run_seq]
    | rw [run_region]
    | rw [run_block]
    | rw [run_blk]
    | rw [run_skip]
    | (apply run_go rfl; focus (intro L K hK; simp [-List.reduceReplicate, -List.getD_eq_getElem?_getD]; (repeat' apply And.intro); all_goals first | exact hK | omega)))
    rw [run_ret]
    simp [-List.reduceReplicate, -List.getD_eq_getElem?_getD, results66, f66, hx]
theorem spec68 (p q : BL) (hp : p.length = 128) (hq : q.length = 128) : Spec prog 68 [.one (.ab p), .one (.ab q)] [] [] (fun r _ => r = .one (.ab (dXor p q 128))) := by
  refine spec_of_body tabOK func68 rfl (Nat.le_of_ble_eq_true rfl) ?_; intro E Q0 hB; refine ok_run hB tabOK pureNone_ok 100 ?_; simp only [argSl]
  repeat (first
    | rw [run_ops0]
    | rw [run_seq]
    | rw [run_region]
    | rw [run_block]
    | rw [run_blk]
    | rw [run_skip]
    | (apply run_go rfl; focus (intro L K hK; simp [-List.reduceReplicate, -List.getD_eq_getElem?_getD]; (repeat' apply And.intro); all_goals first | exact hK | omega)))
  rw [run_loop]; refine ok_loop (X := Nat) (fun j => ⟨[(5, one (.i j)), (4, one (.ptr 2 0 0)), (3, one (.ptr 1 0 0)), (2, one (.ptr 0 0 0))], [.ent ⟨true, 120, some 128, .ab (dXor p q j)⟩, .ent ⟨true, 120, some 128, .ab q⟩, .ent ⟨true, 120, some 128, .ab (List.replicate 128 false)⟩]⟩) (fun j => j ≤ 128) (fun j => 128 - j) (fun j i L h => by have := hB.anc i L h; first | (simp at this; done) | (simp at this ⊢; omega)) ⟨0, by omega, by simp [-List.reduceReplicate, -List.getD_eq_getElem?_getD, dXor]⟩ ?_; intro j hj; refine ok_run hB tabOK pureNone_ok 100 ?_
  have hl := dXor_len p q j
  rw [hp] at hl
  have hb : dXor p q (j + 1) = (dXor p q j).set j ((dXor p q j).getD j false != q.getD j false) := rfl
  generalize hx : dXor p q j = x at hl hb ⊢
  repeat (first
    | rw [run_ops0]
    | rw [run_seq]
    | rw [run_region]
    | rw [run_block]
    | rw [run_blk]
    | rw [run_skip]
    | (apply run_go rfl; focus (intro L K hK; simp [-List.reduceReplicate, -List.getD_eq_getElem?_getD]; (repeat' apply And.intro); all_goals first | exact hK | omega)))
  apply run_cond2 rfl
  · intro h
    simp at h
    repeat (first
    | rw [run_ops0]
    | rw [run_seq]
    | rw [run_region]
    | rw [run_block]
    | rw [run_blk]
    | rw [run_skip]
    | (apply run_go rfl; focus (intro L K hK; simp [-List.reduceReplicate, -List.getD_eq_getElem?_getD]; (repeat' apply And.intro); all_goals first | exact hK | omega)))
    rw [run_draw]; refine ok_draw2 9 tabOK pureNone_ok pureNone_mono mixed (by decide +kernel) rfl rfl ?_; (repeat (first
    | (apply hd_go rfl rfl rfl rfl (Nat.le_of_ble_eq_true rfl); focus (intro K' hK; simp [-List.reduceReplicate, -List.getD_eq_getElem?_getD, hl, hq]; (repeat' apply And.intro); all_goals first | exact hK | omega))
    | (apply hd_new rfl rfl rfl rfl (Nat.le_of_ble_eq_true rfl); focus (intro K' hK; simp [-List.reduceReplicate, -List.getD_eq_getElem?_getD, hl, hq]; (repeat' apply And.intro); all_goals first | exact hK | omega)))); refine hd_nil ?_; simp only [List.map_nil, List.map_cons, List.append_nil]; refine ok_run hB tabOK pureNone_ok 100 ?_; (repeat (first
    | rw [run_ops0]
    | rw [run_seq]
    | rw [run_region]
    | rw [run_block]
    | rw [run_blk]
    | rw [run_skip]
    | (apply run_go rfl; focus (intro L K hK; simp [-List.reduceReplicate, -List.getD_eq_getElem?_getD, hl, hq]; (repeat' apply And.intro); all_goals first | exact hK | omega))))
    rw [run_back]
    refine ⟨j + 1, by omega, by omega, ?_⟩
    rw [hb]
    simp [-List.reduceReplicate, -List.getD_eq_getElem?_getD]
  · intro h
    simp at h
    obtain rfl : j = 128 := by omega
    apply run_exit2 rfl
    repeat (first
    | rw [run_ops0]
    | rw [run_seq]
    | rw [run_region]
    | rw [run_block]
    | rw [run_blk]
    | rw [run_skip]
    | (apply run_go rfl; focus (intro L K hK; simp [-List.reduceReplicate, -List.getD_eq_getElem?_getD]; (repeat' apply And.intro); all_goals first | exact hK | omega)))
    rw [run_ret]
    simp [-List.reduceReplicate, -List.getD_eq_getElem?_getD, results68, f68, hx]
theorem spec67 (p q : BL) (hp : p.length = 128) (hq : q.length = 128) : Spec prog 67 [.one (.ab p), .one (.ab q)] [] [] (fun r _ => r = .one (.ab (dMul p q))) := by
  refine spec_of_body tabOK func67 rfl (Nat.le_of_ble_eq_true rfl) ?_; intro E Q0 hB; refine ok_run hB tabOK pureNone_ok 100 ?_; simp only [argSl]
  repeat (first
    | rw [run_ops0]
    | rw [run_seq]
    | rw [run_region]
    | rw [run_block]
    | rw [run_blk]
    | rw [run_skip]
    | apply run_exit2 rfl
    | apply run_cyes rfl
    | apply run_cno rfl
    | (rw [run_zero]; refine ok_run hB tabOK pureNone_ok 100 ?_)
    | (apply run_go rfl; focus (intro L K hK; simp [-List.reduceReplicate, -List.getD_eq_getElem?_getD]; (repeat' apply And.intro); all_goals first | exact hK | omega))
    | (apply run_gyes rfl rfl rfl rfl; focus (intro L K hK; simp [-List.reduceReplicate, -List.getD_eq_getElem?_getD]; (repeat' apply And.intro); all_goals first | exact hK | omega))
    | (apply run_gno rfl rfl rfl rfl rfl (Nat.le_of_ble_eq_true rfl); simp only [St.put])
    | (apply run_gtup rfl rfl rfl rfl (Nat.le_of_ble_eq_true rfl); simp only [St.put]))
  rw [run_loop]; refine ok_loop (X := Nat) (fun j => ⟨[(6, one (.i j)), (5, one (.ptr 3 0 0)), (4, one (.ptr 2 0 0)), (3, one (.ptr 1 0 0)), (2, one (.ptr 0 0 0))], [.ent ⟨true, 120, some 128, .ab p⟩, .ent ⟨true, 120, some 128, .ab q⟩, .ent ⟨true, 120, some 128, .ab (List.replicate 128 false)⟩, .ent ⟨true, 147, some 255, .ab (dTi p q j)⟩]⟩) (fun j => j ≤ 128) (fun j => 128 - j) (fun j i L h => by have := hB.anc i L h; first | (simp at this; done) | (simp at this ⊢; omega)) ⟨0, by omega, by simp [-List.reduceReplicate, -List.getD_eq_getElem?_getD, dTi]⟩ ?_; intro j hj; refine ok_run hB tabOK pureNone_ok 100 ?_
  have hl := dTi_len p q j
  have hT : dTi p q (j + 1) = if p.getD j false then dTk q j (dTi p q j) 128 else dTi p q j := rfl
  generalize hx : dTi p q j = t at hl hT ⊢
  by_cases h : j < 128
  · have hI : (j : Int) < 128 := by omega
    repeat (first
    | rw [run_ops0]
    | rw [run_seq]
    | rw [run_region]
    | rw [run_block]
    | rw [run_blk]
    | rw [run_skip]
    | apply run_exit2 rfl
    | apply run_cyes rfl
    | apply run_cno rfl
    | (rw [run_zero]; refine ok_run hB tabOK pureNone_ok 100 ?_)
    | (apply run_go rfl; focus (intro L K hK; simp [-List.reduceReplicate, -List.getD_eq_getElem?_getD, hI]; (repeat' apply And.intro); all_goals first | exact hK | omega))
    | (apply run_gyes rfl rfl rfl rfl; focus (intro L K hK; simp [-List.reduceReplicate, -List.getD_eq_getElem?_getD, hI]; (repeat' apply And.intro); all_goals first | exact hK | omega))
    | (apply run_gno rfl rfl rfl rfl rfl (Nat.le_of_ble_eq_true rfl); simp only [St.put])
    | (apply run_gtup rfl rfl rfl rfl (Nat.le_of_ble_eq_true rfl); simp only [St.put]))
    rw [run_loop]; refine ok_loop (X := Nat) (fun k => ⟨[(7, one (.i k)), (6, one (.i j)), (5, one (.ptr 3 0 0)), (4, one (.ptr 2 0 0)), (3, one (.ptr 1 0 0)), (2, one (.ptr 0 0 0))], [.ent ⟨true, 120, some 128, .ab p⟩, .ent ⟨true, 120, some 128, .ab q⟩, .ent ⟨true, 120, some 128, .ab (List.replicate 128 false)⟩, .ent ⟨true, 147, some 255, .ab (dTk q j t k)⟩]⟩) (fun k => k ≤ 128 ∧ (p.getD j false = true ∨ k = 0)) (fun k => 128 - k) (fun j i L h => by have := hB.anc i L h; first | (simp at this; done) | (simp at this ⊢; omega)) ⟨0, by omega, by simp [-List.reduceReplicate, -List.getD_eq_getElem?_getD, dTk]⟩ ?_; intro k hk; refine ok_run hB tabOK pureNone_ok 100 ?_
    obtain ⟨hk1, hk2⟩ := hk
    have hkl := dTk_len q j t k
    rw [hl] at hkl
    have hK : dTk q j t (k + 1) = (dTk q j t k).set (j + k) ((dTk q j t k).getD (j + k) false != q.getD k false) := rfl
    by_cases hk : k < 128
    · have hkI : (k : Int) < 128 := by omega
      cases hp1 : p.getD j false
      · obtain rfl : k = 0 := by rcases hk2 with h2 | h2; · rw [hp1] at h2; cases h2
                                 · exact h2
        repeat (first
    | rw [run_ops0]
    | rw [run_seq]
    | rw [run_region]
    | rw [run_block]
    | rw [run_blk]
    | rw [run_skip]
    | apply run_exit2 rfl
    | apply run_cyes rfl
    | apply run_cno rfl
    | (rw [run_zero]; refine ok_run hB tabOK pureNone_ok 100 ?_)
    | (apply run_go rfl; focus (intro L K hK; simp [-List.reduceReplicate, -List.getD_eq_getElem?_getD, hkI, hp1, hp]; (repeat' apply And.intro); all_goals first | exact hK | omega))
    | (apply run_gyes rfl rfl rfl rfl; focus (intro L K hK; simp [-List.reduceReplicate, -List.getD_eq_getElem?_getD, hkI, hp1, hp]; (repeat' apply And.intro); all_goals first | exact hK | omega))
    | (apply run_gno rfl rfl rfl rfl rfl (Nat.le_of_ble_eq_true rfl); simp only [St.put])
    | (apply run_gtup rfl rfl rfl rfl (Nat.le_of_ble_eq_true rfl); simp only [St.put]))
        rw [run_back]
        refine ⟨j + 1, by omega, by omega, ?_⟩
        rw [hT, hp1]
        simp [-List.reduceReplicate, -List.getD_eq_getElem?_getD, dTk]
      · generalize hy : dTk q j t k = u at hkl hK ⊢
        repeat (first
    | rw [run_ops0]
    | rw [run_seq]
    | rw [run_region]
    | rw [run_block]
    | rw [run_blk]
    | rw [run_skip]
    | apply run_exit2 rfl
    | apply run_cyes rfl
    | apply run_cno rfl
    | (rw [run_zero]; refine ok_run hB tabOK pureNone_ok 100 ?_)
    | (apply run_go rfl; focus (intro L K hK; simp [-List.reduceReplicate, -List.getD_eq_getElem?_getD, hkI, hp1, hp]; (repeat' apply And.intro); all_goals first | exact hK | omega))
    | (apply run_gyes rfl rfl rfl rfl; focus (intro L K hK; simp [-List.reduceReplicate, -List.getD_eq_getElem?_getD, hkI, hp1, hp]; (repeat' apply And.intro); all_goals first | exact hK | omega))
    | (apply run_gno rfl rfl rfl rfl rfl (Nat.le_of_ble_eq_true rfl); simp only [St.put])
    | (apply run_gtup rfl rfl rfl rfl (Nat.le_of_ble_eq_true rfl); simp only [St.put]))
        have e1 : ((j : Int) + (k : Int)).toNat = j + k := by omega
        rw [run_draw]; refine ok_draw2 13 tabOK pureNone_ok pureNone_mono mixed (by decide +kernel) rfl rfl ?_; (repeat (first
    | (apply hd_go rfl rfl rfl rfl (Nat.le_of_ble_eq_true rfl); focus (intro K' hK; simp [-List.reduceReplicate, -List.getD_eq_getElem?_getD, hq, hkl, e1]; (repeat' apply And.intro); all_goals first | exact hK | omega))
    | (apply hd_new rfl rfl rfl rfl (Nat.le_of_ble_eq_true rfl); focus (intro K' hK; simp [-List.reduceReplicate, -List.getD_eq_getElem?_getD, hq, hkl, e1]; (repeat' apply And.intro); all_goals first | exact hK | omega)))); refine hd_nil ?_; simp only [List.map_nil, List.map_cons, List.append_nil]; refine ok_run hB tabOK pureNone_ok 100 ?_; (repeat (first
    | rw [run_ops0]
    | rw [run_seq]
    | rw [run_region]
    | rw [run_block]
    | rw [run_blk]
    | rw [run_skip]
    | (apply run_go rfl; focus (intro L K hK; simp [-List.reduceReplicate, -List.getD_eq_getElem?_getD, hq, hkl, e1]; (repeat' apply And.intro); all_goals first | exact hK | omega))))
        rw [run_back]
        refine ⟨k + 1, ⟨by omega, .inl (by first | trivial | exact hp1)⟩, by omega, ?_⟩
        rw [hK]
        simp [-List.reduceReplicate, -List.getD_eq_getElem?_getD]
    · obtain rfl : k = 128 := by omega
      have hp1 : p.getD j false = true := by rcases hk2 with h2 | h2; · exact h2
                                             · omega
      rw [hp1, if_pos rfl] at hT
      repeat (first
    | rw [run_ops0]
    | rw [run_seq]
    | rw [run_region]
    | rw [run_block]
    | rw [run_blk]
    | rw [run_skip]
    | apply run_exit2 rfl
    | apply run_cyes rfl
    | apply run_cno rfl
    | (rw [run_zero]; refine ok_run hB tabOK pureNone_ok 100 ?_)
    | (apply run_go rfl; focus (intro L K hK; simp [-List.reduceReplicate, -List.getD_eq_getElem?_getD]; (repeat' apply And.intro); all_goals first | exact hK | omega))
    | (apply run_gyes rfl rfl rfl rfl; focus (intro L K hK; simp [-List.reduceReplicate, -List.getD_eq_getElem?_getD]; (repeat' apply And.intro); all_goals first | exact hK | omega))
    | (apply run_gno rfl rfl rfl rfl rfl (Nat.le_of_ble_eq_true rfl); simp only [St.put])
    | (apply run_gtup rfl rfl rfl rfl (Nat.le_of_ble_eq_true rfl); simp only [St.put]))
      rw [run_back]
      refine ⟨j + 1, by omega, by omega, ?_⟩
      rw [hT]
      simp [-List.reduceReplicate, -List.getD_eq_getElem?_getD]
  · obtain rfl : j = 128 := by omega
    have hr0 : dRed t 0 = t := rfl
    repeat (first
    | rw [run_ops0]
    | rw [run_seq]
    | rw [run_region]
    | rw [run_block]
    | rw [run_blk]
    | rw [run_skip]
    | apply run_exit2 rfl
    | apply run_cyes rfl
    | apply run_cno rfl
    | (rw [run_zero]; refine ok_run hB tabOK pureNone_ok 100 ?_)
    | (apply run_go rfl; focus (intro L K hK; simp [-List.reduceReplicate, -List.getD_eq_getElem?_getD]; (repeat' apply And.intro); all_goals first | exact hK | omega))
    | (apply run_gyes rfl rfl rfl rfl; focus (intro L K hK; simp [-List.reduceReplicate, -List.getD_eq_getElem?_getD]; (repeat' apply And.intro); all_goals first | exact hK | omega))
    | (apply run_gno rfl rfl rfl rfl rfl (Nat.le_of_ble_eq_true rfl); simp only [St.put])
    | (apply run_gtup rfl rfl rfl rfl (Nat.le_of_ble_eq_true rfl); simp only [St.put]))
    rw [run_loop]; refine ok_loop (X := Nat) (fun i => ⟨[(8, one (.i (254 - i))), (5, one (.ptr 3 0 0)), (4, one (.ptr 2 0 0))], [.ent ⟨true, 120, some 128, .ab p⟩, .ent ⟨true, 120, some 128, .ab q⟩, .ent ⟨true, 120, some 128, .ab (List.replicate 128 false)⟩, .ent ⟨true, 147, some 255, .ab (dRed t i)⟩]⟩) (fun i => i ≤ 127) (fun i => 127 - i) (fun j i L h => by have := hB.anc i L h; first | (simp at this; done) | (simp at this ⊢; omega)) ⟨0, by omega, by simp [-List.reduceReplicate, -List.getD_eq_getElem?_getD, dRed]⟩ ?_; intro i hi; refine ok_run hB tabOK pureNone_ok 100 ?_
    have hrl := dRed_len t i
    rw [hl] at hrl
    have hR : dRed t (i + 1) = dStep (254 - i) (dRed t i) := rfl
    generalize hy : dRed t i = u at hrl hR ⊢
    by_cases hi2 : i < 127
    · have hiI : 128 ≤ 254 - (i : Int) := by omega
      have e0 : (254 - (i : Int)).toNat = 254 - i := by omega
      have e1 : (254 - (i : Int) - 128).toNat = 254 - i - 128 := by omega
      have e2 : (254 - (i : Int) - 127).toNat = 254 - i - 127 := by omega
      have e3 : (254 - (i : Int) - 126).toNat = 254 - i - 126 := by omega
      have e4 : (254 - (i : Int) - 121).toNat = 254 - i - 121 := by omega
      have e5 : 254 - (i : Int) - 1 = 254 - ((i + 1 : Nat) : Int) := by omega
      cases hu : u.getD (254 - i) false
      · repeat (first
    | rw [run_ops0]
    | rw [run_seq]
    | rw [run_region]
    | rw [run_block]
    | rw [run_blk]
    | rw [run_skip]
    | apply run_exit2 rfl
    | apply run_cyes rfl
    | apply run_cno rfl
    | (rw [run_zero]; refine ok_run hB tabOK pureNone_ok 100 ?_)
    | (apply run_go rfl; focus (intro L K hK; simp [-List.reduceReplicate, -List.getD_eq_getElem?_getD, hiI, e0, e5, hrl, hu]; (repeat' apply And.intro); all_goals first | exact hK | omega))
    | (apply run_gyes rfl rfl rfl rfl; focus (intro L K hK; simp [-List.reduceReplicate, -List.getD_eq_getElem?_getD, hiI, e0, e5, hrl, hu]; (repeat' apply And.intro); all_goals first | exact hK | omega))
    | (apply run_gno rfl rfl rfl rfl rfl (Nat.le_of_ble_eq_true rfl); simp only [St.put])
    | (apply run_gtup rfl rfl rfl rfl (Nat.le_of_ble_eq_true rfl); simp only [St.put]))
        rw [run_back]
        refine ⟨i + 1, by omega, by omega, ?_⟩
        rw [hR, dStep, hu]
        simp [-List.reduceReplicate, -List.getD_eq_getElem?_getD, e5]
      · repeat (first
    | rw [run_ops0]
    | rw [run_seq]
    | rw [run_region]
    | rw [run_block]
    | rw [run_blk]
    | rw [run_skip]
    | apply run_exit2 rfl
    | apply run_cyes rfl
    | apply run_cno rfl
    | (rw [run_zero]; refine ok_run hB tabOK pureNone_ok 100 ?_)
    | (apply run_go rfl; focus (intro L K hK; simp [-List.reduceReplicate, -List.getD_eq_getElem?_getD, hiI, e0, e1, e2, e3, e4, e5, hrl, hu]; (repeat' apply And.intro); all_goals first | exact hK | omega))
    | (apply run_gyes rfl rfl rfl rfl; focus (intro L K hK; simp [-List.reduceReplicate, -List.getD_eq_getElem?_getD, hiI, e0, e1, e2, e3, e4, e5, hrl, hu]; (repeat' apply And.intro); all_goals first | exact hK | omega))
    | (apply run_gno rfl rfl rfl rfl rfl (Nat.le_of_ble_eq_true rfl); simp only [St.put])
    | (apply run_gtup rfl rfl rfl rfl (Nat.le_of_ble_eq_true rfl); simp only [St.put]))
        rw [run_back]
        refine ⟨i + 1, by omega, by omega, ?_⟩
        rw [hR, dStep, hu]
        simp [-List.reduceReplicate, -List.getD_eq_getElem?_getD, e5, flipL]
    · obtain rfl : i = 127 := by omega
      repeat (first
    | rw [run_ops0]
    | rw [run_seq]
    | rw [run_region]
    | rw [run_block]
    | rw [run_blk]
    | rw [run_skip]
    | apply run_exit2 rfl
    | apply run_cyes rfl
    | apply run_cno rfl
    | (rw [run_zero]; refine ok_run hB tabOK pureNone_ok 100 ?_)
    | (apply run_go rfl; focus (intro L K hK; simp [-List.reduceReplicate, -List.getD_eq_getElem?_getD]; (repeat' apply And.intro); all_goals first | exact hK | omega))
    | (apply run_gyes rfl rfl rfl rfl; focus (intro L K hK; simp [-List.reduceReplicate, -List.getD_eq_getElem?_getD]; (repeat' apply And.intro); all_goals first | exact hK | omega))
    | (apply run_gno rfl rfl rfl rfl rfl (Nat.le_of_ble_eq_true rfl); simp only [St.put])
    | (apply run_gtup rfl rfl rfl rfl (Nat.le_of_ble_eq_true rfl); simp only [St.put]))
      rw [run_draw]; refine ok_draw2 2 tabOK pureNone_ok pureNone_mono mixed (by decide +kernel) rfl rfl ?_; (repeat (first
    | (apply hd_go rfl rfl rfl rfl (Nat.le_of_ble_eq_true rfl); focus (intro K' hK; simp [-List.reduceReplicate, -List.getD_eq_getElem?_getD, hrl]; (repeat' apply And.intro); all_goals first | exact hK | omega))
    | (apply hd_new rfl rfl rfl rfl (Nat.le_of_ble_eq_true rfl); focus (intro K' hK; simp [-List.reduceReplicate, -List.getD_eq_getElem?_getD, hrl]; (repeat' apply And.intro); all_goals first | exact hK | omega)))); refine hd_nil ?_; simp only [List.map_nil, List.map_cons, List.append_nil]; refine ok_run hB tabOK pureNone_ok 100 ?_; (repeat (first
    | rw [run_ops0]
    | rw [run_seq]
    | rw [run_region]
    | rw [run_block]
    | rw [run_blk]
    | rw [run_skip]
    | (apply run_go rfl; focus (intro L K hK; simp [-List.reduceReplicate, -List.getD_eq_getElem?_getD, hrl]; (repeat' apply And.intro); all_goals first | exact hK | omega))))
      rw [run_ret]
      simp [-List.reduceReplicate, -List.getD_eq_getElem?_getD, results67, f67, dMul, hx, hy, hrl]
end Go.V
end
section
set_option linter.unusedSimpArgs false
set_option linter.unusedVariables false
set_option maxRecDepth 10000
namespace Go.V
open Go Go.Proofs.Try
/-- Which bytes a slice holds. -/
def bytesOf (m : Mem) : S → Option B8
  | .snil => some []
  | .sl id off n cap 1 => match m[id]? with
    | some (.ent e) => match e.c with
      | .a8 B => if off + n ≤ B.length ∧ n ≤ cap ∧ n ≤ 140737488355328 then some ((B.drop off).take n) else none
      | _ => none
    | _ => none
  | _ => none
def slId : S → Option Nat
  | .sl id _ _ _ _ => some id
  | _ => none
theorem bytesOf_sub {m m' : Mem} {x : S} {b : B8} (hs : Sub m m') (h : bytesOf m x = some b) : bytesOf m' x = some b := by
  unfold bytesOf at h ⊢
  split at h
  · exact h
  · split at h
    · rename_i hm
      simp only [hs _ _ hm]
      exact h
    · cases h
  · cases h
theorem bytesOf_sl {m : Mem} {id off n cap : Nat} {b : B8} (h : bytesOf m (.sl id off n cap 1) = some b) : ∃ (e : Ent) (B : B8), m[id]? = some (.ent e) ∧ e.c = .a8 B ∧ off + n ≤ B.length ∧ n ≤ cap ∧ n ≤ 140737488355328 ∧ b = (B.drop off).take n := by
  unfold bytesOf at h
  simp only at h
  split at h
  · split at h
    · split at h
      · rename_i hc
        cases h
        exact ⟨_, _, by assumption, by assumption, hc.1, hc.2.1, hc.2.2, rfl⟩
      · cases h
    · cases h
  · cases h
/-- Hash over bytes in memory, or over none. -/
def pureH : Pure := fun m f l => match f, l with
  | 26, [.one (.a8 h), .one (.s .snil), .one (.s (.sl id off n cap 1))] => match bytesOf m (.sl id off n cap 1) with
    | some DC => if h.length = 16 then some (.one (.a8 (hashG h [] DC))) else none
    | none => none
  | 26, [.one (.a8 h), .one (.s (.sl id1 off1 n1 cap1 1)), .one (.s (.sl id off n cap 1))] => match bytesOf m (.sl id1 off1 n1 cap1 1), bytesOf m (.sl id off n cap 1) with
    | some DA, some DC => if h.length = 16 ∧ id ≠ id1 then some (.one (.a8 (hashG h DA DC))) else none
    | _, _ => none
  | _, _ => none
theorem pureH_sub : PureSub pureH := by
  intro m m' f l v hs h
  unfold pureH at h ⊢
  split at h
  · split at h
    · rename_i hb
      simp only [bytesOf_sub hs hb]
      exact h
    · cases h
  · split at h
    · rename_i hb1 hb2
      simp only [bytesOf_sub hs hb1, bytesOf_sub hs hb2]
      exact h
    · cases h
  · cases h
theorem pureH_ok : PureOK prog pureH := by
  intro m f svs sv h E w ℓ vs hm hd
  unfold pureH at h
  split at h
  · rename_i hh id off n cap
    split at h
    · rename_i DC hb
      split at h
      · rename_i hl
        cases h
        obtain ⟨e, B, h1, h2, h3, h4, h5, rfl⟩ := bytesOf_sl hb
        have hf : Fresh m m.length := .inl rfl
        have hbm := hm.blank hf (ty := 5) (a := .a8 []) rfl trivial
        rw [fill_len] at hbm
        have hle := hm.le_upd hf ⟨E.w0.heap.size, 0, 0⟩
        have hlt := (List.getElem?_eq_some_iff.1 h1).1
        have hg1 : (m ++ [Mk.ent ⟨true, 5, none, .a8 []⟩])[id]? = some (.ent e) := by rw [List.getElem?_append_left hlt]; exact h1
        have hg2 : (m ++ [Mk.ent ⟨true, 5, none, .a8 []⟩])[m.length]? = some (.ent ⟨true, 5, none, .a8 []⟩) := by simp
        refine ⟨⟨f26, func26, nofun, by decide⟩, ?_⟩
        have hd2 : DenVs (upd ℓ m.length ⟨E.w0.heap.size, 0, 0⟩) ([.one (.a8 hh), one (.sl 1 0 0 0 1), one (.sl 0 off n cap 1)].map (renV (ix [id, m.length] (m ++ [Mk.ent ⟨true, 5, none, .a8 []⟩]).length))) vs := by
          match vs, hd with
          | [v1, v2, v3], ⟨a1, a2, a3, _⟩ =>
            refine ⟨by simpa [renV, renA] using a1.mono hle, ?_, by simpa [renV, renA, renS, ix, one] using a3.mono hle, trivial⟩
            have a2' : v2 = .slice none 0 0 := a2
            rw [a2']
            simp only [renV, renA, renS, ix, one]
            exact ⟨⟨E.w0.heap.size, 0, 0⟩, by simp [upd], Nat.le_refl _, .inl ⟨rfl, none, rfl⟩⟩
        have hcall := pure_use (spec26 hh [] B 0 0 0 off n cap hl (by simp) h3 (Nat.le_refl _) h4 (by omega) (by omega)) (by simp) rfl hbm [id, m.length] (by simp; omega) (by simp [matchM, ix, renA, belA, hg1, h2]) rfl hd2
        refine hcall.mono ?_
        rintro e' w' ⟨v, g1, g2, g3⟩
        simp only [List.drop_nil, List.take_nil] at g2
        exact ⟨v, g1, belV_den (n := 0) (fun i hi => by omega) rfl g2, g3⟩
      · cases h
    · cases h
  · rename_i hh id1 off1 n1 cap1 id off n cap
    split at h
    · rename_i DA DC hb1 hb2
      split at h
      · rename_i hl
        obtain ⟨hl, hne⟩ := hl
        cases h
        obtain ⟨e, B, h1, h2, h3, h4, h5, rfl⟩ := bytesOf_sl hb2
        obtain ⟨e1, B1, k1, k2, k3, k4, k5, rfl⟩ := bytesOf_sl hb1
        exact ⟨⟨f26, func26, nofun, by decide⟩, pure_use (spec26 hh B1 B off1 n1 cap1 off n cap hl k3 h3 k4 h4 (by omega) (by omega)) (by simp) rfl hm [id, id1] (by simp [hne]) (by simp [matchM, ix, renA, belA, h1, h2, k1, k2]) rfl (by simpa [renV, renA, renS, ix, one] using hd)⟩
      · cases h
    · cases h
  · cases h
/-! tag -/
open Classical in
noncomputable def pureG : Pure := fun m f l => if f = 26 then pureH m f l else pureL m f l
theorem pureG_sub : PureSub pureG := by
  intro m m' f l v hs h
  unfold pureG at h ⊢
  split at h
  · rename_i hf; rw [if_pos hf]; exact pureH_sub m m' f l v hs h
  · rename_i hf; rw [if_neg hf]; exact pureL_sub m m' f l v hs h
theorem pureG_mono : PureMono pureG := fun m x f l v h => pureG_sub m (m ++ x) f l v (fun id e he => get_app he) h
theorem pureG_ok : PureOK prog pureG := by
  intro m f svs sv h
  unfold pureG at h
  split at h
  · exact pureH_ok m f svs sv h
  · exact pureL_ok m f svs sv h
def ctr1 (nonce : B8) : B8 := nonce ++ [0, 0, 0, 1]
def tagX (t x : B8) : Nat → B8
  | 0 => t
  | j + 1 => (tagX t x j).set j ((tagX t x j).getD j 0 ^^^ x.getD j 0)
theorem tagX_len (t x : B8) : ∀ j, (tagX t x j).length = t.length
  | 0 => rfl
  | j + 1 => by simp [tagX, tagX_len t x j]
def tagB (W : B8) (nr : Nat) (nonce DA DC : B8) : B8 := tagX (hashG (rounds zero16 W nr (nr - 1)) DA DC) (rounds (ctr1 nonce) W nr (nr - 1)) 16
theorem hashG_len (h A C : B8) : (hashG h A C).length = 16 := outG_len _ 8
/-- What tag makes: the counter, the enciphered counter, the tag. -/
def tagE (W : B8) (nr : Nat) (nonce DA DC : B8) : List Ent := [⟨true, 23, some 16, .a8 (ctr1 nonce)⟩, ⟨true, 23, some 16, .a8 (rounds (ctr1 nonce) W nr (nr - 1))⟩, ⟨true, 23, some 16, .a8 (tagB W nr nonce DA DC)⟩]
theorem spec70 (W N B : B8) (nr cap on cn ob nb cb : Nat) (A : B8) (oa na ca : Nat) (ha : oa + na ≤ A.length) (hca : na ≤ ca) (hma : na ≤ 140737488355328) (hW : 16 * nr ≤ W.length) (hR : 0 < nr) (hR2 : nr < 1000) (hN : on + 12 ≤ N.length) (hcn : 12 ≤ cn) (hb : ob + nb ≤ B.length) (hcb : nb ≤ cb) (hmx : nb ≤ 140737488355328) :
    Spec prog 70 [one (.ptr 0 0 0), one (.sl 2 on 12 cn 1), one (.sl 4 oa na ca 1), one (.sl 3 ob nb cb 1)] (smem nr cap W N B ++ [.ent ⟨false, 5, none, .a8 A⟩]) [] (fun r m => r = one (.sl 7 0 16 16 1) ∧ m = smem nr cap W N B ++ [.ent ⟨false, 5, none, .a8 A⟩] ++ (tagE W nr ((N.drop on).take 12) ((A.drop oa).take na) ((B.drop ob).take nb)).map .ent) := by
  refine spec_of_body tabOK func70 rfl (Nat.le_of_ble_eq_true rfl) ?_
  intro E Q0 hB
  refine ok_run hB tabOK pureG_ok 100 ?_
  simp only [argSl, smem, List.cons_append, List.nil_append]
  have hnl : ((N.drop on).take 12).length = 12 := by simp; omega
  have h0 : ctr1 ((N.drop on).take 12) = (N.drop on).take 12 ++ [0#8, 0#8, 0#8, 1#8] := rfl
  have hl1 : (ctr1 ((N.drop on).take 12)).length = 16 := by rw [h0]; simp; omega
  have hk1 : kFit (ctr1 ((N.drop on).take 12)) W nr := ⟨hl1, hW, hR, hR2⟩
  have hk0 : kFit [0#8, 0#8, 0#8, 0#8, 0#8, 0#8, 0#8, 0#8, 0#8, 0#8, 0#8, 0#8, 0#8, 0#8, 0#8, 0#8] W nr := ⟨rfl, hW, hR, hR2⟩
  have hz : zero16 = [0#8, 0#8, 0#8, 0#8, 0#8, 0#8, 0#8, 0#8, 0#8, 0#8, 0#8, 0#8, 0#8, 0#8, 0#8, 0#8] := rfl
  repeat (first
    | rw [run_ops0]
    | rw [run_seq]
    | rw [run_region]
    | rw [run_block]
    | rw [run_blk]
    | rw [run_skip]
    | (apply run_go rfl; focus (intro L K hK; simp [-List.reduceReplicate, -List.getD_eq_getElem?_getD, hnl]; (repeat' apply And.intro); all_goals first | exact hK | omega)))
  rw [← h0]
  generalize hNN : ctr1 ((N.drop on).take 12) = c1 at hl1 hk1 ⊢
  have hx1 := rounds_len c1 W nr (nr - 1)
  have hx0 := rounds_len [0#8, 0#8, 0#8, 0#8, 0#8, 0#8, 0#8, 0#8, 0#8, 0#8, 0#8, 0#8, 0#8, 0#8, 0#8, 0#8] W nr (nr - 1)
  rw [hl1] at hx1
  replace hx0 : (rounds [0#8, 0#8, 0#8, 0#8, 0#8, 0#8, 0#8, 0#8, 0#8, 0#8, 0#8, 0#8, 0#8, 0#8, 0#8, 0#8] W nr (nr - 1)).length = 16 := hx0
  obtain ⟨X, hX⟩ : ∃ X, rounds c1 W nr (nr - 1) = X := ⟨_, rfl⟩
  obtain ⟨H, hH⟩ : ∃ H, rounds [0#8, 0#8, 0#8, 0#8, 0#8, 0#8, 0#8, 0#8, 0#8, 0#8, 0#8, 0#8, 0#8, 0#8, 0#8, 0#8] W nr (nr - 1) = H := ⟨_, rfl⟩
  rw [hX] at hx1
  rw [hH] at hx0
  have hhl := hashG_len H ((A.drop oa).take na) ((B.drop ob).take nb)
  repeat (first
    | rw [run_ops0]
    | rw [run_seq]
    | rw [run_region]
    | rw [run_block]
    | rw [run_blk]
    | rw [run_skip]
    | (apply run_go rfl; focus (intro L K hK; simp [-List.reduceReplicate, -List.getD_eq_getElem?_getD, ha, hca, hma, hk1, hk0, hX, hH, hx1, hx0, hl1, hhl, hb, hcb, hmx, pureG, pureL, pureH, kOf, bytesOf]; (repeat' apply And.intro); all_goals first | exact hK | omega)))
  have htag : tagB W nr ((N.drop on).take 12) ((A.drop oa).take na) ((B.drop ob).take nb) = tagX (hashG H ((A.drop oa).take na) ((B.drop ob).take nb)) X 16 := by
    unfold tagB
    rw [hNN, hX, hz, hH]
  generalize hashG H ((A.drop oa).take na) ((B.drop ob).take nb) = t0 at hhl htag ⊢
  rw [run_loop]
  refine ok_loop (X := Nat) (fun j => ⟨[(26, one (.i j)), (11, one (.ptr 7 0 0)), (10, one (.ptr 6 0 0))], [.ent ⟨false, 105, some 1, .st [⟨1, .s (.sl 1 0 nr cap 16)⟩]⟩, .ent ⟨false, 23, none, .a8 W⟩, .ent ⟨false, 5, none, .a8 N⟩, .ent ⟨false, 5, none, .a8 B⟩, .ent ⟨false, 5, none, .a8 A⟩, .ent ⟨true, 23, some 16, .a8 c1⟩, .ent ⟨true, 23, some 16, .a8 X⟩, .ent ⟨true, 23, some 16, .a8 (tagX t0 X j)⟩]⟩) (fun j => j ≤ 16) (fun j => 16 - j) (fun j i L h => by have := hB.anc i L h; simp [smem] at this ⊢; omega) ⟨0, by omega, by simp [-List.reduceReplicate, -List.getD_eq_getElem?_getD, tagX]⟩ ?_
  intro j hj
  refine ok_run hB tabOK pureG_ok 100 ?_
  have htl := tagX_len t0 X j
  repeat (first
    | rw [run_ops0]
    | rw [run_seq]
    | rw [run_region]
    | rw [run_block]
    | rw [run_blk]
    | rw [run_skip]
    | (apply run_go rfl; focus (intro L K hK; simp [-List.reduceReplicate, -List.getD_eq_getElem?_getD]; (repeat' apply And.intro); all_goals first | exact hK | omega)))
  apply run_cond2 rfl
  · intro h1
    simp at h1
    repeat (first
    | rw [run_ops0]
    | rw [run_seq]
    | rw [run_region]
    | rw [run_block]
    | rw [run_blk]
    | rw [run_skip]
    | (apply run_go rfl; focus (intro L K hK; simp [-List.reduceReplicate, -List.getD_eq_getElem?_getD]; (repeat' apply And.intro); all_goals first | exact hK | omega)))
    rw [run_draw]
    refine ok_draw2 7 tabOK pureG_ok pureG_mono mixed (by decide +kernel) rfl rfl ?_
    repeat (first
    | (apply hd_go rfl rfl rfl rfl (Nat.le_of_ble_eq_true rfl); focus (intro K' hK; simp [-List.reduceReplicate, -List.getD_eq_getElem?_getD, htl, hhl, hx1]; (repeat' apply And.intro); all_goals first | exact hK | omega))
    | (apply hd_new rfl rfl rfl rfl (Nat.le_of_ble_eq_true rfl); focus (intro K' hK; simp [-List.reduceReplicate, -List.getD_eq_getElem?_getD, htl, hhl, hx1]; (repeat' apply And.intro); all_goals first | exact hK | omega)))
    refine hd_nil ?_
    simp only [List.map_nil, List.append_nil]
    refine ok_run hB tabOK pureG_ok 100 ?_
    repeat (first
    | rw [run_ops0]
    | rw [run_seq]
    | rw [run_region]
    | rw [run_block]
    | rw [run_blk]
    | rw [run_skip]
    | (apply run_go rfl; focus (intro L K hK; simp [-List.reduceReplicate, -List.getD_eq_getElem?_getD, htl, hhl]; (repeat' apply And.intro); all_goals first | exact hK | omega)))
    rw [run_back]
    refine ⟨j + 1, by omega, by omega, ?_⟩
    simp [-List.reduceReplicate, -List.getD_eq_getElem?_getD, tagX]
  · intro h1
    simp at h1
    obtain rfl : j = 16 := by omega
    apply run_exit2 rfl
    repeat (first
    | rw [run_ops0]
    | rw [run_seq]
    | rw [run_region]
    | rw [run_block]
    | rw [run_blk]
    | rw [run_skip]
    | (apply run_go rfl; focus (intro L K hK; simp [-List.reduceReplicate, -List.getD_eq_getElem?_getD, htl, hhl]; (repeat' apply And.intro); all_goals first | exact hK | omega)))
    rw [run_ret]
    simp [-List.reduceReplicate, -List.getD_eq_getElem?_getD, results70, f70, smem, tagE, hNN, hX, htag]
theorem spec70n (W N B : B8) (nr cap on cn ob nb cb : Nat) (hW : 16 * nr ≤ W.length) (hR : 0 < nr) (hR2 : nr < 1000) (hN : on + 12 ≤ N.length) (hcn : 12 ≤ cn) (hb : ob + nb ≤ B.length) (hcb : nb ≤ cb) (hmx : nb ≤ 140737488355328) :
    Spec prog 70 [one (.ptr 0 0 0), one (.sl 2 on 12 cn 1), one .snil, one (.sl 3 ob nb cb 1)] (smem nr cap W N B) [] (fun r m => r = one (.sl 6 0 16 16 1) ∧ m = smem nr cap W N B ++ (tagE W nr ((N.drop on).take 12) ([] : B8) ((B.drop ob).take nb)).map .ent) := by
  refine spec_of_body tabOK func70 rfl (Nat.le_of_ble_eq_true rfl) ?_
  intro E Q0 hB
  refine ok_run hB tabOK pureG_ok 100 ?_
  simp only [argSl, smem, List.cons_append, List.nil_append]
  have hnl : ((N.drop on).take 12).length = 12 := by simp; omega
  have h0 : ctr1 ((N.drop on).take 12) = (N.drop on).take 12 ++ [0#8, 0#8, 0#8, 1#8] := rfl
  have hl1 : (ctr1 ((N.drop on).take 12)).length = 16 := by rw [h0]; simp; omega
  have hk1 : kFit (ctr1 ((N.drop on).take 12)) W nr := ⟨hl1, hW, hR, hR2⟩
  have hk0 : kFit [0#8, 0#8, 0#8, 0#8, 0#8, 0#8, 0#8, 0#8, 0#8, 0#8, 0#8, 0#8, 0#8, 0#8, 0#8, 0#8] W nr := ⟨rfl, hW, hR, hR2⟩
  have hz : zero16 = [0#8, 0#8, 0#8, 0#8, 0#8, 0#8, 0#8, 0#8, 0#8, 0#8, 0#8, 0#8, 0#8, 0#8, 0#8, 0#8] := rfl
  repeat (first
    | rw [run_ops0]
    | rw [run_seq]
    | rw [run_region]
    | rw [run_block]
    | rw [run_blk]
    | rw [run_skip]
    | (apply run_go rfl; focus (intro L K hK; simp [-List.reduceReplicate, -List.getD_eq_getElem?_getD, hnl]; (repeat' apply And.intro); all_goals first | exact hK | omega)))
  rw [← h0]
  generalize hNN : ctr1 ((N.drop on).take 12) = c1 at hl1 hk1 ⊢
  have hx1 := rounds_len c1 W nr (nr - 1)
  have hx0 := rounds_len [0#8, 0#8, 0#8, 0#8, 0#8, 0#8, 0#8, 0#8, 0#8, 0#8, 0#8, 0#8, 0#8, 0#8, 0#8, 0#8] W nr (nr - 1)
  rw [hl1] at hx1
  replace hx0 : (rounds [0#8, 0#8, 0#8, 0#8, 0#8, 0#8, 0#8, 0#8, 0#8, 0#8, 0#8, 0#8, 0#8, 0#8, 0#8, 0#8] W nr (nr - 1)).length = 16 := hx0
  obtain ⟨X, hX⟩ : ∃ X, rounds c1 W nr (nr - 1) = X := ⟨_, rfl⟩
  obtain ⟨H, hH⟩ : ∃ H, rounds [0#8, 0#8, 0#8, 0#8, 0#8, 0#8, 0#8, 0#8, 0#8, 0#8, 0#8, 0#8, 0#8, 0#8, 0#8, 0#8] W nr (nr - 1) = H := ⟨_, rfl⟩
  rw [hX] at hx1
  rw [hH] at hx0
  have hhl := hashG_len H ([] : B8) ((B.drop ob).take nb)
  repeat (first
    | rw [run_ops0]
    | rw [run_seq]
    | rw [run_region]
    | rw [run_block]
    | rw [run_blk]
    | rw [run_skip]
    | (apply run_go rfl; focus (intro L K hK; simp [-List.reduceReplicate, -List.getD_eq_getElem?_getD, hk1, hk0, hX, hH, hx1, hx0, hl1, hhl, hb, hcb, hmx, pureG, pureL, pureH, kOf, bytesOf]; (repeat' apply And.intro); all_goals first | exact hK | omega)))
  have htag : tagB W nr ((N.drop on).take 12) ([] : B8) ((B.drop ob).take nb) = tagX (hashG H ([] : B8) ((B.drop ob).take nb)) X 16 := by
    unfold tagB
    rw [hNN, hX, hz, hH]
  generalize hashG H ([] : B8) ((B.drop ob).take nb) = t0 at hhl htag ⊢
  rw [run_loop]
  refine ok_loop (X := Nat) (fun j => ⟨[(26, one (.i j)), (11, one (.ptr 6 0 0)), (10, one (.ptr 5 0 0))], [.ent ⟨false, 105, some 1, .st [⟨1, .s (.sl 1 0 nr cap 16)⟩]⟩, .ent ⟨false, 23, none, .a8 W⟩, .ent ⟨false, 5, none, .a8 N⟩, .ent ⟨false, 5, none, .a8 B⟩, .ent ⟨true, 23, some 16, .a8 c1⟩, .ent ⟨true, 23, some 16, .a8 X⟩, .ent ⟨true, 23, some 16, .a8 (tagX t0 X j)⟩]⟩) (fun j => j ≤ 16) (fun j => 16 - j) (fun j i L h => by have := hB.anc i L h; simp [smem] at this ⊢; omega) ⟨0, by omega, by simp [-List.reduceReplicate, -List.getD_eq_getElem?_getD, tagX]⟩ ?_
  intro j hj
  refine ok_run hB tabOK pureG_ok 100 ?_
  have htl := tagX_len t0 X j
  repeat (first
    | rw [run_ops0]
    | rw [run_seq]
    | rw [run_region]
    | rw [run_block]
    | rw [run_blk]
    | rw [run_skip]
    | (apply run_go rfl; focus (intro L K hK; simp [-List.reduceReplicate, -List.getD_eq_getElem?_getD]; (repeat' apply And.intro); all_goals first | exact hK | omega)))
  apply run_cond2 rfl
  · intro h1
    simp at h1
    repeat (first
    | rw [run_ops0]
    | rw [run_seq]
    | rw [run_region]
    | rw [run_block]
    | rw [run_blk]
    | rw [run_skip]
    | (apply run_go rfl; focus (intro L K hK; simp [-List.reduceReplicate, -List.getD_eq_getElem?_getD]; (repeat' apply And.intro); all_goals first | exact hK | omega)))
    rw [run_draw]
    refine ok_draw2 7 tabOK pureG_ok pureG_mono mixed (by decide +kernel) rfl rfl ?_
    repeat (first
    | (apply hd_go rfl rfl rfl rfl (Nat.le_of_ble_eq_true rfl); focus (intro K' hK; simp [-List.reduceReplicate, -List.getD_eq_getElem?_getD, htl, hhl, hx1]; (repeat' apply And.intro); all_goals first | exact hK | omega))
    | (apply hd_new rfl rfl rfl rfl (Nat.le_of_ble_eq_true rfl); focus (intro K' hK; simp [-List.reduceReplicate, -List.getD_eq_getElem?_getD, htl, hhl, hx1]; (repeat' apply And.intro); all_goals first | exact hK | omega)))
    refine hd_nil ?_
    simp only [List.map_nil, List.append_nil]
    refine ok_run hB tabOK pureG_ok 100 ?_
    repeat (first
    | rw [run_ops0]
    | rw [run_seq]
    | rw [run_region]
    | rw [run_block]
    | rw [run_blk]
    | rw [run_skip]
    | (apply run_go rfl; focus (intro L K hK; simp [-List.reduceReplicate, -List.getD_eq_getElem?_getD, htl, hhl]; (repeat' apply And.intro); all_goals first | exact hK | omega)))
    rw [run_back]
    refine ⟨j + 1, by omega, by omega, ?_⟩
    simp [-List.reduceReplicate, -List.getD_eq_getElem?_getD, tagX]
  · intro h1
    simp at h1
    obtain rfl : j = 16 := by omega
    apply run_exit2 rfl
    repeat (first
    | rw [run_ops0]
    | rw [run_seq]
    | rw [run_region]
    | rw [run_block]
    | rw [run_blk]
    | rw [run_skip]
    | (apply run_go rfl; focus (intro L K hK; simp [-List.reduceReplicate, -List.getD_eq_getElem?_getD, htl, hhl]; (repeat' apply And.intro); all_goals first | exact hK | omega)))
    rw [run_ret]
    simp [-List.reduceReplicate, -List.getD_eq_getElem?_getD, results70, f70, smem, tagE, hNN, hX, htag]
end Go.V
end
section
set_option linter.unusedSimpArgs false
set_option linter.unusedVariables false
set_option maxRecDepth 10000
namespace Go.V
/-- The document's counter block. -/
def dCtr (N : B8) (x : BitVec 32) : Nat → B8
  | 0 => ctr0 N
  | j + 1 => (dCtr N x j).set (15 - j) ((x >>> (8 * j)).setWidth 8)
theorem dCtr_len {N : B8} (x : BitVec 32) (h : N.length = 12) : ∀ j, (dCtr N x j).length = 16
  | 0 => by simp [dCtr, ctr0, h]
  | j + 1 => by rw [dCtr, List.length_set, dCtr_len x h j]
theorem dCtr_get {N : B8} (x : BitVec 32) (h : N.length = 12) : ∀ j, j ≤ 4 → ∀ i, (dCtr N x j).getD i 0 = if 16 - j ≤ i ∧ i < 16 then (x >>> (8 * (15 - i))).setWidth 8 else (ctr0 N).getD i 0
  | 0, _, i => by rw [if_neg (by omega)]; rfl
  | j + 1, hj, i => by
    rw [dCtr, getD_set _ _ _ _ (by rw [dCtr_len x h]; omega), dCtr_get x h j (by omega) i]
    by_cases h1 : i = 15 - j
    · rw [if_pos h1, if_pos (by omega), show 15 - i = j by omega]
    · rw [if_neg h1]
      by_cases h2 : 16 - j ≤ i ∧ i < 16
      · rw [if_pos h2, if_pos (by omega)]
      · rw [if_neg h2, if_neg (by omega)]
theorem ctrSet_get {c : B8} (n : Nat) (h : c.length = 16) : ∀ j, j ≤ 4 → ∀ i, (ctrSet c n j).getD i 0 = if 16 - j ≤ i ∧ i < 16 then BitVec.ofInt 8 ((n : Int) / 2 ^ (8 * (15 - i))) else c.getD i 0
  | 0, _, i => by rw [if_neg (by omega)]; rfl
  | j + 1, hj, i => by
    rw [ctrSet, getD_set _ _ _ _ (by rw [ctrSet_len, h]; omega), ctrSet_get n h j (by omega) i]
    by_cases h1 : i = 15 - j
    · rw [if_pos h1, if_pos (by omega), show 15 - i = j by omega]
    · rw [if_neg h1]
      by_cases h2 : 16 - j ≤ i ∧ i < 16
      · rw [if_pos h2, if_pos (by omega)]
      · rw [if_neg h2, if_neg (by omega)]
theorem stC_low {N : B8} (h : N.length = 12) : ∀ m i, i < 12 → (stC N m).getD i 0 = (ctr0 N).getD i 0
  | 0, i, hi => rfl
  | m + 1, i, hi => by
    rw [stC]
    split
    · rw [ctrSet_get _ (stC_len h m) 4 (Nat.le_refl _), if_neg (by omega), stC_low h m i hi]
    · exact stC_low h m i hi
theorem byte_shift (n k : Nat) (hk : k < 4) : ((BitVec.ofInt 32 (n : Int)) >>> (8 * k)).setWidth 8 = BitVec.ofInt 8 ((n : Int) / 2 ^ (8 * k)) := by
  apply BitVec.eq_of_toNat_eq
  rw [BitVec.toNat_setWidth, BitVec.toNat_ushiftRight, BitVec.toNat_ofInt, BitVec.toNat_ofInt, Nat.shiftRight_eq_div_pow]
  match k, hk with
  | 0, _ | 1, _ | 2, _ | 3, _ => simp; omega
theorem stC_ctr {N : B8} (h : N.length = 12) (q : Nat) : stC N (16 * q + 1) = dCtr N (BitVec.ofInt 32 ((2 + q : Nat) : Int)) 4 := by
  refine ext_getD2 (by rw [stC_len h, dCtr_len _ h]) fun i hi => ?_
  rw [dCtr_len _ h] at hi
  rw [stC, if_pos (by omega), ctrSet_get _ (stC_len h _) 4 (Nat.le_refl _), dCtr_get _ h 4 (Nat.le_refl _), show 2 + 16 * q / 16 = 2 + q by omega]
  by_cases h1 : 16 - 4 ≤ i ∧ i < 16
  · rw [if_pos h1, if_pos h1, byte_shift _ _ (by omega)]
  · rw [if_neg h1, if_neg h1, stC_low h _ _ (by omega)]
theorem ctr1_eq {N : B8} (h : N.length = 12) : ctr1 N = dCtr N 1#32 4 := by
  refine ext_getD2 (by rw [dCtr_len _ h]; simp [ctr1, h]) fun i hi => ?_
  rw [dCtr_len _ h] at hi
  rw [dCtr_get _ h 4 (Nat.le_refl _)]
  unfold ctr1 ctr0
  by_cases h1 : i < 12
  · rw [if_neg (by omega), List.getD_eq_getElem?_getD, List.getD_eq_getElem?_getD, List.getElem?_append_left (by omega), List.getElem?_append_left (by omega)]
  · rw [if_pos (by omega), List.getD_eq_getElem?_getD, List.getElem?_append_right (by omega), h]
    have key : ∀ j : Fin 4, ([0, 0, 0, 1] : B8)[j.1]?.getD 0 = (1#32 >>> (8 * (3 - j.1))).setWidth 8 := by decide
    have := key ⟨i - 12, by omega⟩
    rw [show 15 - i = 3 - (i - 12) by omega]
    exact this
/-- The document's turned bytes. -/
def dKs (W : B8) (nr : Nat) (N : B8) (q : Nat) : B8 := rounds (dCtr N (BitVec.ofInt 32 ((2 + q : Nat) : Int)) 4) W nr (nr - 1)
def dTurn (W : B8) (nr : Nat) (N b : B8) (n : Nat) : B8 := (List.range n).map fun k => b.getD k 0 ^^^ (dKs W nr N (k / 16)).getD (k % 16) 0
theorem dTurn_len (W : B8) (nr : Nat) (N b : B8) (n : Nat) : (dTurn W nr N b n).length = n := by simp [dTurn]
theorem dTurn_succ (W : B8) (nr : Nat) (N b : B8) (n : Nat) : dTurn W nr N b (n + 1) = dTurn W nr N b n ++ [b.getD n 0 ^^^ (dKs W nr N (n / 16)).getD (n % 16) 0] := by simp [dTurn, List.range_succ]
theorem dTurn_eq (W : B8) (nr : Nat) {N : B8} (b : B8) (h : N.length = 12) {n : Nat} (hn : b.length = n) : dTurn W nr N b n = stO W nr N b n := by
  subst hn
  have hl := stO_len W nr N b b.length (Nat.le_refl _)
  refine ext_getD2 (by rw [dTurn_len, hl]) fun k hk => ?_
  rw [hl] at hk
  rw [stO_get W nr b h hk, ks, stC_ctr h]
  simp [dTurn, dKs, hk]
/-- The document's tag. -/
def dTag (W : B8) (nr : Nat) (N A C : B8) : B8 := tagX (dHash (rounds zero16 W nr (nr - 1)) A C) (rounds (dCtr N 1#32 4) W nr (nr - 1)) 16
theorem dTag_eq (W : B8) (nr : Nat) {N : B8} (A C : B8) (h : N.length = 12) : dTag W nr N A C = tagB W nr N A C := by
  unfold dTag tagB
  rw [dHash_eq (by rw [rounds_len]; rfl), ctr1_eq h]
end Go.V
end
section
set_option linter.unusedSimpArgs false
set_option linter.unusedVariables false
set_option maxRecDepth 10000
namespace Go.V
open Go Go.Proofs.Try
/-- The document's polynomials as plain calls. -/
def pureM6 : Pure := fun m f l => match f, l with
  | 66, [.one (.s (.sl id off n cap 1))] => match m[id]? with
    | some (.ent e) => match e.c with
      | .a8 B => if n ≤ 16 ∧ off + n ≤ B.length ∧ n ≤ cap then some (.one (.ab (dOf ((B.drop off).take n) (8 * n)))) else none
      | _ => none
    | _ => none
  | 67, [.one (.ab p), .one (.ab q)] => if p.length = 128 ∧ q.length = 128 then some (.one (.ab (dMul p q))) else none
  | 68, [.one (.ab p), .one (.ab q)] => if p.length = 128 ∧ q.length = 128 then some (.one (.ab (dXor p q 128))) else none
  | _, _ => none
theorem pureM6_sub : PureSub pureM6 := by
  intro m m' f l v hs h
  unfold pureM6 at h ⊢
  split at h
  · split at h
    · rename_i hm
      simp only [hs _ _ hm]
      exact h
    · cases h
  · exact h
  · exact h
  · cases h
theorem pureM6_mono : PureMono pureM6 := fun m x f l v h => pureM6_sub m (m ++ x) f l v (fun id e he => get_app he) h
theorem pureM6_ok : PureOK prog pureM6 := by
  intro m f svs sv h E w ℓ vs hm hd
  unfold pureM6 at h
  split at h
  · split at h
    · rename_i id off n cap _ e he
      split at h
      · rename_i B hc
        split at h
        · rename_i hcond
          obtain ⟨h1, h2, h3⟩ := hcond
          cases h
          refine ⟨⟨f66, func66, nofun, by decide⟩, pure_use (spec66 B off n cap h1 h2 h3) (by simp) (by simp [belV, belA]) hm [id] (by simp) (by simp [matchM, ix, renA, belA, he, hc]) rfl ?_⟩
          simpa [renV, renA, renS, ix, one] using hd
        · cases h
      · cases h
    · cases h
  · split at h
    · rename_i hc
      cases h
      exact ⟨⟨f67, func67, nofun, by decide⟩, pure_spec (spec67 _ _ hc.1 hc.2) rfl rfl w ℓ vs hd⟩
    · cases h
  · split at h
    · rename_i hc
      cases h
      exact ⟨⟨f68, func68, nofun, by decide⟩, pure_spec (spec68 _ _ hc.1 hc.2) rfl rfl w ℓ vs hd⟩
    · cases h
  · cases h
theorem dMul_len (p q : BL) : (dMul p q).length = 128 := by rw [dMul, List.length_take, dRed_len, dTi_len]; rfl
theorem dAbs_len (k y : BL) (D : B8) (hk : k.length = 128) (hy : y.length = 128) : ∀ j, (dAbs k y D j).length = 128
  | 0 => hy
  | j + 1 => dMul_len _ _
def hyD (k : BL) (DA DC : B8) : Nat → BL
  | 0 => dZero
  | 1 => dAll k dZero DA
  | _ => dAll k (dAll k dZero DA) DC
theorem hyD_len {k : BL} (hk : k.length = 128) (DA DC : B8) : ∀ i, (hyD k DA DC i).length = 128
  | 0 => by simp [hyD, dZero]
  | 1 => dAbs_len _ _ _ hk (by simp [dZero]) _
  | _ + 2 => dAbs_len _ _ _ hk (dAbs_len _ _ _ hk (by simp [dZero]) _) _
theorem spec27 (h D C : B8) (oa na ca oc nc cc : Nat) (hh : h.length = 16) (hA : oa + na ≤ D.length) (hC : oc + nc ≤ C.length) (hca : na ≤ ca) (hcc : nc ≤ cc) (hmA : na ≤ 4611686018427387904) (hmC : nc ≤ 4611686018427387904) :
    Spec prog 27 [.one (.a8 h), one (.sl 1 oa na ca 1), one (.sl 0 oc nc cc 1)] [.ent ⟨false, 5, none, .a8 C⟩, .ent ⟨false, 5, none, .a8 D⟩] [] (fun r _ => r = .one (.a8 (dHash h ((D.drop oa).take na) ((C.drop oc).take nc)))) := by
  refine spec_of_body tabOK func27 rfl (Nat.le_of_ble_eq_true rfl) ?_; intro E Q0 hB; refine ok_run hB tabOK pureM6_ok 100 ?_; simp only [argSl]
  have hpd : h.take 16 = h := List.take_of_length_le (by omega)
  have hKl : (dOf h 128).length = 128 := dOf_len _ _
  repeat (first
    | rw [run_ops0]
    | rw [run_seq]
    | rw [run_region]
    | rw [run_block]
    | rw [run_blk]
    | rw [run_skip]
    | apply run_exit2 rfl
    | apply run_cyes rfl
    | apply run_cno rfl
    | (rw [run_zero]; refine ok_run hB tabOK pureM6_ok 100 ?_)
    | (apply run_go rfl; focus (intro L K hK; simp [-List.reduceReplicate, -List.getD_eq_getElem?_getD, hh, hpd, pureM6]; (repeat' apply And.intro); all_goals first | exact hK | omega))
    | (apply run_gyes rfl rfl rfl rfl; focus (intro L K hK; simp [-List.reduceReplicate, -List.getD_eq_getElem?_getD, hh, hpd, pureM6]; (repeat' apply And.intro); all_goals first | exact hK | omega))
    | (apply run_gno rfl rfl rfl rfl rfl (Nat.le_of_ble_eq_true rfl); simp only [St.put])
    | (apply run_gtup rfl rfl rfl rfl (Nat.le_of_ble_eq_true rfl); simp only [St.put]))
  have hfin : dHash h ((D.drop oa).take na) ((C.drop oc).take nc) = dOut (dMul (dXor (hyD (dOf h 128) ((D.drop oa).take na) ((C.drop oc).take nc) 2) (dOf (dLen na nc) 128) 128) (dOf h 128)) 128 := by
    unfold dHash
    rw [show ((D.drop oa).take na).length = na by simp; omega, show ((C.drop oc).take nc).length = nc by simp; omega]
    rfl
  generalize hK : dOf h 128 = K at hKl hfin ⊢
  rw [run_loop]; refine ok_loop (X := Nat) (fun i => ⟨[(10, one (.i i)), (9, one (.ptr 6 0 0)), (8, one (.ptr 5 0 0)), (7, one (.ptr 4 0 0)), (6, one (.ptr 3 0 0)), (1, one (.sl 1 oa na ca 1)), (2, one (.sl 0 oc nc cc 1))], [.ent ⟨false, 5, none, .a8 C⟩, .ent ⟨false, 5, none, .a8 D⟩, .ent ⟨true, 23, some 16, .a8 h⟩, .ent ⟨true, 23, some 16, .a8 zero16⟩, .ent ⟨true, 120, some 128, .ab (hyD K ((D.drop oa).take na) ((C.drop oc).take nc) i)⟩, .ent ⟨true, 120, some 128, .ab K⟩, .ent ⟨true, 122, some 2, .agg [.sl 1 oa na ca 1, .sl 0 oc nc cc 1]⟩]⟩) (fun i => i ≤ 2) (fun i => 2 - i) (fun j i L h => by have := hB.anc i L h; first | (simp at this; done) | (simp at this ⊢; omega)) ⟨0, by omega, by simp [-List.reduceReplicate, -List.getD_eq_getElem?_getD, hyD, zero16, dZero]⟩ ?_; intro i hi; refine ok_run hB tabOK pureM6_ok 100 ?_
  have hi2 : i = 0 ∨ i = 1 ∨ i = 2 := by omega
  rcases hi2 with rfl | rfl | rfl
  · -- the first
    repeat (first
    | rw [run_ops0]
    | rw [run_seq]
    | rw [run_region]
    | rw [run_block]
    | rw [run_blk]
    | rw [run_skip]
    | apply run_exit2 rfl
    | apply run_cyes rfl
    | apply run_cno rfl
    | (rw [run_zero]; refine ok_run hB tabOK pureM6_ok 100 ?_)
    | (apply run_go rfl; focus (intro L K hK; simp [-List.reduceReplicate, -List.getD_eq_getElem?_getD, List.getD_cons_zero, List.getD_cons_succ]; (repeat' apply And.intro); all_goals first | exact hK | omega))
    | (apply run_gyes rfl rfl rfl rfl; focus (intro L K hK; simp [-List.reduceReplicate, -List.getD_eq_getElem?_getD, List.getD_cons_zero, List.getD_cons_succ]; (repeat' apply And.intro); all_goals first | exact hK | omega))
    | (apply run_gno rfl rfl rfl rfl rfl (Nat.le_of_ble_eq_true rfl); simp only [St.put])
    | (apply run_gtup rfl rfl rfl rfl (Nat.le_of_ble_eq_true rfl); simp only [St.put]))
    rw [run_loop]; refine ok_loop (X := Nat) (fun j => ⟨[(11, one (.i (16 * j : Nat))), (10, one (.i 0)), (9, one (.ptr 6 0 0)), (8, one (.ptr 5 0 0)), (7, one (.ptr 4 0 0)), (6, one (.ptr 3 0 0)), (1, one (.sl 1 oa na ca 1)), (2, one (.sl 0 oc nc cc 1))], [.ent ⟨false, 5, none, .a8 C⟩, .ent ⟨false, 5, none, .a8 D⟩, .ent ⟨true, 23, some 16, .a8 h⟩, .ent ⟨true, 23, some 16, .a8 zero16⟩, .ent ⟨true, 120, some 128, .ab (dAbs K (hyD K ((D.drop oa).take na) ((C.drop oc).take nc) 0) ((D.drop oa).take na) j)⟩, .ent ⟨true, 120, some 128, .ab K⟩, .ent ⟨true, 122, some 2, .agg [.sl 1 oa na ca 1, .sl 0 oc nc cc 1]⟩]⟩) (fun j => j ≤ (na + 15) / 16) (fun j => (na + 15) / 16 - j) (fun j i L h => by have := hB.anc i L h; first | (simp at this; done) | (simp at this ⊢; omega)) ⟨0, by omega, by simp [-List.reduceReplicate, -List.getD_eq_getElem?_getD, dAbs, zero16, List.getD_cons_zero, List.getD_cons_succ]⟩ ?_; intro j hj; refine ok_run hB tabOK pureM6_ok 100 ?_
    by_cases h2 : 16 * j < na
    · have hI2 : 16 * (j : Int) < (na : Int) := by omega
      have e0 : (16 * (j : Int)).toNat = 16 * j := by omega
      obtain ⟨L, hL⟩ : ∃ L, L = min (16 * j + 16) na - 16 * j := ⟨_, rfl⟩
      have e1 : (if (na : Int) < 16 * (j : Int) + 16 then (na : Int) else 16 * (j : Int) + 16) = 16 * (j : Int) + (L : Int) := by split <;> omega
      have e2 : 16 * (j : Int) + (L : Int) - 16 * (j : Int) = (L : Int) := by omega
      have e3 : ((ca : Int) - 16 * (j : Int)).toNat = ca - 16 * j := by omega
      have c1 : L ≤ 16 := by omega
      have c2 : oa + 16 * j + L ≤ D.length := by omega
      have c3 : L ≤ ca - 16 * j := by omega
      have hbq := blk_eq D oa na j hA h2
      rw [← hL] at hbq
      have hLl : (((((D.drop oa).take na)).drop (16 * j)).take 16).length = L := by rw [← hbq]; simp; omega
      have hy1 := dAbs_len K (hyD K ((D.drop oa).take na) ((C.drop oc).take nc) 0) ((D.drop oa).take na) hKl (hyD_len hKl _ _ _) j
      have hy2 := dXor_len (dAbs K (hyD K ((D.drop oa).take na) ((C.drop oc).take nc) 0) ((D.drop oa).take na) j) (dOf (((((D.drop oa).take na)).drop (16 * j)).take 16) (8 * L)) 128
      rw [hy1] at hy2
      have hy3 := dOf_len (((((D.drop oa).take na)).drop (16 * j)).take 16) (8 * L)
      have hY : dAbs K (hyD K ((D.drop oa).take na) ((C.drop oc).take nc) 0) ((D.drop oa).take na) (j + 1) = dMul (dXor (dAbs K (hyD K ((D.drop oa).take na) ((C.drop oc).take nc) 0) ((D.drop oa).take na) j) (dOf (((((D.drop oa).take na)).drop (16 * j)).take 16) (8 * L)) 128) K := by rw [← hLl]; rfl
      generalize dAbs K (hyD K ((D.drop oa).take na) ((C.drop oc).take nc) 0) ((D.drop oa).take na) j = Y at hy1 hy2 hY ⊢
      repeat (first
    | rw [run_ops0]
    | rw [run_seq]
    | rw [run_region]
    | rw [run_block]
    | rw [run_blk]
    | rw [run_skip]
    | apply run_exit2 rfl
    | apply run_cyes rfl
    | apply run_cno rfl
    | (rw [run_zero]; refine ok_run hB tabOK pureM6_ok 100 ?_)
    | (apply run_go rfl; focus (intro L K hK; simp [-List.reduceReplicate, -List.getD_eq_getElem?_getD, hI2, List.getD_cons_zero, List.getD_cons_succ]; (repeat' apply And.intro); all_goals first | exact hK | omega))
    | (apply run_gyes rfl rfl rfl rfl; focus (intro L K hK; simp [-List.reduceReplicate, -List.getD_eq_getElem?_getD, hI2, List.getD_cons_zero, List.getD_cons_succ]; (repeat' apply And.intro); all_goals first | exact hK | omega))
    | (apply run_gno rfl rfl rfl rfl rfl (Nat.le_of_ble_eq_true rfl); simp only [St.put])
    | (apply run_gtup rfl rfl rfl rfl (Nat.le_of_ble_eq_true rfl); simp only [St.put]))
      rw [run_draw]; refine ok_draw2 17 tabOK pureM6_ok pureM6_mono mixed (by decide +kernel) rfl rfl ?_; (repeat (first
    | (apply hd_go rfl rfl rfl rfl (Nat.le_of_ble_eq_true rfl); focus (intro K' hK; simp [-List.reduceReplicate, -List.getD_eq_getElem?_getD, e0, e1, e2, e3, c1, c2, c3, hbq, hy1, hy2, hy3, hKl, dMul_len, pureM6, List.getD_cons_zero, List.getD_cons_succ]; (repeat' apply And.intro); all_goals first | exact hK | omega))
    | (apply hd_new rfl rfl rfl rfl (Nat.le_of_ble_eq_true rfl); focus (intro K' hK; simp [-List.reduceReplicate, -List.getD_eq_getElem?_getD, e0, e1, e2, e3, c1, c2, c3, hbq, hy1, hy2, hy3, hKl, dMul_len, pureM6, List.getD_cons_zero, List.getD_cons_succ]; (repeat' apply And.intro); all_goals first | exact hK | omega)))); refine hd_nil ?_; simp only [List.map_nil, List.map_cons, List.append_nil]; refine ok_run hB tabOK pureM6_ok 100 ?_; (repeat (first
    | rw [run_ops0]
    | rw [run_seq]
    | rw [run_region]
    | rw [run_block]
    | rw [run_blk]
    | rw [run_skip]
    | (apply run_go rfl; focus (intro L K hK; simp [-List.reduceReplicate, -List.getD_eq_getElem?_getD, e0, e1, e2, e3, c1, c2, c3, hbq, hy1, hy2, hy3, hKl, dMul_len, pureM6, List.getD_cons_zero, List.getD_cons_succ]; (repeat' apply And.intro); all_goals first | exact hK | omega))))
      rw [run_back]
      refine ⟨j + 1, by omega, by omega, ?_⟩
      rw [hY]
      simp [-List.reduceReplicate, -List.getD_eq_getElem?_getD, zero16, List.getD_cons_zero, List.getD_cons_succ]
      omega
    · have hI2 : ¬ 16 * (j : Int) < (na : Int) := by omega
      obtain rfl : j = (na + 15) / 16 := by omega
      have hab : dAbs K (hyD K ((D.drop oa).take na) ((C.drop oc).take nc) 0) ((D.drop oa).take na) ((na + 15) / 16) = hyD K ((D.drop oa).take na) ((C.drop oc).take nc) 1 := by
        show _ = dAll _ _ _
        unfold dAll
        rw [show (((D.drop oa).take na)).length = na by simp; omega]
        rfl
      rw [hab]
      have hI3 : ¬ ((16 * ((na + 15) / 16) : Nat) : Int) < (na : Int) := by omega
      generalize (16 * ((na + 15) / 16) : Nat) = X at hI3 ⊢
      repeat (first
    | rw [run_ops0]
    | rw [run_seq]
    | rw [run_region]
    | rw [run_block]
    | rw [run_blk]
    | rw [run_skip]
    | apply run_exit2 rfl
    | apply run_cyes rfl
    | apply run_cno rfl
    | (rw [run_zero]; refine ok_run hB tabOK pureM6_ok 100 ?_)
    | (apply run_go rfl; focus (intro L K hK; simp [-List.reduceReplicate, -List.getD_eq_getElem?_getD, hI3, List.getD_cons_zero, List.getD_cons_succ]; (repeat' apply And.intro); all_goals first | exact hK | omega))
    | (apply run_gyes rfl rfl rfl rfl; focus (intro L K hK; simp [-List.reduceReplicate, -List.getD_eq_getElem?_getD, hI3, List.getD_cons_zero, List.getD_cons_succ]; (repeat' apply And.intro); all_goals first | exact hK | omega))
    | (apply run_gno rfl rfl rfl rfl rfl (Nat.le_of_ble_eq_true rfl); simp only [St.put])
    | (apply run_gtup rfl rfl rfl rfl (Nat.le_of_ble_eq_true rfl); simp only [St.put]))
      rw [run_back]
      refine ⟨1, by omega, by omega, ?_⟩
      simp [-List.reduceReplicate, -List.getD_eq_getElem?_getD]
  · -- the second
    repeat (first
    | rw [run_ops0]
    | rw [run_seq]
    | rw [run_region]
    | rw [run_block]
    | rw [run_blk]
    | rw [run_skip]
    | apply run_exit2 rfl
    | apply run_cyes rfl
    | apply run_cno rfl
    | (rw [run_zero]; refine ok_run hB tabOK pureM6_ok 100 ?_)
    | (apply run_go rfl; focus (intro L K hK; simp [-List.reduceReplicate, -List.getD_eq_getElem?_getD, List.getD_cons_zero, List.getD_cons_succ]; (repeat' apply And.intro); all_goals first | exact hK | omega))
    | (apply run_gyes rfl rfl rfl rfl; focus (intro L K hK; simp [-List.reduceReplicate, -List.getD_eq_getElem?_getD, List.getD_cons_zero, List.getD_cons_succ]; (repeat' apply And.intro); all_goals first | exact hK | omega))
    | (apply run_gno rfl rfl rfl rfl rfl (Nat.le_of_ble_eq_true rfl); simp only [St.put])
    | (apply run_gtup rfl rfl rfl rfl (Nat.le_of_ble_eq_true rfl); simp only [St.put]))
    rw [run_loop]; refine ok_loop (X := Nat) (fun j => ⟨[(11, one (.i (16 * j : Nat))), (10, one (.i 1)), (9, one (.ptr 6 0 0)), (8, one (.ptr 5 0 0)), (7, one (.ptr 4 0 0)), (6, one (.ptr 3 0 0)), (1, one (.sl 1 oa na ca 1)), (2, one (.sl 0 oc nc cc 1))], [.ent ⟨false, 5, none, .a8 C⟩, .ent ⟨false, 5, none, .a8 D⟩, .ent ⟨true, 23, some 16, .a8 h⟩, .ent ⟨true, 23, some 16, .a8 zero16⟩, .ent ⟨true, 120, some 128, .ab (dAbs K (hyD K ((D.drop oa).take na) ((C.drop oc).take nc) 1) ((C.drop oc).take nc) j)⟩, .ent ⟨true, 120, some 128, .ab K⟩, .ent ⟨true, 122, some 2, .agg [.sl 1 oa na ca 1, .sl 0 oc nc cc 1]⟩]⟩) (fun j => j ≤ (nc + 15) / 16) (fun j => (nc + 15) / 16 - j) (fun j i L h => by have := hB.anc i L h; first | (simp at this; done) | (simp at this ⊢; omega)) ⟨0, by omega, by simp [-List.reduceReplicate, -List.getD_eq_getElem?_getD, dAbs, zero16, List.getD_cons_zero, List.getD_cons_succ]⟩ ?_; intro j hj; refine ok_run hB tabOK pureM6_ok 100 ?_
    by_cases h2 : 16 * j < nc
    · have hI2 : 16 * (j : Int) < (nc : Int) := by omega
      have e0 : (16 * (j : Int)).toNat = 16 * j := by omega
      obtain ⟨L, hL⟩ : ∃ L, L = min (16 * j + 16) nc - 16 * j := ⟨_, rfl⟩
      have e1 : (if (nc : Int) < 16 * (j : Int) + 16 then (nc : Int) else 16 * (j : Int) + 16) = 16 * (j : Int) + (L : Int) := by split <;> omega
      have e2 : 16 * (j : Int) + (L : Int) - 16 * (j : Int) = (L : Int) := by omega
      have e3 : ((cc : Int) - 16 * (j : Int)).toNat = cc - 16 * j := by omega
      have c1 : L ≤ 16 := by omega
      have c2 : oc + 16 * j + L ≤ C.length := by omega
      have c3 : L ≤ cc - 16 * j := by omega
      have hbq := blk_eq C oc nc j hC h2
      rw [← hL] at hbq
      have hLl : (((((C.drop oc).take nc)).drop (16 * j)).take 16).length = L := by rw [← hbq]; simp; omega
      have hy1 := dAbs_len K (hyD K ((D.drop oa).take na) ((C.drop oc).take nc) 1) ((C.drop oc).take nc) hKl (hyD_len hKl _ _ _) j
      have hy2 := dXor_len (dAbs K (hyD K ((D.drop oa).take na) ((C.drop oc).take nc) 1) ((C.drop oc).take nc) j) (dOf (((((C.drop oc).take nc)).drop (16 * j)).take 16) (8 * L)) 128
      rw [hy1] at hy2
      have hy3 := dOf_len (((((C.drop oc).take nc)).drop (16 * j)).take 16) (8 * L)
      have hY : dAbs K (hyD K ((D.drop oa).take na) ((C.drop oc).take nc) 1) ((C.drop oc).take nc) (j + 1) = dMul (dXor (dAbs K (hyD K ((D.drop oa).take na) ((C.drop oc).take nc) 1) ((C.drop oc).take nc) j) (dOf (((((C.drop oc).take nc)).drop (16 * j)).take 16) (8 * L)) 128) K := by rw [← hLl]; rfl
      generalize dAbs K (hyD K ((D.drop oa).take na) ((C.drop oc).take nc) 1) ((C.drop oc).take nc) j = Y at hy1 hy2 hY ⊢
      repeat (first
    | rw [run_ops0]
    | rw [run_seq]
    | rw [run_region]
    | rw [run_block]
    | rw [run_blk]
    | rw [run_skip]
    | apply run_exit2 rfl
    | apply run_cyes rfl
    | apply run_cno rfl
    | (rw [run_zero]; refine ok_run hB tabOK pureM6_ok 100 ?_)
    | (apply run_go rfl; focus (intro L K hK; simp [-List.reduceReplicate, -List.getD_eq_getElem?_getD, hI2, List.getD_cons_zero, List.getD_cons_succ]; (repeat' apply And.intro); all_goals first | exact hK | omega))
    | (apply run_gyes rfl rfl rfl rfl; focus (intro L K hK; simp [-List.reduceReplicate, -List.getD_eq_getElem?_getD, hI2, List.getD_cons_zero, List.getD_cons_succ]; (repeat' apply And.intro); all_goals first | exact hK | omega))
    | (apply run_gno rfl rfl rfl rfl rfl (Nat.le_of_ble_eq_true rfl); simp only [St.put])
    | (apply run_gtup rfl rfl rfl rfl (Nat.le_of_ble_eq_true rfl); simp only [St.put]))
      rw [run_draw]; refine ok_draw2 17 tabOK pureM6_ok pureM6_mono mixed (by decide +kernel) rfl rfl ?_; (repeat (first
    | (apply hd_go rfl rfl rfl rfl (Nat.le_of_ble_eq_true rfl); focus (intro K' hK; simp [-List.reduceReplicate, -List.getD_eq_getElem?_getD, e0, e1, e2, e3, c1, c2, c3, hbq, hy1, hy2, hy3, hKl, dMul_len, pureM6, List.getD_cons_zero, List.getD_cons_succ]; (repeat' apply And.intro); all_goals first | exact hK | omega))
    | (apply hd_new rfl rfl rfl rfl (Nat.le_of_ble_eq_true rfl); focus (intro K' hK; simp [-List.reduceReplicate, -List.getD_eq_getElem?_getD, e0, e1, e2, e3, c1, c2, c3, hbq, hy1, hy2, hy3, hKl, dMul_len, pureM6, List.getD_cons_zero, List.getD_cons_succ]; (repeat' apply And.intro); all_goals first | exact hK | omega)))); refine hd_nil ?_; simp only [List.map_nil, List.map_cons, List.append_nil]; refine ok_run hB tabOK pureM6_ok 100 ?_; (repeat (first
    | rw [run_ops0]
    | rw [run_seq]
    | rw [run_region]
    | rw [run_block]
    | rw [run_blk]
    | rw [run_skip]
    | (apply run_go rfl; focus (intro L K hK; simp [-List.reduceReplicate, -List.getD_eq_getElem?_getD, e0, e1, e2, e3, c1, c2, c3, hbq, hy1, hy2, hy3, hKl, dMul_len, pureM6, List.getD_cons_zero, List.getD_cons_succ]; (repeat' apply And.intro); all_goals first | exact hK | omega))))
      rw [run_back]
      refine ⟨j + 1, by omega, by omega, ?_⟩
      rw [hY]
      simp [-List.reduceReplicate, -List.getD_eq_getElem?_getD, zero16, List.getD_cons_zero, List.getD_cons_succ]
      omega
    · have hI2 : ¬ 16 * (j : Int) < (nc : Int) := by omega
      obtain rfl : j = (nc + 15) / 16 := by omega
      have hab : dAbs K (hyD K ((D.drop oa).take na) ((C.drop oc).take nc) 1) ((C.drop oc).take nc) ((nc + 15) / 16) = hyD K ((D.drop oa).take na) ((C.drop oc).take nc) 2 := by
        show _ = dAll _ _ _
        unfold dAll
        rw [show (((C.drop oc).take nc)).length = nc by simp; omega]
        rfl
      rw [hab]
      have hI3 : ¬ ((16 * ((nc + 15) / 16) : Nat) : Int) < (nc : Int) := by omega
      generalize (16 * ((nc + 15) / 16) : Nat) = X at hI3 ⊢
      repeat (first
    | rw [run_ops0]
    | rw [run_seq]
    | rw [run_region]
    | rw [run_block]
    | rw [run_blk]
    | rw [run_skip]
    | apply run_exit2 rfl
    | apply run_cyes rfl
    | apply run_cno rfl
    | (rw [run_zero]; refine ok_run hB tabOK pureM6_ok 100 ?_)
    | (apply run_go rfl; focus (intro L K hK; simp [-List.reduceReplicate, -List.getD_eq_getElem?_getD, hI3, List.getD_cons_zero, List.getD_cons_succ]; (repeat' apply And.intro); all_goals first | exact hK | omega))
    | (apply run_gyes rfl rfl rfl rfl; focus (intro L K hK; simp [-List.reduceReplicate, -List.getD_eq_getElem?_getD, hI3, List.getD_cons_zero, List.getD_cons_succ]; (repeat' apply And.intro); all_goals first | exact hK | omega))
    | (apply run_gno rfl rfl rfl rfl rfl (Nat.le_of_ble_eq_true rfl); simp only [St.put])
    | (apply run_gtup rfl rfl rfl rfl (Nat.le_of_ble_eq_true rfl); simp only [St.put]))
      rw [run_back]
      refine ⟨2, by omega, by omega, ?_⟩
      simp [-List.reduceReplicate, -List.getD_eq_getElem?_getD]
  · have hy1 := hyD_len hKl ((D.drop oa).take na) ((C.drop oc).take nc) 2
    generalize hyD K ((D.drop oa).take na) ((C.drop oc).take nc) 2 = Y at hy1 hfin ⊢
    repeat (first
    | rw [run_ops0]
    | rw [run_seq]
    | rw [run_region]
    | rw [run_block]
    | rw [run_blk]
    | rw [run_skip]
    | apply run_exit2 rfl
    | apply run_cyes rfl
    | apply run_cno rfl
    | (rw [run_zero]; refine ok_run hB tabOK pureM6_ok 100 ?_)
    | (apply run_go rfl; focus (intro L K hK; simp [-List.reduceReplicate, -List.getD_eq_getElem?_getD]; (repeat' apply And.intro); all_goals first | exact hK | omega))
    | (apply run_gyes rfl rfl rfl rfl; focus (intro L K hK; simp [-List.reduceReplicate, -List.getD_eq_getElem?_getD]; (repeat' apply And.intro); all_goals first | exact hK | omega))
    | (apply run_gno rfl rfl rfl rfl rfl (Nat.le_of_ble_eq_true rfl); simp only [St.put])
    | (apply run_gtup rfl rfl rfl rfl (Nat.le_of_ble_eq_true rfl); simp only [St.put]))
    have hlen : dLen na nc = outG (BitVec.ofInt 64 na * 8#64, BitVec.ofInt 64 nc * 8#64) 8 := rfl
    generalize hV : (BitVec.ofInt 64 na * 8#64, BitVec.ofInt 64 nc * 8#64) = V at hlen ⊢
    have hV1 : BitVec.ofNat 64 na * 8#64 = V.1 := by rw [← hV]; simp
    have hV2 : BitVec.ofNat 64 nc * 8#64 = V.2 := by rw [← hV]; simp
    rw [run_loop]; refine ok_loop (X := Nat) (fun j => ⟨[(13, one (.i j)), (12, one (.ptr 7 0 0)), (8, one (.ptr 5 0 0)), (7, one (.ptr 4 0 0)), (6, one (.ptr 3 0 0)), (1, one (.sl 1 oa na ca 1)), (2, one (.sl 0 oc nc cc 1))], [.ent ⟨false, 5, none, .a8 C⟩, .ent ⟨false, 5, none, .a8 D⟩, .ent ⟨true, 23, some 16, .a8 h⟩, .ent ⟨true, 23, some 16, .a8 zero16⟩, .ent ⟨true, 120, some 128, .ab Y⟩, .ent ⟨true, 120, some 128, .ab K⟩, .ent ⟨true, 122, some 2, .agg [.sl 1 oa na ca 1, .sl 0 oc nc cc 1]⟩, .ent ⟨true, 23, some 16, .a8 (outG V j)⟩]⟩) (fun j => j ≤ 8) (fun j => 8 - j) (fun j i L h => by have := hB.anc i L h; first | (simp at this; done) | (simp at this ⊢; omega)) ⟨0, by omega, by simp [-List.reduceReplicate, -List.getD_eq_getElem?_getD, outG, zero16]⟩ ?_; intro j hj; refine ok_run hB tabOK pureM6_ok 100 ?_
    have hol := outG_len V j
    have hO : outG V (j + 1) = ((outG V j).set (7 - j) ((V.1 >>> (8 * j)).setWidth 8)).set (15 - j) ((V.2 >>> (8 * j)).setWidth 8) := rfl
    generalize hO2 : outG V j = O at hol hO ⊢
    by_cases h2 : j < 8
    · have hI : (j : Int) < 8 := by omega
      have e1 : (7 - (j : Int)).toNat = 7 - j := by omega
      have e2 : (15 - (j : Int)).toNat = 15 - j := by omega
      have e3 : (8 * (j : Int)).toNat = 8 * j := by omega
      repeat (first
    | rw [run_ops0]
    | rw [run_seq]
    | rw [run_region]
    | rw [run_block]
    | rw [run_blk]
    | rw [run_skip]
    | apply run_exit2 rfl
    | apply run_cyes rfl
    | apply run_cno rfl
    | (rw [run_zero]; refine ok_run hB tabOK pureM6_ok 100 ?_)
    | (apply run_go rfl; focus (intro L K hK; simp [-List.reduceReplicate, -List.getD_eq_getElem?_getD, hI, e1, e2, e3, hol, hV1, hV2]; (repeat' apply And.intro); all_goals first | exact hK | omega))
    | (apply run_gyes rfl rfl rfl rfl; focus (intro L K hK; simp [-List.reduceReplicate, -List.getD_eq_getElem?_getD, hI, e1, e2, e3, hol, hV1, hV2]; (repeat' apply And.intro); all_goals first | exact hK | omega))
    | (apply run_gno rfl rfl rfl rfl rfl (Nat.le_of_ble_eq_true rfl); simp only [St.put])
    | (apply run_gtup rfl rfl rfl rfl (Nat.le_of_ble_eq_true rfl); simp only [St.put]))
      rw [run_back]
      refine ⟨j + 1, by omega, by omega, ?_⟩
      rw [hO]
      simp [-List.reduceReplicate, -List.getD_eq_getElem?_getD]
    · obtain rfl : j = 8 := by omega
      repeat (first
    | rw [run_ops0]
    | rw [run_seq]
    | rw [run_region]
    | rw [run_block]
    | rw [run_blk]
    | rw [run_skip]
    | apply run_exit2 rfl
    | apply run_cyes rfl
    | apply run_cno rfl
    | (rw [run_zero]; refine ok_run hB tabOK pureM6_ok 100 ?_)
    | (apply run_go rfl; focus (intro L K hK; simp [-List.reduceReplicate, -List.getD_eq_getElem?_getD]; (repeat' apply And.intro); all_goals first | exact hK | omega))
    | (apply run_gyes rfl rfl rfl rfl; focus (intro L K hK; simp [-List.reduceReplicate, -List.getD_eq_getElem?_getD]; (repeat' apply And.intro); all_goals first | exact hK | omega))
    | (apply run_gno rfl rfl rfl rfl rfl (Nat.le_of_ble_eq_true rfl); simp only [St.put])
    | (apply run_gtup rfl rfl rfl rfl (Nat.le_of_ble_eq_true rfl); simp only [St.put]))
      rw [hO2] at hlen
      have htk : O.take 16 = O := List.take_of_length_le (by omega)
      have hx1 := dOf_len O 128
      have hx2 := dXor_len Y (dOf O 128) 128
      rw [hy1] at hx2
      rw [hlen] at hfin
      rw [run_draw]; refine ok_draw2 6 tabOK pureM6_ok pureM6_mono mixed (by decide +kernel) rfl rfl ?_; (repeat (first
    | (apply hd_go rfl rfl rfl rfl (Nat.le_of_ble_eq_true rfl); focus (intro K' hK; simp [-List.reduceReplicate, -List.getD_eq_getElem?_getD, hol, htk, hy1, hKl, hx1, hx2, dMul_len, pureM6]; (repeat' apply And.intro); all_goals first | exact hK | omega))
    | (apply hd_new rfl rfl rfl rfl (Nat.le_of_ble_eq_true rfl); focus (intro K' hK; simp [-List.reduceReplicate, -List.getD_eq_getElem?_getD, hol, htk, hy1, hKl, hx1, hx2, dMul_len, pureM6]; (repeat' apply And.intro); all_goals first | exact hK | omega)))); refine hd_nil ?_; simp only [List.map_nil, List.map_cons, List.append_nil]; refine ok_run hB tabOK pureM6_ok 100 ?_; (repeat (first
    | rw [run_ops0]
    | rw [run_seq]
    | rw [run_region]
    | rw [run_block]
    | rw [run_blk]
    | rw [run_skip]
    | (apply run_go rfl; focus (intro L K hK; simp [-List.reduceReplicate, -List.getD_eq_getElem?_getD, hol, htk, hy1, hKl, hx1, hx2, dMul_len, pureM6]; (repeat' apply And.intro); all_goals first | exact hK | omega))))
      have hz1 := dMul_len (dXor Y (dOf O 128) 128) K
      generalize dMul (dXor Y (dOf O 128) 128) K = Z at hz1 hfin ⊢
      rw [run_loop]; refine ok_loop (X := Nat) (fun i => ⟨[(15, one (.i i)), (14, one (.ptr 8 0 0)), (7, one (.ptr 4 0 0)), (6, one (.ptr 3 0 0))], [.ent ⟨false, 5, none, .a8 C⟩, .ent ⟨false, 5, none, .a8 D⟩, .ent ⟨true, 23, some 16, .a8 h⟩, .ent ⟨true, 23, some 16, .a8 zero16⟩, .ent ⟨true, 120, some 128, .ab Z⟩, .ent ⟨true, 120, some 128, .ab K⟩, .ent ⟨true, 122, some 2, .agg [.sl 1 oa na ca 1, .sl 0 oc nc cc 1]⟩, .ent ⟨true, 23, some 16, .a8 O⟩, .ent ⟨true, 23, some 16, .a8 (dOut Z i)⟩]⟩) (fun i => i ≤ 128) (fun i => 128 - i) (fun j i L h => by have := hB.anc i L h; first | (simp at this; done) | (simp at this ⊢; omega)) ⟨0, by omega, by simp [-List.reduceReplicate, -List.getD_eq_getElem?_getD, dOut, zero16]⟩ ?_; intro i hi; refine ok_run hB tabOK pureM6_ok 100 ?_
      have hdl := dOut_len Z i
      have hD : dOut Z (i + 1) = if Z.getD i false then (dOut Z i).set (i / 8) ((dOut Z i).getD (i / 8) 0 + (1#8 <<< (7 - i % 8))) else dOut Z i := rfl
      generalize hO3 : dOut Z i = U at hdl hD ⊢
      by_cases h3 : i < 128
      · have hI : (i : Int) < 128 := by omega
        have e4 : ((i : Int) / 8).toNat = i / 8 := by omega
        have e5 : (7 - (i : Int) % 8).toNat = 7 - i % 8 := by omega
        cases hz : Z.getD i false
        · repeat (first
    | rw [run_ops0]
    | rw [run_seq]
    | rw [run_region]
    | rw [run_block]
    | rw [run_blk]
    | rw [run_skip]
    | apply run_exit2 rfl
    | apply run_cyes rfl
    | apply run_cno rfl
    | (rw [run_zero]; refine ok_run hB tabOK pureM6_ok 100 ?_)
    | (apply run_go rfl; focus (intro L K hK; simp [-List.reduceReplicate, -List.getD_eq_getElem?_getD, hI, hz, hz1]; (repeat' apply And.intro); all_goals first | exact hK | omega))
    | (apply run_gyes rfl rfl rfl rfl; focus (intro L K hK; simp [-List.reduceReplicate, -List.getD_eq_getElem?_getD, hI, hz, hz1]; (repeat' apply And.intro); all_goals first | exact hK | omega))
    | (apply run_gno rfl rfl rfl rfl rfl (Nat.le_of_ble_eq_true rfl); simp only [St.put])
    | (apply run_gtup rfl rfl rfl rfl (Nat.le_of_ble_eq_true rfl); simp only [St.put]))
          rw [run_back]
          refine ⟨i + 1, by omega, by omega, ?_⟩
          rw [hD, hz]
          simp [-List.reduceReplicate, -List.getD_eq_getElem?_getD]
        · repeat (first
    | rw [run_ops0]
    | rw [run_seq]
    | rw [run_region]
    | rw [run_block]
    | rw [run_blk]
    | rw [run_skip]
    | apply run_exit2 rfl
    | apply run_cyes rfl
    | apply run_cno rfl
    | (rw [run_zero]; refine ok_run hB tabOK pureM6_ok 100 ?_)
    | (apply run_go rfl; focus (intro L K hK; simp [-List.reduceReplicate, -List.getD_eq_getElem?_getD, hI, hz, hz1]; (repeat' apply And.intro); all_goals first | exact hK | omega))
    | (apply run_gyes rfl rfl rfl rfl; focus (intro L K hK; simp [-List.reduceReplicate, -List.getD_eq_getElem?_getD, hI, hz, hz1]; (repeat' apply And.intro); all_goals first | exact hK | omega))
    | (apply run_gno rfl rfl rfl rfl rfl (Nat.le_of_ble_eq_true rfl); simp only [St.put])
    | (apply run_gtup rfl rfl rfl rfl (Nat.le_of_ble_eq_true rfl); simp only [St.put]))
          rw [run_draw]; refine ok_draw2 10 tabOK pureM6_ok pureM6_mono mixed (by decide +kernel) rfl rfl ?_; (repeat (first
    | (apply hd_go rfl rfl rfl rfl (Nat.le_of_ble_eq_true rfl); focus (intro K' hK; simp [-List.reduceReplicate, -List.getD_eq_getElem?_getD, tdiv8, tmod8, e4, e5, hdl]; (repeat' apply And.intro); all_goals first | exact hK | omega))
    | (apply hd_new rfl rfl rfl rfl (Nat.le_of_ble_eq_true rfl); focus (intro K' hK; simp [-List.reduceReplicate, -List.getD_eq_getElem?_getD, tdiv8, tmod8, e4, e5, hdl]; (repeat' apply And.intro); all_goals first | exact hK | omega)))); refine hd_nil ?_; simp only [List.map_nil, List.map_cons, List.append_nil]; refine ok_run hB tabOK pureM6_ok 100 ?_; (repeat (first
    | rw [run_ops0]
    | rw [run_seq]
    | rw [run_region]
    | rw [run_block]
    | rw [run_blk]
    | rw [run_skip]
    | (apply run_go rfl; focus (intro L K hK; simp [-List.reduceReplicate, -List.getD_eq_getElem?_getD, tdiv8, tmod8, e4, e5, hdl]; (repeat' apply And.intro); all_goals first | exact hK | omega))))
          rw [run_back]
          refine ⟨i + 1, by omega, by omega, ?_⟩
          rw [hD, hz]
          simp [-List.reduceReplicate, -List.getD_eq_getElem?_getD]
      · obtain rfl : i = 128 := by omega
        rw [hO3] at hfin
        repeat (first
    | rw [run_ops0]
    | rw [run_seq]
    | rw [run_region]
    | rw [run_block]
    | rw [run_blk]
    | rw [run_skip]
    | apply run_exit2 rfl
    | apply run_cyes rfl
    | apply run_cno rfl
    | (rw [run_zero]; refine ok_run hB tabOK pureM6_ok 100 ?_)
    | (apply run_go rfl; focus (intro L K hK; simp [-List.reduceReplicate, -List.getD_eq_getElem?_getD]; (repeat' apply And.intro); all_goals first | exact hK | omega))
    | (apply run_gyes rfl rfl rfl rfl; focus (intro L K hK; simp [-List.reduceReplicate, -List.getD_eq_getElem?_getD]; (repeat' apply And.intro); all_goals first | exact hK | omega))
    | (apply run_gno rfl rfl rfl rfl rfl (Nat.le_of_ble_eq_true rfl); simp only [St.put])
    | (apply run_gtup rfl rfl rfl rfl (Nat.le_of_ble_eq_true rfl); simp only [St.put]))
        repeat (first
    | rw [run_ops0]
    | rw [run_seq]
    | rw [run_region]
    | rw [run_block]
    | rw [run_blk]
    | rw [run_skip]
    | apply run_exit2 rfl
    | apply run_cyes rfl
    | apply run_cno rfl
    | (rw [run_zero]; refine ok_run hB tabOK pureM6_ok 100 ?_)
    | (apply run_go rfl; focus (intro L K hK; simp [-List.reduceReplicate, -List.getD_eq_getElem?_getD, hdl]; (repeat' apply And.intro); all_goals first | exact hK | omega))
    | (apply run_gyes rfl rfl rfl rfl; focus (intro L K hK; simp [-List.reduceReplicate, -List.getD_eq_getElem?_getD, hdl]; (repeat' apply And.intro); all_goals first | exact hK | omega))
    | (apply run_gno rfl rfl rfl rfl rfl (Nat.le_of_ble_eq_true rfl); simp only [St.put])
    | (apply run_gtup rfl rfl rfl rfl (Nat.le_of_ble_eq_true rfl); simp only [St.put]))
        rw [run_ret]
        simp [-List.reduceReplicate, -List.getD_eq_getElem?_getD, results27, f27, hfin, hdl]
end Go.V
end
section
set_option linter.unusedSimpArgs false
set_option linter.unusedVariables false
set_option maxRecDepth 10000
namespace Go.V
open Go Go.Proofs.Try
/-- stream of nothing. -/
theorem spec69n (W N : B8) (nr cap on cn : Nat) (hN : on + 12 ≤ N.length) (hcn : 12 ≤ cn) :
    Spec prog 69 [one (.ptr 0 0 0), one (.sl 2 on 12 cn 1), one .snil] [.ent ⟨false, 105, some 1, .st [⟨1, .s (.sl 1 0 nr cap 16)⟩]⟩, .ent ⟨false, 23, none, .a8 W⟩, .ent ⟨false, 5, none, .a8 N⟩] [] (fun r m => r = one (.sl 3 0 0 0 1) ∧ m = [.ent ⟨false, 105, some 1, .st [⟨1, .s (.sl 1 0 nr cap 16)⟩]⟩, .ent ⟨false, 23, none, .a8 W⟩, .ent ⟨false, 5, none, .a8 N⟩] ++ [.ent ⟨true, 5, none, .a8 []⟩, .ent ⟨true, 23, some 16, .a8 (ctr0 ((N.drop on).take 12))⟩]) := by
  refine spec_of_body tabOK func69 rfl (Nat.le_of_ble_eq_true rfl) ?_
  intro E Q0 hB
  refine ok_run hB tabOK pureL_ok 100 ?_
  simp only [argSl]
  have hnl : ((N.drop on).take 12).length = 12 := by simp; omega
  have h0 : ctr0 ((N.drop on).take 12) = (N.drop on).take 12 ++ [0#8, 0#8, 0#8, 0#8] := rfl
  repeat (first
    | rw [run_ops0]
    | rw [run_seq]
    | rw [run_region]
    | rw [run_block]
    | rw [run_blk]
    | rw [run_skip]
    | (apply run_go rfl; focus (intro L K hK; simp [-List.reduceReplicate, -List.getD_eq_getElem?_getD, hnl]; (repeat' apply And.intro); all_goals first | exact hK | omega)))
  rw [run_loop]
  refine ok_loop (X := Unit) (fun _ => ⟨[(20, one (.i 0)), (19, one (.i 0)), (7, one (.sl 3 0 0 0 1))], [.ent ⟨false, 105, some 1, .st [⟨1, .s (.sl 1 0 nr cap 16)⟩]⟩, .ent ⟨false, 23, none, .a8 W⟩, .ent ⟨false, 5, none, .a8 N⟩, .ent ⟨true, 5, none, .a8 []⟩, .ent ⟨true, 23, some 16, .a8 (ctr0 ((N.drop on).take 12))⟩]⟩) (fun _ => True) (fun _ => 0) (fun j i L h => by have := hB.anc i L h; simp at this ⊢; omega) ⟨(), trivial, by simp [-List.reduceReplicate, -List.getD_eq_getElem?_getD, h0]⟩ ?_
  intro _ _
  refine ok_run hB tabOK pureL_ok 100 ?_
  repeat (first
    | rw [run_ops0]
    | rw [run_seq]
    | rw [run_region]
    | rw [run_block]
    | rw [run_blk]
    | rw [run_skip]
    | (apply run_go rfl; focus (intro L K hK; simp [-List.reduceReplicate, -List.getD_eq_getElem?_getD]; (repeat' apply And.intro); all_goals first | exact hK | omega)))
  apply run_cond2 rfl
  · intro h; cases h
  intro _
  apply run_exit2 rfl
  repeat (first
    | rw [run_ops0]
    | rw [run_seq]
    | rw [run_region]
    | rw [run_block]
    | rw [run_blk]
    | rw [run_skip]
    | (apply run_go rfl; focus (intro L K hK; simp [-List.reduceReplicate, -List.getD_eq_getElem?_getD]; (repeat' apply And.intro); all_goals first | exact hK | omega)))
  rw [run_ret]
  simp [-List.reduceReplicate, -List.getD_eq_getElem?_getD, results69, f69]
theorem spec28 (W N : B8) (nr cap on cn : Nat) (D B : B8) (oa na ca ob nb cb : Nat) (ha : oa + na ≤ D.length) (hca : na ≤ ca) (hma : na ≤ 140737488355328) (hb : ob + nb ≤ B.length) (hcb : nb ≤ cb) (hmx : nb ≤ 140737488351232) (hW : 16 * nr ≤ W.length) (hR : 0 < nr) (hR2 : nr < 1000) (hN : on + 12 ≤ N.length) (hcn : 12 ≤ cn) :
    Spec prog 28 [one (.ptr 0 0 0), one (.sl 2 on 12 cn 1), one (.sl 4 oa na ca 1), one (.sl 3 ob nb cb 1)] (smem nr cap W N B ++ [.ent ⟨false, 5, none, .a8 D⟩]) [] (fun r m => ∃ cap', nb + 16 ≤ cap' ∧ r = .tup [.s (.sl 5 0 (nb + 16) cap' 1), .s (.i 0)] ∧ m = smem nr cap W N B ++ [.ent ⟨false, 5, none, .a8 D⟩] ++ (([⟨true, 5, none, .a8 ((stO W nr ((N.drop on).take 12) ((B.drop ob).take nb) nb) ++ tagB W nr ((N.drop on).take 12) ((D.drop oa).take na) (stO W nr ((N.drop on).take 12) ((B.drop ob).take nb) nb))⟩, ⟨true, 23, some 16, .a8 (stC ((N.drop on).take 12) nb)⟩] : List Ent) ++ tagE W nr ((N.drop on).take 12) ((D.drop oa).take na) (stO W nr ((N.drop on).take 12) ((B.drop ob).take nb) nb)).map .ent) := by
  refine spec_of_body tabOK func28 rfl (Nat.le_of_ble_eq_true rfl) ?_
  intro E Q0 hB
  refine ok_run hB tabOK pureL_ok 100 ?_
  simp only [argSl, smem, List.cons_append, List.nil_append]
  have hnl : ((N.drop on).take 12).length = 12 := by simp; omega
  have hbl : ((B.drop ob).take nb).length = nb := by simp; omega
  have hsl : (stO W nr ((N.drop on).take 12) ((B.drop ob).take nb) nb).length = nb := by rw [stO_len _ _ _ _ _ (by omega), hbl]
  obtain ⟨S5, hS5⟩ : ∃ S5, stO W nr ((N.drop on).take 12) ((B.drop ob).take nb) nb = S5 := ⟨_, rfl⟩
  rw [hS5] at hsl
  have hs0 : (S5.drop 0).take nb = S5 := by rw [List.drop_zero]; exact List.take_of_length_le (by omega)
  repeat (first
    | rw [run_ops0]
    | rw [run_seq]
    | rw [run_region]
    | rw [run_block]
    | rw [run_blk]
    | rw [run_skip]
    | (apply run_go rfl; focus (intro L K hK; simp [-List.reduceReplicate, -List.getD_eq_getElem?_getD]; (repeat' apply And.intro); all_goals first | exact hK | omega)))
  apply run_guard rfl rfl rfl rfl
  · intro _
    (apply Exists.intro; apply And.intro; focus (intro L K hK; simp [-List.reduceReplicate, -List.getD_eq_getElem?_getD]; (repeat' apply And.intro); all_goals first | exact hK | omega))
    apply run_guard rfl rfl rfl rfl
    · intro _
      (apply Exists.intro; apply And.intro; focus (intro L K hK; simp [-List.reduceReplicate, -List.getD_eq_getElem?_getD]; (repeat' apply And.intro); all_goals first | exact hK | omega))
      apply run_guard rfl rfl rfl rfl
      · intro _
        (apply Exists.intro; apply And.intro; focus (intro L K hK; simp [-List.reduceReplicate, -List.getD_eq_getElem?_getD]; (repeat' apply And.intro); all_goals first | exact hK | omega))
        repeat (first
    | rw [run_ops0]
    | rw [run_seq]
    | rw [run_region]
    | rw [run_block]
    | rw [run_blk]
    | rw [run_skip]
    | (apply run_go rfl; focus (intro L K hK; simp [-List.reduceReplicate, -List.getD_eq_getElem?_getD]; (repeat' apply And.intro); all_goals first | exact hK | omega)))
        apply run_cond2 rfl
        · intro h; first | cases h | (simp at h; done)
        intro _
        repeat (first
    | rw [run_ops0]
    | rw [run_seq]
    | rw [run_region]
    | rw [run_block]
    | rw [run_blk]
    | rw [run_skip]
    | (apply run_go rfl; focus (intro L K hK; simp [-List.reduceReplicate, -List.getD_eq_getElem?_getD]; (repeat' apply And.intro); all_goals first | exact hK | omega)))
        refine run_call rfl rfl rfl rfl ?_
        refine ok_call [0, 1, 2, 3] rfl rfl ⟨f69, func69, nofun, by decide⟩ (spec69 W N B nr cap on cn ob nb cb hW hR hR2 hN hcn hb hcb (by omega)) trivial (by simp) (by simp [smem, matchM, ix, renA, renSeg, renR, renS, belA, belR, belS, A.len, segLen]) rfl rfl (Nat.le_of_ble_eq_true rfl) ?_
        rintro sv m' ⟨rfl, rfl⟩ _
        simp only [smem, tagE, afterM, putM, renMk, renA, renSeg, renR, renS, renV, ix, St.put, List.map_cons, List.map_nil, List.drop, List.length_cons, List.length_nil, List.cons_append, List.nil_append, one]
        simp [-List.reduceReplicate, hS5, hs0, hsl]
        refine ok_run hB tabOK pureL_ok 100 ?_
        repeat (first
    | rw [run_ops0]
    | rw [run_seq]
    | rw [run_region]
    | rw [run_block]
    | rw [run_blk]
    | rw [run_skip]
    | (apply run_go rfl; focus (intro L K hK; simp [-List.reduceReplicate, -List.getD_eq_getElem?_getD]; (repeat' apply And.intro); all_goals first | exact hK | omega)))
        refine run_call rfl rfl rfl rfl ?_
        refine ok_call [0, 1, 2, 5, 4] rfl rfl ⟨f70, func70, nofun, by decide⟩ (spec70 W N S5 nr cap on cn 0 nb nb D oa na ca ha hca hma hW hR hR2 hN hcn (by omega) (Nat.le_refl _) (by omega)) trivial (by simp) (by simp [smem, matchM, ix, renA, renSeg, renR, renS, belA, belR, belS, A.len, segLen, hS5, hs0, hsl]) rfl rfl (Nat.le_of_ble_eq_true rfl) ?_
        rintro sv m' ⟨rfl, rfl⟩ _
        simp only [smem, tagE, afterM, putM, renMk, renA, renSeg, renR, renS, renV, ix, St.put, List.map_cons, List.map_nil, List.drop, List.length_cons, List.length_nil, List.cons_append, List.nil_append, one]
        simp [-List.reduceReplicate, hS5, hs0, hsl]
        refine ok_run hB tabOK pureL_ok 100 ?_
        have htl : ∀ a b, (tagB W nr ((N.drop on).take 12) a b).length = 16 := fun a b => by unfold tagB; rw [tagX_len, hashG_len]
        have htt : ∀ a b, (tagB W nr ((N.drop on).take 12) a b).take 16 = tagB W nr ((N.drop on).take 12) a b := fun a b => List.take_of_length_le (by rw [htl]; omega)
        repeat (first
    | rw [run_ops0]
    | rw [run_seq]
    | rw [run_region]
    | rw [run_block]
    | rw [run_blk]
    | rw [run_skip]
    | (apply run_go rfl; focus (intro L K hK; simp [-List.reduceReplicate, -List.getD_eq_getElem?_getD]; (repeat' apply And.intro); all_goals first | exact hK | omega)))
        (apply run_app rfl; focus (intro L K hK; simp [-List.reduceReplicate, -List.getD_eq_getElem?_getD, htl, htt, smem, hS5, hs0, hsl]; (repeat' apply And.intro); all_goals first | exact hK | omega | (intro cap hcap; exact hK cap hcap)))
        intro cap2 hcap2
        repeat (first
    | rw [run_ops0]
    | rw [run_seq]
    | rw [run_region]
    | rw [run_block]
    | rw [run_blk]
    | rw [run_skip]
    | (apply run_go rfl; focus (intro L K hK; simp [-List.reduceReplicate, -List.getD_eq_getElem?_getD, smem]; (repeat' apply And.intro); all_goals first | exact hK | omega)))
        rw [run_ret]
        simp [-List.reduceReplicate, -List.getD_eq_getElem?_getD, results28, f28, smem, tagE, hS5, hs0, hsl]
        exact ⟨cap2, hcap2, rfl, by rw [show S5.take nb = S5 from List.take_of_length_le (by omega)]⟩
      · intro h; first | cases h | (simp at h; done)
    · intro h; first | cases h | (simp at h; done)
  · intro h; first | cases h | (simp at h; done)
theorem spec28n (W N : B8) (nr cap on cn : Nat) (hW : 16 * nr ≤ W.length) (hR : 0 < nr) (hR2 : nr < 1000) (hN : on + 12 ≤ N.length) (hcn : 12 ≤ cn) :
    Spec prog 28 [one (.ptr 0 0 0), one (.sl 2 on 12 cn 1), one .snil, one .snil] ([.ent ⟨false, 105, some 1, .st [⟨1, .s (.sl 1 0 nr cap 16)⟩]⟩, .ent ⟨false, 23, none, .a8 W⟩, .ent ⟨false, 5, none, .a8 N⟩]) [] (fun r m => ∃ cap', 0 + 16 ≤ cap' ∧ r = .tup [.s (.sl 3 0 (0 + 16) cap' 1), .s (.i 0)] ∧ m = [.ent ⟨false, 105, some 1, .st [⟨1, .s (.sl 1 0 nr cap 16)⟩]⟩, .ent ⟨false, 23, none, .a8 W⟩, .ent ⟨false, 5, none, .a8 N⟩] ++ (([⟨true, 5, none, .a8 (([] : B8) ++ tagB W nr ((N.drop on).take 12) ([] : B8) ([] : B8))⟩, ⟨true, 23, some 16, .a8 (ctr0 ((N.drop on).take 12))⟩] : List Ent) ++ tagE W nr ((N.drop on).take 12) ([] : B8) ([] : B8)).map .ent) := by
  refine spec_of_body tabOK func28 rfl (Nat.le_of_ble_eq_true rfl) ?_
  intro E Q0 hB
  refine ok_run hB tabOK pureL_ok 100 ?_
  simp only [argSl, smem, List.cons_append, List.nil_append]
  have hnl : ((N.drop on).take 12).length = 12 := by simp; omega
  repeat (first
    | rw [run_ops0]
    | rw [run_seq]
    | rw [run_region]
    | rw [run_block]
    | rw [run_blk]
    | rw [run_skip]
    | (apply run_go rfl; focus (intro L K hK; simp [-List.reduceReplicate, -List.getD_eq_getElem?_getD]; (repeat' apply And.intro); all_goals first | exact hK | omega)))
  apply run_guard rfl rfl rfl rfl
  · intro _
    (apply Exists.intro; apply And.intro; focus (intro L K hK; simp [-List.reduceReplicate, -List.getD_eq_getElem?_getD]; (repeat' apply And.intro); all_goals first | exact hK | omega))
    apply run_guard rfl rfl rfl rfl
    · intro _
      (apply Exists.intro; apply And.intro; focus (intro L K hK; simp [-List.reduceReplicate, -List.getD_eq_getElem?_getD]; (repeat' apply And.intro); all_goals first | exact hK | omega))
      apply run_guard rfl rfl rfl rfl
      · intro _
        (apply Exists.intro; apply And.intro; focus (intro L K hK; simp [-List.reduceReplicate, -List.getD_eq_getElem?_getD]; (repeat' apply And.intro); all_goals first | exact hK | omega))
        repeat (first
    | rw [run_ops0]
    | rw [run_seq]
    | rw [run_region]
    | rw [run_block]
    | rw [run_blk]
    | rw [run_skip]
    | (apply run_go rfl; focus (intro L K hK; simp [-List.reduceReplicate, -List.getD_eq_getElem?_getD]; (repeat' apply And.intro); all_goals first | exact hK | omega)))
        apply run_cond2 rfl
        · intro h; first | cases h | (simp at h; done)
        intro _
        repeat (first
    | rw [run_ops0]
    | rw [run_seq]
    | rw [run_region]
    | rw [run_block]
    | rw [run_blk]
    | rw [run_skip]
    | (apply run_go rfl; focus (intro L K hK; simp [-List.reduceReplicate, -List.getD_eq_getElem?_getD]; (repeat' apply And.intro); all_goals first | exact hK | omega)))
        refine run_call rfl rfl rfl rfl ?_
        refine ok_call [0, 1, 2] rfl rfl ⟨f69, func69, nofun, by decide⟩ (spec69n W N nr cap on cn hN hcn) trivial (by simp) (by simp [smem, matchM, ix, renA, renSeg, renR, renS, belA, belR, belS, A.len, segLen]) rfl rfl (Nat.le_of_ble_eq_true rfl) ?_
        rintro sv m' ⟨rfl, rfl⟩ _
        simp only [smem, tagE, afterM, putM, renMk, renA, renSeg, renR, renS, renV, ix, St.put, List.map_cons, List.map_nil, List.drop, List.length_cons, List.length_nil, List.cons_append, List.nil_append, one]
        simp [-List.reduceReplicate]
        refine ok_run hB tabOK pureL_ok 100 ?_
        repeat (first
    | rw [run_ops0]
    | rw [run_seq]
    | rw [run_region]
    | rw [run_block]
    | rw [run_blk]
    | rw [run_skip]
    | (apply run_go rfl; focus (intro L K hK; simp [-List.reduceReplicate, -List.getD_eq_getElem?_getD]; (repeat' apply And.intro); all_goals first | exact hK | omega)))
        refine run_call rfl rfl rfl rfl ?_
        refine ok_call [0, 1, 2, 3] rfl rfl ⟨f70, func70, nofun, by decide⟩ (spec70n W N [] nr cap on cn 0 0 0 hW hR hR2 hN hcn (Nat.le_refl _) (Nat.le_refl _) (by omega)) trivial (by simp) (by simp [smem, matchM, ix, renA, renSeg, renR, renS, belA, belR, belS, A.len, segLen]) rfl rfl (Nat.le_of_ble_eq_true rfl) ?_
        rintro sv m' ⟨rfl, rfl⟩ _
        simp only [smem, tagE, afterM, putM, renMk, renA, renSeg, renR, renS, renV, ix, St.put, List.map_cons, List.map_nil, List.drop, List.length_cons, List.length_nil, List.cons_append, List.nil_append, one]
        simp [-List.reduceReplicate]
        refine ok_run hB tabOK pureL_ok 100 ?_
        have htl : ∀ a b, (tagB W nr ((N.drop on).take 12) a b).length = 16 := fun a b => by unfold tagB; rw [tagX_len, hashG_len]
        have htt : ∀ a b, (tagB W nr ((N.drop on).take 12) a b).take 16 = tagB W nr ((N.drop on).take 12) a b := fun a b => List.take_of_length_le (by rw [htl]; omega)
        repeat (first
    | rw [run_ops0]
    | rw [run_seq]
    | rw [run_region]
    | rw [run_block]
    | rw [run_blk]
    | rw [run_skip]
    | (apply run_go rfl; focus (intro L K hK; simp [-List.reduceReplicate, -List.getD_eq_getElem?_getD]; (repeat' apply And.intro); all_goals first | exact hK | omega)))
        (apply run_app rfl; focus (intro L K hK; simp [-List.reduceReplicate, -List.getD_eq_getElem?_getD, htl, htt, smem]; (repeat' apply And.intro); all_goals first | exact hK | omega | (intro cap hcap; exact hK cap hcap)))
        intro cap2 hcap2
        repeat (first
    | rw [run_ops0]
    | rw [run_seq]
    | rw [run_region]
    | rw [run_block]
    | rw [run_blk]
    | rw [run_skip]
    | (apply run_go rfl; focus (intro L K hK; simp [-List.reduceReplicate, -List.getD_eq_getElem?_getD, smem]; (repeat' apply And.intro); all_goals first | exact hK | omega)))
        rw [run_ret]
        simp [-List.reduceReplicate, -List.getD_eq_getElem?_getD, results28, f28, smem, tagE]
        omega
      · intro h; first | cases h | (simp at h; done)
    · intro h; first | cases h | (simp at h; done)
  · intro h; first | cases h | (simp at h; done)
end Go.V
end
section
set_option linter.unusedSimpArgs false
set_option linter.unusedVariables false
set_option maxRecDepth 10000
namespace Go.V
open Go Go.Proofs.Try
abbrev B8c := List (BitVec 8)
/-- The differences of two rows, collected. -/
def eqAcc (a b : List (BitVec 8)) : Nat → BitVec 8
  | 0 => 0#8
  | j + 1 => eqAcc a b j ||| (a.getD j 0 ^^^ b.getD j 0)
theorem eqAcc_zero (a b : List (BitVec 8)) : ∀ n, eqAcc a b n = 0#8 ↔ ∀ j, j < n → a.getD j 0 = b.getD j 0
  | 0 => by simp [eqAcc]
  | n + 1 => by
    have ih := eqAcc_zero a b n
    have hor : ∀ x y : BitVec 8, x ||| y = 0#8 ↔ x = 0#8 ∧ y = 0#8 := fun x y => by
      constructor
      · intro h
        have : ∀ i, (x ||| y).getLsbD i = false := fun i => by rw [h]; simp
        simp only [BitVec.getLsbD_or, Bool.or_eq_false_iff] at this
        exact ⟨BitVec.eq_of_getLsbD_eq (fun i _ => by rw [(this i).1]; simp), BitVec.eq_of_getLsbD_eq (fun i _ => by rw [(this i).2]; simp)⟩
      · rintro ⟨rfl, rfl⟩; rfl
    have hxor : ∀ x y : BitVec 8, x ^^^ y = 0#8 ↔ x = y := fun x y => by
      constructor
      · intro h
        have : x ^^^ y ^^^ y = 0#8 ^^^ y := by rw [h]
        simpa [BitVec.xor_assoc] using this
      · rintro rfl; simp
    rw [eqAcc, hor, ih, hxor]
    constructor
    · rintro ⟨h1, h2⟩ j hj
      by_cases h : j = n
      · subst h; exact h2
      · exact h1 j (by omega)
    · intro h
      exact ⟨fun j hj => h j (by omega), h n (by omega)⟩
/-- The answer of Equal. -/
def eqAns (a b : List (BitVec 8)) (n1 n2 : Nat) : Bool := decide (n1 = n2) && decide (eqAcc a b n1 = 0#8)
theorem spec71 (A C : List (BitVec 8)) (o1 n1 c1 o2 n2 c2 : Nat) (h1 : o1 + n1 ≤ A.length) (h2 : o2 + n2 ≤ C.length) (hc1 : n1 ≤ c1) (hc2 : n2 ≤ c2) (hmx : n1 ≤ 4611686018427387904) : Spec prog 71 [one (.sl 0 o1 n1 c1 1), one (.sl 1 o2 n2 c2 1)] [.ent ⟨false, 5, none, .a8 A⟩, .ent ⟨false, 5, none, .a8 C⟩] [] (fun r _ => r = one (.b (eqAns (A.drop o1) (C.drop o2) n1 n2))) := by
  refine spec_of_body tabOK func71 rfl (Nat.le_of_ble_eq_true rfl) ?_
  intro E Q0 hB
  refine ok_run hB tabOK pureNone_ok 100 ?_
  simp only [argSl]
  repeat (first
    | rw [run_ops0]
    | rw [run_seq]
    | rw [run_region]
    | rw [run_block]
    | rw [run_blk]
    | rw [run_skip]
    | (apply run_go rfl; focus (intro L K hK; simp [-List.reduceReplicate, -List.getD_eq_getElem?_getD]; (repeat' apply And.intro); all_goals first | exact hK | omega)))
  apply run_cond2 rfl
  · intro h
    simp at h
    have hne : ¬ n1 = n2 := by omega
    repeat (first
    | rw [run_ops0]
    | rw [run_seq]
    | rw [run_region]
    | rw [run_block]
    | rw [run_blk]
    | rw [run_skip]
    | (apply run_go rfl; focus (intro L K hK; simp [-List.reduceReplicate, -List.getD_eq_getElem?_getD]; (repeat' apply And.intro); all_goals first | exact hK | omega)))
    rw [run_ret]
    simp [-List.reduceReplicate, -List.getD_eq_getElem?_getD, results71, f71, eqAns, hne]
  intro h
  simp at h
  obtain rfl : n1 = n2 := by omega
  repeat (first
    | rw [run_ops0]
    | rw [run_seq]
    | rw [run_region]
    | rw [run_block]
    | rw [run_blk]
    | rw [run_skip]
    | (apply run_go rfl; focus (intro L K hK; simp [-List.reduceReplicate, -List.getD_eq_getElem?_getD]; (repeat' apply And.intro); all_goals first | exact hK | omega)))
  rw [run_loop]
  refine ok_loop (X := Nat) (fun j => ⟨[(14, one (.i j)), (13, one (.i n1)), (5, one (.u8 (eqAcc (A.drop o1) (C.drop o2) j))), (1, one (.sl 1 o2 n1 c2 1)), (0, one (.sl 0 o1 n1 c1 1))], [.ent ⟨false, 5, none, .a8 A⟩, .ent ⟨false, 5, none, .a8 C⟩]⟩) (fun j => j ≤ n1) (fun j => n1 - j) (fun j i L h => by have := hB.anc i L h; simp at this ⊢; omega) ⟨0, by omega, by simp [-List.reduceReplicate, -List.getD_eq_getElem?_getD, eqAcc]⟩ ?_
  intro j hj
  refine ok_run hB tabOK pureNone_ok 100 ?_
  repeat (first
    | rw [run_ops0]
    | rw [run_seq]
    | rw [run_region]
    | rw [run_block]
    | rw [run_blk]
    | rw [run_skip]
    | (apply run_go rfl; focus (intro L K hK; simp [-List.reduceReplicate, -List.getD_eq_getElem?_getD]; (repeat' apply And.intro); all_goals first | exact hK | omega)))
  apply run_cond2 rfl
  · intro h
    simp at h
    repeat (first
    | rw [run_ops0]
    | rw [run_seq]
    | rw [run_region]
    | rw [run_block]
    | rw [run_blk]
    | rw [run_skip]
    | (apply run_go rfl; focus (intro L K hK; simp [-List.reduceReplicate, -List.getD_eq_getElem?_getD]; (repeat' apply And.intro); all_goals first | exact hK | omega)))
    rw [run_draw]
    refine ok_draw2 11 tabOK pureNone_ok pureNone_mono mixed (by decide +kernel) rfl rfl ?_
    have g1 : (A.drop o1).getD j 0#8 = A.getD (o1 + j) 0#8 := by simp [List.getD_eq_getElem?_getD]
    have g2 : (C.drop o2).getD j 0#8 = C.getD (o2 + j) 0#8 := by simp [List.getD_eq_getElem?_getD]
    repeat (first
    | (apply hd_go rfl rfl rfl rfl (Nat.le_of_ble_eq_true rfl); focus (intro K' hK; simp [-List.reduceReplicate, -List.getD_eq_getElem?_getD]; (repeat' apply And.intro); all_goals first | exact hK | omega))
    | (apply hd_new rfl rfl rfl rfl (Nat.le_of_ble_eq_true rfl); focus (intro K' hK; simp [-List.reduceReplicate, -List.getD_eq_getElem?_getD]; (repeat' apply And.intro); all_goals first | exact hK | omega)))
    refine hd_nil ?_
    simp only [List.map_nil, List.append_nil]
    refine ok_run hB tabOK pureNone_ok 100 ?_
    repeat (first
    | rw [run_ops0]
    | rw [run_seq]
    | rw [run_region]
    | rw [run_block]
    | rw [run_blk]
    | rw [run_skip]
    | (apply run_go rfl; focus (intro L K hK; simp [-List.reduceReplicate, -List.getD_eq_getElem?_getD]; (repeat' apply And.intro); all_goals first | exact hK | omega)))
    rw [run_back]
    refine ⟨j + 1, by omega, by omega, ?_⟩
    simp [-List.reduceReplicate, -List.getD_eq_getElem?_getD, eqAcc, g1, g2]
  · intro h
    simp at h
    obtain rfl : j = n1 := by omega
    apply run_exit2 rfl
    repeat (first
    | rw [run_ops0]
    | rw [run_seq]
    | rw [run_region]
    | rw [run_block]
    | rw [run_blk]
    | rw [run_skip]
    | (apply run_go rfl; focus (intro L K hK; simp [-List.reduceReplicate, -List.getD_eq_getElem?_getD]; (repeat' apply And.intro); all_goals first | exact hK | omega)))
    rw [run_ret]
    simp [-List.reduceReplicate, -List.getD_eq_getElem?_getD, results71, f71, eqAns]
end Go.V
end
section
set_option linter.unusedSimpArgs false
set_option linter.unusedVariables false
set_option maxRecDepth 10000
namespace Go.V
open Go Go.Proofs.Try
/-- A block's bytes. -/
def datOf (m : Mem) (id : Nat) : Option B8 := match m[id]? with
  | some (.ent e) => (match e.c with
    | .a8 B => some B
    | _ => none)
  | _ => none
theorem datOf_get {m : Mem} {id : Nat} {B : B8} (h : datOf m id = some B) : ∃ e : Ent, m[id]? = some (.ent e) ∧ e.c = .a8 B := by
  unfold datOf at h
  split at h
  · split at h
    · cases h
      exact ⟨_, by assumption, by assumption⟩
    · cases h
  · cases h
theorem datOf_sub {m m' : Mem} {id : Nat} {B : B8} (hs : Sub m m') (h : datOf m id = some B) : datOf m' id = some B := by
  obtain ⟨e, h1, h2⟩ := datOf_get h
  unfold datOf
  simp only [hs _ _ h1, h2]
/-- Keys, nonces and bytes as they may be handed to tag. -/
def tFit (W N B : B8) (nr on cn ob nb cb : Nat) : Prop := 16 * nr ≤ W.length ∧ 0 < nr ∧ nr < 1000 ∧ on + 12 ≤ N.length ∧ 12 ≤ cn ∧ ob + nb ≤ B.length ∧ nb ≤ cb ∧ nb ≤ 140737488355328
def aFit (D : B8) (oa na ca : Nat) : Prop := oa + na ≤ D.length ∧ na ≤ ca ∧ na ≤ 140737488355328
open Classical in
noncomputable def nuT : New := fun m f l nid => match f, l with
  | 70, [.one (.s (.ptr id 0 0)), .one (.s (.sl iN on 12 cn 1)), .one (.s .snil), .one (.s (.sl iS ob nb cb 1))] => (match kOf m id, datOf m iN, datOf m iS with
    | some (j, nr, _, W), some N, some B => if tFit W N B nr on cn ob nb cb ∧ [id, j, iN, iS].Nodup then some (one (.sl (nid + 2) 0 16 16 1), tagE W nr ((N.drop on).take 12) [] ((B.drop ob).take nb)) else none
    | _, _, _ => none)
  | 70, [.one (.s (.ptr id 0 0)), .one (.s (.sl iN on 12 cn 1)), .one (.s (.sl iA oa na ca 1)), .one (.s (.sl iS ob nb cb 1))] => (match kOf m id, datOf m iN, datOf m iS, datOf m iA with
    | some (j, nr, _, W), some N, some B, some D => if tFit W N B nr on cn ob nb cb ∧ aFit D oa na ca ∧ [id, j, iN, iS, iA].Nodup then some (one (.sl (nid + 2) 0 16 16 1), tagE W nr ((N.drop on).take 12) ((D.drop oa).take na) ((B.drop ob).take nb)) else none
    | _, _, _, _ => none)
  | _, _ => none
theorem nuT_sub : NewSub nuT := by
  intro m m' f l nid r hs h
  unfold nuT at h ⊢
  split at h
  · split at h
    · rename_i h1 h2 h3
      simp only [kOf_sub hs h1, datOf_sub hs h2, datOf_sub hs h3]
      exact h
    · cases h
  · split at h
    · rename_i h1 h2 h3 h4
      simp only [kOf_sub hs h1, datOf_sub hs h2, datOf_sub hs h3, datOf_sub hs h4]
      exact h
    · cases h
  · cases h
theorem nuT_ok : NewOK prog nuT := by
  intro m f svs nid sv es h E w ℓ vs hm hh hd
  unfold nuT at h
  split at h
  · rename_i id iN on cn iS ob nb cb
    split at h
    · rename_i j nr cap W N B hk hN hB
      split at h
      · rename_i hc
        obtain ⟨⟨a1, a2, a3, a4, a5, a6, a7, a8⟩, hnd⟩ := hc
        cases h
        obtain ⟨e, e2, k1, k2, k3, k4⟩ := kOf_get hk
        obtain ⟨eN, n1, n2⟩ := datOf_get hN
        obtain ⟨eB, b1, b2⟩ := datOf_get hB
        refine ⟨⟨f70, func70, nofun, by decide⟩, ?_⟩
        have hu := new_use (spec70n W N B nr cap on cn ob nb cb a1 a2 a3 a4 a5 a6 a7 a8) (by simp [smem]) hm [id, j, iN, iS] hnd (by simp [smem, matchM, ix, renA, renSeg, renR, renS, belA, belR, belS, A.len, segLen, k1, k2, k3, k4, n1, n2, b1, b2]) rfl (by simpa [renV, renA, renS, ix, one] using hd) (nid := nid) (by simpa [tagE] using hh)
        refine hu.mono ?_
        rintro e' w' ⟨v, ℓ', g1, g2, g3, g4⟩
        refine ⟨v, ℓ', g1, g2, by simpa [renV, renA, renS, ix, one] using g3, ?_⟩
        simpa [tagE, renE, renA] using g4
      · cases h
    · cases h
  · rename_i id iN on cn iA oa na ca iS ob nb cb
    split at h
    · rename_i j nr cap W N B D hk hN hB hD
      split at h
      · rename_i hc
        obtain ⟨⟨a1, a2, a3, a4, a5, a6, a7, a8⟩, ⟨c1, c2, c3⟩, hnd⟩ := hc
        cases h
        obtain ⟨e, e2, k1, k2, k3, k4⟩ := kOf_get hk
        obtain ⟨eN, n1, n2⟩ := datOf_get hN
        obtain ⟨eB, b1, b2⟩ := datOf_get hB
        obtain ⟨eD, d1, d2⟩ := datOf_get hD
        refine ⟨⟨f70, func70, nofun, by decide⟩, ?_⟩
        have hu := new_use (spec70 W N B nr cap on cn ob nb cb D oa na ca c1 c2 c3 a1 a2 a3 a4 a5 a6 a7 a8) (by simp [smem]) hm [id, j, iN, iS, iA] hnd (by simp [smem, matchM, ix, renA, renSeg, renR, renS, belA, belR, belS, A.len, segLen, k1, k2, k3, k4, n1, n2, b1, b2, d1, d2]) rfl (by simpa [renV, renA, renS, ix, one] using hd) (nid := nid) (by simpa [tagE] using hh)
        refine hu.mono ?_
        rintro e' w' ⟨v, ℓ', g1, g2, g3, g4⟩
        refine ⟨v, ℓ', g1, g2, by simpa [renV, renA, renS, ix, one] using g3, ?_⟩
        simpa [tagE, renE, renA] using g4
      · cases h
    · cases h
  · cases h
/-- Equal, over bytes in memory. -/
def pure71 : Pure := fun m f l => match f, l with
  | 71, [.one (.s (.sl i1 o1 n1 c1 1)), .one (.s (.sl i2 o2 n2 c2 1))] => (match datOf m i1, datOf m i2 with
    | some X, some Y => if (o1 + n1 ≤ X.length ∧ n1 ≤ c1 ∧ n1 ≤ 4611686018427387904) ∧ (o2 + n2 ≤ Y.length ∧ n2 ≤ c2) ∧ i1 ≠ i2 then some (one (.b (eqAns (X.drop o1) (Y.drop o2) n1 n2))) else none
    | _, _ => none)
  | _, _ => none
theorem pure71_sub : PureSub pure71 := by
  intro m m' f l v hs h
  unfold pure71 at h ⊢
  split at h
  · split at h
    · rename_i h1 h2
      simp only [datOf_sub hs h1, datOf_sub hs h2]
      exact h
    · cases h
  · cases h
theorem pure71_ok : PureOK prog pure71 := by
  intro m f svs sv h E w ℓ vs hm hd
  unfold pure71 at h
  split at h
  · rename_i i1 o1 n1 c1 i2 o2 n2 c2
    split at h
    · rename_i X Y hX hY
      split at h
      · rename_i hc
        obtain ⟨⟨a1, a2, a3⟩, ⟨b1, b2⟩, hne⟩ := hc
        cases h
        obtain ⟨eX, x1, x2⟩ := datOf_get hX
        obtain ⟨eY, y1, y2⟩ := datOf_get hY
        exact ⟨⟨f71, func71, nofun, by decide⟩, pure_use (spec71 X Y o1 n1 c1 o2 n2 c2 a1 b1 a2 b2 a3) (by simp) rfl hm [i1, i2] (by simp [hne]) (by simp [matchM, ix, renA, belA, x1, x2, y1, y2]) rfl (by simpa [renV, renA, renS, ix, one] using hd)⟩
      · cases h
    · cases h
  · cases h
noncomputable def pureQ : Pure := fun m f l => if f = 71 then pure71 m f l else pureG m f l
theorem pureQ_sub : PureSub pureQ := by
  intro m m' f l v hs h
  unfold pureQ at h ⊢
  split at h
  · rename_i hf; rw [if_pos hf]; exact pure71_sub m m' f l v hs h
  · rename_i hf; rw [if_neg hf]; exact pureG_sub m m' f l v hs h
theorem pureQ_ok : PureOK prog pureQ := by
  intro m f svs sv h
  unfold pureQ at h
  split at h
  · exact pure71_ok m f svs sv h
  · exact pureG_ok m f svs sv h
end Go.V
end
