/- A small verifier of our own, part 8: arrays compared, stores, copy. No condition. -/
import Derived.Test.YtlnoehpjchglnaaVg
set_option linter.unusedSimpArgs false
set_option linter.unusedVariables false
namespace Go.V
open Go

section
variable {P : Program} {E : Env} {ℓ : Nat → Option Loc} {m : Mem} {nid : Nat} {K : SV → Option Ent → Prop} {w : World}

/-! arrays compared -/
theorem den_map {α : Type} {g : α → S} {f : α → Value} (h : ∀ a v, DenS ℓ (g a) v → v = f a) : ∀ {l : List α} {vs : List Value}, DenL ℓ (l.map g) vs → vs = l.map f
  | [], [], _ => rfl
  | a :: l, v :: vs, ⟨h1, h2⟩ => by rw [h a v h1, den_map h h2]; rfl
  | [], _ :: _, h => h.elim
  | _ :: _, [], h => h.elim
theorem eqItems_run {d c : Nat} {e : TypeId} {xs ys : Array Value} (q : Nat → Bool) : ∀ (is : List Nat), (∀ i ∈ is, ∃ a b, (part e xs (i * c)).run P w = .ok a w ∧ (part e ys (i * c)).run P w = .ok b w ∧ (Op.equalIn d e a b).run P w = .ok (q i) w) →
    (Op.eqItems d e c xs ys is).run P w = .ok (is.all q) w
  | [], _ => by simp [Op.eqItems]
  | i :: is, h => by
    obtain ⟨a, b, h1, h2, h3⟩ := h i (by simp)
    simp only [Op.eqItems, Sem.run_bind, h1, h2, h3, Result.andThen_ok, List.all_cons]
    have ih := eqItems_run q is (fun j hj => h j (by simp [hj]))
    cases q i
    · simp
    · simpa using ih
theorem eq_rows {α : Type} [DecidableEq α] {f : α → Value} {d n : Nat} {t e : TypeId} {ety : Ty} (hu : P.underlying t = some (.array n e)) (hE : TyOK P e ety) (hks : ety.kind ≠ .other ∧ ety.kind.isAgg = false) (hs1 : ety.size = 1)
    (hf : ∀ a b, (Op.equalIn d e (f a) (f b)).run P w = .ok (decide (a = b)) w) {l r : List α} (hl : l.length = n) (hr : r.length = n) :
    (Op.equalIn (d + 1) t (.agg (l.map f).toArray) (.agg (r.map f).toArray)).run P w = .ok (decide (l = r)) w := by
  obtain ⟨i, z, h1, h2, _⟩ := hE.parts
  have hc : P.cellsOf e = 1 := by simp [Program.cellsOf, h1, h2, hs1]
  rw [run_equalIn_array (P := P) w d _ _ hu h1, hc, eqItems_run (fun i => decide (l[i]? = r[i]?))]
  · congr 1
    rw [Bool.eq_iff_iff]
    simp only [List.all_eq_true, List.mem_range, decide_eq_true_eq]
    refine ⟨fun h => List.ext_getElem? fun i => ?_, fun h i _ => by rw [h]⟩
    rcases Nat.lt_or_ge i n with hi | hi
    · exact h i hi
    · rw [List.getElem?_eq_none (by omega), List.getElem?_eq_none (by omega)]
  · intro i hi
    have hi : i < n := by simpa using hi
    have g : ∀ {l : List α}, l.length = n → ∃ a, l[i]? = some a ∧ (part e (l.map f).toArray (i * 1)).run P w = .ok (f a) w := by
      intro l hl
      refine ⟨l[i]'(by omega), List.getElem?_eq_getElem _, ?_⟩
      have hlt : i < l.length := by omega
      simp [part, hE.isAgg hks.1 w, hks.2, hlt]
    obtain ⟨a, ha, hpa⟩ := g hl
    obtain ⟨b, hb, hpb⟩ := g hr
    refine ⟨f a, f b, hpa, hpb, ?_⟩
    rw [hf a b, ha, hb]
    simp
def rowEq : A → A → Option (Nat × Nat × Bool)
  | .a8 l, .a8 r => some (l.length, r.length, decide (l = r))
  | .a32 l, .a32 r => some (l.length, r.length, decide (l = r))
  | .a64 l, .a64 r => some (l.length, r.length, decide (l = r))
  | .ai l, .ai r => some (l.length, r.length, decide (l = r))
  | _, _ => none
def Kind.isScal : Kind → Bool
  | .int _ => true
  | _ => false
def stEqA (T : Tab) (op : BinOp) (t : TypeId) (a b : A) (K : SV → Prop) : Prop :=
  match T t, rowEq a b with
  | some ty, some (n1, n2, c) => match ty.kind with
    | .arr n e => match T e with
      | some ety => (n1 = n ∧ n2 = n) ∧ (ety.kind.isScal = true ∧ ety.size = 1) ∧ (match op with
        | .eql => K (one (.b c))
        | .neq => K (one (.b (!c)))
        | _ => False)
      | none => False
    | _ => False
  | _, _ => False
theorem stEqA_ok {T : Tab} (hT : TabOK P T) (hm : MH E ℓ m w) {op : BinOp} {t : TypeId} {a b : A} {va vb : Value} {ox oy : Operand} (ha : DenA ℓ a va) (hb : DenA ℓ b vb) (h : stEqA T op t a b (fun r => K r none)) :
    Comes P E ℓ m nid K (do pure (.value (← (do eqGuard op t ox oy va vb; binOp op t va vb)))) w := by
  unfold stEqA at h
  split at h
  · rename_i ty n1 n2 c hty hq
    have hk := (hT t ty hty).kind
    split at h
    · rename_i n e hkk
      rw [hkk] at hk; simp only [KindOK] at hk
      split at h
      · rename_i ety hety
        obtain ⟨⟨rfl, hn2⟩, ⟨hsc, hs1⟩, h⟩ := h
        have hE := hT e ety hety
        have hke := hE.kind
        have hks : ety.kind ≠ .other ∧ ety.kind.isAgg = false := by cases hq : ety.kind <;> rw [hq] at hsc <;> first | (cases hsc; done) | exact ⟨by simp, rfl⟩
        have hgd : P.eqGuardType P.depth t = false := by
          have : ∃ k, P.depth = k + 1 + 1 := ⟨2 * (P.types.size + Made.depth), rfl⟩
          obtain ⟨k, hk2⟩ := this
          rw [hk2]
          simp only [Program.eqGuardType, hk]
          cases hq : ety.kind <;> rw [hq] at hsc hke <;> simp only [KindOK] at hke <;> first | (cases hsc; done) | simp [hke]
        have fin : ∀ (u v : List Value), va = .agg u.toArray → vb = .agg v.toArray → (Op.equalIn 10000 t (.agg u.toArray) (.agg v.toArray)).run P w = .ok c w →
            Comes P E ℓ m nid K (do pure (.value (← (do eqGuard op t ox oy va vb; binOp op t va vb)))) w := by
          rintro u v rfl rfl he
          split at h
          · refine comes_value hm (v := .bool c) (sv := one (.b c)) ?_ rfl h
            simp only [Sem.run_bind, run_eqGuard_agg (P := P) w _ t ox oy _ _ hgd, Result.andThen_ok, run_eql_struct, he]
          · refine comes_value hm (v := .bool (!c)) (sv := one (.b (!c))) ?_ rfl h
            simp only [Sem.run_bind, run_eqGuard_agg (P := P) w _ t ox oy _ _ hgd, Result.andThen_ok, run_neq_struct, he]
          · exact h.elim
        have gen : ∀ {α : Type} [DecidableEq α] {g : α → S} {f : α → Value} {l r : List α}, (∀ a v, DenS ℓ (g a) v → v = f a) → (∀ a b, (Op.equalIn (9998 + 1) e (f a) (f b)).run P w = .ok (decide (a = b)) w) →
            l.length = n1 → r.length = n1 → c = decide (l = r) → (∃ vs : List Value, va = .agg vs.toArray ∧ DenL ℓ (l.map g) vs) → (∃ vs : List Value, vb = .agg vs.toArray ∧ DenL ℓ (r.map g) vs) →
            Comes P E ℓ m nid K (do pure (.value (← (do eqGuard op t ox oy va vb; binOp op t va vb)))) w := by
          rintro α _ g f l r hg hf hl hr rfl ⟨u, hu, hdu⟩ ⟨v, hv, hdv⟩
          rw [den_map hg hdu] at hu
          rw [den_map hg hdv] at hv
          exact fin _ _ hu hv (eq_rows (d := 9998 + 1) hk hE hks hs1 hf hl hr)
        have ints : ∀ {k : IntKind}, P.underlying e = some (.int k) → ∀ {j : IntKind} (a b : Int), (Op.equalIn (9998 + 1) e (.int j a) (.int j b)).run P w = .ok (decide (a = b)) w := by
          intro k hu j a b
          rw [run_equalIn_int (P := P) w 9998 e j k a b hu]
          exact congrArg (fun c => Result.ok c w) (by rw [Bool.eq_iff_iff]; simp)
        have bvs : ∀ {k : IntKind}, P.underlying e = some (.int k) → ∀ {j : IntKind} {n : Nat} (a b : BitVec n), (Op.equalIn (9998 + 1) e (.int j a.toNat) (.int j b.toNat)).run P w = .ok (decide (a = b)) w := by
          intro k hu j n a b
          rw [ints hu]
          exact congrArg (fun c => Result.ok c w) (by rw [Bool.eq_iff_iff]; simp only [decide_eq_true_eq, ← BitVec.toNat_inj]; omega)
        cases hq2 : ety.kind with
        | int k =>
          rw [hq2] at hke; simp only [KindOK] at hke
          cases a <;> cases b <;> simp only [rowEq, Option.some.injEq, Prod.mk.injEq, reduceCtorEq] at hq
          · exact gen (g := S.u8) (f := fun x => .int .u8 x.toNat) (fun _ _ h => h) (fun a b => bvs hke a b) hq.1 (hq.2.1.trans hn2) hq.2.2.symm ha.2 hb.2
          · exact gen (g := S.u32) (f := fun x => .int .u32 x.toNat) (fun _ _ h => h) (fun a b => bvs hke a b) hq.1 (hq.2.1.trans hn2) hq.2.2.symm ha.2 hb.2
          · exact gen (g := S.u64) (f := fun x => .int .u64 x.toNat) (fun _ _ h => h) (fun a b => bvs hke a b) hq.1 (hq.2.1.trans hn2) hq.2.2.symm ha.2 hb.2
          · exact gen (g := S.i) (f := fun x => .int .i64 x) (fun _ _ h => h) (fun a b => ints hke a b) hq.1 (hq.2.1.trans hn2) hq.2.2.symm ha.2 hb.2
        | _ => rw [hq2] at hsc; cases hsc
      · exact h.elim
    · exact h.elim
  · exact h.elim

/-! stores -/
theorem overL_pre {α : Type} (a m us : List α) (off : Nat) : overL (a ++ m) (a.length + off) us = a ++ overL m off us := by
  unfold overL
  rw [List.take_length_add_append, show a.length + off + us.length = a.length + (off + us.length) by omega, List.drop_length_add_append]
  simp
theorem overL_in {α : Type} (vs us : List α) (base off k : Nat) (h1 : off + us.length ≤ k) (h2 : base + k ≤ vs.length) : overL vs (base + off) us = vs.take base ++ overL ((vs.drop base).take k) off us ++ vs.drop (base + k) := by
  have e : vs = (vs.take base ++ (vs.drop base).take k) ++ vs.drop (base + k) := by
    rw [List.append_assoc, ← List.drop_drop, List.take_append_drop, List.take_append_drop]
  have hl : (vs.take base).length = base := by simp; omega
  conv => lhs; rw [e]
  rw [overL_append _ _ _ _ (by simp; omega)]
  congr 1
  have := overL_pre (vs.take base) ((vs.drop base).take k) us off
  rw [hl] at this
  exact this
/-- Cells of an entry of our own written. -/
theorem write_core (hm : MH E ℓ m w) {id : Nat} {e : Ent} {L : Loc} (hme : m[id]? = some (.ent e)) (hL : ℓ id = some L) (ho : e.own = true) {us : List Value} (h1 : ∀ u ∈ us, u.oneCell' = true) {p : Nat} (hb : p + us.length ≤ e.c.len)
    {a : A} (hok : a.OK) (hlen : a.len = e.c.len) (hd : ∀ vs, DenL ℓ e.c.cells vs → DenL ℓ a.cells (overL vs p us)) :
    (storeCells ⟨L.blk, L.base + p, none⟩ us).run P w = .ok () (w.setCells L.blk p us) ∧ MH E ℓ (m.set id (.ent { e with c := a })) (w.setCells L.blk p us) := by
  obtain ⟨L', hL', hE, hmay⟩ := hm.ent id e hme
  obtain rfl := Option.some.inj (hL'.symm.trans hL)
  have hE2 := hE.2
  rw [if_pos ho] at hE2
  obtain ⟨hbase, hlim, hE2⟩ := hE2
  rw [hbase, Nat.zero_add]
  obtain ⟨f1, f2, f3, f4, f5⟩ := setCells_frame L'.blk us p w
  rcases Nat.eq_zero_or_pos L'.lim with h0 | h0
  · have hc0 : e.c.len = 0 := by omega
    obtain rfl : us = [] := List.eq_nil_of_length_eq_zero (by omega)
    refine ⟨rfl, hm.write hme hL ho rfl rfl rfl rfl (fun _ _ => rfl) ⟨⟨fun n hn => hlen.trans (hE.fixed hn), hok⟩, ?_⟩⟩
    rw [if_pos ho]
    exact ⟨hbase, by show a.len ≤ L'.lim; omega, fun h => by omega⟩
  · obtain ⟨cs, fr, vs, rest, hh, hth, hcl, hcs, hdv⟩ := hE2 h0
    have hvl := hdv.length
    rw [A.len_cells _ hE.ok] at hvl
    have hsz : cs.size = vs.length + rest.length := by rw [← Array.length_toList, hcs, List.length_append]
    refine ⟨?_, hm.write hme hL ho f1 f2 f3 f4 (fun k hk => f5 k (hk h0)) ⟨⟨fun n hn => hlen.trans (hE.fixed hn), hok⟩, ?_⟩⟩
    · have hr := run_storeCells_cells (P := P) L'.blk p us 0 w (fun j hj => by
        rw [Nat.add_zero, cell_of_row w L'.blk (p + j) cs e.ty fr hh]
        simp; omega) (fun j hj => by
        simp only [World.frozen?, hh]
        rcases hth with h | h
        · simp; omega
        · simp; omega) h1
      rw [Nat.add_zero] at hr
      exact hr
    · rw [if_pos ho]
      refine ⟨hbase, by show a.len ≤ L'.lim; omega, fun _ => ⟨_, fr, overL vs p us, rest, heap_setCells _ _ _ us p cs w hh (by omega), ?_, ?_, ?_, hd vs hdv⟩⟩
      · have : (overL cs.toList p us).toArray.size = cs.size := by simp; rw [overL_length (by simp; omega)]; simp
        rw [this]; exact hth
      · have : (overL cs.toList p us).toArray.size = cs.size := by simp; rw [overL_length (by simp; omega)]; simp
        rw [this]; exact hcl
      · simp only []
        rw [hcs, overL_append _ _ _ _ (by omega)]

/-- A value written at a place of a row. -/
def wrAt (ty : Ty) (c : A) (off n : Nat) (a : A) (K : A → Prop) : Prop :=
  match a with
  | .s x => (off < n ∧ x.known = true ∧ ty.size = 1) ∧ (match c.set off x with
    | some c' => K c'
    | none => False)
  | .st l => (off = 0 ∧ segLen l = n ∧ n = ty.size ∧ (A.st l).solid = true) ∧ K (.st l)
  | a => if n = ty.size then (off = 0 ∧ a.len = n ∧ a.solid = true) ∧ K a else (off + ty.size ≤ n ∧ a.len = ty.size ∧ a.solid = true) ∧ (match c.over off a with
    | some c' => K c'
    | none => False)
theorem A.set_noRec {a a' : A} {i : Nat} {x : S} (h : a.set i x = some a') : a'.OK ∧ a.OK := by
  have := A.set_len h
  exact ⟨A.noRec_OK this.2.1, A.noRec_OK this.2.2⟩
theorem wrAt_ok {ty : Ty} {c a : A} {off n : Nat} {v : Value} {K : A → Prop} (hn : c.len = n) (hv : DenA ℓ a v) (h : wrAt ty c off n a K) :
    ∃ us a', v.cells = us.toArray ∧ us.length = ty.size ∧ (∀ u ∈ us, u.oneCell' = true) ∧ off + us.length ≤ n ∧ a'.OK ∧ a'.len = n ∧ (∀ vs, c.OK → DenL ℓ c.cells vs → DenL ℓ a'.cells (overL vs off us)) ∧ K a' := by
  have whole : off = 0 ∧ a.len = n ∧ n = ty.size ∧ a.solid = true → K a → ∃ us a', v.cells = us.toArray ∧ us.length = ty.size ∧ (∀ u ∈ us, u.oneCell' = true) ∧ off + us.length ≤ n ∧ a'.OK ∧ a'.len = n ∧ (∀ vs, c.OK → DenL ℓ c.cells vs → DenL ℓ a'.cells (overL vs off us)) ∧ K a' := by
    rintro ⟨rfl, h1, h2, h3⟩ hK
    obtain ⟨hok, us, e1, e2, e3⟩ := solid_cells h3 hv
    have hul := e2.length
    rw [A.len_cells _ hok] at hul
    refine ⟨us, a, e1, by omega, e3, by omega, hok, h1, fun vs hcok hdv => ?_, hK⟩
    have hvl := hdv.length
    rw [A.len_cells _ hcok] at hvl
    unfold overL
    simp only [List.take_zero, List.nil_append, Nat.zero_add]
    rw [List.drop_of_length_le (by omega), List.append_nil]
    exact e2
  unfold wrAt at h
  split at h
  · rename_i x
    obtain ⟨⟨h1, h2, h3⟩, h⟩ := h
    split at h
    · rename_i c' hc'
      have h1c := known_oneCell h2 hv
      refine ⟨[v], c', (by cases v <;> first | rfl | cases h1c), by simp [h3], by simpa using h1c, by simp; omega, (A.set_noRec hc').1, (A.set_len hc').1.trans hn, fun vs hcok hdv => ?_, h⟩
      have hvl := hdv.length
      rw [A.len_cells _ hcok] at hvl
      rw [A.set_cells hc' (by omega), ← overL_cons vs off v [] (by simp; omega), overL_nil]
      exact hdv.set off x v hv
    · exact h.elim
  · rename_i l
    exact whole ⟨h.1.1, h.1.2.1, h.1.2.2.1, h.1.2.2.2⟩ h.2
  · split at h
    · rename_i hnt
      exact whole ⟨h.1.1, h.1.2.1, hnt, h.1.2.2⟩ h.2
    · obtain ⟨⟨h1, h2, h3⟩, h⟩ := h
      split at h
      · rename_i c' hc'
        obtain ⟨hok, us, e1, e2, e3⟩ := solid_cells h3 hv
        have hul := e2.length
        rw [A.len_cells _ hok] at hul
        have hrow := A.over_row hc'
        have key : ∀ vs, c.OK → DenL ℓ c.cells vs → DenL ℓ c'.cells (overL vs off us) := by
          intro vs hcok hdv
          rw [A.over_cells hc', ← A.len_cells _ hok]
          exact hdv.over off e2
        refine ⟨us, c', e1, by omega, e3, by omega, A.row_OK hrow.2.2, ?_, key, h⟩
        have hcl := A.len_cells c (A.row_OK hrow.1)
        have := congrArg List.length (A.over_cells hc')
        rw [A.len_cells _ (A.row_OK hrow.2.2)] at this
        rw [this]
        simp only [List.length_append, List.length_take, List.length_drop, hcl, A.len_cells _ hok]
        omega
      · exact h.elim
def stStore (T : Tab) (m : Mem) (t : TypeId) (x y : SV) (K : Mem → Prop) : Prop :=
  match x, y, T t with
  | .one (.s (.ptr id base off)), .one a, some ty =>
    match m[id]? with
    | some (.ent e) => e.own = true ∧ (match e.c with
      | .st l =>
        if ty.kind.isStruct = true then (base = 0 ∧ off = 0) ∧ wrAt ty (.st l) 0 (segLen l) a (fun c' => K (m.set id (.ent { e with c := c' }))) else
        match segAt l base with
        | some r => wrAt ty r.a off r.len a (fun c' => match c'.r with
          | some r' => (match segPut l base r' with
            | some l' => K (m.set id (.ent { e with c := .st l' }))
            | none => False)
          | none => False)
        | none => False
      | c => wrAt ty c (base + off) e.bound a (fun c' => K (m.set id (.ent { e with c := c' }))))
    | _ => False
  | _, _, _ => False
theorem stStore_ok {T : Tab} (hT : TabOK P T) (hm : MH E ℓ m w) {t : TypeId} {x y : SV} {vx vy : Value} {K : Mem → Prop} (hx : DenV ℓ x vx) (hy : DenV ℓ y vy) (h : stStore T m t x y K) :
    ∃ m' w', (Instr.storeAt t vx vy).run P w = .ok () w' ∧ MH E ℓ m' w' ∧ K m' := by
  unfold stStore at h
  split at h
  · rename_i id base off a ty hty
    have hty := hT t ty hty
    obtain ⟨L, hL, rfl⟩ := hx
    have run : ∀ {p : Nat} {us : List Value} {w' : World}, vy.cells = us.toArray → us.length = ty.size → L.base + p = L.base + (base + off) → (storeCells ⟨L.blk, L.base + p, none⟩ us).run P w = .ok () w' → (Instr.storeAt t (.pointer (some ⟨L.blk, L.base + (base + off), none⟩)) vy).run P w = .ok () w' := by
      intro p us w' h1 h2 h3 h4
      rw [h3] at h4
      simp [Instr.storeAt, Instr.sureAddr, storeVar, h1, h2, hty.size w, h4]
    split at h
    · rename_i e hme
      obtain ⟨ho, h⟩ := h
      obtain ⟨L', hL', hE, _⟩ := hm.ent id e hme
      obtain rfl := Option.some.inj (hL'.symm.trans hL)
      have hok := hE.ok
      split at h
      · rename_i l hl
        split at h
        · obtain ⟨⟨rfl, rfl⟩, h⟩ := h
          obtain ⟨us, a', e1, e2, e3, e4, e5, e6, e7, hK⟩ := wrAt_ok (c := .st l) rfl hy h
          have hwc := write_core (P := P) hm hme hL ho e3 (p := 0) (a := a') (by rw [hl]; exact e4) e5 (by rw [hl]; exact e6) (by rw [hl]; exact fun vs hd => e7 vs (by rw [hl] at hok; exact hok) hd)
          exact ⟨_, _, run (p := 0) e1 e2 rfl hwc.1, hwc.2, hK⟩
        · split at h
          · rename_i r hr
            obtain ⟨us, c', e1, e2, e3, e4, e5, e6, e7, hK⟩ := wrAt_ok (R.a_len r) hy h
            rw [hl] at hok
            split at hK
            · rename_i r' hr'
              split at hK
              · rename_i l' hl'
                have hca := A.r_a hr'
                have hrl : r'.len = r.len := by rw [← R.a_len, hca]; exact e6
                obtain ⟨hok', pre, post, f1, f2, f3, f4⟩ := segPut_cells hok hr hl' hrl
                have hcl := congrArg List.length f1
                simp only [List.length_append, R.len_cells] at hcl
                rw [segLen_cells hok] at hcl
                have hwc := write_core (P := P) hm hme hL ho e3 (p := base + off) (a := .st l') (by rw [hl]; show base + off + us.length ≤ segLen l; omega) hok' (by rw [hl]; exact f4) (fun vs hd => by
                  rw [hl] at hd
                  have hvl := hd.length
                  rw [A.len_cells _ (by exact hok)] at hvl
                  have hd1 : DenL ℓ (segCells l) vs := hd
                  have hdr : DenL ℓ r.a.cells ((vs.drop base).take r.len) := by
                    rw [R.a_cells]
                    have h1 := (hd1.drop base).take r.len
                    rw [f1, List.append_assoc, List.drop_append_of_le_length (by omega), ← f3, List.drop_length, List.nil_append, ← R.len_cells, List.take_left] at h1
                    rw [← f3, ← R.len_cells]; exact h1
                  have h2 := e7 _ (R.a_OK r) hdr
                  rw [← hca, R.a_cells] at h2
                  show DenL ℓ (segCells l') (overL vs (base + off) us)
                  rw [f2]
                  have hl2 : vs.length = segLen l := hvl.symm
                  have : overL vs (base + off) us = vs.take base ++ overL ((vs.drop base).take r.len) off us ++ vs.drop (base + r.len) := overL_in vs us base off r.len (by omega) (by omega)
                  rw [this]
                  have hpre : DenL ℓ pre (vs.take base) := by
                    have h3 := hd1.take base
                    rw [f1, List.append_assoc, ← f3, List.take_left] at h3
                    rw [← f3]; exact h3
                  have hpost : DenL ℓ post (vs.drop (base + r.len)) := by
                    have h3 := hd1.drop (base + r.len)
                    rw [f1, show base + r.len = (pre ++ r.cells).length by simp [R.len_cells]; omega, List.drop_left] at h3
                    rw [show base + r.len = (pre ++ r.cells).length by simp [R.len_cells]; omega]; exact h3
                  exact (hpre.append h2).append hpost)
                exact ⟨_, _, run (p := base + off) e1 e2 rfl hwc.1, hwc.2, hK⟩
              · exact hK.elim
            · exact hK.elim
          · exact h.elim
      · obtain ⟨us, a', e1, e2, e3, e4, e5, e6, e7, hK⟩ := wrAt_ok hE.bound.symm hy h
        rw [hE.bound] at e4 e6
        have hwc := write_core (P := P) hm hme hL ho e3 (p := base + off) (a := a') e4 e5 e6 (fun vs hd => e7 vs hok hd)
        exact ⟨_, _, run (p := base + off) e1 e2 rfl hwc.1, hwc.2, hK⟩
    · exact h.elim
  · exact h.elim
end
end Go.V
