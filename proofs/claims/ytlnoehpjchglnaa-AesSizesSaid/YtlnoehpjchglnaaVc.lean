/- A small verifier of our own, part 3: operations that read memory or make new memory. No condition. -/
import Derived.Test.YtlnoehpjchglnaaVb
set_option linter.unusedSimpArgs false
set_option linter.unusedVariables false
namespace Go.V
open Go

def S.known : S → Bool
  | .any => false
  | .raw x => x.oneCell'
  | _ => true
def R.solid : R → Bool
  | .s x => x.known
  | .agg l => l.all S.known
  | _ => true
def A.solid : A → Bool
  | .s x => x.known
  | .agg l => l.all S.known
  | .st l => l.all (fun g => g.r.solid)
  | _ => true
theorem R.solid_cells {r : R} (h : r.solid = true) : r.cells.all S.known = true := by
  cases r with
  | s x => simp only [R.cells, List.all_cons, List.all_nil, Bool.and_true]; exact h
  | agg l => exact h
  | _ => simp [R.cells, S.known]
theorem seg_solid : ∀ {l : List Seg}, l.all (fun g => g.r.solid) = true → (segCells l).all S.known = true
  | [], _ => rfl
  | g :: l, h => by
    simp only [List.all_cons, Bool.and_eq_true] at h
    simp only [segCells, List.all_append, Bool.and_eq_true]
    exact ⟨R.solid_cells h.1, seg_solid h.2⟩
theorem known_oneCell {ℓ : Nat → Option Loc} {x : S} {v : Value} (hk : x.known = true) (h : DenS ℓ x v) : v.oneCell' = true :=
  h.oneCell (fun e => by rw [e] at hk; cases hk) (fun r e => by rw [e] at hk; exact hk)
theorem solid_cells {ℓ : Nat → Option Loc} {a : A} {v : Value} (hk : a.solid = true) (h : DenA ℓ a v) : a.OK ∧ ∃ vs : List Value, v.cells = vs.toArray ∧ DenL ℓ a.cells vs ∧ ∀ u ∈ vs, u.oneCell' = true := by
  have all : ∀ {xs : List S} {vs : List Value}, xs.all S.known = true → DenL ℓ xs vs → ∀ u ∈ vs, u.oneCell' = true := by
    intro xs
    induction xs with
    | nil => intro vs _ hd u hu; cases vs with
      | nil => cases hu
      | cons => exact hd.elim
    | cons x xs ih => intro vs ha hd u hu; cases vs with
      | nil => exact hd.elim
      | cons v vs =>
        simp only [List.all_cons, Bool.and_eq_true] at ha
        cases hu with
        | head => exact known_oneCell ha.1 hd.1
        | tail _ hu => exact ih ha.2 hd.2 u hu
  have row : a.cells.all S.known = true → (a.OK ∧ ∃ vs : List Value, v = .agg vs.toArray ∧ DenL ℓ a.cells vs) → a.OK ∧ ∃ vs : List Value, v.cells = vs.toArray ∧ DenL ℓ a.cells vs ∧ ∀ u ∈ vs, u.oneCell' = true := by
    rintro ha ⟨hok, vs, rfl, hd⟩
    exact ⟨hok, vs, rfl, hd, all ha hd⟩
  cases a with
  | s x =>
    have h1 := known_oneCell hk h
    refine ⟨trivial, [v], ?_, ⟨h, trivial⟩, by simpa using h1⟩
    cases v <;> first | rfl | cases h1
  | agg l => exact row hk h
  | st l => exact row (seg_solid hk) h
  | a8 l => exact row (by simp [A.cells, S.known]) h
  | a32 l => exact row (by simp [A.cells, S.known]) h
  | a64 l => exact row (by simp [A.cells, S.known]) h
  | ai l => exact row (by simp [A.cells, S.known]) h
  | ab l => exact row (by simp [A.cells, S.known]) h

def Ent.bound (e : Ent) : Nat := match e.fix with | some n => n | none => e.c.len
theorem EntOK.bound {ℓ : Nat → Option Loc} {w : World} {L : Loc} {e : Ent} (h : EntOK ℓ w L e) : e.bound = e.c.len := by
  unfold Ent.bound
  split
  · rename_i n hn; exact (h.fixed hn).symm
  · rfl

def one (x : S) : SV := .one (.s x)
def addE (m : Mem) (n : Nat) : Option Ent → Mem
  | none => m
  | some e => fill m n e

/-- What an operation comes to that writes to nothing that was there. -/
def Comes (P : Program) (E : Env) (ℓ : Nat → Option Loc) (m : Mem) (nid : Nat) (K : SV → Option Ent → Prop) (s : Sem Next) (w : World) : Prop :=
  ∃ sv eo v w' ℓ', s.run P w = .ok (.value v) w' ∧ K sv eo ∧ Le ℓ ℓ' ∧ MH E ℓ' (addE m nid eo) w' ∧ DenV ℓ' sv v

section
variable {P : Program} {E : Env} {ℓ : Nat → Option Loc} {m : Mem} {nid : Nat} {K : SV → Option Ent → Prop} {w : World}
theorem comes_pure (hm : MH E ℓ m w) {s : Sem Next} {v : Value} {sv : SV} (hr : s.run P w = .ok (.value v) w) (hd : DenV ℓ sv v) (hK : K sv none) : Comes P E ℓ m nid K s w :=
  ⟨sv, none, v, w, ℓ, hr, hK, Le.refl ℓ, hm, hd⟩
theorem comes_value (hm : MH E ℓ m w) {s : Sem Value} {v : Value} {sv : SV} (hr : s.run P w = .ok v w) (hd : DenV ℓ sv v) (hK : K sv none) :
    Comes P E ℓ m nid K (do pure (.value (← s))) w := comes_pure hm (by simp [hr]) hd hK
theorem comes1 (hm : MH E ℓ m w) {s : Sem Value} {K1 : S → Prop} (h : Comes1 P ℓ K1 s) (hK : ∀ x, K1 x → K (one x) none) : Comes P E ℓ m nid K (do pure (.value (← s))) w := by
  obtain ⟨x, v, hr, hd, hk⟩ := h
  exact comes_value hm (hr w) (sv := one x) hd (hK x hk)
/-- A new row of cells. -/
theorem comes_new (hm : MH E ℓ m w) (hf : Fresh m nid) {s : Sem Value} {cs : Array Value} {t : TypeId} {fix : Option Nat} {a : A} {vs rest : List Value} {mk : Addr → Value} {sv : SV}
    (hr : s.run P w = .ok (mk ⟨w.heap.size, 0, none⟩) (w.alloc (.cells cs t)))
    (hfix : ∀ k, fix = some k → a.len = k) (hok : a.OK) (hcs : cs.toList = vs ++ rest) (hd : DenL ℓ a.cells vs)
    (hv : DenV (upd ℓ nid ⟨w.heap.size, 0, cs.size⟩) sv (mk ⟨w.heap.size, 0, none⟩)) (hK : K sv (some ⟨true, t, fix, a⟩)) : Comes P E ℓ m nid K (do pure (.value (← s))) w := by
  have hle := hm.le_upd hf ⟨w.heap.size, 0, cs.size⟩
  exact ⟨sv, _, _, _, _, by simp only [Sem.run_bind, hr, Result.andThen_ok]; rfl, hK, hle, hm.alloc hf (w' := w.alloc (.cells cs t)) rfl rfl rfl rfl (.inl (Nat.le_refl _)) hfix hok hcs (hd.mono hle), hv⟩

theorem Addr.add_off (b o n : Nat) : (⟨b, o, none⟩ : Addr).add n = ⟨b, o + n, none⟩ := by
  unfold Addr.add; split
  · simp_all
  · rfl

/-! load -/
/-- A part of a variable, of a type, at a place of a row. -/
def stAt (ty : Ty) (c : A) (off n : Nat) (K : SV → Prop) : Prop :=
  match ty.kind with
  | .arr _ _ | .struct _ => if n = ty.size then (off = 0 ∧ c.isAgg = true) ∧ K (.one c) else (off + ty.size ≤ n ∧ c.isRow = true) ∧ K (.one (c.sub off ty.size))
  | .other => False
  | _ => (off < n ∧ c.noRec = true) ∧ K (one (c.get off))
theorem stAt_ok {t : TypeId} {ty : Ty} (hty : TyOK P t ty) {c : A} {off n : Nat} {K : SV → Prop} {vs : List Value} {a : Addr} (hok : c.OK) (hn : c.len = n) (hd : DenL ℓ c.cells vs)
    (hc : ∀ (i : Nat) (v : Value), vs[i]? = some v → w.cell? (a.add i) = some v) (ha : ∀ i j, (a.add i).add j = a.add (i + j)) (h : stAt ty c off n K) :
    ∃ sv v, (loadVar t (a.add off)).run P w = .ok v w ∧ DenV ℓ sv v ∧ K sv := by
  have hlen := hd.length
  rw [A.len_cells _ hok] at hlen
  unfold stAt at h
  have agg : ty.kind ≠ .other → ty.kind.isAgg = true → (if n = ty.size then (off = 0 ∧ c.isAgg = true) ∧ K (.one c) else (off + ty.size ≤ n ∧ c.isRow = true) ∧ K (.one (c.sub off ty.size))) →
      ∃ sv v, (loadVar t (a.add off)).run P w = .ok v w ∧ DenV ℓ sv v ∧ K sv := by
    intro hko hka h
    have run : off + ty.size ≤ vs.length → (loadVar t (a.add off)).run P w = .ok (.agg ((vs.drop off).take ty.size).toArray) w := by
      intro hle
      have hl := run_loadCells_list (P := P) w (a.add off) ((vs.drop off).take ty.size) (fun j u hu => by
        rw [ha]
        refine hc (off + j) u ?_
        rw [List.getElem?_take] at hu
        split at hu
        · rwa [List.getElem?_drop] at hu
        · cases hu)
      rw [show ((vs.drop off).take ty.size).length = ty.size by simp; omega] at hl
      simp [loadVar, hty.isAgg hko w, hka, hty.size w, hl]
    split at h
    · rename_i hfx
      obtain ⟨⟨rfl, hagg⟩, hK⟩ := h
      refine ⟨.one c, _, run (by omega), (DenA.agg hagg).2 ⟨hok, _, rfl, ?_⟩, hK⟩
      rw [List.drop_zero, List.take_of_length_le (by omega)]
      exact hd
    · obtain ⟨⟨hle, hrow⟩, hK⟩ := h
      refine ⟨.one (c.sub off ty.size), _, run (by omega), (DenA.row (by rw [A.sub_row]; exact hrow)).2 ⟨_, rfl, ?_⟩, hK⟩
      rw [A.sub_cells _ _ _ hrow]
      exact (hd.drop off).take ty.size
  split at h
  · rename_i hk; exact agg (by rw [hk]; simp) (by rw [hk]; rfl) h
  · rename_i hk; exact agg (by rw [hk]; simp) (by rw [hk]; rfl) h
  · exact h.elim
  · rename_i h1 h2 h3
    obtain ⟨⟨hlt, hnr⟩, hK⟩ := h
    obtain ⟨u, hu, hdu⟩ := hd.get off _ (A.get_cells c off hnr (by omega))
    have hag : ty.kind.isAgg = false := by
      cases hq : ty.kind <;> first | rfl | exact absurd hq (h1 _ _) | exact absurd hq (h2 _)
    exact ⟨one (c.get off), u, by simp [loadVar, hty.isAgg h3 w, hag, hc off u hu], hdu, hK⟩
def Kind.isStruct : Kind → Bool
  | .struct _ => true
  | _ => false
def stLoad (T : Tab) (m : Mem) (t : TypeId) (x : SV) (K : SV → Prop) : Prop :=
  match x, T t with
  | .one (.s (.ptr id base off)), some ty =>
    match m[id]? with
    | some (.ent e) =>
      match e.c with
      | .st l =>
        if ty.kind.isStruct = true then (base = 0 ∧ off = 0) ∧ segLen l = ty.size ∧ K (.one (.st l)) else
        match segAt l base with
        | some r => stAt ty r.a off r.len K
        | none => False
      | c => stAt ty c (base + off) e.bound K
    | _ => False
  | _, _ => False
theorem stLoad_run {T : Tab} (hT : TabOK P T) (hm : MH E ℓ m w) {t : TypeId} {x : SV} {v : Value} (hx : DenV ℓ x v) {K : SV → Prop} (h : stLoad T m t x K) :
    ∃ sv u, (Instr.loadAt t v).run P w = .ok u w ∧ DenV ℓ sv u ∧ K sv := by
  unfold stLoad at h
  split at h
  · rename_i id base off ty hty
    have hty := hT t ty hty
    obtain ⟨L, hL, rfl⟩ := hx
    split at h
    · rename_i e hme
      obtain ⟨L', hL', hE, _⟩ := hm.ent id e hme
      obtain rfl := Option.some.inj (hL'.symm.trans hL)
      obtain ⟨vs, hd, hc⟩ := hE.row
      have hok := hE.ok
      have hb := hE.bound
      split at h
      · rename_i l hl
        rw [hl] at hd hok
        split at h
        · rename_i hks
          obtain ⟨⟨rfl, rfl⟩, hsz, hK⟩ := h
          obtain ⟨sv, u, hr, hdu, hk⟩ := stAt_ok (w := w) (ty := ty) hty (c := .st l) (off := 0) (n := ty.size) (K := K) (a := ⟨L'.blk, L'.base, none⟩) hok hsz hd
            (fun i v hv => by rw [Addr.add_off]; exact hc i v hv) (fun i j => by simp only [Addr.add_off, Nat.add_assoc])
            (by unfold stAt; cases hq : ty.kind <;> rw [hq] at hks <;> first | (cases hks; done) | exact (by rw [if_pos rfl]; exact ⟨⟨rfl, rfl⟩, hK⟩))
          exact ⟨sv, u, by simpa [Instr.loadAt, Instr.sureAddr, Addr.add_off] using hr, hdu, hk⟩
        · split at h
          · rename_i r hr
            obtain ⟨pre, post, hcs, hpl⟩ := segAt_cells hok hr
            have hd' : DenL ℓ r.a.cells ((vs.drop base).take r.len) := by
              rw [R.a_cells]
              have h1 := (hd.drop base).take r.len
              rw [show (A.st l).cells = segCells l from rfl, hcs, List.append_assoc, List.drop_append_of_le_length (by omega), ← hpl, List.drop_length, List.nil_append, ← R.len_cells, List.take_left] at h1
              rw [← hpl, ← R.len_cells]; exact h1
            obtain ⟨sv, u, hr, hdu, hk⟩ := stAt_ok (w := w) hty (a := ⟨L'.blk, L'.base + base, none⟩) (R.a_OK r) (R.a_len r) hd'
              (fun i v hv => by
                rw [Addr.add_off, Nat.add_assoc]
                refine hc (base + i) v ?_
                rw [List.getElem?_take] at hv
                split at hv
                · rwa [List.getElem?_drop] at hv
                · cases hv) (fun i j => by simp only [Addr.add_off, Nat.add_assoc]) h
            exact ⟨sv, u, by simpa [Instr.loadAt, Instr.sureAddr, Addr.add_off, Nat.add_assoc] using hr, hdu, hk⟩
          · exact h.elim
      · obtain ⟨sv, u, hr, hdu, hk⟩ := stAt_ok (w := w) hty (a := ⟨L'.blk, L'.base, none⟩) hok hb.symm hd
          (fun i v hv => by rw [Addr.add_off]; exact hc i v hv) (fun i j => by simp only [Addr.add_off, Nat.add_assoc]) h
        exact ⟨sv, u, by simpa [Instr.loadAt, Instr.sureAddr, Addr.add_off] using hr, hdu, hk⟩
    · exact h.elim
  · exact h.elim
theorem stLoad_ok {T : Tab} (hT : TabOK P T) (hm : MH E ℓ m w) {t : TypeId} {x : SV} {v : Value} (hx : DenV ℓ x v) (h : stLoad T m t x (fun r => K r none)) :
    Comes P E ℓ m nid K (do pure (.value (← Instr.loadAt t v))) w := by
  obtain ⟨sv, u, hr, hdu, hk⟩ := stLoad_run hT hm hx h
  exact comes_value hm hr hdu hk

/-! new variables -/
def stBox (T : Tab) (nid : Nat) (t : TypeId) (x : SV) (K : SV → Option Ent → Prop) : Prop :=
  match x, T t with
  | .one a, some ty => (a.len = ty.size ∧ a.solid = true) ∧ K (one (.ptr nid 0 0)) (some ⟨true, t, some ty.size, a⟩)
  | _, _ => False
theorem stBox_ok {T : Tab} (hm : MH E ℓ m w) (hf : Fresh m nid) {t : TypeId} {x : SV} {v : Value} (hx : DenV ℓ x v) (h : stBox T nid t x K) :
    Comes P E ℓ m nid K (do pure (.value (← Instr.box t v))) w := by
  unfold stBox at h
  split at h
  · rename_i a ty hty
    obtain ⟨⟨hl, hs⟩, hK⟩ := h
    obtain ⟨hok, vs, hc, hd, _⟩ := solid_cells hs hx
    refine comes_new hm hf (cs := vs.toArray) (rest := []) (mk := fun a => .pointer (some a)) ?_ ?_ hok (by simp) hd ?_ hK
    · simp [Instr.box, newVar, newRow, hc]
    · intro k hk; cases hk; exact hl
    · exact ⟨⟨w.heap.size, 0, vs.toArray.size⟩, by simp [upd], rfl⟩
  · exact h.elim
def stAlloc (T : Tab) (nid : Nat) (t : TypeId) (K : SV → Option Ent → Prop) : Prop :=
  match T t with
  | some ty => ty.zero.solid = true ∧ K (one (.ptr nid 0 0)) (some ⟨true, t, some ty.size, ty.zero⟩)
  | _ => False
theorem stAlloc_ok {T : Tab} (hT : TabOK P T) (hm : MH E ℓ m w) (hf : Fresh m nid) {t : TypeId} (h : stAlloc T nid t K) :
    Comes P E ℓ m nid K (do pure (.value (← Instr.alloc t true (.tuple #[])))) w := by
  unfold stAlloc at h
  split at h
  · rename_i ty hty
    obtain ⟨hs, hK⟩ := h
    have hty := hT t ty hty
    obtain ⟨z, hz, hzv⟩ := hty.zv w
    obtain ⟨hok, vs, hc, hd, _⟩ := solid_cells hs (A.val_den hzv hty.ok ℓ)
    refine comes_new hm hf (cs := vs.toArray) (rest := []) (mk := fun a => .pointer (some a)) ?_ ?_ hok (by simp) hd ?_ hK
    · simp [Instr.alloc, hz, newVar, newRow, hc]
    · intro k hk; cases hk; exact hty.len
    · exact ⟨⟨w.heap.size, 0, vs.toArray.size⟩, by simp [upd], rfl⟩
  · exact h.elim

/-! addresses -/
def stField (T : Tab) (t : TypeId) (x : SV) (f : Nat) (K : SV → Prop) : Prop :=
  match x, T t with
  | .one (.s (.ptr id base off)), some ty =>
    match ty.kind with
    | .struct fs => match fs[f]? with
      | some (o, ft) => match T ft with
        | some fty => fty.size ≠ 0 ∧ K (one (.ptr id (base + off + o) 0))
        | none => False
      | none => False
    | _ => False
  | _, _ => False
theorem stField_ok {T : Tab} (hT : TabOK P T) (hm : MH E ℓ m w) {t : TypeId} {x : SV} {f : Nat} {v : Value} (hx : DenV ℓ x v) (h : stField T t x f (fun r => K r none)) :
    Comes P E ℓ m nid K (do pure (.value (← Instr.fieldAt t v f))) w := by
  unfold stField at h
  split at h
  · rename_i id base off ty hty
    obtain ⟨L, hL, rfl⟩ := hx
    have hty := hT t ty hty
    split at h
    · rename_i fs hk
      have hkk := hty.kind
      rw [hk] at hkk
      obtain ⟨F, hF, hmap, _⟩ := hkk
      split at h
      · rename_i o ft hfs
        split at h
        · rename_i fty hfty
          obtain ⟨hne, hK⟩ := h
          have hsz := (hT ft fty hfty).size w
          rw [← hmap, List.getElem?_map] at hfs
          cases hq : F.toList[f]? with
          | none => rw [hq] at hfs; cases hfs
          | some fld =>
            rw [hq] at hfs
            simp only [Option.map_some, Option.some.injEq, Prod.mk.injEq] at hfs
            have hq' : F[f]? = some fld := by rw [← Array.getElem?_toList]; exact hq
            refine comes_value hm (v := .pointer (some ⟨L.blk, L.base + (base + off) + o, none⟩)) (sv := one (.ptr id (base + off + o) 0)) ?_ ⟨L, hL, by simp only [Nat.add_assoc, Nat.add_zero]⟩ hK
            simp [Instr.fieldAt, Instr.sureAddr, run_underlying hF, hq', fieldPlace, hfs.2, hsz, hne, hfs.1, Addr.add_off]
        · exact h.elim
      · exact h.elim
    · exact h.elim
  · exact h.elim

def SV.num : SV → Option Int
  | .one (.s x) => x.num
  | _ => none
def stIndexAddr (T : Tab) (t : TypeId) (x i : SV) (K : SV → Prop) : Prop :=
  match i.num, T t with
  | some n, some ty =>
    match ty.kind, x with
    | .arr len e, .one (.s (.ptr id base off)) => match T e with
      | some ety => (0 ≤ n ∧ n < len) ∧ K (one (.ptr id base (off + n.toNat * ety.size)))
      | none => False
    | .sl e, .one (.s (.sl id off len cap es)) => match T e with
      | some ety => (0 ≤ n ∧ n < len) ∧ es = ety.size ∧ K (one (.ptr id 0 (off + n.toNat * ety.size)))
      | none => False
    | _, _ => False
  | _, _ => False
theorem stIndexAddr_ok {T : Tab} (hT : TabOK P T) (hm : MH E ℓ m w) {t : TypeId} {x i : SV} {vx vi : Value} (hx : DenV ℓ x vx) (hi : DenV ℓ i vi) (h : stIndexAddr T t x i (fun r => K r none)) :
    Comes P E ℓ m nid K (do pure (.value (← Instr.indexAt t vx vi))) w := by
  unfold stIndexAddr at h
  split at h
  · rename_i n ty hn hty
    have hty := hT t ty hty
    obtain ⟨k, rfl⟩ : ∃ k, vi = .int k n := by
      unfold SV.num at hn
      split at hn
      · exact num_den hi hn
      · cases hn
    split at h
    · rename_i len e id base off hk
      obtain ⟨L, hL, rfl⟩ := hx
      have hu := hty.kind
      rw [hk] at hu
      split at h
      · rename_i ety hety
        obtain ⟨hb, hK⟩ := h
        have hsz := (hT e ety hety).size w
        refine comes_value hm (v := .pointer (some ⟨L.blk, L.base + (base + off) + n.toNat * ety.size, none⟩)) (sv := one (.ptr id base (off + n.toNat * ety.size))) ?_ ⟨L, hL, by rw [Nat.add_assoc, Nat.add_assoc]⟩ hK
        simp [Instr.indexAt, asIntOf, run_underlying hu, Instr.sureAddr, hb.1, hb.2, hsz, Addr.add_off]
      · exact h.elim
    · rename_i e id off len cap es hk
      obtain ⟨L, hL, hlc, hv⟩ := hx
      have hu := hty.kind
      rw [hk] at hu
      split at h
      · rename_i ety hety
        obtain ⟨hb, hes, hK⟩ := h
        have hsz := (hT e ety hety).size w
        rcases hv with ⟨hc0, _⟩ | ⟨_, rfl⟩
        · omega
        refine comes_value hm (v := .pointer (some ⟨L.blk, L.base + off + n.toNat * ety.size, none⟩)) (sv := one (.ptr id 0 (off + n.toNat * ety.size))) ?_ ⟨L, hL, by rw [Nat.zero_add, Nat.add_assoc]⟩ hK
        simp [Instr.indexAt, asIntOf, run_underlying hu, Instr.sureAddr, hb.1, hb.2, hsz, Addr.add_off]
      · exact h.elim
    · exact h.elim
  · exact h.elim

/-! parts of values -/
def stPartRow (ty : Ty) (a : A) (off : Nat) (K : SV → Prop) : Prop :=
  match ty.kind with
  | .arr _ _ | .struct _ => a.isRow = true ∧ K (.one (a.sub off ty.size))
  | .other => False
  | _ => (off < a.len ∧ a.isRow = true) ∧ K (one (a.get off))
def stPart (T : Tab) (t : TypeId) (a : A) (off : Nat) (K : SV → Prop) : Prop :=
  match T t with
  | some ty =>
    match a with
    | .st l => match segAt l off with
      | some (.s x) => (ty.kind ≠ .other ∧ ty.kind.isAgg = false) ∧ K (one x)
      | some r => (ty.kind ≠ .other ∧ ty.kind.isAgg = true ∧ r.len = ty.size) ∧ K (.one r.a)
      | none => False
    | a => stPartRow ty a off K
  | none => False
theorem A.row_noRec {a : A} (h : a.isRow = true) : a.noRec = true := by cases a <;> first | rfl | cases h
theorem stPart_ok {T : Tab} (hT : TabOK P T) {K : SV → Prop} {t : TypeId} {a : A} {off : Nat} {cs : Array Value} (hag : a.isAgg = true) (hx : DenA ℓ a (.agg cs)) (h : stPart T t a off K) :
    ∃ sv v, (part t cs off).run P w = .ok v w ∧ DenV ℓ sv v ∧ K sv := by
  unfold stPart at h
  obtain ⟨hok, vs, hvs, hd⟩ := (DenA.agg hag).1 hx
  simp only [Value.agg.injEq] at hvs
  subst hvs
  split at h
  · rename_i ty hty
    have hty := hT t ty hty
    have runA : ty.kind ≠ .other → ty.kind.isAgg = true → (part t vs.toArray off).run P w = .ok (.agg ((vs.drop off).take ty.size).toArray) w := by
      intro hko hka
      simp only [part, Sem.run_bind, hty.isAgg hko w, hka, if_true, hty.size w, Result.andThen_ok, Sem.run_pure]
      congr 2
      apply Array.ext'
      simp [Array.toList_extract]
    have runS : ∀ {u : Value}, ty.kind ≠ .other → ty.kind.isAgg = false → vs[off]? = some u → (part t vs.toArray off).run P w = .ok u w := by
      intro u hko hka hu
      simp [part, hty.isAgg hko w, hka, hu]
    split at h
    · rename_i l
      have scal : ∀ {x : S}, segAt l off = some (.s x) → (ty.kind ≠ .other ∧ ty.kind.isAgg = false) ∧ K (one x) → ∃ sv v, (part t vs.toArray off).run P w = .ok v w ∧ DenV ℓ sv v ∧ K sv := by
        rintro x hx ⟨⟨h1, h2⟩, hK⟩
        obtain ⟨pre, post, hcs, hpl⟩ := segAt_cells hok hx
        have h3 : (segCells l)[off]? = some x := by rw [hcs, ← hpl]; simp [R.cells]
        obtain ⟨u, hu, hdu⟩ := hd.get off x h3
        exact ⟨one x, u, runS h1 h2 hu, hdu, hK⟩
      have rowr : ∀ {r : R}, segAt l off = some r → r.a.isAgg = true → (ty.kind ≠ .other ∧ ty.kind.isAgg = true ∧ r.len = ty.size) ∧ K (.one r.a) → ∃ sv v, (part t vs.toArray off).run P w = .ok v w ∧ DenV ℓ sv v ∧ K sv := by
        rintro r hr hra ⟨⟨h1, h2, h3⟩, hK⟩
        obtain ⟨pre, post, hcs, hpl⟩ := segAt_cells hok hr
        refine ⟨.one r.a, _, runA h1 h2, (DenA.agg hra).2 ⟨R.a_OK r, _, rfl, ?_⟩, hK⟩
        have h4 := (hd.drop off).take r.len
        rw [show (A.st l).cells = segCells l from rfl, hcs, List.append_assoc, List.drop_append_of_le_length (by omega), ← hpl, List.drop_length, List.nil_append, ← R.len_cells, List.take_left] at h4
        rw [R.a_cells, ← hpl, ← h3, ← R.len_cells]; exact h4
      split at h
      · rename_i x hx; exact scal hx h
      · rename_i r hns hr
        refine rowr hr ?_ h
        cases r <;> first | rfl | exact absurd rfl (hns _)
      · exact h.elim
    · unfold stPartRow at h
      have agg : ty.kind ≠ .other → ty.kind.isAgg = true → (a.isRow = true ∧ K (.one (a.sub off ty.size))) → ∃ sv v, (part t vs.toArray off).run P w = .ok v w ∧ DenV ℓ sv v ∧ K sv := by
        rintro hko hka ⟨hrow, hK⟩
        exact ⟨.one (a.sub off ty.size), _, runA hko hka, (DenA.row (by rw [A.sub_row]; exact hrow)).2 ⟨_, rfl, by rw [A.sub_cells _ _ _ hrow]; exact (hd.drop off).take ty.size⟩, hK⟩
      split at h
      · rename_i hk; exact agg (by rw [hk]; simp) (by rw [hk]; rfl) h
      · rename_i hk; exact agg (by rw [hk]; simp) (by rw [hk]; rfl) h
      · exact h.elim
      · rename_i h1 h2 h3
        obtain ⟨⟨hlt, hrow⟩, hK⟩ := h
        obtain ⟨u, hu, hdu⟩ := hd.get off _ (A.get_cells a off (A.row_noRec hrow) hlt)
        have ha : ty.kind.isAgg = false := by
          cases hq : ty.kind <;> first | rfl | exact absurd hq (h1 _ _) | exact absurd hq (h2 _)
        exact ⟨one (a.get off), u, runS h3 ha hu, hdu, hK⟩
  · exact h.elim
def stIndex (T : Tab) (t : TypeId) (x i : SV) (K : SV → Prop) : Prop :=
  match i.num, T t with
  | some n, some ty =>
    match ty.kind, x with
    | .arr len e, .one a => match T e with
      | some ety => (0 ≤ n ∧ n < len) ∧ a.isAgg = true ∧ stPart T e a (n.toNat * ety.size) K
      | none => False
    | .str, .one (.s (.str l)) => (0 ≤ n ∧ n < l.length) ∧ K (one (.u8 (l.getD n.toNat 0)))
    | _, _ => False
  | _, _ => False
theorem stIndex_ok {T : Tab} (hT : TabOK P T) (hm : MH E ℓ m w) {t : TypeId} {x i : SV} {vx vi : Value} (hx : DenV ℓ x vx) (hi : DenV ℓ i vi) (h : stIndex T t x i (fun r => K r none)) :
    Comes P E ℓ m nid K (do pure (.value (← Instr.index t vx vi))) w := by
  unfold stIndex at h
  split at h
  · rename_i n ty hn hty
    have hty := hT t ty hty
    obtain ⟨k, rfl⟩ : ∃ k, vi = .int k n := by
      unfold SV.num at hn
      split at hn
      · exact num_den hi hn
      · cases hn
    split at h
    · rename_i len e a hk
      have hu := hty.kind
      rw [hk] at hu
      split at h
      · rename_i ety hety
        obtain ⟨hb, hrow, hp⟩ := h
        have hsz := (hT e ety hety).size w
        obtain ⟨hok, vs, rfl, hd⟩ := (DenA.agg hrow).1 hx
        obtain ⟨sv, v, hr, hdv, hK⟩ := stPart_ok (w := w) hT hrow ((DenA.agg hrow).2 ⟨hok, vs, rfl, hd⟩) hp
        refine comes_value hm (v := v) (sv := sv) ?_ hdv hK
        simp [Instr.index, asIntOf, run_underlying hu, hb.1, hb.2, hsz, hr]
      · exact h.elim
    · rename_i l hk
      have hu := hty.kind
      rw [hk] at hu
      obtain ⟨hb, hK⟩ := h
      obtain ⟨s, rfl, hs⟩ := hx
      subst hs
      have hlt : n.toNat < s.size := by have h2 := hb.2; rw [List.length_map, Array.length_toList] at h2; show n.toNat < s.data.size; omega
      refine comes_value hm (v := .int .u8 (s[n.toNat]'hlt).toNat) (sv := one (.u8 _)) ?_ ?_ hK
      · simp [Instr.index, asIntOf, run_underlying hu, hb.1, hlt, getElem?_pos]
      · simp only [one, DenV, DenA, DenS, Value.int.injEq, true_and]
        have : (s.data.toList.map UInt8.toBitVec).getD n.toNat 0 = (s[n.toNat]'hlt).toBitVec := by
          simp [List.getD, ByteArray.getElem_eq_getElem_data]
          rw [Array.getElem?_eq_getElem hlt]; rfl
        rw [this]; rfl
    · exact h.elim
  · exact h.elim
def stFieldV (T : Tab) (t : TypeId) (x : SV) (f : Nat) (K : SV → Prop) : Prop :=
  match x, T t with
  | .one a, some ty =>
    match ty.kind with
    | .struct fs => match fs[f]? with
      | some (o, ft) => a.isAgg = true ∧ stPart T ft a o K
      | none => False
    | _ => False
  | _, _ => False
theorem stFieldV_ok {T : Tab} (hT : TabOK P T) (hm : MH E ℓ m w) {t : TypeId} {x : SV} {f : Nat} {v : Value} (hx : DenV ℓ x v) (h : stFieldV T t x f (fun r => K r none)) :
    Comes P E ℓ m nid K (do pure (.value (← Instr.field t v f))) w := by
  unfold stFieldV at h
  split at h
  · rename_i a ty hty
    have hty := hT t ty hty
    split at h
    · rename_i fs hk
      have hkk := hty.kind
      rw [hk] at hkk
      obtain ⟨F, hF, hmap, _⟩ := hkk
      split at h
      · rename_i o ft hfs
        obtain ⟨hrow, hp⟩ := h
        obtain ⟨hok, vs, rfl, hd⟩ := (DenA.agg hrow).1 hx
        obtain ⟨sv, v, hr, hdv, hK⟩ := stPart_ok (w := w) hT hrow ((DenA.agg hrow).2 ⟨hok, vs, rfl, hd⟩) hp
        rw [← hmap, List.getElem?_map] at hfs
        cases hq : F.toList[f]? with
        | none => rw [hq] at hfs; cases hfs
        | some fld =>
          rw [hq] at hfs
          simp only [Option.map_some, Option.some.injEq, Prod.mk.injEq] at hfs
          have hq' : F[f]? = some fld := by rw [← Array.getElem?_toList]; exact hq
          refine comes_value hm (v := v) (sv := sv) ?_ hdv hK
          simp [Instr.field, run_underlying hF, hq', asAgg, hfs.1, hfs.2, hr]
      · exact h.elim
    · exact h.elim
  · exact h.elim
end
end Go.V
