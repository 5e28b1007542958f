/- A small verifier of our own, part 9: append and copy. No condition. -/
import Derived.Test.YtlnoehpjchglnaaVh
set_option linter.unusedSimpArgs false
set_option linter.unusedVariables false
namespace Go.V
open Go

/-! what is said of a block is dropped -/
def killS (id : Nat) : S → S
  | .ptr i b o => if i = id then .any else .ptr i b o
  | .sl i o l c e => if i = id then .any else .sl i o l c e
  | .slq i o l e => if i = id then .any else .slq i o l e
  | .fn f caps => if id ∈ caps then .any else .fn f caps
  | .ifc t x => .ifc t (killS id x)
  | .ifa t x => .ifa t (killS id x)
  | x => x
def killR (id : Nat) : R → R
  | .s x => .s (killS id x)
  | .agg l => .agg (l.map (killS id))
  | r => r
def killSeg (id : Nat) (g : Seg) : Seg := ⟨g.n, killR id g.r⟩
def killA (id : Nat) : A → A
  | .s x => .s (killS id x)
  | .agg l => .agg (l.map (killS id))
  | .st l => .st (l.map (killSeg id))
  | a => a
def killV (id : Nat) : SV → SV
  | .one a => .one (killA id a)
  | .tup l => .tup (l.map (killA id))
def killE (id : Nat) : Mk → Mk
  | .ent e => .ent { e with c := killA id e.c }
  | x => x
section
variable {ℓ : Nat → Option Loc}
/-- Two assignments of places that agree but for one id. -/
def But (id : Nat) (ℓ ℓ' : Nat → Option Loc) : Prop := ∀ (i : Nat) (L : Loc), i ≠ id → ℓ i = some L → ℓ' i = some L
theorem Le.but {ℓ ℓ' : Nat → Option Loc} (h : Le ℓ ℓ') (id : Nat) : But id ℓ ℓ' := fun i L _ hl => h i L hl
theorem upd_but (ℓ : Nat → Option Loc) (id : Nat) (L : Loc) : But id ℓ (upd ℓ id L) := fun i M hi hM => by unfold upd; rw [if_neg hi]; exact hM
theorem killS_den {ℓ' : Nat → Option Loc} {id : Nat} (hb : But id ℓ ℓ') : ∀ {x : S} {v : Value}, DenS ℓ x v → DenS ℓ' (killS id x) v := by
  intro x
  induction x with
  | ptr i b o =>
    rintro v ⟨L, h1, h2⟩
    unfold killS
    split
    · trivial
    · rename_i hi; exact ⟨L, hb _ _ hi h1, h2⟩
  | sl i o l c e =>
    rintro v ⟨L, h1, h2⟩
    unfold killS
    split
    · trivial
    · rename_i hi; exact ⟨L, hb _ _ hi h1, h2⟩
  | slq i o l e =>
    rintro v ⟨L, h1, h2⟩
    unfold killS
    split
    · trivial
    · rename_i hi; exact ⟨L, hb _ _ hi h1, h2⟩
  | fn f caps =>
    rintro v ⟨Ls, h1, h2⟩
    unfold killS
    split
    · trivial
    · rename_i hi
      refine ⟨Ls, ?_, h2⟩
      clear h2
      induction caps generalizing Ls with
      | nil => simpa using h1
      | cons c cs ih =>
        cases Ls with
        | nil => simp at h1
        | cons L Ls =>
          simp only [List.map_cons, List.cons.injEq, List.mem_cons, not_or] at h1 hi ⊢
          exact ⟨(hb _ _ (fun e => hi.1 e.symm) h1.1.symm).symm, ih Ls h1.2 hi.2⟩
  | ifc t x ih => rintro v ⟨u, h1, h2⟩; exact ⟨u, h1, ih h2⟩
  | ifa t x ih => rintro v ⟨u, h1, h2⟩; exact ⟨u, h1, ih h2⟩
  | any => intro v h; trivial
  | _ => intro v h; exact h
theorem killL_den {ℓ' : Nat → Option Loc} {id : Nat} (hb : But id ℓ ℓ') : ∀ {xs : List S} {vs : List Value}, DenL ℓ xs vs → DenL ℓ' (xs.map (killS id)) vs
  | [], [], _ => trivial
  | _ :: _, _ :: _, ⟨h1, h2⟩ => ⟨killS_den hb h1, killL_den hb h2⟩
theorem killR_cells (id : Nat) (r : R) : (killR id r).cells = r.cells.map (killS id) ∧ (killR id r).len = r.len := by
  cases r with
  | s x => exact ⟨rfl, rfl⟩
  | agg l => exact ⟨rfl, by simp [killR, R.len]⟩
  | _ => exact ⟨by simp only [killR, R.cells]; rw [List.map_map]; rfl, rfl⟩
theorem killSeg_cells (id : Nat) : ∀ (l : List Seg), segCells (l.map (killSeg id)) = (segCells l).map (killS id) ∧ segLen (l.map (killSeg id)) = segLen l ∧ (SegOK l → SegOK (l.map (killSeg id)))
  | [] => ⟨rfl, rfl, fun h => h⟩
  | g :: l => by
    obtain ⟨h1, h2, h3⟩ := killSeg_cells id l
    refine ⟨?_, ?_, fun h => ⟨?_, h3 h.2⟩⟩
    · simp [segCells, h1, killSeg, (killR_cells id g.r).1]
    · simp [segLen, h2, killSeg]
    · simpa [killSeg, (killR_cells id g.r).2] using h.1
theorem killA_cells (id : Nat) (a : A) : (killA id a).cells = a.cells.map (killS id) ∧ (killA id a).len = a.len ∧ (a.OK → (killA id a).OK) := by
  cases a with
  | st l => exact killSeg_cells id l
  | s x => exact ⟨rfl, rfl, fun _ => trivial⟩
  | agg l => exact ⟨rfl, by simp [killA, A.len], fun _ => trivial⟩
  | _ => exact ⟨by simp only [killA, A.cells]; rw [List.map_map]; rfl, rfl, fun _ => trivial⟩
theorem killA_den {ℓ' : Nat → Option Loc} {id : Nat} (hb : But id ℓ ℓ') {a : A} {v : Value} (h : DenA ℓ a v) : DenA ℓ' (killA id a) v := by
  cases a with
  | s x => exact killS_den hb h
  | _ =>
    obtain ⟨hok, vs, h1, h2⟩ := h
    exact ⟨(killA_cells id _).2.2 hok, vs, h1, by rw [(killA_cells id _).1]; exact killL_den hb h2⟩
theorem killT_den {ℓ' : Nat → Option Loc} {id : Nat} (hb : But id ℓ ℓ') : ∀ {xs : List A} {vs : List Value}, DenT ℓ xs vs → DenT ℓ' (xs.map (killA id)) vs
  | [], [], _ => trivial
  | _ :: _, _ :: _, ⟨h1, h2⟩ => ⟨killA_den hb h1, killT_den hb h2⟩
theorem killV_den {ℓ' : Nat → Option Loc} {id : Nat} (hb : But id ℓ ℓ') {x : SV} {v : Value} (h : DenV ℓ x v) : DenV ℓ' (killV id x) v := by
  cases x with
  | one a => exact killA_den hb h
  | tup l => obtain ⟨vs, h1, h2⟩ := h; exact ⟨vs, h1, killT_den hb h2⟩
theorem killE_ok {ℓ' : Nat → Option Loc} {id : Nat} (hb : But id ℓ ℓ') {w : World} {L : Loc} {e : Ent} (h : EntOK ℓ w L e) : EntOK ℓ' w L { e with c := killA id e.c } := by
  obtain ⟨⟨hf, hok⟩, h⟩ := h
  obtain ⟨k1, k2, k3⟩ := killA_cells id e.c
  refine ⟨⟨fun n hn => k2.trans (hf n hn), k3 hok⟩, ?_⟩
  split at h
  · rename_i ho
    rw [if_pos ho]
    obtain ⟨a, b, c⟩ := h
    refine ⟨a, by show (killA id e.c).len ≤ L.lim; rw [k2]; exact b, fun h0 => ?_⟩
    obtain ⟨cs, fr, vs, rest, c1, c2, c3, c4, c5⟩ := c h0
    exact ⟨cs, fr, vs, rest, c1, c2, c3, c4, by show DenL ℓ' (killA id e.c).cells vs; rw [k1]; exact killL_den hb c5⟩
  · rename_i ho
    rw [if_neg ho]
    obtain ⟨vs, a, b⟩ := h
    exact ⟨vs, by show DenL ℓ' (killA id e.c).cells vs; rw [k1]; exact killL_den hb a, b⟩
theorem killE_real {id : Nat} {e : Ent} {L : Loc} : Real { e with c := killA id e.c } L ↔ Real e L := by
  unfold Real
  rw [(killA_cells id e.c).2.1]
end

section
variable {P : Program} {E : Env} {ℓ : Nat → Option Loc} {m : Mem} {nid : Nat} {w : World}
theorem map_kill_ent {id i : Nat} {e : Ent} (h : (m.map (killE id))[i]? = some (.ent e)) : ∃ e0, m[i]? = some (.ent e0) ∧ e = { e0 with c := killA id e0.c } := by
  rw [List.getElem?_map] at h
  cases hq : m[i]? with
  | none => rw [hq] at h; cases h
  | some x =>
    rw [hq] at h
    cases x <;> simp [killE] at h
    rename_i e0
    exact ⟨e0, rfl, h.symm⟩
/-- A block of our own put anew: at the same place or at a new one. All else that spoke of it is dropped. -/
theorem MH.renew (h : MH E ℓ m w) {w' : World} {id : Nat} (hfree : E.anc id = none) {e : Ent} {L L' : Loc} {a : A} (hm : m[id]? = some (.ent e)) (hL : ℓ id = some L) (ho : e.own = true)
    (hos : w'.os = w.os) (htape : w'.tape = w.tape) (hout : w'.output = w.output) (hsz : w.heap.size ≤ w'.heap.size)
    (hoth : ∀ k, k < w.heap.size → (0 < L.lim → k ≠ L.blk) → w'.heap[k]? = w.heap[k]?)
    (hL' : (L' = L) ∨ w.heap.size ≤ L'.blk) (hok : a.OK) (hE : ∀ ℓ', But id ℓ ℓ' → EntOK ℓ' w' L' ⟨true, e.ty, none, killA id a⟩) :
    MH E (upd ℓ id L') ((m.map (killE id)).set id (.ent ⟨true, e.ty, none, killA id a⟩)) w' := by
  obtain ⟨L0, hL0, hEold, hmay'⟩ := h.ent id e hm
  obtain rfl := Option.some.inj (hL0.symm.trans hL)
  have hmay := hmay' ho
  have hlt := (List.getElem?_eq_some_iff.1 hm).1
  have hb := upd_but ℓ id L'
  have hself : (upd ℓ id L') id = some L' := by simp [upd]
  have hother : ∀ {j : Nat}, j ≠ id → (upd ℓ id L') j = ℓ j := fun hj => by unfold upd; rw [if_neg hj]
  have hsplit : ∀ {j : Nat} {x : Mk}, ((m.map (killE id)).set id (.ent ⟨true, e.ty, none, killA id a⟩))[j]? = some x → (j ≠ id ∧ (m.map (killE id))[j]? = some x) ∨ (j = id ∧ x = .ent ⟨true, e.ty, none, killA id a⟩) := by
    intro j x hj
    by_cases hji : id = j
    · subst hji
      rw [List.getElem?_set_self (by simpa using hlt)] at hj
      simp only [Option.some.injEq] at hj
      exact .inr ⟨rfl, hj.symm⟩
    · rw [List.getElem?_set_ne hji] at hj
      exact .inl ⟨fun h => hji h.symm, hj⟩
  have hblk : ∀ {j : Nat} {e0 : Ent} {Lj : Loc}, j ≠ id → m[j]? = some (.ent e0) → ℓ j = some Lj → Real e0 Lj → Lj.blk < w.heap.size ∧ (0 < L0.lim → Lj.blk ≠ L0.blk) := by
    intro j e0 Lj hj hmj hLj hr
    obtain ⟨L1, g1, g2, _⟩ := h.ent j e0 hmj
    obtain rfl := Option.some.inj (g1.symm.trans hLj)
    exact ⟨g2.lt hr, fun h0 hh => h.apart id j e e0 L0 L1 hm hmj hL hLj ho h0 (Ne.symm hj) hr hh.symm⟩
  refine ⟨hos.trans h.os, htape.trans h.tape, hout.trans h.output, Nat.le_trans h.size hsz, fun k hk hn => ?_, fun i M hM => hb i M (fun hi => by rw [hi, hfree] at hM; cases hM) (h.anch i M hM), ?_, ?_, ?_⟩
  · have hne : k ≠ L0.blk := by rintro rfl; rcases hmay with hmay | hmay; · exact hn hmay
                                · omega
    exact (hoth k (Nat.lt_of_lt_of_le hk h.size) (fun _ => hne)).trans (h.keep k hk hn)
  · intro i hi
    have hne : i ≠ id := by
      rintro rfl
      rcases hi with hi | hi
      · simp at hi; omega
      · rcases hsplit hi with ⟨hh, _⟩ | ⟨_, hh⟩
        · exact hh rfl
        · cases hh
    rw [hother hne]
    refine h.dom i (hi.imp (fun x => by simpa using x) (fun x => ?_))
    rcases hsplit x with ⟨_, x⟩ | ⟨hh, _⟩
    · rw [List.getElem?_map] at x
      cases hq : m[i]? with
      | none => rw [hq] at x; cases x
      | some y => rw [hq] at x; cases y <;> simp [killE] at x; rfl
    · exact absurd hh hne
  · intro j e' hj
    rcases hsplit hj with ⟨hne, hj⟩ | ⟨rfl, hx⟩
    · obtain ⟨e0, hm0, rfl⟩ := map_kill_ent hj
      obtain ⟨Lj, h1, h2, h3⟩ := h.ent j e0 hm0
      refine ⟨Lj, by rw [hother hne]; exact h1, ?_, h3⟩
      refine (killE_ok hb (h2.of_block (w' := w') (fun he => ?_)))
      obtain ⟨g1, g2⟩ := hblk hne hm0 h1 he
      exact hoth _ g1 (fun h0 => g2 h0)
    · cases hx
      refine ⟨L', hself, hE _ hb, fun _ => ?_⟩
      rcases hL' with rfl | hh
      · exact hmay
      · exact .inr (Nat.le_trans h.size hh)
  · intro i j ei ej Li Lj hmi hmj hLi hLj hoi h0i hne hj
    rcases hsplit hmi with ⟨hi, hmi'⟩ | ⟨hi, hei⟩
    · obtain ⟨e1, hm1, rfl⟩ := map_kill_ent hmi'
      rw [hother hi] at hLi
      rcases hsplit hmj with ⟨hj', hmj'⟩ | ⟨hj', hej⟩
      · obtain ⟨e2, hm2, rfl⟩ := map_kill_ent hmj'
        rw [hother hj'] at hLj
        exact h.apart i j e1 e2 Li Lj hm1 hm2 hLi hLj hoi h0i hne (killE_real.1 hj)
      · subst hj'
        rw [hself] at hLj
        obtain rfl := Option.some.inj hLj
        have hr : Real e1 Li := by unfold Real; rw [if_pos hoi]; exact h0i
        obtain ⟨g1, g2⟩ := hblk hi hm1 hLi hr
        rcases hL' with rfl | hh
        · exact g2 (by cases hej; unfold Real at hj; simpa using hj)
        · omega
    · subst hi
      rw [hself] at hLi
      obtain rfl := Option.some.inj hLi
      rcases hsplit hmj with ⟨hj', hmj'⟩ | ⟨hj', hej⟩
      · obtain ⟨e2, hm2, rfl⟩ := map_kill_ent hmj'
        rw [hother hj'] at hLj
        obtain ⟨g1, g2⟩ := hblk hj' hm2 hLj (killE_real.1 hj)
        rcases hL' with rfl | hh
        · exact fun hh => g2 h0i hh.symm
        · omega
      · exact absurd hj'.symm hne

/-- What an operation comes to that may write. -/
def WComes (P : Program) (E : Env) (ℓ : Nat → Option Loc) (K : SV → Option Nat → Mem → Prop) (s : Sem Value) (w : World) : Prop :=
  ∃ sv ko m' v w' ℓ', s.run P w = .ok v w' ∧ K sv ko m' ∧ MH E ℓ' m' w' ∧ DenV ℓ' sv v ∧ (match ko with | none => Le ℓ ℓ' | some id => But id ℓ ℓ')

/-- Where the elements come from that are appended or copied. -/
def srcRow (T : Tab) (m : Mem) (z : A) (es : Nat) (x : SV) (K : A → Nat → Prop) : Prop :=
  match x with
  | .one (.s (.sl id off n cap es2)) => match m[id]? with
    | some (.ent e) => (es2 = es ∧ e.c.isRow = true ∧ off + n * es ≤ e.bound ∧ (e.c.sub off (n * es)).solid = true) ∧ K (e.c.sub off (n * es)) n
    | _ => False
  | .one (.s .snil) => (match repA z 0 with | some r => K r 0 | none => False)
  | .one (.s (.str l)) => es = 1 ∧ K (.a8 l) l.length
  | _ => False
theorem cells_one {a : A} (hs : a.solid = true) (hr : a.isRow = true) {vs : List Value} (hd : DenL ℓ a.cells vs) : ∀ u ∈ vs, u.oneCell' = true := by
  obtain ⟨_, us, e1, e2, e3⟩ := solid_cells (ℓ := ℓ) (v := .agg vs.toArray) hs ((DenA.row hr).2 ⟨vs, rfl, hd⟩)
  simp [Value.cells] at e1
  subst e1
  exact e3
def SrcTy (T : Tab) (tx : TypeId) (x : SV) : Prop :=
  match T tx, x with
  | some ty, .one (.s (.str _)) => ty.kind = .str
  | some ty, _ => (match ty.kind with | .sl _ => True | _ => False)
  | none, _ => False
theorem srcRow_ok {T : Tab} (hT : TabOK P T) (hm : MH E ℓ m w) {z : A} {es : Nat} {tx : TypeId} {x : SV} (hty : SrcTy T tx x) {v : Value} {K : A → Nat → Prop} (hx : DenV ℓ x v) (h : srcRow T m z es x K) :
    ∃ r n news, Src P es tx v n news w ∧ DenL ℓ r.cells news ∧ r.isRow = true ∧ r.len = n * es ∧ K r n := by
  unfold srcRow at h
  unfold SrcTy at hty
  split at h
  · rename_i id off n cap es2
    split at h
    · rename_i e hme
      obtain ⟨⟨rfl, hrow, hb, hs⟩, hK⟩ := h
      obtain ⟨L, hL, hlc, hv⟩ := hx
      obtain ⟨L', hL', hE, _⟩ := hm.ent id e hme
      obtain rfl := Option.some.inj (hL'.symm.trans hL)
      obtain ⟨vs, hd, hc⟩ := hE.row
      have hvl := hd.length
      rw [A.len_cells _ hE.ok] at hvl
      rw [hE.bound] at hb
      have hd2 : DenL ℓ (e.c.sub off (n * es2)).cells ((vs.drop off).take (n * es2)) := by rw [A.sub_cells _ _ _ hrow]; exact (hd.drop off).take _
      have hr2 : (e.c.sub off (n * es2)).isRow = true := by rw [A.sub_row]; exact hrow
      have hone := cells_one hs hr2 hd2
      have hll : ((vs.drop off).take (n * es2)).length = n * es2 := by simp; omega
      have hk : ∃ e', P.underlying tx = some (.slice e') := by
        split at hty
        · rename_i heq; cases heq
        · rename_i ty hT' _
          have hk := (hT tx ty hT').kind
          split at hty
          · rename_i e' hkk; rw [hkk] at hk; exact ⟨e', hk⟩
          · exact hty.elim
        · exact hty.elim
      obtain ⟨e', hk⟩ := hk
      refine ⟨_, n, _, ?_, hd2, hr2, ?_, hK⟩
      · rcases hv with ⟨hc0, a, rfl⟩ | ⟨hlim, rfl⟩
        · obtain rfl : n = 0 := by omega
          simp only [Nat.zero_mul, List.take_zero]
          cases a with
          | none => exact Src.ofNil w hk 0
          | some a => exact Src.ofSlice w hk a 0 0 [] (by simp) (by simp) (by simp)
        · refine Src.ofSlice w hk _ n cap _ hll (fun j u hu => ?_) hone
          rw [Addr.add_off, Nat.add_assoc]
          refine hc (off + j) u ?_
          rw [List.getElem?_take] at hu
          split at hu
          · rwa [List.getElem?_drop] at hu
          · cases hu
      · have := hd2.length
        rw [A.len_cells _ (A.row_OK hr2)] at this
        omega
    · exact h.elim
  · split at h
    · rename_i r hr
      obtain ⟨h1, h2⟩ := repA_cells hr
      simp only [DenV, DenA, DenS] at hx; subst hx
      have hk : ∃ e', P.underlying tx = some (.slice e') := by
        split at hty
        · rename_i heq; cases heq
        · rename_i ty hT' _
          have hk := (hT tx ty hT').kind
          split at hty
          · rename_i e' hkk; rw [hkk] at hk; exact ⟨e', hk⟩
          · exact hty.elim
        · exact hty.elim
      obtain ⟨e', hk⟩ := hk
      refine ⟨r, 0, [], Src.ofNil w hk 0, by rw [h1]; trivial, h2, ?_, h⟩
      rw [← A.len_cells _ (A.row_OK h2), h1]; simp [catN]
    · exact h.elim
  · rename_i l
    obtain ⟨rfl, hK⟩ := h
    obtain ⟨s, rfl, hs⟩ := hx
    have hk : P.underlying tx = some .string := by
      cases hq : T tx with
      | none => rw [hq] at hty; exact hty.elim
      | some ty =>
        rw [hq] at hty
        have hk := (hT tx ty hq).kind
        rw [show ty.kind = .str from hty] at hk
        exact hk
    have hl : l.length = s.size := by rw [← hs]; simp
    refine ⟨.a8 l, l.length, byteCells s, by rw [hl]; exact Src.ofString w hk s, ?_, rfl, by simp [A.len], hK⟩
    rw [← hs]; exact bytes_cells _
  · exact h.elim

/-! append -/
def stAppend (T : Tab) (fr : Nat → Bool) (m : Mem) (nid : Nat) (ts tx : TypeId) (s x : SV) (K : SV → Option Nat → Mem → Prop) : Prop :=
  match T ts with
  | none => False
  | some ty => match ty.kind with
    | .sl e => match T e with
      | none => False
      | some ety => SrcTy T tx x ∧ (0 < ety.size ∧ ety.zero.solid = true) ∧
        srcRow T m ety.zero ety.size x (fun r n => match s with
          | .one (.s .snil) => n * ety.bytes ≤ 140737488355328 ∧ n ≤ 9223372036854775807 ∧ ∀ cap, n ≤ cap → K (one (.sl nid 0 n cap ety.size)) none (fill m nid ⟨true, e, none, r⟩)
          | .one (.s (.sl id off len cap es)) => (es = ety.size ∧ (len + n) * ety.bytes ≤ 140737488355328 ∧ len + n ≤ 9223372036854775807) ∧
            (match m[id]? with
            | some (.ent en) =>
              if en.own = true then
                (fr id = true ∧ off = 0 ∧ en.fix = none ∧ en.ty = e ∧ en.c.len = len * es) ∧
                (match en.c.cat r with
                | some c' => ∀ cap', len + n ≤ cap' → K (one (.sl id 0 (len + n) cap' es)) (some id) ((m.map (killE id)).set id (.ent ⟨true, e, none, killA id c'⟩))
                | none => False)
              else
                (cap = len ∧ 0 < n ∧ off + len * es ≤ en.bound) ∧
                (match (en.c.sub off (len * es)).cat r with
                | some c' => ∀ cap', len + n ≤ cap' → K (one (.sl nid 0 (len + n) cap' es)) none (fill m nid ⟨true, e, none, c'⟩)
                | none => False)
            | _ => False)
          | _ => False)
    | _ => False
theorem grown_fits {need cap bytes : Nat} (h : cap < need) (hb : need * bytes ≤ 140737488355328) : Builtin.nextslicecap need cap * bytes ≤ 281474976710656 := growslice_fits h hb
theorem den_kill_row {id : Nat} {ℓ' : Nat → Option Loc} (hb : But id ℓ ℓ') {a : A} {vs : List Value} (h : DenL ℓ a.cells vs) : DenL ℓ' (killA id a).cells vs := by
  rw [(killA_cells id a).1]; exact killL_den hb h
/-- A slice without room: an entry of our own without a block. -/
theorem MH.blank (h : MH E ℓ m w) {n : Nat} (hf : Fresh m n) {ty : TypeId} {a : A} (hl : a.len = 0) (hok : a.OK) : MH E (upd ℓ n ⟨E.w0.heap.size, 0, 0⟩) (fill m n ⟨true, ty, none, a⟩) w := by
  have hle := h.le_upd hf ⟨E.w0.heap.size, 0, 0⟩
  have hsplit : ∀ {id : Nat} {e : Ent}, (fill m n ⟨true, ty, none, a⟩)[id]? = some (.ent e) → (id ≠ n ∧ m[id]? = some (.ent e)) ∨ (id = n ∧ e = ⟨true, ty, none, a⟩) := by
    intro id e he
    rw [fill_get hf] at he
    split at he
    · rename_i hi; simp at he; exact .inr ⟨hi, he.symm⟩
    · rename_i hi; exact .inl ⟨hi, he⟩
  have hloc : ∀ {id : Nat} {L : Loc}, id ≠ n → (upd ℓ n ⟨E.w0.heap.size, 0, 0⟩) id = some L → ℓ id = some L := by
    intro id L hi hL
    unfold upd at hL; rwa [if_neg hi] at hL
  have hlocn : ∀ {L : Loc}, (upd ℓ n ⟨E.w0.heap.size, 0, 0⟩) n = some L → L = ⟨E.w0.heap.size, 0, 0⟩ := by
    intro L hL
    simp [upd] at hL; exact hL.symm
  refine ⟨h.os, h.tape, h.output, h.size, h.keep, h.anch.trans hle, ?_, ?_, ?_⟩
  · intro i hi
    rw [fill_length hf, fill_get hf] at hi
    have hin : i ≠ n := by
      rintro rfl
      rcases hi with hi | hi
      · omega
      · simp at hi
    rw [if_neg hin] at hi
    unfold upd; rw [if_neg hin]
    exact h.dom i (hi.imp (fun x => by omega) id)
  · intro id e hm
    rcases hsplit hm with ⟨hi, hm⟩ | ⟨rfl, rfl⟩
    · obtain ⟨L, h1, h2, h3⟩ := h.ent id e hm
      exact ⟨L, hle _ _ h1, h2.mono hle, h3⟩
    · refine ⟨⟨E.w0.heap.size, 0, 0⟩, by simp [upd], ⟨⟨by simp, hok⟩, ?_⟩, fun _ => .inr (Nat.le_refl _)⟩
      rw [if_pos rfl]
      exact ⟨rfl, by show a.len ≤ 0; omega, fun h => absurd h (Nat.lt_irrefl 0)⟩
  · intro i j ei ej Li Lj hmi hmj hLi hLj ho h0 hne hj
    rcases hsplit hmi with ⟨hi, hmi'⟩ | ⟨hi, hei⟩
    · rcases hsplit hmj with ⟨hj', hmj'⟩ | ⟨hj', hej⟩
      · exact h.apart i j ei ej Li Lj hmi' hmj' (hloc hi hLi) (hloc hj' hLj) ho h0 hne hj
      · rw [hj'] at hLj
        obtain rfl := hlocn hLj
        subst hej
        exact absurd hj (by simp [Real])
    · rw [hi] at hLi
      obtain rfl := hlocn hLi
      exact absurd h0 (Nat.lt_irrefl 0)
/-- What a growing append makes. -/
theorem grow_run {ts tx ty0 e : TypeId} {i : TypeInfo} {z : Value} (hk : P.underlying ts = some (.slice e)) (hi1 : P.info? e = some i) (hi4 : i.zero = some z) (hzc : z.cells.size = i.size) {base : Option Addr} {len cap n : Nat} {olds news : List Value} {vx : Value}
    (hold : (Builtin.firstCells i.size len (.slice base len cap)).run P w.drew = .ok olds.toArray w.drew) (hol : olds.length = len * i.size) (hs : Src P i.size tx vx n news w) (hg : cap < len + n) (h63 : len + n ≤ 9223372036854775807) (hb : (len + n) * i.bytes ≤ 140737488355328) :
    ∃ cap' cs rest, len + n ≤ cap' ∧ (Builtin.append_ #[ts, tx] ty0 #[.slice base len cap, vx]).run P w = .ok (.slice (some ⟨w.heap.size, 0, none⟩) (len + n) cap') (w.drew.alloc (.cells cs e)) ∧ cs.toList = (olds ++ news) ++ rest ∧ cs.size = cap' * i.size := by
  have hr := run_append_grow_src w ts tx ty0 e i z hk hi1 hi4 base len cap olds hold vx n news hs hg (by omega) (growslice_fits hg hb)
  refine ⟨grownCap w (len + n) cap e, _, (Builtin.zeroCells z.cells (grownCap w (len + n) cap e - (len + n))).toList, grownCap_ge w (len + n) cap e, hr, by simp, ?_⟩
  have hge := grownCap_ge w (len + n) cap e
  simp only [Array.size_append, List.size_toArray, List.length_append, size_zeroCells, hzc, hol, hs.newsLen, ← Nat.add_mul]
  congr 1
  omega
theorem stAppend_ok {T : Tab} {fr : Nat → Bool} (hT : TabOK P T) (hfr : ∀ id, fr id = true → E.anc id = none) (hm : MH E ℓ m w) (hf : Fresh m nid) {ts tx ty0 : TypeId} {s x : SV} {vs vx : Value} {K : SV → Option Nat → Mem → Prop} (hs : DenV ℓ s vs) (hx : DenV ℓ x vx) (h : stAppend T fr m nid ts tx s x K) :
    WComes P E ℓ K (Builtin.append_ #[ts, tx] ty0 #[vs, vx]) w := by
  unfold stAppend at h
  split at h
  · exact h.elim
  · rename_i ty hty
    have hk := (hT ts ty hty).kind
    split at h
    · rename_i e hkk
      rw [hkk] at hk; simp only [KindOK] at hk
      split at h
      · exact h.elim
      · rename_i ety hety
        obtain ⟨hsty, ⟨hpos, hsol⟩, h⟩ := h
        have hE := hT e ety hety
        obtain ⟨i, z, hi1, hi2, hi3, hi4, hi5⟩ := hE.parts
        obtain ⟨r, n, news, hsrc, hd, hrow, hrl, h⟩ := srcRow_ok hT hm hsty hx h
        rw [← hi2] at hsrc
        have hnl := hd.length
        rw [A.len_cells _ (A.row_OK hrow), hrl] at hnl
        have hzc : z.cells.size = i.size := by
          obtain ⟨hok, zs, h1, h2, _⟩ := solid_cells hsol (A.val_den hi5 hE.ok ℓ)
          have h3 := h2.length
          rw [A.len_cells _ hok, hE.len] at h3
          rw [h1, hi2]; simp; omega
        have fc0 : ∀ (a : Option Addr) (c : Nat) (w' : World), (Builtin.firstCells i.size 0 (.slice a 0 c)).run P w' = .ok #[] w' := by
          intro a c w'
          cases a with
          | none => exact run_firstCells_none w' i.size 0 0 c
          | some a => exact run_firstCells_some w' i.size 0 a 0 c [] (by simp) (by simp)
        have zero : ∀ (a : Option Addr), n = 0 → (Builtin.append_ #[ts, tx] ty0 #[.slice a 0 0, vx]).run P w = .ok (.slice a 0 0) w := by
          rintro a rfl
          have hn0 : news = [] := List.eq_nil_of_length_eq_zero (by omega)
          subst hn0
          rcases hsrc.kind with ⟨e', hke⟩ | hke <;> cases a <;> simp [Builtin.append_, run_underlying hk, run_underlying hke, sizeOf, typeInfo, hi1, hsrc.len, hsrc.cells, storeCells]
        have grow : ∀ {base : Option Addr} {len cap : Nat} {olds : List Value}, (Builtin.firstCells i.size len (.slice base len cap)).run P w.drew = .ok olds.toArray w.drew → olds.length = len * i.size → cap < len + n → (len + n) * ety.bytes ≤ 140737488355328 → len + n ≤ 9223372036854775807 →
            ∃ cap' cs rest, len + n ≤ cap' ∧ (Builtin.append_ #[ts, tx] ty0 #[.slice base len cap, vx]).run P w = .ok (.slice (some ⟨w.heap.size, 0, none⟩) (len + n) cap') (w.drew.alloc (.cells cs e)) ∧ cs.toList = (olds ++ news) ++ rest ∧ cs.size = cap' * i.size :=
          fun h1 h2 h3 h4 h5 => grow_run hk hi1 hi4 hzc h1 h2 hsrc h3 h5 (by rw [hi3]; exact h4)
        -- a new block
        have fresh : ∀ {base : Option Addr} {len cap : Nat} {olds : List Value} {c' : A}, (Builtin.firstCells i.size len (.slice base len cap)).run P w.drew = .ok olds.toArray w.drew → olds.length = len * i.size → cap < len + n → (len + n) * ety.bytes ≤ 140737488355328 → len + n ≤ 9223372036854775807 →
            c'.OK → DenL ℓ c'.cells (olds ++ news) → (∀ cap', len + n ≤ cap' → K (one (.sl nid 0 (len + n) cap' ety.size)) none (fill m nid ⟨true, e, none, c'⟩)) → WComes P E ℓ K (Builtin.append_ #[ts, tx] ty0 #[.slice base len cap, vx]) w := by
          intro base len cap olds c' h1 h2 h3 h4 h5 hok hdc hK
          obtain ⟨cap', cs, rest, g1, g2, g3, g4⟩ := grow h1 h2 h3 h4 h5
          have hle := hm.le_upd hf ⟨w.heap.size, 0, cs.size⟩
          have hal := hm.alloc hf (w' := w.drew.alloc (.cells cs e)) (cs := cs) (ty := e) (fr := (0, 0)) (fix := none) (a := c') (vs := olds ++ news) (rest := rest) rfl rfl rfl rfl (.inl (Nat.le_refl _)) (by simp) hok g3 (hdc.mono hle)
          exact ⟨_, none, _, _, _, _, g2, hK cap' g1, hal, ⟨⟨w.heap.size, 0, cs.size⟩, by simp [upd], g1, .inr ⟨by show 0 + cap' * ety.size ≤ cs.size; rw [g4, hi2]; omega, rfl⟩⟩, hle⟩
        split at h
        · -- onto nil
          obtain ⟨hby, h63, hK⟩ := h
          simp only [DenV, DenA, DenS] at hs; subst hs
          rcases Nat.eq_zero_or_pos n with rfl | hn
          · have hcl : r.len = 0 := by omega
            exact ⟨_, none, _, _, _, _, zero none rfl, hK 0 (Nat.le_refl _), hm.blank hf (ty := e) hcl (A.row_OK hrow), ⟨⟨E.w0.heap.size, 0, 0⟩, by simp [upd], Nat.le_refl _, .inl ⟨rfl, none, rfl⟩⟩, hm.le_upd hf _⟩
          · have := fresh (base := none) (len := 0) (cap := 0) (olds := []) (c' := r) (fc0 none 0 w.drew) (by simp) (by omega) (by simpa using hby) (by omega) (A.row_OK hrow) (by simpa using hd) (by simpa using hK)
            exact this
        · -- onto a slice
          rename_i id off len cap es _hold
          obtain ⟨⟨rfl, hby, h63⟩, h⟩ := h
          split at h
          · rename_i en hme
            obtain ⟨L, hL, hE2, hmay⟩ := hm.ent id en hme
            obtain ⟨L', hL', hlc, hv⟩ := hs
            obtain rfl := Option.some.inj (hL.symm.trans hL')
            have hok := hE2.ok
            split at h
            · -- our own
              rename_i ho
              obtain ⟨⟨hfree', rfl, hfx, rfl, hcl⟩, h⟩ := h
              have hfree := hfr id hfree'
              split at h
              · rename_i c' hc'
                have hrows := A.cat_row hc'
                have hoks : c'.OK := A.row_OK hrows.2.2.1
                obtain ⟨vs0, hd0, hc0⟩ := hE2.row
                have hvl := hd0.length
                rw [A.len_cells _ hok, hcl] at hvl
                have hdc : DenL ℓ c'.cells (vs0 ++ news) := by rw [A.cat_cells hc']; exact hd0.append hd
                have renewed : ∀ {cap' : Nat} {cs : Array Value} {rest : List Value}, len + n ≤ cap' → cs.toList = (vs0 ++ news) ++ rest → cs.size = cap' * i.size →
                    (Builtin.append_ #[ts, tx] ty0 #[vs, vx]).run P w = .ok (.slice (some ⟨w.heap.size, 0, none⟩) (len + n) cap') (w.drew.alloc (.cells cs en.ty)) → WComes P E ℓ K (Builtin.append_ #[ts, tx] ty0 #[vs, vx]) w := by
                  intro cap' cs rest g1 g3 g4 g2
                  have hren := hm.renew (w' := w.drew.alloc (.cells cs en.ty)) (id := id) hfree (L' := ⟨w.heap.size, 0, cs.size⟩) (a := c') hme hL ho rfl rfl rfl (by simp)
                    (fun k hk _ => heap_alloc_old w.drew _ k hk) (.inr (Nat.le_refl _)) hoks (fun ℓ' hb => by
                      refine ⟨⟨by simp, (killA_cells id c').2.2 hoks⟩, ?_⟩
                      rw [if_pos rfl]
                      refine ⟨rfl, ?_, fun _ => ⟨cs, (0, 0), vs0 ++ news, rest, heap_alloc_new w.drew _, .inl (Nat.le_refl _), rfl, g3, den_kill_row hb hdc⟩⟩
                      show (killA id c').len ≤ cs.size
                      rw [(killA_cells id c').2.1, ← A.len_cells _ hoks, hdc.length]
                      have : cs.toList.length = cs.size := by simp
                      rw [g3, List.length_append] at this
                      omega)
                  exact ⟨_, some id, _, _, _, _, g2, h cap' g1, hren, ⟨⟨w.heap.size, 0, cs.size⟩, by simp [upd], g1, .inr ⟨by show 0 + cap' * ety.size ≤ cs.size; rw [g4, hi2]; omega, rfl⟩⟩, upd_but ℓ id _⟩
                rcases hv with ⟨hc0', a, rfl⟩ | ⟨hlim, rfl⟩
                · subst hc0'
                  obtain rfl : len = 0 := by omega
                  have hv0 : vs0 = [] := List.eq_nil_of_length_eq_zero (by omega)
                  rcases Nat.eq_zero_or_pos n with rfl | hn
                  · have hn0 : news = [] := List.eq_nil_of_length_eq_zero (by omega)
                    have hc'l : c'.len = 0 := by rw [hrows.2.2.2, hcl, hrl]; omega
                    have hcc : c'.cells = [] := List.eq_nil_of_length_eq_zero (by rw [A.len_cells _ hoks]; exact hc'l)
                    have hren := hm.renew (w' := w) (id := id) hfree (L' := L) (a := c') hme hL ho rfl rfl rfl (Nat.le_refl _) (fun k _ _ => rfl) (.inl rfl) hoks (fun ℓ' hb => by
                      refine ⟨⟨by simp, (killA_cells id c').2.2 hoks⟩, ?_⟩
                      rw [if_pos rfl]
                      have h2 := hE2.2
                      rw [if_pos ho] at h2
                      obtain ⟨q1, q2, q3⟩ := h2
                      refine ⟨q1, by show (killA id c').len ≤ L.lim; rw [(killA_cells id c').2.1]; omega, fun h0 => ?_⟩
                      obtain ⟨cs, fr, v1, rest, p1, p2, p3, p4, p5⟩ := q3 h0
                      exact ⟨cs, fr, [], cs.toList, p1, p2, p3, by simp, by show DenL ℓ' (killA id c').cells []; rw [(killA_cells id c').1, hcc]; trivial⟩)
                    exact ⟨_, some id, _, _, _, _, zero a rfl, h 0 (by omega), hren, ⟨L, by simp [upd], Nat.le_refl _, .inl ⟨rfl, a, rfl⟩⟩, upd_but ℓ id _⟩
                  · obtain ⟨cap', cs, rest, g1, g2, g3, g4⟩ := grow (base := a) (len := 0) (cap := 0) (olds := []) (fc0 a 0 w.drew) (by simp) (by omega) hby h63
                    exact renewed g1 (by rw [hv0]; exact g3) g4 g2
                · have h2 := hE2.2
                  rw [if_pos ho] at h2
                  obtain ⟨q1, q2, q3⟩ := h2
                  rw [Nat.add_zero]
                  by_cases hroom : len + n ≤ cap
                  · -- in place
                    have hmul : len * ety.size + n * ety.size ≤ cap * ety.size := by rw [← Nat.add_mul]; exact Nat.mul_le_mul_right _ hroom
                    rcases Nat.eq_zero_or_pos L.lim with hl0 | hl0
                    · have hcap0 : cap = 0 := by
                        rcases Nat.eq_zero_or_pos cap with hh | hh
                        · exact hh
                        · have := Nat.mul_pos hh hpos; omega
                      subst hcap0
                      obtain ⟨rfl, rfl⟩ : len = 0 ∧ n = 0 := by omega
                      have hc'l : c'.len = 0 := by rw [hrows.2.2.2, hcl, hrl]; omega
                      have hren := hm.renew (w' := w) (id := id) hfree (L' := L) (a := c') hme hL ho rfl rfl rfl (Nat.le_refl _) (fun k _ _ => rfl) (.inl rfl) hoks (fun ℓ' hb => by
                        refine ⟨⟨by simp, (killA_cells id c').2.2 hoks⟩, ?_⟩
                        rw [if_pos rfl]
                        exact ⟨q1, by show (killA id c').len ≤ L.lim; rw [(killA_cells id c').2.1]; omega, fun h0 => by omega⟩)
                      exact ⟨_, some id, _, _, _, _, zero _ rfl, h 0 (by omega), hren, ⟨L, by simp [upd], Nat.le_refl _, .inl ⟨rfl, _, rfl⟩⟩, upd_but ℓ id _⟩
                    · obtain ⟨cs, fr, v1, rest, p1, p2, p3, p4, p5⟩ := q3 hl0
                      have hv1 := p5.length
                      rw [A.len_cells _ hok, hcl] at hv1
                      have hcsz : cs.size = v1.length + rest.length := by rw [← Array.length_toList, p4, List.length_append]
                      have hrr := run_append_room_src (P := P) w ts tx ty0 en.ty i hk hi1 L.blk L.base len cap vx n news hsrc hroom
                        (fun j hj => by
                          rw [q1, Nat.zero_add, hi2, cell_of_row w L.blk _ cs en.ty fr p1]
                          simp; omega)
                        (fun j hj => by
                          rw [q1, Nat.zero_add, hi2]
                          simp only [World.frozen?, p1]
                          rcases p2 with h | h
                          · simp; omega
                          · simp; omega)
                      rw [q1, Nat.zero_add, hi2] at hrr
                      obtain ⟨f1, f2, f3, f4, f5⟩ := setCells_frame L.blk news (len * ety.size) w
                      have hren := hm.renew (w' := w.setCells L.blk (len * ety.size) news) (id := id) hfree (L' := L) (a := c') hme hL ho f1 f2 f3 (by rw [f4]; exact Nat.le_refl _) (fun k _ hk => f5 k (hk hl0)) (.inl rfl) hoks (fun ℓ' hb => by
                        refine ⟨⟨by simp, (killA_cells id c').2.2 hoks⟩, ?_⟩
                        rw [if_pos rfl]
                        have hov : (overL cs.toList (len * ety.size) news).length = cs.toList.length := overL_length (by simp; omega)
                        refine ⟨q1, ?_, fun _ => ⟨_, fr, v1 ++ news, rest.drop news.length, heap_setCells _ _ _ news _ cs w p1 (by omega), ?_, ?_, ?_, ?_⟩⟩
                        · show (killA id c').len ≤ L.lim
                          rw [(killA_cells id c').2.1, hrows.2.2.2, hcl, hrl]; omega
                        · have : (overL cs.toList (len * ety.size) news).toArray.size = cs.size := by simp [hov]
                          rw [this]; exact p2
                        · have : (overL cs.toList (len * ety.size) news).toArray.size = cs.size := by simp [hov]
                          rw [this]; exact p3
                        · show overL cs.toList (len * ety.size) news = _
                          rw [p4]
                          unfold overL
                          rw [hv1, List.take_left, show v1.length + news.length = v1.length + (news.length) from rfl, List.drop_length_add_append]
                        · refine den_kill_row hb ?_
                          rw [A.cat_cells hc']; exact p5.append hd)
                      refine ⟨_, some id, _, _, _, _, (by rw [q1]; exact hrr), h cap hroom, hren, ⟨L, by simp [upd], hroom, .inr ⟨hlim, by rw [q1]⟩⟩, upd_but ℓ id _⟩
                  · have hfc : (Builtin.firstCells i.size len (.slice (some ⟨L.blk, L.base, none⟩) len cap)).run P w.drew = .ok vs0.toArray w.drew :=
                      run_firstCells_some w.drew i.size len ⟨L.blk, L.base, none⟩ len cap vs0 (by rw [hi2]; omega) (fun j v hv => by
                        rw [Addr.add_off]
                        exact hc0 j v hv)
                    obtain ⟨cap', cs, rest, g1, g2, g3, g4⟩ := grow hfc (by rw [hi2]; omega) (by omega) hby h63
                    exact renewed g1 g3 g4 (by rw [Nat.add_zero]; exact g2)
              · exact h.elim
            · -- one that is only read, without room
              obtain ⟨⟨rfl, hn, hb⟩, h⟩ := h
              split at h
              · rename_i c' hc'
                have hrows := A.cat_row hc'
                rw [A.sub_row] at hrows
                obtain ⟨vs0, hd0, hc0⟩ := hE2.row
                have hvl := hd0.length
                rw [A.len_cells _ hok] at hvl
                rw [hE2.bound] at hb
                have hdo : DenL ℓ (en.c.sub off (cap * ety.size)).cells ((vs0.drop off).take (cap * ety.size)) := by rw [A.sub_cells _ _ _ hrows.1]; exact (hd0.drop off).take _
                have hdc : DenL ℓ c'.cells ((vs0.drop off).take (cap * ety.size) ++ news) := by rw [A.cat_cells hc']; exact hdo.append hd
                have hll : ((vs0.drop off).take (cap * ety.size)).length = cap * i.size := by rw [hi2]; simp; omega
                rcases hv with ⟨rfl, a, rfl⟩ | ⟨hlim, rfl⟩
                · have hll' : (vs0.drop off).take (0 * ety.size) = [] := by simp
                  rw [hll'] at hdc
                  exact fresh (fc0 a 0 w.drew) (by simp) (by omega) hby h63 (A.row_OK hrows.2.2.1) hdc h
                · refine fresh (run_firstCells_some w.drew i.size cap _ cap cap _ hll (fun j v hv => ?_)) hll (by omega) hby h63 (A.row_OK hrows.2.2.1) hdc h
                  rw [Addr.add_off, Nat.add_assoc]
                  refine hc0 (off + j) v ?_
                  rw [List.getElem?_take] at hv
                  split at hv
                  · rwa [List.getElem?_drop] at hv
                  · cases hv
              · exact h.elim
          · exact h.elim
        · exact h.elim
    · exact h.elim
end
end Go.V
