/- A small verifier of our own, part 6: composite literals, make, stores. No condition. -/
import Derived.Test.YtlnoehpjchglnaaVe
import Derived.Laws.IdiomCopy
set_option linter.unusedSimpArgs false
set_option linter.unusedVariables false
namespace Go.V
open Go

section
variable {P : Program} {E : Env} {ℓ : Nat → Option Loc} {m : Mem} {nid : Nat} {K : SV → Option Ent → Prop} {w : World}

/-! a row written over a part of a row -/
def overL {α : Type} (zs : List α) (o : Nat) (us : List α) : List α := zs.take o ++ us ++ zs.drop (o + us.length)
theorem overL_length {α : Type} {zs us : List α} {o : Nat} (h : o + us.length ≤ zs.length) : (overL zs o us).length = zs.length := by
  simp [overL]; omega
theorem overL_nil {α : Type} (zs : List α) (o : Nat) : overL zs o [] = zs := by simp [overL]
theorem overL_cons (zs : List Value) (o : Nat) (u : Value) (us : List Value) (h : o + (us.length + 1) ≤ zs.length) : overL (zs.set o u) (o + 1) us = overL zs o (u :: us) := by
  unfold overL
  exact list_seg_step zs o u us h
theorem overL_mid {α : Type} (pre mid mid' post : List α) (h : mid.length = mid'.length) : overL (pre ++ mid ++ post) pre.length mid' = pre ++ mid' ++ post := by
  unfold overL
  have h1 : (pre ++ mid ++ post).take pre.length = pre := by rw [List.append_assoc]; exact List.take_left
  have h2 : (pre ++ mid ++ post).drop (pre.length + mid'.length) = post := by
    rw [show pre.length + mid'.length = (pre ++ mid).length by simp [h]]
    exact List.drop_left
  rw [h1, h2]
theorem overL_append {α : Type} (vs rest us : List α) (o : Nat) (h : o + us.length ≤ vs.length) : overL (vs ++ rest) o us = overL vs o us ++ rest := by
  unfold overL
  rw [List.take_append_of_le_length (by omega), List.drop_append_of_le_length (by omega)]
  simp
theorem DenL.over {xs ys : List S} {vs us : List Value} (o : Nat) (h1 : DenL ℓ xs vs) (h2 : DenL ℓ ys us) : DenL ℓ (overL xs o ys) (overL vs o us) := by
  unfold overL
  rw [h2.length]
  exact ((h1.take o).append h2).append (h1.drop _)
theorem heap_setCells (b : Nat) (ty : TypeId) (fr : Nat × Nat) : ∀ (us : List Value) (o : Nat) (cs : Array Value) (w : World), w.heap[b]? = some (.cells cs ty fr) → o + us.length ≤ cs.size →
    (w.setCells b o us).heap[b]? = some (.cells (overL cs.toList o us).toArray ty fr)
  | [], o, cs, w, h, _ => by simp [World.setCells, overL_nil, h]
  | u :: us, o, cs, w, h, hl => by
    simp only [List.length_cons] at hl
    have h1 : (w.setCell ⟨b, o, none⟩ u).heap[b]? = some (.cells (cs.setIfInBounds o u) ty fr) := by
      simp only [World.setCell, Array.getElem?_modify, if_true, h, Option.map_some]
      simp
    have := heap_setCells b ty fr us (o + 1) _ _ h1 (by simp; omega)
    simp only [World.setCells]
    rw [this]
    congr 2
    rw [← overL_cons _ _ _ _ (by simp; omega)]
    congr 1
    rw [Array.toList_setIfInBounds]
theorem setCells_frame (b : Nat) : ∀ (us : List Value) (o : Nat) (w : World), (w.setCells b o us).os = w.os ∧ (w.setCells b o us).tape = w.tape ∧ (w.setCells b o us).output = w.output ∧ (w.setCells b o us).heap.size = w.heap.size ∧ ∀ k, k ≠ b → (w.setCells b o us).heap[k]? = w.heap[k]?
  | [], o, w => ⟨rfl, rfl, rfl, rfl, fun _ _ => rfl⟩
  | u :: us, o, w => by
    obtain ⟨h1, h2, h3, h4, h5⟩ := setCells_frame b us (o + 1) (w.setCell ⟨b, o, none⟩ u)
    exact ⟨h1, h2, h3, h4.trans (by simp [World.setCell]), fun k hk => (h5 k hk).trans (heap_setCell_other w ⟨b, o, none⟩ k u hk)⟩
theorem foldl_over (us : List Value) (o : Nat) : ∀ (k : Nat) (cs : Array Value), o + k + us.length ≤ cs.size → (us.zipIdx k).foldl (fun cs p => cs.setIfInBounds (o + p.2) p.1) cs = (overL cs.toList (o + k) us).toArray := by
  induction us with
  | nil => intro k cs _; simp [overL_nil]
  | cons u us ih =>
    intro k cs h
    simp only [List.length_cons] at h
    simp only [List.zipIdx_cons, List.foldl_cons]
    rw [ih (k + 1) _ (by simp; omega), ← overL_cons _ _ _ _ (by simp; omega), Array.toList_setIfInBounds, Nat.add_assoc]
theorem fill_step {place : Nat → Option (Nat × Nat)} {cs : Array Value} {i o sz : Nat} {v : Value} {us : List Value} {rest : List (Nat × Value)} (hp : place i = some (o, sz)) (hv : v.cells = us.toArray) (hl : us.length = sz) (hb : o + sz ≤ cs.size) :
    Instr.fill place cs ((i, v) :: rest) = Instr.fill place (overL cs.toList o us).toArray rest := by
  have hf := foldl_over us o 0 cs (by omega)
  rw [Nat.add_zero] at hf
  conv => lhs; unfold Instr.fill
  simp only [hp, hv]
  have h1 : ¬ (us.toArray.size ≠ sz) := by simp [hl]
  have h2 : ¬ (o + us.toArray.size > cs.size) := by simp [hl]; omega
  rw [if_neg (by simp [hl]; omega)]
  congr 1
  rw [← Array.foldl_toList, Array.toList_zipIdx]
  exact hf

/-! composite literals -/
def DenP (ℓ : Nat → Option Loc) : List (Nat × SV) → List (Nat × Value) → Prop
  | [], [] => True
  | (i, x) :: xs, (j, v) :: vs => i = j ∧ DenV ℓ x v ∧ DenP ℓ xs vs
  | _, _ => False
/-- One part written into a row of elements of so many cells. -/
def putP (a : A) (sz i : Nat) (x : SV) (K : A → Prop) : Prop :=
  match x with
  | .one (.s x) => (sz = 1 ∧ i < a.len ∧ x.known = true) ∧ (match a.set i x with
    | some a' => K a'
    | none => False)
  | .one b => (b.len = sz ∧ i * sz + sz ≤ a.len ∧ b.solid = true) ∧ (match a.over (i * sz) b with
    | some a' => K a'
    | none => False)
  | _ => False
def fillA : A → Nat → List (Nat × SV) → (A → Prop) → Prop
  | a, _, [], K => K a
  | a, sz, (i, x) :: r, K => putP a sz i x (fun a' => fillA a' sz r K)
theorem A.set_row {a a' : A} {i : Nat} {x : S} (h : a.set i x = some a') (hr : a.isRow = true) : a'.isRow = true := by
  cases a <;> first | (cases hr; done) | (cases x <;> simp [A.set] at h <;> subst h <;> rfl)
theorem putP_ok {sz i : Nat} {a : A} {x : SV} {v : Value} {zs : List Value} {K : A → Prop} (hv : DenV ℓ x v) (hr : a.isRow = true) (hd : DenL ℓ a.cells zs) (h : putP a sz i x K) :
    ∃ a' zs', (∀ rest, Instr.fill (fun i => some (i * sz, sz)) zs.toArray ((i, v) :: rest) = Instr.fill (fun i => some (i * sz, sz)) zs'.toArray rest) ∧ a'.isRow = true ∧ a'.len = a.len ∧ DenL ℓ a'.cells zs' ∧ K a' := by
  have hlen := hd.length
  rw [A.len_cells _ (A.row_OK hr)] at hlen
  unfold putP at h
  split at h
  · rename_i x1
    obtain ⟨⟨hsz, hi, hk⟩, h⟩ := h
    subst hsz
    split at h
    · rename_i a' ha'
      have h1 := known_oneCell hk hv
      have hvc : v.cells = [v].toArray := by cases v <;> first | rfl | cases h1
      have hd' : DenL ℓ a'.cells (overL zs i [v]) := by
        rw [A.set_cells ha' hi]
        have : overL zs i [v] = zs.set i v := by
          rw [← overL_cons zs i v [] (by simp; omega), overL_nil]
        rw [this]
        exact hd.set i x1 v hv
      exact ⟨a', overL zs i [v], fun rest => by rw [fill_step (o := i * 1) (sz := 1) rfl hvc rfl (by simp; omega), Nat.mul_one], A.set_row ha' hr, (A.set_len ha').1, hd', h⟩
    · exact h.elim
  · rename_i b _
    obtain ⟨⟨hbl, hi, hs⟩, h⟩ := h
    split at h
    · rename_i a' ha'
      obtain ⟨hok, us, hvc, hdu, _⟩ := solid_cells hs hv
      have hul := hdu.length
      rw [A.len_cells _ hok] at hul
      have hrow := A.over_row ha'
      have hd' : DenL ℓ a'.cells (overL zs (i * sz) us) := by
        rw [A.over_cells ha', ← A.len_cells _ hok]
        exact hd.over (i * sz) hdu
      have hl' : a'.len = a.len := by
        have h1 := hd'.length
        rw [A.len_cells _ (A.row_OK hrow.2.2), overL_length (by omega)] at h1
        omega
      exact ⟨a', overL zs (i * sz) us, fun rest => by rw [fill_step (o := i * sz) (sz := sz) rfl hvc (by omega) (by simp; omega)], hrow.2.2, hl', hd', h⟩
    · exact h.elim
  · exact h.elim
theorem fillA_ok {sz : Nat} {ps : List (Nat × SV)} : ∀ {a : A} {vs : List (Nat × Value)} {zs : List Value} {K : A → Prop}, DenP ℓ ps vs → a.isRow = true → DenL ℓ a.cells zs → fillA a sz ps K →
    ∃ a' zs', Instr.fill (fun i => some (i * sz, sz)) zs.toArray vs = some zs'.toArray ∧ a'.isRow = true ∧ a'.len = a.len ∧ DenL ℓ a'.cells zs' ∧ K a' := by
  induction ps with
  | nil => intro a vs zs K hp hr hd h; cases vs with
    | nil => exact ⟨a, zs, rfl, hr, rfl, hd, h⟩
    | cons => exact hp.elim
  | cons p ps ih =>
    intro a vs zs K hp hr hd h
    obtain ⟨i, x⟩ := p
    cases vs with
    | nil => exact hp.elim
    | cons q vs =>
      obtain ⟨j, v⟩ := q
      obtain ⟨rfl, hv, hp⟩ := hp
      obtain ⟨a1, zs1, e1, e2, e3, e4, e5⟩ := putP_ok hv hr hd h
      obtain ⟨a2, zs2, f1, f2, f3, f4, f5⟩ := ih hp e2 e4 e5
      exact ⟨a2, zs2, (e1 vs).trans f1, f2, f3.trans e3, f4, f5⟩
/-- Fields written into a struct. -/
def putS (T : Tab) (fs : List (Nat × TypeId)) (l : List Seg) (i : Nat) (x : SV) (K : List Seg → Prop) : Prop :=
  match x with
  | .one a => match fs[i]?, a.r with
    | some (o, ft), some rr => match T ft, segAt l o, segPut l o rr with
      | some fty, some r0, some l' => (rr.len = fty.size ∧ r0.len = fty.size ∧ a.solid = true) ∧ K l'
      | _, _, _ => False
    | _, _ => False
  | _ => False
def fillS (T : Tab) (fs : List (Nat × TypeId)) : List Seg → List (Nat × SV) → (List Seg → Prop) → Prop
  | l, [], K => K l
  | l, (i, x) :: r, K => putS T fs l i x (fun l' => fillS T fs l' r K)
theorem fillS_ok {T : Tab} (hT : TabOK P T) {F : Array Field} {fs : List (Nat × TypeId)} (hmap : F.toList.map (fun x => (x.offset, x.type)) = fs) {place : Nat → Option (Nat × Nat)}
    (hplace : ∀ i f i', F[i]? = some f → P.info? f.type = some i' → place i = some (f.offset, i'.size)) {ps : List (Nat × SV)} :
    ∀ {l : List Seg} {vs : List (Nat × Value)} {zs : List Value} {K : List Seg → Prop}, DenP ℓ ps vs → SegOK l → DenL ℓ (segCells l) zs → fillS T fs l ps K →
    ∃ l' zs', Instr.fill place zs.toArray vs = some zs'.toArray ∧ SegOK l' ∧ DenL ℓ (segCells l') zs' ∧ K l' := by
  induction ps with
  | nil => intro l vs zs K hp hr hd h; cases vs with
    | nil => exact ⟨l, zs, rfl, hr, hd, h⟩
    | cons => exact hp.elim
  | cons p ps ih =>
    intro l vs zs K hp hr hd h
    obtain ⟨i, x⟩ := p
    cases vs with
    | nil => exact hp.elim
    | cons q vs =>
      obtain ⟨j, v⟩ := q
      obtain ⟨rfl, hv, hp⟩ := hp
      unfold fillS putS at h
      split at h
      · rename_i a
        split at h
        · rename_i o ft rr hfs hrr
          split at h
          · rename_i fty r0 l' hft hat hput
            obtain ⟨⟨h1, h2, h3⟩, h⟩ := h
            obtain ⟨hok, us, hvc, hdu, _⟩ := solid_cells h3 hv
            have hul := hdu.length
            rw [A.len_cells _ hok] at hul
            have ha := A.r_a hrr
            obtain ⟨hok', pre, post, e1, e2, e3, e4⟩ := segPut_cells hr hat hput (by omega)
            rw [← hmap, List.getElem?_map] at hfs
            cases hq : F.toList[i]? with
            | none => rw [hq] at hfs; cases hfs
            | some fld =>
              rw [hq] at hfs
              simp only [Option.map_some, Option.some.injEq, Prod.mk.injEq] at hfs
              have hq' : F[i]? = some fld := by rw [← Array.getElem?_toList]; exact hq
              obtain ⟨i', z, hi1, hi2, _⟩ := (hT ft fty hft).parts
              have hpl := hplace i fld i' hq' (by rw [hfs.2]; exact hi1)
              rw [hfs.1, hi2] at hpl
              have hzl := hd.length
              rw [e1] at hzl
              simp only [List.length_append, R.len_cells, e3] at hzl
              have hal : rr.len = us.length := by rw [← hul, ← ha, R.a_len]
              have hd' : DenL ℓ (segCells l') (overL zs o us) := by
                have h5 := hd.over o hdu
                have : overL (segCells l) o a.cells = segCells l' := by
                  rw [e1, e2]
                  rw [← ha, R.a_cells, ← e3]
                  exact overL_mid _ _ _ _ (by rw [R.len_cells, R.len_cells]; omega)
                rw [this] at h5
                exact h5
              obtain ⟨l2, zs2, f1, f2, f3, f4⟩ := ih hp hok' hd' h
              refine ⟨l2, zs2, ?_, f2, f3, f4⟩
              rw [fill_step (o := o) (sz := fty.size) hpl hvc (by omega) (by simp; omega)]
              exact f1
          · exact h.elim
        · exact h.elim
      · exact h.elim
theorem run_listMapM {α β : Type} (f : α → Sem β) (g : α → β) : ∀ (l : List α), (∀ x ∈ l, (f x).run P w = .ok (g x) w) → (l.mapM f).run P w = .ok (l.map g) w
  | [], _ => by simp
  | x :: l, h => by
    simp only [List.mapM_cons, Sem.run_bind, h x (by simp), Result.andThen_ok, run_listMapM f g l (fun y hy => h y (by simp [hy])), Sem.run_pure, List.map_cons]
def stBuild (T : Tab) (t : TypeId) (ps : List (Nat × SV)) (K : SV → Prop) : Prop :=
  match T t with
  | some ty => match ty.kind, ty.zero with
    | .struct fs, .st l => fillS T fs l ps (fun l' => K (.one (.st l')))
    | .arr _ e, z => match T e with
      | some ety => z.isRow = true ∧ fillA z ety.size ps (fun a => K (.one a))
      | none => False
    | _, _ => False
  | none => False
theorem stBuild_ok {T : Tab} (hT : TabOK P T) (hm : MH E ℓ m w) {t : TypeId} {ps : List (Nat × SV)} {vs : List (Nat × Value)} (hp : DenP ℓ ps vs) (h : stBuild T t ps (fun r => K r none)) :
    Comes P E ℓ m nid K (do pure (.value (← Instr.build t vs.toArray))) w := by
  unfold stBuild at h
  split at h
  · rename_i ty hty
    have hty := hT t ty hty
    obtain ⟨z, hz, hzv⟩ := hty.zv w
    have hk := hty.kind
    have hzd := A.val_den hzv hty.ok ℓ
    split at h
    · rename_i fs l hkk hzz
      rw [hkk] at hk
      obtain ⟨F, hF, hmap, hall⟩ := hk
      rw [hzz] at hzd
      obtain ⟨hok, zs, rfl, hd⟩ := hzd
      have hinfo : ∀ f ∈ F.toList, ∃ i, P.info? f.type = some i := fun f hf => Option.isSome_iff_exists.1 (List.all_eq_true.1 hall f hf)
      let g : Field → Nat × Nat := fun f => (f.offset, ((P.info? f.type).map (·.size)).getD 0)
      have hmm : (F.mapM (m := Sem) fun f => do pure (f.offset, ← sizeOf f.type)).run P w = .ok (F.map g) w := by
        rw [Array.mapM_eq_mapM_toList, Sem.run_map, run_listMapM _ g F.toList (fun f hf => by
          obtain ⟨i, hi⟩ := hinfo f hf
          simp [sizeOf, typeInfo, hi, g])]
        simp only [Result.andThen_ok]
        congr 1
        apply Array.ext'; simp
      obtain ⟨l', zs', e1, e2, e3, e4⟩ := fillS_ok hT hmap (place := fun i => (F.map g)[i]?) (fun i f i' hf hi => by simp [hf, g, hi]) hp hok hd h
      refine comes_value hm (v := .agg zs'.toArray) (sv := .one (.st l')) ?_ ⟨e2, zs', rfl, e3⟩ e4
      have hmm' : (F.mapM (m := Sem) fun f => do let __do_lift ← sizeOf f.type; pure (f.offset, __do_lift)).run P w = .ok (F.map g) w := hmm
      simp only [Instr.build, Sem.run_bind, hz, Result.andThen_ok, run_underlying hF, hmm']
      show Sem.run P (match Instr.fill (fun x => (F.map g)[x]?) zs.toArray vs with | some cells => _ | _ => _) w = _
      rw [e1]
      rfl
    · rename_i n e hkk
      rw [hkk] at hk; simp only [KindOK] at hk
      split at h
      · rename_i ety hety
        obtain ⟨hrow, h⟩ := h
        have hsz := (hT e ety hety).size w
        obtain ⟨zs, rfl, hd⟩ := (DenA.row hrow).1 hzd
        obtain ⟨a', zs', e1, e2, e3, e4, e5⟩ := fillA_ok hp hrow hd h
        refine comes_value hm (v := .agg zs'.toArray) (sv := .one a') ?_ ((DenA.row e2).2 ⟨zs', rfl, e4⟩) e5
        simp only [Instr.build, Sem.run_bind, hz, Result.andThen_ok, run_underlying hk, hsz]
        show Sem.run P (match Instr.fill (fun i => some (i * ety.size, ety.size)) zs.toArray vs with | some cells => _ | _ => _) w = _
        rw [e1]
        rfl
      · exact h.elim
    · exact h.elim
  · exact h.elim
end
end Go.V
