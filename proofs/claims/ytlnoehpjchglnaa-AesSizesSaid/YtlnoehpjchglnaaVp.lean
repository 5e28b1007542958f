/- A small verifier of our own, part 16: regions whose order is open. No condition. -/
import Derived.Test.YtlnoehpjchglnaaVo
import Derived.StillTail
set_option linter.unusedSimpArgs false
set_option linter.unusedVariables false
namespace Go.V
open Go

/-! what is checked of a region by looking at it -/
def tmpsOf (o : Oper) : List Nat := o.op.operands.toList.filterMap (fun x => match x with | .tmp t => some t | _ => none)
def guardTmp (l : List Oper) (o : Oper) : Option Nat := o.guard.bind (fun p => (l[p.1]?).bind (·.dst))
def readsOf (l : List Oper) (o : Oper) : List Nat := tmpsOf o ++ (guardTmp l o).toList
def dstOf (l : List Oper) (i : Nat) : Option Nat := (l[i]?).bind (·.dst)
def allocs (o : Oper) : Bool := match o.op with | .alloc _ => true | .box _ _ => true | .makeSlice _ _ _ => true | .buildSlice _ _ _ => true | _ => false
def headB (l : List Oper) (n : Nat) : Bool := (List.range n).all fun i => match l[i]? with
  | none => false
  | some o => (dstOf l i).isSome && ((List.range n).all fun j => i == j || dstOf l j != dstOf l i) &&
    ((List.range n).all fun j => match dstOf l j with | none => true | some d => !(readsOf l o).contains d || (decide (j < i) && Region.waitsFor .any l.toArray i j)) &&
    (o.after.toList.all fun e => !Region.binds .any e || decide (e.on < i))
def firstN (n g : Nat) : Array Bool := (List.replicate n true ++ List.replicate g false).toArray
def drawB (l : List Oper) (n : Nat) : Bool :=
  decide (n < l.length) && Region.sinkB .any l.toArray n && Region.chainB .any l.toArray n && Region.seqB .any l.toArray (l.length - n) n (firstN n (l.length - n)) && headB l n

/-! the run of a region's head in the text's order -/
def evS (sl : Slots) : Operand → SV
  | .tmp t => look sl t
  | .const v => constS v
  | .global _ => one .any
  | .func f => one (.fn f [])
theorem evS_eq (st : St) : st.ev = evS st.sl := by funext x; cases x <;> rfl
def pushD (d : Option Nat) (v : SV) (sl : Slots) : Slots := match d with | some d => (d, v) :: sl | none => sl
def hdRun (T : Tab) (pu : Pure) (m0 : Mem) (l : List Oper) (N : Nat) : List Oper → Slots → List Ent → (Slots → List Ent → Prop) → Prop
  | [], sl, al, K => K sl al
  | o :: r, sl, al, K =>
    (noCap T o = true ∧ okd N o.dst) ∧ match guardTmp l o, o.guard with
    | none, none => est T pu m0 (m0.length + al.length) (evS sl) o (fun v eo => eo.isSome = allocs o ∧ hdRun T pu m0 l N r (pushD o.dst v sl) (al ++ eo.toList) K)
    | some d, some (_, b) => (match look sl d with
      | .one (.s (.b c)) => (c = b → est T pu m0 (m0.length + al.length) (evS sl) o (fun v eo => eo.isSome = allocs o ∧ hdRun T pu m0 l N r (pushD o.dst v sl) (al ++ eo.toList) K)) ∧ (c = (!b) → hdRun T pu m0 l N r (pushD o.dst (.tup []) sl) al K)
      | .tup [] => hdRun T pu m0 l N r (pushD o.dst (.tup []) sl) al K
      | _ => False)
    | _, _ => False
def says (l : List Oper) (o : Oper) (look : Nat → SV) (t : Bool) : Prop :=
  match guardTmp l o, o.guard with
  | none, none => t = true
  | some d, some (_, b) => (∃ c, look d = .one (.s (.b c)) ∧ t = (c == b)) ∨ (look d = .tup [] ∧ t = false)
  | _, _ => False
/-- What the run came to, operation by operation. -/
def Trace (T : Tab) (pu : Pure) (m0 : Mem) (l : List Oper) (N : Nat) : List Oper → Slots → Nat → List (SV × Option Ent) → Prop
  | [], _, _, [] => True
  | o :: r, sl, q, (v, eo) :: vs => (noCap T o = true ∧ okd N o.dst) ∧ ((says l o (look sl) true ∧ eo.isSome = allocs o ∧ ∀ K', K' v eo → est T pu m0 (m0.length + q) (evS sl) o K') ∨ (says l o (look sl) false ∧ v = .tup [] ∧ eo = none)) ∧ Trace T pu m0 l N r (pushD o.dst v sl) (q + eo.toList.length) vs
  | _, _, _, _ => False
def pushAll : List Oper → List (SV × Option Ent) → Slots → Slots
  | o :: r, (v, _) :: vs, sl => pushAll r vs (pushD o.dst v sl)
  | _, _, sl => sl
def entsOf (vs : List (SV × Option Ent)) : List Ent := vs.filterMap (·.2)
theorem hdRun_trace {T : Tab} {pu : Pure} {m0 : Mem} {l : List Oper} {N : Nat} : ∀ (r : List Oper) (sl : Slots) (al : List Ent) (K : Slots → List Ent → Prop), hdRun T pu m0 l N r sl al K →
    ∃ vs, Trace T pu m0 l N r sl al.length vs ∧ K (pushAll r vs sl) (al ++ entsOf vs)
  | [], sl, al, K, h => ⟨[], trivial, by have h' : K sl al := h; simpa [entsOf, pushAll] using h'⟩
  | o :: r, sl, al, K, h => by
    obtain ⟨⟨hc, hd⟩, h⟩ := h
    have go : says l o (look sl) true → est T pu m0 (m0.length + al.length) (evS sl) o (fun v eo => eo.isSome = allocs o ∧ hdRun T pu m0 l N r (pushD o.dst v sl) (al ++ eo.toList) K) → ∃ vs, Trace T pu m0 l N (o :: r) sl al.length vs ∧ K (pushAll (o :: r) vs sl) (al ++ entsOf vs) := by
      intro hs h
      obtain ⟨⟨v, eo⟩, ⟨h1, h2⟩, h3⟩ := det_est T pu m0 (m0.length + al.length) (evS sl) o hc (fun p => p.2.isSome = allocs o ∧ hdRun T pu m0 l N r (pushD o.dst p.1 sl) (al ++ p.2.toList) K) h
      obtain ⟨vs, g1, g2⟩ := hdRun_trace r _ _ _ h2
      refine ⟨(v, eo) :: vs, ⟨⟨hc, hd⟩, .inl ⟨hs, h1, fun K' hK' => h3 (fun p => K' p.1 p.2) hK'⟩, by simpa using g1⟩, ?_⟩
      simp only [pushAll]
      cases eo <;> simpa [entsOf] using g2
    have sk : says l o (look sl) false → hdRun T pu m0 l N r (pushD o.dst (.tup []) sl) al K → ∃ vs, Trace T pu m0 l N (o :: r) sl al.length vs ∧ K (pushAll (o :: r) vs sl) (al ++ entsOf vs) := by
      intro hs h
      obtain ⟨vs, g1, g2⟩ := hdRun_trace r _ _ _ h
      exact ⟨(.tup [], none) :: vs, ⟨⟨hc, hd⟩, .inr ⟨hs, rfl, rfl⟩, by simpa using g1⟩, by simpa [entsOf, pushAll] using g2⟩
    split at h
    · rename_i h1 h2
      exact go (by simp [says, h1, h2]) h
    · rename_i d b h1 h2
      split at h
      · rename_i c hlk
        by_cases hcb : c = b
        · exact go (by simp only [says, h1, h2]; exact .inl ⟨c, hlk, by simp [hcb]⟩) (h.1 hcb)
        · exact sk (by simp only [says, h1, h2]; exact .inl ⟨c, hlk, by simp [hcb]⟩) (h.2 (by cases c <;> cases b <;> simp_all))
      · rename_i hlk
        exact sk (by simp only [says, h1, h2]; exact .inr ⟨hlk, trivial⟩) h
      · exact h.elim
    · exact h.elim

theorem find_congr {p q : Nat → Bool} : ∀ {l : List Nat}, (∀ x ∈ l, p x = q x) → l.find? p = l.find? q
  | [], _ => rfl
  | a :: l, h => by
    simp only [List.find?_cons, h a (by simp)]
    rw [find_congr (fun x hx => h x (by simp [hx]))]

/-! the state in which some of the operations have been carried out -/
section
variable (l : List Oper) (n : Nat) (vs : List (SV × Option Ent)) (sl : Slots)
def valAt (i : Nat) : SV := match vs[i]? with | some p => p.1 | none => one .any
def view (L : Nat → Bool) (t : Nat) : SV :=
  match (List.range n).find? (fun j => L j && dstOf l j == some t) with
  | some j => valAt vs j
  | none => look sl t
variable {l n vs sl}
theorem view_congr {L L' : Nat → Bool} {t : Nat} (h : ∀ j, j < n → dstOf l j = some t → L j = L' j) : view l n vs sl L t = view l n vs sl L' t := by
  unfold view
  have : (List.range n).find? (fun j => L j && dstOf l j == some t) = (List.range n).find? (fun j => L' j && dstOf l j == some t) := by
    refine find_congr ?_
    intro j hj
    by_cases hd : dstOf l j = some t
    · rw [h j (List.mem_range.1 hj) hd]
    · have : (dstOf l j == some t) = false := by simpa using hd
      rw [this]; simp
  rw [this]
theorem view_at {L : Nat → Bool} {t i : Nat} (hu : ∀ a b, a < n → b < n → dstOf l a = some t → dstOf l b = some t → a = b) (hi : i < n) (hd : dstOf l i = some t) (hL : L i = true) : view l n vs sl L t = valAt vs i := by
  unfold view
  cases hf : (List.range n).find? (fun j => L j && dstOf l j == some t) with
  | none =>
    have := List.find?_eq_none.1 hf i (List.mem_range.2 hi)
    simp [hL, hd] at this
  | some j =>
    have h1 := List.find?_some hf
    have h2 := List.mem_range.1 (List.mem_of_find?_eq_some hf)
    simp only [Bool.and_eq_true, beq_iff_eq] at h1
    rw [hu j i h2 hi h1.2 hd]
theorem view_none {L : Nat → Bool} {t : Nat} (h : ∀ j, j < n → dstOf l j = some t → L j = false) : view l n vs sl L t = look sl t := by
  unfold view
  have : (List.range n).find? (fun j => L j && dstOf l j == some t) = none := by
    rw [List.find?_eq_none]
    intro j hj hh
    simp only [Bool.and_eq_true, beq_iff_eq] at hh
    rw [h j (List.mem_range.1 hj) hh.2] at hh
    cases hh.1
  rw [this]
end
def memF : List (Option Ent) → (Nat → Bool) → Nat → Mem
  | [], _, _ => []
  | none :: r, L, i => memF r L (i + 1)
  | some e :: r, L, i => (if L i = true then .ent e else .hole) :: memF r L (i + 1)
def updB (L : Nat → Bool) (i : Nat) : Nat → Bool := fun j => if j = i then true else L j
theorem memF_congr : ∀ {eos : List (Option Ent)} {L L' : Nat → Bool} {i : Nat}, (∀ k e, eos[k]? = some (some e) → L (i + k) = L' (i + k)) → memF eos L i = memF eos L' i
  | [], _, _, _, _ => rfl
  | none :: r, L, L', i, h => memF_congr (eos := r) (i := i + 1) (fun k e hk => by have := h (k + 1) e (by simpa using hk); rw [show i + 1 + k = i + (k + 1) by omega]; exact this)
  | some e :: r, L, L', i, h => by
    have h0 := h 0 e (by simp)
    have h1 := memF_congr (eos := r) (L := L) (L' := L') (i := i + 1) (fun k e hk => by have := h (k + 1) e (by simpa using hk); rw [show i + 1 + k = i + (k + 1) by omega]; exact this)
    simp only [memF, h1]
    rw [show L i = L' i from h0]
theorem memF_set : ∀ {eos : List (Option Ent)} {L : Nat → Bool} {i k : Nat} {e : Ent}, eos[k]? = some (some e) → L (i + k) = false →
    ∃ A B, memF eos L i = A ++ .hole :: B ∧ memF eos (updB L (i + k)) i = A ++ .ent e :: B ∧ A.length = ((eos.take k).filterMap id).length
  | [], L, i, k, e, h, _ => by simp at h
  | x :: r, L, i, 0, e, h, hL => by
    simp at h; subst h
    refine ⟨[], memF r L (i + 1), ?_, ?_, rfl⟩
    · simp only [memF]; rw [show L i = false from hL]; rfl
    · simp only [memF, updB]
      simp only [Nat.add_zero, if_true, List.nil_append, List.cons.injEq, true_and]
      exact memF_congr (fun k' e' _ => by simp only [updB]; rw [if_neg (by omega)])
  | x :: r, L, i, k + 1, e, h, hL => by
    obtain ⟨A, B, h1, h2, h3⟩ := memF_set (eos := r) (L := L) (i := i + 1) (k := k) (e := e) (by simpa using h) (by rw [show i + 1 + k = i + (k + 1) by omega]; exact hL)
    rw [show i + 1 + k = i + (k + 1) by omega] at h2
    cases x with
    | none => exact ⟨A, B, by simpa [memF] using h1, by simpa [memF] using h2, by simpa using h3⟩
    | some e0 =>
      refine ⟨(if L i = true then .ent e0 else .hole) :: A, B, ?_, ?_, by simpa using h3⟩
      · simp only [memF, h1]; rfl
      · have hu : updB L (i + (k + 1)) i = L i := by simp only [updB]; rw [if_neg (by omega)]
        simp only [memF, h2, hu]; rfl
theorem memF_all : ∀ {eos : List (Option Ent)} {L : Nat → Bool} {i : Nat}, (∀ k, k < eos.length → L (i + k) = true) → memF eos L i = (eos.filterMap id).map .ent
  | [], _, _, _ => rfl
  | none :: r, L, i, h => by
    simpa [memF] using memF_all (eos := r) (L := L) (i := i + 1) (fun k hk => by rw [show i + 1 + k = i + (k + 1) by omega]; exact h (k + 1) (by simp; omega))
  | some e :: r, L, i, h => by
    have := memF_all (eos := r) (L := L) (i := i + 1) (fun k hk => by rw [show i + 1 + k = i + (k + 1) by omega]; exact h (k + 1) (by simp; omega))
    simp only [memF, this]
    rw [show L i = true from h 0 (by simp)]
    simp
theorem memF_holes : ∀ {eos : List (Option Ent)} {L : Nat → Bool} {i : Nat}, (∀ k, L k = false) → ∀ x ∈ memF eos L i, x = .hole
  | [], _, _, _, x, hx => by cases hx
  | none :: r, L, i, h, x, hx => memF_holes (eos := r) h x (by simpa [memF] using hx)
  | some e :: r, L, i, h, x, hx => by
    simp only [memF, h i, List.mem_cons] at hx
    rcases hx with hx | hx
    · simpa using hx
    · exact memF_holes (eos := r) h x hx
section
variable {P : Program} {E : Env} {N : Nat} {ℓ : Nat → Option Loc} {m : Mem} {w : World}
theorem MH.holes (h : MH E ℓ m w) {x : Mem} (hx : ∀ y ∈ x, y = .hole) : MH E ℓ (m ++ x) w := by
  have get : ∀ {i : Nat} {e : Ent}, (m ++ x)[i]? = some (.ent e) → m[i]? = some (.ent e) := by
    intro i e hi
    rcases Nat.lt_or_ge i m.length with hl | hl
    · rwa [List.getElem?_append_left hl] at hi
    · rw [List.getElem?_append_right hl] at hi
      have := hx _ (List.mem_of_getElem? hi)
      cases this
  exact { os := h.os, tape := h.tape, output := h.output, size := h.size, keep := h.keep, anch := h.anch
          dom := fun i hi => by
            rcases Nat.lt_or_ge i m.length with hl | hl
            · rcases hi with hi | hi
              · simp at hi; omega
              · rw [List.getElem?_append_left hl] at hi
                exact h.dom i (.inr hi)
            · exact h.dom i (.inl hl)
          ent := fun id e hid => h.ent id e (get hid)
          apart := fun i j ei ej Li Lj hi hj => h.apart i j ei ej Li Lj (get hi) (get hj) }
def cntF (L : Nat → Bool) : Nat → Nat
  | 0 => 0
  | n + 1 => cntF L n + (if L n = true then 0 else 1)
theorem cntF_congr {L L' : Nat → Bool} : ∀ {n : Nat}, (∀ j, j < n → L j = L' j) → cntF L n = cntF L' n
  | 0, _ => rfl
  | n + 1, h => by simp only [cntF]; rw [cntF_congr (fun j hj => h j (by omega)), h n (by omega)]
theorem cntF_set {L : Nat → Bool} {i : Nat} : ∀ {n : Nat}, i < n → L i = false → cntF L n = cntF (updB L i) n + 1
  | 0, h, _ => by omega
  | n + 1, h, hL => by
    simp only [cntF]
    by_cases hi : i = n
    · subst hi
      rw [cntF_congr (L := L) (L' := updB L i) (fun j hj => by simp [updB]; omega), hL]
      simp [updB]
    · rw [cntF_set (n := n) (by omega) hL]
      have : updB L i n = L n := by simp [updB]; omega
      rw [this]; omega
theorem cntF_zero {L : Nat → Bool} : ∀ {n : Nat}, cntF L n = 0 → ∀ j, j < n → L j = true
  | 0, _, j, hj => by omega
  | n + 1, h, j, hj => by
    simp only [cntF] at h
    by_cases hjn : j = n
    · subst hjn; cases hx : L j <;> simp_all
    · exact cntF_zero (n := n) (by omega) j (by omega)
theorem cntF_least {L : Nat → Bool} : ∀ {n : Nat}, cntF L n ≠ 0 → ∃ i, i < n ∧ L i = false ∧ ∀ j, j < i → L j = true
  | 0, h => absurd rfl h
  | n + 1, h => by
    by_cases h0 : cntF L n = 0
    · refine ⟨n, by omega, ?_, cntF_zero h0⟩
      simp only [cntF, h0] at h
      cases hx : L n <;> simp_all
    · obtain ⟨i, h1, h2, h3⟩ := cntF_least h0
      exact ⟨i, by omega, h2, h3⟩
end
end Go.V
