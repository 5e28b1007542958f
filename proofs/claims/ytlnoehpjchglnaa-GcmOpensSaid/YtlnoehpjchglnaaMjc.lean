/- Texts of the walks, put together: Vz Vt Vu Ya Vs Vv. No condition. -/
import Derived.Test.YtlnoehpjchglnaaMjb
import Derived.Test.YtlnoehpjchglnaaProg
import Derived.ProofKit
section
set_option linter.unusedSimpArgs false
set_option linter.unusedVariables false
namespace Go.V
open Go

/-! stores to blocks that the region makes: which operation stores, which one made the block -/
def stOf : List (Nat × Nat) → Nat → Option Nat
  | [], _ => none
  | (s, j) :: r, i => if i = s then some j else stOf r i
def stT : List (Nat × Nat) → Nat → Option Nat
  | [], _ => none
  | (s, j') :: r, j => if j = j' then some s else stT r j
theorem stOf_mem : ∀ {st : List (Nat × Nat)} {i j : Nat}, stOf st i = some j → (i, j) ∈ st
  | (s, j') :: r, i, j, h => by
    simp only [stOf] at h
    split at h
    · rename_i hi; subst hi; cases h; exact List.mem_cons_self
    · exact List.mem_cons_of_mem _ (stOf_mem h)
theorem stT_mem : ∀ {st : List (Nat × Nat)} {s j : Nat}, stT st j = some s → (s, j) ∈ st
  | (s', j') :: r, s, j, h => by
    simp only [stT] at h
    split at h
    · rename_i hi; subst hi; cases h; exact List.mem_cons_self
    · exact List.mem_cons_of_mem _ (stT_mem h)
def stB (l : List Oper) (n : Nat) (vis : List (Nat × List Nat)) (st : List (Nat × Nat)) : Bool := st.all fun p =>
  stOf st p.1 == some p.2 && stT st p.2 == some p.1 && stOf st p.2 == none && decide (p.2 < p.1) && decide (p.1 < n) && Region.waitsFor .any l.toArray p.1 p.2 && (dstOf l p.1).isNone && (l[p.1]?).any (fun o => o.guard.isNone) && ((List.range n).all fun i => !(visOf vis i).contains p.2)
def headB3 (l : List Oper) (n : Nat) (vis : List (Nat × List Nat)) (st : List (Nat × Nat)) : Bool := (List.range n).all fun i => match l[i]? with
  | none => false
  | some o => ((dstOf l i).isSome || (stOf st i).isSome) && ((List.range n).all fun j => i == j || (dstOf l i).isNone || dstOf l j != dstOf l i) &&
    ((List.range n).all fun j => match dstOf l j with | none => true | some d => !(readsOf l o).contains d || (decide (j < i) && Region.waitsFor .any l.toArray i j) || (decide (i < j) && Region.waitsFor .any l.toArray j i)) &&
    (o.after.toList.all fun e => !Region.binds .any e || decide (e.on < i)) &&
    ((visOf vis i).all fun j => decide (j < i) && awB l 3 i j)
def drawB3 (l : List Oper) (n : Nat) (vis : List (Nat × List Nat)) (st : List (Nat × Nat)) : Bool :=
  decide (n < l.length) && Region.sinkB .any l.toArray n && Region.chainB .any l.toArray n && Region.seqB .any l.toArray (l.length - n) n (firstN n (l.length - n)) && headB3 l n vis st && stB l n vis st
/-- What a store puts into a block that the region made. -/
def stoP (T : Tab) (m0 : Mem) (al : List (List Ent × Option Ent)) (j : Nat) (g : Operand → SV) (o : Oper) (K : Ent → Prop) : Prop :=
  match o.op, al[j]? with
  | .store t x y, some ([e], _) => (match g x, g y, T t with
    | .one (.s (.ptr id b off)), .one a, some ty => ((id = m0.length + ((al.map (·.1)).take j).flatten.length ∧ b = 0 ∧ off = 0) ∧ (e.own = true ∧ e.c.isRow = true ∧ a.isRow = true) ∧ (e.bound = ty.size ∧ a.len = ty.size ∧ a.solid = true)) ∧ K { e with c := a }
    | _, _, _ => False)
  | _, _ => False
theorem stoP_det {T : Tab} {m0 : Mem} {al : List (List Ent × Option Ent)} {j : Nat} {g : Operand → SV} {o : Oper} {K : Ent → Prop} (h : stoP T m0 al j g o K) : ∃ e', (∀ K' : Ent → Prop, K' e' → stoP T m0 al j g o K') ∧ K e' := by
  unfold stoP at h ⊢
  split at h
  · split at h
    · exact ⟨_, fun K' hK' => ⟨h.1, hK'⟩, h.2⟩
    · exact h.elim
  · exact h.elim
def contAt (st : List (Nat × Nat)) (al : List (List Ent × Option Ent)) (L : Nat → Bool) (j : Nat) : List Ent :=
  match stT st j with
  | some s => if L s = true then (match (al[s]?).bind (·.2) with | some e' => [e'] | none => (match al[j]? with | some p => p.1 | none => [])) else (match al[j]? with | some p => p.1 | none => [])
  | none => (match al[j]? with | some p => p.1 | none => [])
def contL (st : List (Nat × Nat)) (al : List (List Ent × Option Ent)) (L : Nat → Bool) : List (List Ent) := (List.range al.length).map (contAt st al L)
def finL (st : List (Nat × Nat)) (al : List (List Ent × Option Ent)) : List (List Ent) := contL st al (fun _ => true)
theorem contL_len {st : List (Nat × Nat)} {al : List (List Ent × Option Ent)} {L : Nat → Bool} : (contL st al L).length = al.length := by simp [contL]
theorem contL_get {st : List (Nat × Nat)} {al : List (List Ent × Option Ent)} {L : Nat → Bool} {k : Nat} (hk : k < al.length) : (contL st al L)[k]? = some (contAt st al L k) := by
  simp [contL, hk]
def hd3 (T : Tab) (pu : Pure) (nu : New) (m0 : Mem) (l : List Oper) (vis : List (Nat × List Nat)) (ss : List (Nat × Nat)) (N : Nat) : Nat → List Oper → Slots → List (List Ent × Option Ent) → (Slots → List (List Ent × Option Ent) → Prop) → Prop
  | _, [], sl, al, K => K sl al
  | i, o :: r, sl, al, K => match stOf ss i with
    | some j => stoP T m0 al j (evS sl) o (fun e' => hd3 T pu nu m0 l vis ss N (i + 1) r sl (al ++ [([], some e')]) K)
    | none => (noCap T o = true ∧ okd N o.dst) ∧ match guardTmp l o, o.guard with
      | none, none => hop T pu nu (viewM m0 vis i (al.map (·.1))) (m0.length + (al.map (·.1)).flatten.length) (evS sl) o (fun v es => hd3 T pu nu m0 l vis ss N (i + 1) r (pushD o.dst v sl) (al ++ [(es, none)]) K)
      | some d, some (_, b) => (match look sl d with
        | .one (.s (.b c)) => (c = b → hop T pu nu (viewM m0 vis i (al.map (·.1))) (m0.length + (al.map (·.1)).flatten.length) (evS sl) o (fun v es => hd3 T pu nu m0 l vis ss N (i + 1) r (pushD o.dst v sl) (al ++ [(es, none)]) K)) ∧ (c = (!b) → hd3 T pu nu m0 l vis ss N (i + 1) r (pushD o.dst (.tup []) sl) (al ++ [([], none)]) K)
        | .tup [] => hd3 T pu nu m0 l vis ss N (i + 1) r (pushD o.dst (.tup []) sl) (al ++ [([], none)]) K
        | _ => False)
      | _, _ => False
abbrev Out := SV × List Ent × Option Ent
def Trace3 (T : Tab) (pu : Pure) (nu : New) (m0 : Mem) (l : List Oper) (vis : List (Nat × List Nat)) (ss : List (Nat × Nat)) (N : Nat) : Nat → List Oper → Slots → List (List Ent × Option Ent) → List Out → Prop
  | _, [], _, _, [] => True
  | i, o :: r, sl, al, (v, es, up) :: vs => (match stOf ss i with
    | some j => es = [] ∧ v = .tup [] ∧ ∃ e', up = some e' ∧ ∀ K' : Ent → Prop, K' e' → stoP T m0 al j (evS sl) o K'
    | none => up = none ∧ (noCap T o = true ∧ okd N o.dst) ∧ ((says l o (look sl) true ∧ Doing T pu nu (viewM m0 vis i (al.map (·.1))) (m0.length + (al.map (·.1)).flatten.length) (evS sl) o v es) ∨ (says l o (look sl) false ∧ v = .tup [] ∧ es = []))) ∧
    Trace3 T pu nu m0 l vis ss N (i + 1) r (match stOf ss i with | some _ => sl | none => pushD o.dst v sl) (al ++ [(es, up)]) vs
  | _, _, _, _, _ => False
def push3 (ss : List (Nat × Nat)) : Nat → List Oper → List Out → Slots → Slots
  | i, o :: r, (v, _, _) :: vs, sl => push3 ss (i + 1) r vs (match stOf ss i with | some _ => sl | none => pushD o.dst v sl)
  | _, _, _, sl => sl
theorem hd3_trace {T : Tab} {pu : Pure} {nu : New} {m0 : Mem} {l : List Oper} {vis : List (Nat × List Nat)} {ss : List (Nat × Nat)} {N : Nat} : ∀ (r : List Oper) (i : Nat) (sl : Slots) (al : List (List Ent × Option Ent)) (K : Slots → List (List Ent × Option Ent) → Prop), hd3 T pu nu m0 l vis ss N i r sl al K →
    ∃ vs : List Out, Trace3 T pu nu m0 l vis ss N i r sl al vs ∧ K (push3 ss i r vs sl) (al ++ vs.map (·.2))
  | [], i, sl, al, K, h => ⟨[], trivial, by have h' : K sl al := h; simpa [push3] using h'⟩
  | o :: r, i, sl, al, K, h => by
    unfold hd3 at h
    cases hst : stOf ss i with
    | some j =>
      simp only [hst] at h
      obtain ⟨e', h1, h2⟩ := stoP_det h
      obtain ⟨vs, g1, g2⟩ := hd3_trace r _ _ _ _ h2
      refine ⟨(.tup [], [], some e') :: vs, ⟨?_, ?_⟩, ?_⟩
      · simp only [hst]
        exact ⟨trivial, trivial, e', rfl, h1⟩
      · simpa only [hst] using g1
      · simpa [push3, hst] using g2
    | none =>
      simp only [hst] at h
      obtain ⟨⟨hc, hd⟩, h⟩ := h
      have go : says l o (look sl) true → hop T pu nu (viewM m0 vis i (al.map (·.1))) (m0.length + (al.map (·.1)).flatten.length) (evS sl) o (fun v es => hd3 T pu nu m0 l vis ss N (i + 1) r (pushD o.dst v sl) (al ++ [(es, none)]) K) → ∃ vs : List Out, Trace3 T pu nu m0 l vis ss N i (o :: r) sl al vs ∧ K (push3 ss i (o :: r) vs sl) (al ++ vs.map (·.2)) := by
        intro hs h
        obtain ⟨v, es, h1, h2⟩ := hop_doing hc h
        obtain ⟨vs, g1, g2⟩ := hd3_trace r _ _ _ _ h2
        refine ⟨(v, es, none) :: vs, ⟨?_, ?_⟩, ?_⟩
        · simp only [hst]
          exact ⟨trivial, ⟨hc, hd⟩, .inl ⟨hs, h1⟩⟩
        · simpa only [hst] using g1
        · simpa [push3, hst] using g2
      have sk : says l o (look sl) false → hd3 T pu nu m0 l vis ss N (i + 1) r (pushD o.dst (.tup []) sl) (al ++ [([], none)]) K → ∃ vs : List Out, Trace3 T pu nu m0 l vis ss N i (o :: r) sl al vs ∧ K (push3 ss i (o :: r) vs sl) (al ++ vs.map (·.2)) := by
        intro hs h
        obtain ⟨vs, g1, g2⟩ := hd3_trace r _ _ _ _ h
        refine ⟨(.tup [], [], none) :: vs, ⟨?_, ?_⟩, ?_⟩
        · simp only [hst]
          exact ⟨trivial, ⟨hc, hd⟩, .inr ⟨hs, trivial, trivial⟩⟩
        · simpa only [hst] using g1
        · simpa [push3, hst] using g2
      split at h
      · rename_i h1 h2
        exact go (by simp [says, h1, h2]) h
      · rename_i d b h1 h2
        split at h
        · rename_i c hlk
          by_cases hcb : c = b
          · exact go (by simp only [says, h1, h2]; exact .inl ⟨c, hlk, by simp [hcb]⟩) (h.1 hcb)
          · exact sk (by simp only [says, h1, h2]; exact .inl ⟨c, hlk, by simp [hcb]⟩) (h.2 (by cases c <;> cases b <;> simp_all))
        · rename_i hlk
          exact sk (by simp only [says, h1, h2]; exact .inr ⟨hlk, trivial⟩) h
        · exact h.elim
      · exact h.elim
structure HeadOK3 (l : List Oper) (n : Nat) (vis : List (Nat × List Nat)) (ss : List (Nat × Nat)) (i : Nat) (o : Oper) : Prop where
  get : l[i]? = some o
  dst : stOf ss i = none → ∃ d, o.dst = some d
  uniq : ∀ j d, j < n → i ≠ j → dstOf l i = some d → dstOf l j ≠ some d
  reads : ∀ j d, j < n → dstOf l j = some d → d ∈ readsOf l o → (j < i ∧ Region.waitsFor .any l.toArray i j = true) ∨ (i < j ∧ Region.waitsFor .any l.toArray j i = true)
  back : ∀ e ∈ o.after, Region.binds .any e = true → e.on < i
  vis : ∀ j ∈ visOf vis i, j < i ∧ awB l 3 i j = true
theorem headB3_ok {l : List Oper} {n : Nat} {vis : List (Nat × List Nat)} {ss : List (Nat × Nat)} (h : headB3 l n vis ss = true) {i : Nat} (hi : i < n) : ∃ o, HeadOK3 l n vis ss i o := by
  have h1 := List.all_eq_true.1 h i (List.mem_range.2 hi)
  split at h1
  · cases h1
  · rename_i o ho
    simp only [Bool.and_eq_true] at h1
    obtain ⟨⟨⟨⟨a, b⟩, c⟩, d⟩, e⟩ := h1
    have hd : dstOf l i = o.dst := by simp [dstOf, ho]
    refine ⟨o, ho, fun hs => ?_, fun j x hj hij hx hjx => ?_, fun j x hj hx hr => ?_, fun e he hb => ?_, fun j hj => ?_⟩
    · simp only [hs, Option.isSome_none, Bool.or_false] at a
      exact Option.isSome_iff_exists.1 (hd ▸ a)
    · have := List.all_eq_true.1 b j (List.mem_range.2 hj)
      simp only [Bool.or_eq_true, beq_iff_eq, bne_iff_ne, hx, hjx] at this
      rcases this with (h | h) | h
      · exact hij h
      · cases h
      · exact h rfl
    · have := List.all_eq_true.1 c j (List.mem_range.2 hj)
      simp only [hx, Bool.or_eq_true, Bool.not_eq_true', Bool.and_eq_true, decide_eq_true_eq] at this
      rcases this with (h2 | h2) | h2
      · have h3 : (readsOf l o).contains x = true := by simpa using hr
        rw [h2] at h3; cases h3
      · exact .inl h2
      · exact .inr h2
    · have := List.all_eq_true.1 d e (by simpa using he)
      simp only [Bool.or_eq_true, Bool.not_eq_true', decide_eq_true_eq, hb] at this
      simpa using this
    · have := List.all_eq_true.1 e j hj
      simpa using this
structure StOK (l : List Oper) (n : Nat) (vis : List (Nat × List Nat)) (ss : List (Nat × Nat)) (s j : Nat) : Prop where
  of : stOf ss s = some j
  to : stT ss j = some s
  plain : stOf ss j = none
  lt : j < s
  ltn : s < n
  waits : Region.waitsFor .any l.toArray s j = true
  dst : dstOf l s = none
  guard : ∀ o, l[s]? = some o → o.guard = none
  vis : ∀ i, i < n → j ∉ visOf vis i
theorem stB_ok {l : List Oper} {n : Nat} {vis : List (Nat × List Nat)} {ss : List (Nat × Nat)} (h : stB l n vis ss = true) {s j : Nat} (hm : (s, j) ∈ ss) : StOK l n vis ss s j := by
  have h1 := List.all_eq_true.1 h _ hm
  simp only [Bool.and_eq_true, beq_iff_eq, decide_eq_true_eq] at h1
  obtain ⟨⟨⟨⟨⟨⟨⟨⟨a, b⟩, c⟩, d⟩, e⟩, f⟩, g⟩, i⟩, k⟩ := h1
  refine ⟨a, b, c, d, e, f, by simpa using g, fun o ho => ?_, fun i' hi' hc => ?_⟩
  · rw [ho] at i
    simpa using i
  · have := List.all_eq_true.1 k i' (List.mem_range.2 hi')
    simp only [Bool.not_eq_true'] at this
    have h2 : (visOf vis i').contains j = true := by simpa using hc
    rw [this] at h2; cases h2
section
variable {T : Tab} {pu : Pure} {nu : New} {m0 : Mem} {l : List Oper} {vis : List (Nat × List Nat)} {ss : List (Nat × Nat)} {N : Nat}
theorem trace3_len : ∀ {r : List Oper} {i : Nat} {sl : Slots} {al : List (List Ent × Option Ent)} {vs : List Out}, Trace3 T pu nu m0 l vis ss N i r sl al vs → vs.length = r.length
  | [], i, sl, al, [], _ => rfl
  | o :: r, i, sl, al, (v, es, up) :: vs, h => by simp [trace3_len h.2]
  | [], _, _, _, _ :: _, h => h.elim
  | _ :: _, _, _, _, [], h => h.elim
theorem trace3_at : ∀ {r : List Oper} {i0 : Nat} {sl : Slots} {al : List (List Ent × Option Ent)} {vs : List Out}, Trace3 T pu nu m0 l vis ss N i0 r sl al vs → ∀ {i : Nat} {o : Oper}, r[i]? = some o →
    ∃ v es up, vs[i]? = some (v, es, up) ∧ (match stOf ss (i0 + i) with
    | some j => es = [] ∧ v = .tup [] ∧ ∃ e', up = some e' ∧ ∀ K' : Ent → Prop, K' e' → stoP T m0 (al ++ (vs.take i).map (·.2)) j (evS (push3 ss i0 (r.take i) (vs.take i) sl)) o K'
    | none => up = none ∧ (noCap T o = true ∧ okd N o.dst) ∧ ((says l o (look (push3 ss i0 (r.take i) (vs.take i) sl)) true ∧ Doing T pu nu (viewM m0 vis (i0 + i) ((al ++ (vs.take i).map (·.2)).map (·.1))) (m0.length + ((al ++ (vs.take i).map (·.2)).map (·.1)).flatten.length) (evS (push3 ss i0 (r.take i) (vs.take i) sl)) o v es) ∨ (says l o (look (push3 ss i0 (r.take i) (vs.take i) sl)) false ∧ v = .tup [] ∧ es = [])))
  | [], i0, sl, al, vs, _, i, o, hi => by simp at hi
  | o0 :: r, i0, sl, al, [], h, _, _, _ => h.elim
  | o0 :: r, i0, sl, al, (v, es, up) :: vs, h, 0, o, hi => by
    simp at hi; subst hi
    exact ⟨v, es, up, by simp, by simpa [push3] using h.1⟩
  | o0 :: r, i0, sl, al, (v, es, up) :: vs, h, i + 1, o, hi => by
    obtain ⟨v', es', up', g1, g2⟩ := trace3_at h.2 (i := i) (o := o) (by simpa using hi)
    refine ⟨v', es', up', by simpa using g1, ?_⟩
    simp only [List.take_succ_cons, push3, List.map_cons]
    rw [show i0 + (i + 1) = i0 + 1 + i by omega, show al ++ (es, up) :: (vs.take i).map (·.2) = al ++ [(es, up)] ++ (vs.take i).map (·.2) by simp]
    exact g2
theorem push3_succ : ∀ {r : List Oper} {i0 : Nat} {vs : List Out} {sl : Slots} {i : Nat} {o : Oper} {v : SV} {es : List Ent} {up : Option Ent}, r[i]? = some o → vs[i]? = some (v, es, up) →
    push3 ss i0 (r.take (i + 1)) (vs.take (i + 1)) sl = match stOf ss (i0 + i) with | some _ => push3 ss i0 (r.take i) (vs.take i) sl | none => pushD o.dst v (push3 ss i0 (r.take i) (vs.take i) sl)
  | [], i0, vs, sl, i, o, v, es, up, h, _ => by simp at h
  | _ :: r, i0, [], sl, i, o, v, es, up, _, h => by simp at h
  | o0 :: r, i0, (v0, e0, u0) :: vs, sl, 0, o, v, es, up, h, h2 => by
    simp at h h2; subst h; obtain ⟨rfl, rfl, rfl⟩ := h2
    simp [push3]
  | o0 :: r, i0, (v0, e0, u0) :: vs, sl, i + 1, o, v, es, up, h, h2 => by
    simp only [List.take_succ_cons, push3]
    rw [show i0 + (i + 1) = i0 + 1 + i by omega]
    exact push3_succ (by simpa using h) (by simpa using h2)
/-- The values alone. -/
def vals3 (vs : List Out) : List (SV × List Ent) := vs.map (fun p => (p.1, p.2.1))
theorem look_prefix3 {n : Nat} (hn : n ≤ l.length) (hB : headB3 l n vis ss = true) (hS : stB l n vis ss = true) {vs : List Out} {sl : Slots} (hv : vs.length = n) : ∀ (i : Nat), i ≤ n → ∀ t, look (push3 ss 0 ((l.take n).take i) (vs.take i) sl) t = view2 l n (vals3 vs) sl (fun j => decide (j < i)) t
  | 0, _, t => by
    rw [view2_none (fun j _ _ => by simp)]
    simp [push3]
  | i + 1, hi, t => by
    obtain ⟨o, ho⟩ := headB3_ok hB (i := i) (by omega)
    have hl : (l.take n)[i]? = some o := by rw [List.getElem?_take_of_lt (by omega)]; exact ho.get
    have hvi : vs[i]? = some vs[i] := List.getElem?_eq_getElem (by omega)
    rw [push3_succ (v := vs[i].1) (es := vs[i].2.1) (up := vs[i].2.2) hl hvi, Nat.zero_add]
    cases hst : stOf ss i with
    | some j =>
      simp only
      rw [look_prefix3 hn hB hS hv i (by omega) t]
      refine view2_congr (fun k hk hkd => ?_)
      have hne : k ≠ i := fun h => by
        subst h
        rw [(stB_ok hS (stOf_mem hst)).dst] at hkd
        cases hkd
      simp only [decide_eq_decide]; omega
    | none =>
      simp only
      obtain ⟨d, hd⟩ := ho.dst hst
      have hdi : dstOf l i = some d := by simp [dstOf, ho.get, hd]
      rw [hd]
      show (if t = d then vs[i].1 else look (push3 ss 0 ((l.take n).take i) (vs.take i) sl) t) = _
      have huniq : ∀ j, j < n → dstOf l j = some d → j = i := fun j hj hjd => by
        rcases Nat.decEq i j with h | h
        · exact absurd hjd (ho.uniq j d hj h hdi)
        · exact h.symm
      split
      · rename_i htd
        subst htd
        rw [view2_at (i := i) (fun a b ha hb h1 h2 => (huniq a ha h1).trans (huniq b hb h2).symm) (by omega) hdi (by simp)]
        simp [valAt2, vals3, hvi]
      · rename_i htd
        rw [look_prefix3 hn hB hS hv i (by omega) t]
        refine view2_congr (fun j hj hjd => ?_)
        have : j ≠ i := fun h => by subst h; rw [hdi] at hjd; exact htd (Option.some.inj hjd).symm
        simp only [decide_eq_decide]; omega
end
/-- More is known of the second list of blocks. -/
theorem memL_sub2 : ∀ {a b : List (List Ent)} {L L' : Nat → Bool} {i : Nat}, (∀ (k : Nat) (es : List Ent), a[k]? = some es → ∃ fs, b[k]? = some fs ∧ fs.length = es.length ∧ (L (i + k) = true → L' (i + k) = true ∧ fs = es)) → ∀ (p : Nat) (e : Ent), (memL a L i)[p]? = some (.ent e) → (memL b L' i)[p]? = some (.ent e)
  | [], b, L, L', i, _, p, e, hp => by simp [memL] at hp
  | es :: a, [], L, L', i, h, p, e, hp => by obtain ⟨fs, h1, _⟩ := h 0 es rfl; simp at h1
  | es :: a, fs :: b, L, L', i, h, p, e, hp => by
    obtain ⟨fs', h1, h2, h3⟩ := h 0 es rfl
    simp at h1; subst h1
    simp only [memL] at hp ⊢
    rcases Nat.lt_or_ge p es.length with hl | hl
    · rw [List.getElem?_append_left (by simpa using hl)] at hp
      rw [List.getElem?_append_left (by simpa [h2] using hl)]
      rw [List.getElem?_map, List.getElem?_eq_getElem hl] at hp
      simp only [Option.map_some, Option.some.injEq] at hp
      split at hp
      · rename_i hL
        obtain ⟨g1, g2⟩ := h3 hL
        subst g2
        rw [List.getElem?_map, List.getElem?_eq_getElem hl]
        simp only [Option.map_some, Option.some.injEq]
        rw [if_pos (show L' i = true from g1)]
        exact hp
      · cases hp
    · rw [List.getElem?_append_right (by simpa using hl)] at hp
      rw [List.getElem?_append_right (by simpa [h2] using hl)]
      simp only [List.length_map] at hp ⊢
      rw [h2]
      exact memL_sub2 (a := a) (b := b) (fun k es' hk => by
        obtain ⟨fs', q1, q2, q3⟩ := h (k + 1) es' (by simpa using hk)
        refine ⟨fs', by simpa using q1, q2, fun hL => ?_⟩
        rw [show i + 1 + k = i + (k + 1) by omega] at hL ⊢
        exact q3 hL) _ _ hp
theorem flat_len : ∀ {a b : List (List Ent)}, a.length = b.length → (∀ (k : Nat) (es fs : List Ent), a[k]? = some es → b[k]? = some fs → es.length = fs.length) → a.flatten.length = b.flatten.length
  | [], [], _, _ => rfl
  | [], _ :: _, h, _ => by simp at h
  | _ :: _, [], h, _ => by simp at h
  | es :: a, fs :: b, h, hk => by
    simp only [List.flatten_cons, List.length_append]
    rw [hk 0 es fs rfl rfl, flat_len (by simpa using h) (fun k x y hx hy => hk (k + 1) x y (by simpa using hx) (by simpa using hy))]
/-- One block of the list is put otherwise. -/
theorem memL_put : ∀ {a : List (List Ent)} {L : Nat → Bool} {i j : Nat} {e e' : Ent}, a[j]? = some [e] → L (i + j) = true →
    (memL a L i)[(a.take j).flatten.length]? = some (.ent e) ∧ memL (a.set j [e']) L i = (memL a L i).set (a.take j).flatten.length (.ent e')
  | [], L, i, j, e, e', h, _ => by simp at h
  | es :: a, L, i, 0, e, e', h, hL => by
    simp at h; subst h
    rw [Nat.add_zero] at hL
    simp [memL, hL]
  | es :: a, L, i, j + 1, e, e', h, hL => by
    obtain ⟨h1, h2⟩ := memL_put (a := a) (L := L) (i := i + 1) (j := j) (e := e) (e' := e') (by simpa using h) (by rw [show i + 1 + j = i + (j + 1) by omega]; exact hL)
    constructor
    · simp only [memL, List.take_succ_cons, List.flatten_cons, List.length_append]
      rw [List.getElem?_append_right (by simp)]
      simpa using h1
    · simp only [memL, List.set_cons_succ, List.take_succ_cons, List.flatten_cons, List.length_append, h2]
      rw [List.set_append_right _ _ (by simp)]
      simp
section
variable {P : Program} {E : Env} {N : Nat} {l : List Oper}
theorem ok_draw4 {T : Tab} {pu : Pure} {nu : New} {vis : List (Nat × List Nat)} {ss : List (Nat × Nat)} (hT : TabOK P T) (hpu : PureOK P pu) (hnu : NewOK P nu) (hmono : PureSub pu) (hnmono : NewSub nu) (hmix : P.follows .mixedOrders = true) {Q0 : Exit → Act → World → Prop} {id n : Nat} {k : List Item} {st : St} (hB : drawB3 l n vis ss = true)
    (h : hd3 T pu nu st.m l vis ss N 0 (l.take n) st.sl [] (fun sl al => Ok P E N Q0 (.ops l (l.drop n) :: k) ⟨sl, st.m ++ (finL ss al).flatten.map .ent⟩)) : Ok P E N Q0 (.code (.region id l.toArray true) :: k) st := by
  simp only [drawB3, Bool.and_eq_true, decide_eq_true_eq] at hB
  obtain ⟨⟨⟨⟨⟨hn, hs⟩, hc⟩, hseq⟩, hhead⟩, hst0⟩ := hB
  obtain ⟨vs, htr, hfin⟩ := hd3_trace _ _ _ _ _ h
  have hvl : vs.length = n := by rw [trace3_len htr]; simp; omega
  simp only [List.nil_append] at hfin
  intro a0 w0 hh
  show (Code.region id l.toArray true).wp P (semK P E N Q0 k) a0 w0
  refine wp_region_any hmix ?_
  have main : ∀ (f : Nat) (listed : Array Bool) (a : Act) (w : World), HeadInv .any l.toArray n listed → cntF (Lof listed) n = f →
      (∃ ℓ, (∀ t, DenV ℓ (view2 l n (vals3 vs) st.sl (Lof listed) t) (a.tmps.getD t undef)) ∧ MH E ℓ (st.m ++ memL (contL ss (vs.map (·.2)) (Lof listed)) (Lof listed) 0) w ∧ a.defers = [] ∧ a.tmps.size = N) →
      wpAny P .any l.toArray (semK P E N Q0 k) (f + (l.length - n)) listed a w := by
    intro f
    induction f with
    | zero =>
      intro listed a w inv hcnt ⟨ℓ, h1, h2, h3, h4⟩
      have hall := cntF_zero hcnt
      have hlist : listed = firstN n (l.length - n) := by
        have hsz := inv.size
        simp only [List.size_toArray] at hsz
        refine Array.ext (by simp [firstN, hsz]; omega) (fun j hj hj2 => ?_)
        rcases Nat.lt_or_ge j n with hjn | hjn
        · have := hall j hjn
          simp only [Lof] at this
          rw [Array.getD_eq_getD_getElem?, Array.getElem?_eq_getElem hj] at this
          simp only [Option.getD_some] at this
          rw [this]
          simp [firstN, List.getElem_append, hjn]
        · have := inv.tail j hjn (by simp; omega)
          rw [Array.getD_eq_getD_getElem?, Array.getElem?_eq_getElem hj] at this
          simp only [Option.getD_some] at this
          rw [this]
          simp [firstN, List.getElem_append, Nat.not_lt.2 hjn]
      have hdl : (l.drop n).length = l.length - n := by simp
      rw [Nat.zero_add, ← hdl]
      refine wpAny_of_seq (l.drop n) n listed a w (fun j => by simp) (by rw [hdl, hlist]; exact hseq) ?_
      refine hfin a w ⟨ℓ, fun t => ?_, ?_, h3, h4⟩
      · have hpf := look_prefix3 (Nat.le_of_lt hn) hhead hst0 (sl := st.sl) hvl n (Nat.le_refl _) t
        rw [List.take_take, Nat.min_self, List.take_of_length_le (l := vs) (by omega)] at hpf
        show DenV ℓ (look (push3 ss 0 (l.take n) vs st.sl) t) _
        rw [hpf]
        rw [view2_congr (L' := Lof listed) (fun j hj _ => by rw [hall j hj]; simpa using hj)]
        exact h1 t
      · rw [memL_all (fun k hk => by rw [Nat.zero_add]; rw [contL_len] at hk; exact hall k (by simpa [hvl] using hk))] at h2
        have hfl : contL ss (vs.map (·.2)) (Lof listed) = finL ss (vs.map (·.2)) := by
          unfold finL contL
          refine List.map_congr_left (fun j _ => ?_)
          unfold contAt
          split
          · rename_i s hs'
            rw [hall s (stB_ok hst0 (stT_mem hs')).ltn]
          · rfl
        rw [hfl] at h2
        exact h2
    | succ f ih =>
      intro listed a w inv hcnt hD
      have hsz : listed.size = l.length := by simpa using inv.size
      obtain ⟨i0, hi0, hL0, hless⟩ := cntF_least (L := Lof listed) (n := n) (by omega)
      have hun : listed.getD i0 true = false := getD_in (by omega) hL0
      rw [show f + 1 + (l.length - n) = (f + (l.length - n)) + 1 by omega]
      refine ⟨fun hr => ?_, fun i hi => ?_⟩
      · exfalso
        obtain ⟨o, ho⟩ := headB3_ok hhead hi0
        have : i0 ∈ Region.ready .any l.toArray listed := mem_ready.2 ⟨hun, o, by simpa using ho.get, fun e he hb => hless _ (ho.back e he hb)⟩
        rw [hr] at this; cases this
      · have hin : i < n := by
          rcases Nat.lt_or_ge i n with hx | hx
          · exact hx
          · exact absurd hi (tail_waits hs hc (by simpa using hn) inv _ i0 rfl hi0 hun i hx)
        obtain ⟨hiun, oi', hoi', hall⟩ := mem_ready.1 hi
        obtain ⟨o, ho⟩ := headB3_ok hhead hin
        have hoi : l.toArray[i]? = some o := by simpa using ho.get
        obtain rfl : o = oi' := Option.some.inj (hoi.symm.trans hoi')
        have hLi : Lof listed i = false := getD_both hiun
        have inv' := inv.set hi hin
        have hLof := Lof_set (listed := listed) (i := i) (by omega)
        have hcnt' : cntF (Lof (listed.setIfInBounds i true)) n = f := by
          rw [hLof]
          have := cntF_set hin hLi
          omega
        obtain ⟨v, es, up, hvi, hex⟩ := trace3_at htr (i := i) (o := o) (by rw [List.getElem?_take_of_lt hin]; exact ho.get)
        simp only [Nat.zero_add, List.nil_append] at hex
        obtain ⟨ℓ, h1, h2, h3, h4⟩ := hD
        have hW : ∀ m, Region.waitsFor .any l.toArray i m = true → Lof listed m = true := fun m hw => by
          obtain ⟨oj, hoj, e, he, hb, hon⟩ := Region.waitsFor_spec hw
          obtain rfl : o = oj := Option.some.inj (hoi.symm.trans hoj)
          have := hall e he hb
          rw [hon] at this
          exact this
        have hWl : ∀ j m, Lof listed j = true → Region.waitsFor .any l.toArray j m = true → Lof listed m = true := fun j m hj hw => by
          obtain ⟨oj, hoj, e, he, hb, hon⟩ := Region.waitsFor_spec hw
          have := inv.closed j oj hoj hj e he hb
          rw [hon] at this
          exact this
        have hread : ∀ t, t ∈ readsOf l o → look (push3 ss 0 ((l.take n).take i) (vs.take i) st.sl) t = view2 l n (vals3 vs) st.sl (Lof listed) t := by
          intro t ht
          rw [look_prefix3 (Nat.le_of_lt hn) hhead hst0 hvl i (by omega) t]
          refine view2_congr (fun j hj hjd => ?_)
          show decide (j < i) = Lof listed j
          rcases ho.reads j t hj hjd ht with ⟨hji, hw⟩ | ⟨hij, hw⟩
          · rw [hW j hw]
            simpa using hji
          · cases hLj : Lof listed j with
            | false => simp; omega
            | true =>
              rw [hWl j i hLj hw] at hLi
              cases hLi
        have hops : ∀ x ∈ o.op.operands.toList, evV (look (push3 ss 0 ((l.take n).take i) (vs.take i) st.sl)) x = evV (view2 l n (vals3 vs) st.sl (Lof listed)) x := fun x hx => by
          cases x with
          | tmp t =>
            refine hread t ?_
            simp only [readsOf, tmpsOf, List.mem_append, List.mem_filterMap]
            exact .inl ⟨.tmp t, hx, rfl⟩
          | _ => rfl
        -- the blocks of the operations, as they lie now
        have hal : ∀ k, k < n → ∃ q, (vs.map (·.2))[k]? = some q ∧ (vs[k]?).map (·.2) = some q := fun k hk => ⟨vs[k].2, by simp [hvl, hk], by simp [hvl, hk]⟩
        have htgt : ∀ s j, stT ss j = some s → ∃ e u, (vs.map (·.2))[j]? = some ([e], u) := by
          intro s j hsj
          have hk := stB_ok hst0 (stT_mem hsj)
          obtain ⟨os, hos⟩ := headB3_ok hhead hk.ltn
          obtain ⟨v', es', up', q1, q2⟩ := trace3_at htr (i := s) (o := os) (by rw [List.getElem?_take_of_lt hk.ltn]; exact hos.get)
          simp only [Nat.zero_add, List.nil_append, hk.of] at q2
          obtain ⟨_, _, e', _, hst⟩ := q2
          have := hst (fun _ => True) trivial
          unfold stoP at this
          split at this
          · rename_i t x y e u hop hal'
            refine ⟨e, u, ?_⟩
            rw [List.getElem?_map] at hal' ⊢
            rw [List.getElem?_take_of_lt hk.lt] at hal'
            exact hal'
          · exact this.elim
        have hclen : ∀ (L : Nat → Bool) k q, (vs.map (·.2))[k]? = some q → (contAt ss (vs.map (·.2)) L k).length = q.1.length := by
          intro L k q hq
          unfold contAt
          simp only [hq]
          split
          · rename_i s hs'
            obtain ⟨e, u, he⟩ := htgt s k hs'
            rw [hq] at he
            cases he
            split
            · split <;> rfl
            · rfl
          · rfl
        have hcfree : ∀ (L : Nat → Bool) k q, (vs.map (·.2))[k]? = some q → (∀ s, stT ss k = some s → L s = false) → contAt ss (vs.map (·.2)) L k = q.1 := by
          intro L k q hq hfree
          unfold contAt
          simp only [hq]
          split
          · rename_i s hs'
            rw [hfree s hs']
            simp
          · rfl
        have hvim : (vs.map (·.2))[i]? = some (es, up) := by simp [hvi]
        have hpre : ∀ (L : Nat → Bool), ((contL ss (vs.map (·.2)) L).take i).flatten.length = (((vs.take i).map (·.2)).map (·.1)).flatten.length := by
          intro L
          refine flat_len (by simp [contL_len]) (fun k x y hx hy => ?_)
          have hk : k < i := by
            have := (List.getElem?_eq_some_iff.1 hy).1
            simp at this; omega
          rw [List.getElem?_take_of_lt hk, contL_get (by simp; omega)] at hx
          cases hx
          rw [List.getElem?_map, List.getElem?_map, List.getElem?_take_of_lt hk] at hy
          obtain ⟨q, q1, q2⟩ := hal k (by omega)
          rw [q2] at hy
          cases hy
          exact hclen L k q q1
        have hupd : ∀ (hno : ∀ j, stOf ss i ≠ some j), contL ss (vs.map (·.2)) (updB (Lof listed) i) = contL ss (vs.map (·.2)) (Lof listed) := by
          intro hno
          unfold contL
          refine List.map_congr_left (fun j _ => ?_)
          unfold contAt
          split
          · rename_i s hs'
            have : s ≠ i := fun h => by subst h; exact hno _ (stB_ok hst0 (stT_mem hs')).of
            simp only [updB, if_neg this]
          · rfl
        unfold wpOp
        simp only [hoi]
        cases hst : stOf ss i with
        | some j =>
          simp only [hst] at hex
          obtain ⟨rfl, rfl, e', rfl, hsto⟩ := hex
          have hk := stB_ok hst0 (stOf_mem hst)
          have hLj := hW j hk.waits
          have hji := hk.lt
          rw [if_pos (by simp [Region.wanted, hk.guard o ho.get])]
          refine .inl ?_
          have h5 := hsto (fun x => x = e') rfl
          unfold stoP at h5
          split at h5
          · rename_i t x y e u hop hal'
            split at h5
            · rename_i pid pb po a' ty hx hy hty
              obtain ⟨⟨⟨hid, rfl, rfl⟩, ⟨hown, hrow, harow⟩, ⟨hbd, hlen, hsol⟩⟩, rfl⟩ := h5
              rw [hop] at hops
              simp only [Op.operands] at hops
              have hgx := hops x (by simp)
              have hgy := hops y (by simp)
              rw [evS_V] at hx hy
              rw [hgx] at hx
              rw [hgy] at hy
              have hdx := evV_den h1 x
              have hdy := evV_den h1 y
              rw [hx] at hdx
              rw [hy] at hdy
              have hbj : (contL ss (vs.map (·.2)) (Lof listed))[j]? = some [e] := by
                rw [contL_get (by simp; omega)]
                obtain ⟨q, q1, q2⟩ := hal j (by omega)
                rw [hcfree _ j q q1 (fun s hs' => by rw [hk.to] at hs'; cases hs'; exact hLi)]
                rw [List.getElem?_map, List.getElem?_take_of_lt hji] at hal'
                rw [hal'] at q2
                cases q2
                rfl
              obtain ⟨p1, p2⟩ := memL_put (L := Lof listed) (i := 0) (e' := { e with c := a' }) hbj (by rw [Nat.zero_add]; exact hLj)
              have hplen : ((contL ss (vs.map (·.2)) (Lof listed)).take j).flatten.length = ((((vs.take i).map (·.2)).map (·.1)).take j).flatten.length := by
                refine flat_len (by simp [contL_len]; omega) (fun k x y hx hy => ?_)
                have hkj : k < j := by
                  have := (List.getElem?_eq_some_iff.1 hy).1
                  simp at this; omega
                rw [List.getElem?_take_of_lt hkj, contL_get (by simp; omega)] at hx
                cases hx
                rw [List.getElem?_take_of_lt hkj, List.getElem?_map, List.getElem?_map, List.getElem?_take_of_lt (by omega)] at hy
                obtain ⟨q, q1, q2⟩ := hal k (by omega)
                rw [q2] at hy
                cases hy
                exact hclen _ k q q1
              have hget : (st.m ++ memL (contL ss (vs.map (·.2)) (Lof listed)) (Lof listed) 0)[pid]? = some (.ent e) := by
                rw [hid, List.getElem?_append_right (by omega), Nat.add_sub_cancel_left, ← hplen]
                exact p1
              have hset : (st.m ++ memL (contL ss (vs.map (·.2)) (Lof listed)) (Lof listed) 0).set pid (.ent { e with c := a' }) = st.m ++ memL (contL ss (vs.map (·.2)) (updB (Lof listed) i)) (updB (Lof listed) i) 0 := by
                rw [hid, List.set_append_right _ _ (by omega), Nat.add_sub_cancel_left, ← hplen, ← p2]
                congr 1
                have hb' : contL ss (vs.map (·.2)) (updB (Lof listed) i) = (contL ss (vs.map (·.2)) (Lof listed)).set j [{ e with c := a' }] := by
                  apply List.ext_getElem?
                  intro k
                  rw [List.getElem?_set]
                  by_cases hkl : k < (vs.map (·.2)).length
                  · rw [contL_get hkl, contL_get hkl]
                    by_cases hjk : j = k
                    · subst hjk
                      rw [if_pos rfl, if_pos (by rw [contL_len]; exact hkl)]
                      congr 1
                      unfold contAt
                      simp only [hk.to, updB, if_true, hvim]
                      rfl
                    · rw [if_neg hjk]
                      congr 1
                      unfold contAt
                      split
                      · rename_i s hs'
                        have : s ≠ i := fun h => by
                          subst h
                          have := (stB_ok hst0 (stT_mem hs')).of
                          rw [hst] at this
                          exact hjk (Option.some.inj this)
                        simp only [updB, if_neg this]
                      · rfl
                  · rw [List.getElem?_eq_none (by rw [contL_len]; omega), List.getElem?_eq_none (by rw [contL_len]; omega)]
                    simp only [contL_len]
                    split
                    · rename_i hjk
                      subst hjk
                      exact absurd (by simp; omega) hkl
                    · rfl
                rw [hb']
                refine memL_congr (fun k x hx hne => ?_)
                rw [Nat.zero_add]
                simp only [updB]
                split
                · rename_i hki
                  subst hki
                  exfalso
                  rw [List.getElem?_set_ne (by omega), contL_get (by simp; omega)] at hx
                  cases hx
                  refine hne ?_
                  have := hclen (Lof listed) k _ hvim
                  simpa using this
                · rfl
              have hss : stStore T (st.m ++ memL (contL ss (vs.map (·.2)) (Lof listed)) (Lof listed) 0) t (.one (.s (.ptr pid 0 0))) (.one a') (fun m' => m' = st.m ++ memL (contL ss (vs.map (·.2)) (updB (Lof listed) i)) (updB (Lof listed) i) 0) := by
                unfold stStore
                simp only [hty, hget]
                refine ⟨hown, ?_⟩
                cases hec : e.c with
                | st l => rw [hec] at hrow; cases hrow
                | s z => rw [hec] at hrow; cases hrow
                | _ =>
                  simp only
                  cases a' with
                  | st l => cases harow
                  | s z => cases harow
                  | _ =>
                    simp only [wrAt]
                    rw [if_pos hbd]
                    refine ⟨⟨by trivial, hlen.trans hbd.symm, hsol⟩, ?_⟩
                    rw [← hset]
              obtain ⟨m', w', hr, hm', rfl⟩ := stStore_ok hT h2 hdx hdy hss
              unfold Oper.wp
              have hrun : (execOp a.eval o).run P w = .ok .skip w' := by
                simp only [execOp, hop, Sem.run_bind, hr, Result.andThen_ok, Sem.run_pure]
              rw [hrun]
              have hdn : o.dst = none := by
                have := hk.dst
                simpa [dstOf, ho.get] using this
              refine ih _ _ _ inv' hcnt' ⟨ℓ, fun t => ?_, by rw [hLof]; exact hm', ?_, ?_⟩
              · rw [hLof, hdn, view2_congr (L' := Lof listed) (fun j' hj' hjd => ?_)]
                · exact h1 t
                · have : j' ≠ i := fun h => by subst h; rw [hk.dst] at hjd; cases hjd
                  simp only [updB, if_neg this]
              · rw [hdn]; exact h3
              · rw [hdn]; exact h4
            · exact h5.elim
          · exact h5.elim
        | none =>
          simp only [hst] at hex
          obtain ⟨rfl, ⟨hcap, hok⟩, hex⟩ := hex
          have hcu := hupd (by rw [hst]; intro j h; cases h)
          obtain ⟨d, hd⟩ := ho.dst hst
          have hdi : dstOf l i = some d := by simp [dstOf, ho.get, hd]
          have huniq : ∀ j, j < n → dstOf l j = some d → j = i := fun j hj hjd => by
            rcases Nat.decEq i j with h | h
            · exact absurd hjd (ho.uniq j d hj h hdi)
            · exact h.symm
          rw [hd] at hok
          have hok : d < N := hok
          have hview : ∀ t, view2 l n (vals3 vs) st.sl (updB (Lof listed) i) t = if t = d then v else view2 l n (vals3 vs) st.sl (Lof listed) t := by
            intro t
            split
            · rename_i htd
              subst htd
              rw [view2_at (i := i) (fun a b ha hb h1 h2 => (huniq a ha h1).trans (huniq b hb h2).symm) hin hdi (by simp [updB])]
              simp [valAt2, vals3, hvi]
            · rename_i htd
              refine view2_congr (fun j hj hjd => ?_)
              have : j ≠ i := fun h => by subst h; rw [hdi] at hjd; exact htd (Option.some.inj hjd).symm
              simp [updB, this]
          have hsays : ∀ {t : Bool}, says l o (look (push3 ss 0 ((l.take n).take i) (vs.take i) st.sl)) t → Region.wanted o (yielded l.toArray a.tmps) = t := fun hs =>
            wanted_says h1 (says_congr (fun d' hd' => hread d' (by simp [readsOf, hd'])) hs)
          have hci : (contL ss (vs.map (·.2)) (Lof listed))[i]? = some es := by
            rw [contL_get (by simp; omega), hcfree _ i _ hvim (fun s hs' => ?_)]
            have hk := stB_ok hst0 (stT_mem hs')
            cases hLs : Lof listed s with
            | false => rfl
            | true => rw [hWl s i hLs hk.waits] at hLi; cases hLi
          rcases hex with ⟨hsy, hdo⟩ | ⟨hsy, rfl, rfl⟩
          · rw [if_pos (hsays hsy)]
            refine .inl ?_
            have next : ∀ {ℓ' : Nat → Option Loc} {v' : Value} {w' : World}, Le ℓ ℓ' → MH E ℓ' (st.m ++ memL (contL ss (vs.map (·.2)) (Lof listed)) (updB (Lof listed) i) 0) w' → DenV ℓ' v v' → wpAny P .any l.toArray (semK P E N Q0 k) (f + (l.length - n)) (listed.setIfInBounds i true) (a.put o.dst v') w' := by
              intro ℓ' v' w' hle hm' hdv
              refine ih _ _ _ inv' hcnt' ⟨ℓ', fun t => ?_, by rw [hLof, hcu]; exact hm', ?_, ?_⟩
              · rw [hLof, hview, hd]
                exact put_view (fun t => (h1 t).mono hle) (by rw [h4]; exact hok) hdv t
              · rw [hd]; exact h3
              · rw [hd]; simpa [Act.put] using h4
            have hsub : Sub (viewM st.m vis i (((vs.take i).map (·.2)).map (·.1))) (st.m ++ memL (contL ss (vs.map (·.2)) (Lof listed)) (Lof listed) 0) := by
              unfold viewM
              split
              · intro id e hid
                rw [List.getElem?_append_left (List.getElem?_eq_some_iff.1 hid).1]; exact hid
              · intro id e hid
                rcases Nat.lt_or_ge id st.m.length with hl | hl
                · rw [List.getElem?_append_left hl] at hid ⊢; exact hid
                · rw [List.getElem?_append_right hl] at hid ⊢
                  refine memL_sub2 (fun k es' hk' => ?_) _ _ hid
                  have hki : k < i := by
                    have := (List.getElem?_eq_some_iff.1 hk').1
                    simp at this; omega
                  rw [List.getElem?_map, List.getElem?_map, List.getElem?_take_of_lt hki] at hk'
                  obtain ⟨q, q1, q2⟩ := hal k (by omega)
                  rw [q2] at hk'
                  cases hk'
                  refine ⟨contAt ss (vs.map (·.2)) (Lof listed) k, contL_get (by simp; omega), hclen _ k q q1, fun hL => ?_⟩
                  rw [Nat.zero_add] at hL ⊢
                  have hkv : k ∈ visOf vis i := by simpa using hL
                  refine ⟨aw_listed inv 3 i hW k (ho.vis k hkv).2, hcfree _ k q q1 (fun s hs' => ?_)⟩
                  exact absurd hkv ((stB_ok hst0 (stT_mem hs')).vis i hin)
            obtain ⟨k1, k2⟩ := memL_set (L := Lof listed) hci hLi
            have hA : (memL ((contL ss (vs.map (·.2)) (Lof listed)).take i) (Lof listed) 0).length = (((vs.take i).map (·.2)).map (·.1)).flatten.length := by
              rw [memL_len, hpre]
            have hholes : ∀ k, k < es.length → (st.m ++ memL (contL ss (vs.map (·.2)) (Lof listed)) (Lof listed) 0)[st.m.length + (((vs.take i).map (·.2)).map (·.1)).flatten.length + k]? = some .hole := by
              intro k hk
              rw [k1, List.getElem?_append_right (by omega), show st.m.length + (((vs.take i).map (·.2)).map (·.1)).flatten.length + k - st.m.length = (((vs.take i).map (·.2)).map (·.1)).flatten.length + k by omega, ← hA, List.append_assoc, List.getElem?_append_right (by omega), List.getElem?_append_left (by simp; omega)]
              simp [hk]
            have hfill : fillL (st.m ++ memL (contL ss (vs.map (·.2)) (Lof listed)) (Lof listed) 0) (st.m.length + (((vs.take i).map (·.2)).map (·.1)).flatten.length) es = st.m ++ memL (contL ss (vs.map (·.2)) (Lof listed)) (updB (Lof listed) i) 0 := by
              rw [k1, k2, ← List.append_assoc, ← List.append_assoc, fillL_eq (by simp [hA]), List.append_assoc, List.append_assoc, List.append_assoc]
            rcases hdo with hnew | ⟨eo, rfl, halc, hest⟩
            · rw [evS_V, newOf_congr hops] at hnew
              have hn2 := newOf_sub hnmono hsub hnew
              clear hnew
              unfold newOf at hn2
              split at hn2
              · rename_i c hop
                split at hn2
                · rename_i fid hcal
                  have hargs : DenVs ℓ (c.args.toList.map (evV (view2 l n (vals3 vs) st.sl (Lof listed)))) (c.args.toList.map a.eval) := denVs_map (evV_den h1) _
                  obtain ⟨hcallable, hcalls⟩ := hnu _ _ _ _ _ _ hn2 E w ℓ _ h2 hholes hargs
                  rw [hfill] at hcalls
                  have hwp : o.wp P a w (fun a' w' => wpAny P .any l.toArray (semK P E N Q0 k) (f + (l.length - n)) (listed.setIfInBounds i true) a' w') (semK P E N Q0 k) := by
                    clear hn2 hsays hread hview hops
                    obtain ⟨dst, op, type, pos, after, guard⟩ := o
                    simp only at hop; subst hop
                    obtain ⟨callee, cargs, cts⟩ := c
                    simp only at hcal; subst hcal
                    unfold Oper.wp
                    rw [enter_run hcallable]
                    simp only [Oper.upon]
                    refine hcalls.mono ?_
                    rintro e w' ⟨v', ℓ', rfl, hle, hdv, hm'⟩
                    exact next hle hm' hdv
                  exact hwp
                · cases hn2
              · cases hn2
            · have hcg : ∀ K', K' v eo → est T pu (st.m ++ memL (contL ss (vs.map (·.2)) (Lof listed)) (Lof listed) 0) (st.m.length + (((vs.take i).map (·.2)).map (·.1)).flatten.length) (evV (view2 l n (vals3 vs) st.sl (Lof listed))) o K' := by
                intro K' hK'
                have h5 := hest K' hK'
                rw [evS_V, est_congr hops] at h5
                exact est_sub hmono hsub h5
              cases heo : eo with
              | none =>
                subst heo
                have hna : allocs o = false := by simpa using halc.symm
                have h6 := hcg (fun sv e => sv = v ∧ e = none) ⟨rfl, rfl⟩
                rw [est_nid (n' := (st.m ++ memL (contL ss (vs.map (·.2)) (Lof listed)) (Lof listed) 0).length) hna hcap] at h6
                refine est_ok hT hpu h2 (.inl rfl) (evV_den h1) h6 _ _ ?_
                rintro v' w' ⟨sv, e, ℓ', ⟨rfl, rfl⟩, hle, hm', hdv⟩
                refine next hle ?_ hdv
                rw [← hfill]
                exact hm'
              | some e0 =>
                subst heo
                have hget := hholes 0 (by simp)
                rw [Nat.add_zero] at hget
                refine est_ok hT hpu h2 (.inr hget) (evV_den h1) (hcg (fun sv e => sv = v ∧ e = some e0) ⟨rfl, rfl⟩) _ _ ?_
                rintro v' w' ⟨sv, e, ℓ', ⟨rfl, rfl⟩, hle, hm', hdv⟩
                refine next hle ?_ hdv
                rw [← hfill]
                have hlt := (List.getElem?_eq_some_iff.1 hget).1
                have hf : fill (st.m ++ memL (contL ss (vs.map (·.2)) (Lof listed)) (Lof listed) 0) (st.m.length + (((vs.take i).map (·.2)).map (·.1)).flatten.length) e0 = fillL (st.m ++ memL (contL ss (vs.map (·.2)) (Lof listed)) (Lof listed) 0) (st.m.length + (((vs.take i).map (·.2)).map (·.1)).flatten.length) [e0] := by
                  unfold fill
                  rw [if_pos hlt]
                  rfl
                show MH E ℓ' (fillL _ _ [e0]) w'
                rw [← hf]
                exact hm'
          · rw [if_neg (by rw [hsays hsy]; simp)]
            refine ih _ _ _ inv' hcnt' ⟨ℓ, fun t => ?_, ?_, ?_, ?_⟩
            · rw [hLof, hview, hd]
              exact put_view (sv := .tup []) (v := undef) h1 (by rw [h4]; exact hok) ⟨[], rfl, trivial⟩ t
            · rw [hLof, hcu, memL_congr (L' := Lof listed) (fun k e hk hne => ?_)]
              · exact h2
              · simp only [updB, Nat.zero_add]
                split
                · rename_i hki; subst hki; rw [hci] at hk; cases hk; exact absurd rfl hne
                · rfl
            · rw [hd]; exact h3
            · rw [hd]; simpa [Act.put] using h4
  obtain ⟨ℓ, h1, h2, h3, h4⟩ := hh
  have hL0 : ∀ j, Lof (Array.replicate l.toArray.size false) j = false := fun j => getD_replicate_false _ _
  have hc0 : cntF (Lof (Array.replicate l.toArray.size false)) n = n := by
    clear main htr hvl hfin hhead hst0 hseq hc hs hn h
    induction n with
    | zero => rfl
    | succ n ih => simp only [cntF, hL0, ih]; rfl
  have := main n (Array.replicate l.toArray.size false) a0 { w0 with drawn := w0.drawn + 1 }
    ⟨by simp, fun j oj _ hl => (by rw [getD_replicate_false] at hl; cases hl), fun t _ ht => getD_in (by simpa using ht) (getD_replicate_false _ _)⟩ hc0
    ⟨ℓ, fun t => by rw [view2_none (fun j _ _ => hL0 j)]; exact h1 t, (h2.drew).holes (memL_holes hL0), h3, h4⟩
  rw [show n + (l.length - n) = l.toArray.size by simp; omega] at this
  exact this
end
end Go.V
end
section
set_option linter.unusedSimpArgs false
set_option linter.unusedVariables false
namespace Go.V
open Go

@[congr] theorem binI_cg {op op' : BinOp} {a a' : Int} {b b' : Int} {K : S → Prop} (hop : op = op') (ha : a = a') (hb : b = b') : binI op a b K = binI op' a' b' K := by subst hop ha hb; rfl
@[congr] theorem binB_cg {n : Nat} {mk mk' : BitVec n → S} {op op' : BinOp} {a a' : BitVec n} {b b' : BitVec n} {K : S → Prop} (hmk : mk = mk') (hop : op = op') (ha : a = a') (hb : b = b') : binB mk op a b K = binB mk' op' a' b' K := by subst hmk hop ha hb; rfl
@[congr] theorem shB_cg {n : Nat} {mk mk' : BitVec n → S} {left left' : Bool} {a a' : BitVec n} {s s' : Int} {K : S → Prop} (hmk : mk = mk') (hleft : left = left') (ha : a = a') (hs : s = s') : shB mk left a s K = shB mk' left' a' s' K := by subst hmk hleft ha hs; rfl
@[congr] theorem shS_cg {left left' : Bool} {x x' : S} {s s' : Int} {K : S → Prop} (hleft : left = left') (hx : x = x') (hs : s = s') : shS left x s K = shS left' x' s' K := by subst hleft hx hs; rfl
@[congr] theorem binS_cg {op op' : BinOp} {k k' : Kind} {x x' : S} {y y' : S} {K : S → Prop} (hop : op = op') (hk : k = k') (hx : x = x') (hy : y = y') : binS op k x y K = binS op' k' x' y' K := by subst hop hk hx hy; rfl
@[congr] theorem bin_cg {op op' : BinOp} {k k' : Kind} {x x' : S} {y y' : S} {K : S → Prop} (hop : op = op') (hk : k = k') (hx : x = x') (hy : y = y') : bin op k x y K = bin op' k' x' y' K := by subst hop hk hx hy; rfl
@[congr] theorem stAt_cg {ty ty' : Ty} {c c' : A} {off off' : Nat} {n n' : Nat} {K : SV → Prop} (hty : ty = ty') (hc : c = c') (hoff : off = off') (hn : n = n') : stAt ty c off n K = stAt ty' c' off' n' K := by subst hty hc hoff hn; rfl
@[congr] theorem stLoad_cg {T : Tab} {m m' : Mem} {t t' : TypeId} {x x' : SV} {K : SV → Prop} (hm : m = m') (ht : t = t') (hx : x = x') : stLoad T m t x K = stLoad T m' t' x' K := by subst hm ht hx; rfl
@[congr] theorem stBox_cg {T : Tab} {nid nid' : Nat} {t t' : TypeId} {x x' : SV} {K : SV → Option Ent → Prop} (hnid : nid = nid') (ht : t = t') (hx : x = x') : stBox T nid t x K = stBox T nid' t' x' K := by subst hnid ht hx; rfl
@[congr] theorem stAlloc_cg {T : Tab} {nid nid' : Nat} {t t' : TypeId} {K : SV → Option Ent → Prop} (hnid : nid = nid') (ht : t = t') : stAlloc T nid t K = stAlloc T nid' t' K := by subst hnid ht; rfl
@[congr] theorem stField_cg {T : Tab} {t t' : TypeId} {x x' : SV} {f f' : Nat} {K : SV → Prop} (ht : t = t') (hx : x = x') (hf : f = f') : stField T t x f K = stField T t' x' f' K := by subst ht hx hf; rfl
@[congr] theorem stIndexAddr_cg {T : Tab} {t t' : TypeId} {x x' : SV} {i i' : SV} {K : SV → Prop} (ht : t = t') (hx : x = x') (hi : i = i') : stIndexAddr T t x i K = stIndexAddr T t' x' i' K := by subst ht hx hi; rfl
@[congr] theorem stPartRow_cg {ty ty' : Ty} {a a' : A} {off off' : Nat} {K : SV → Prop} (hty : ty = ty') (ha : a = a') (hoff : off = off') : stPartRow ty a off K = stPartRow ty' a' off' K := by subst hty ha hoff; rfl
@[congr] theorem stPart_cg {T : Tab} {t t' : TypeId} {a a' : A} {off off' : Nat} {K : SV → Prop} (ht : t = t') (ha : a = a') (hoff : off = off') : stPart T t a off K = stPart T t' a' off' K := by subst ht ha hoff; rfl
@[congr] theorem stIndex_cg {T : Tab} {t t' : TypeId} {x x' : SV} {i i' : SV} {K : SV → Prop} (ht : t = t') (hx : x = x') (hi : i = i') : stIndex T t x i K = stIndex T t' x' i' K := by subst ht hx hi; rfl
@[congr] theorem stFieldV_cg {T : Tab} {t t' : TypeId} {x x' : SV} {f f' : Nat} {K : SV → Prop} (ht : t = t') (hx : x = x') (hf : f = f') : stFieldV T t x f K = stFieldV T t' x' f' K := by subst ht hx hf; rfl
@[congr] theorem stUn_cg {op op' : UnOp} {x x' : SV} {K : SV → Prop} (hop : op = op') (hx : x = x') : stUn op x K = stUn op' x' K := by subst hop hx; rfl
@[congr] theorem cvB_cg {k k' : IntKind} {n : Nat} {x x' : BitVec n} {K : SV → Prop} (hk : k = k') (hx : x = x') : cvB k x K = cvB k' x' K := by subst hk hx; rfl
@[congr] theorem cvI_cg {k k' : IntKind} {n n' : Int} {K : SV → Prop} (hk : k = k') (hn : n = n') : cvI k n K = cvI k' n' K := by subst hk hn; rfl
@[congr] theorem cvS_cg {k k' : IntKind} {x x' : S} {K : SV → Prop} (hk : k = k') (hx : x = x') : cvS k x K = cvS k' x' K := by subst hk hx; rfl
@[congr] theorem stConv_cg {T : Tab} {m m' : Mem} {nid nid' : Nat} {src src' : TypeId} {dst dst' : TypeId} {x x' : SV} {K : SV → Option Ent → Prop} (hm : m = m') (hnid : nid = nid') (hsrc : src = src') (hdst : dst = dst') (hx : x = x') : stConv T m nid src dst x K = stConv T m' nid' src' dst' x' K := by subst hm hnid hsrc hdst hx; rfl
@[congr] theorem stSlice_cg {T : Tab} {m m' : Mem} {t t' : TypeId} {x x' : SV} {lo lo' : Option SV} {hi hi' : Option SV} {mx mx' : Option SV} {K : SV → Prop} (hm : m = m') (ht : t = t') (hx : x = x') (hlo : lo = lo') (hhi : hi = hi') (hmx : mx = mx') : stSlice T m t x lo hi mx K = stSlice T m' t' x' lo' hi' mx' K := by subst hm ht hx hlo hhi hmx; rfl
@[congr] theorem stArrPtr_cg {T : Tab} {t t' : TypeId} {x x' : SV} {K : SV → Prop} (ht : t = t') (hx : x = x') : stArrPtr T t x K = stArrPtr T t' x' K := by subst ht hx; rfl
@[congr] theorem stExtract_cg {x x' : SV} {i i' : Nat} {K : SV → Prop} (hx : x = x') (hi : i = i') : stExtract x i K = stExtract x' i' K := by subst hx hi; rfl
@[congr] theorem stIface_cg {T : Tab} {t t' : TypeId} {x x' : SV} {K : SV → Prop} (ht : t = t') (hx : x = x') : stIface T t x K = stIface T t' x' K := by subst ht hx; rfl
@[congr] theorem stFunc_cg {fn fn' : Fn} {first first' : List SV} {captured captured' : List SV} {K : SV → Prop} (hfn : fn = fn') (hfirst : first = first') (hcaptured : captured = captured') : stFunc fn first captured K = stFunc fn' first' captured' K := by subst hfn hfirst hcaptured; rfl
@[congr] theorem stLen_cg {T : Tab} {t t' : TypeId} {x x' : SV} {K : SV → Prop} (ht : t = t') (hx : x = x') : stLen T t x K = stLen T t' x' K := by subst ht hx; rfl
@[congr] theorem stMin_cg {mx mx' : Bool} {l l' : List SV} {K : SV → Prop} (hmx : mx = mx') (hl : l = l') : stMin mx l K = stMin mx' l' K := by subst hmx hl; rfl
@[congr] theorem putP_cg {a a' : A} {sz sz' : Nat} {i i' : Nat} {x x' : SV} {K : A → Prop} (ha : a = a') (hsz : sz = sz') (hi : i = i') (hx : x = x') : putP a sz i x K = putP a' sz' i' x' K := by subst ha hsz hi hx; rfl
@[congr] theorem putS_cg {T : Tab} {fs fs' : List (Nat × TypeId)} {l l' : List Seg} {i i' : Nat} {x x' : SV} {K : List Seg → Prop} (hfs : fs = fs') (hl : l = l') (hi : i = i') (hx : x = x') : putS T fs l i x K = putS T fs' l' i' x' K := by subst hfs hl hi hx; rfl
@[congr] theorem stBuild_cg {T : Tab} {t t' : TypeId} {ps ps' : List (Nat × SV)} {K : SV → Prop} (ht : t = t') (hps : ps = ps') : stBuild T t ps K = stBuild T t' ps' K := by subst ht hps; rfl
@[congr] theorem stMake_cg {T : Tab} {nid nid' : Nat} {t t' : TypeId} {l l' : SV} {c c' : SV} {K : SV → Option Ent → Prop} (hnid : nid = nid') (ht : t = t') (hl : l = l') (hc : c = c') : stMake T nid t l c K = stMake T nid' t' l' c' K := by subst hnid ht hl hc; rfl
@[congr] theorem litA_cg {z z' : A} {len len' : Nat} {sz sz' : Nat} {ps ps' : List (Nat × SV)} {K : A → Prop} (hz : z = z') (hlen : len = len') (hsz : sz = sz') (hps : ps = ps') : litA z len sz ps K = litA z' len' sz' ps' K := by subst hz hlen hsz hps; rfl
@[congr] theorem stBuildSlice_cg {T : Tab} {nid nid' : Nat} {t t' : TypeId} {len len' : Nat} {ps ps' : List (Nat × SV)} {K : SV → Option Ent → Prop} (hnid : nid = nid') (ht : t = t') (hlen : len = len') (hps : ps = ps') : stBuildSlice T nid t len ps K = stBuildSlice T nid' t' len' ps' K := by subst hnid ht hlen hps; rfl
@[congr] theorem stEqA_cg {T : Tab} {op op' : BinOp} {t t' : TypeId} {a a' : A} {b b' : A} {K : SV → Prop} (hop : op = op') (ht : t = t') (ha : a = a') (hb : b = b') : stEqA T op t a b K = stEqA T op' t' a' b' K := by subst hop ht ha hb; rfl
@[congr] theorem wrAt_cg {ty ty' : Ty} {c c' : A} {off off' : Nat} {n n' : Nat} {a a' : A} {K : A → Prop} (hty : ty = ty') (hc : c = c') (hoff : off = off') (hn : n = n') (ha : a = a') : wrAt ty c off n a K = wrAt ty' c' off' n' a' K := by subst hty hc hoff hn ha; rfl
@[congr] theorem stStore_cg {T : Tab} {m m' : Mem} {t t' : TypeId} {x x' : SV} {y y' : SV} {K : Mem → Prop} (hm : m = m') (ht : t = t') (hx : x = x') (hy : y = y') : stStore T m t x y K = stStore T m' t' x' y' K := by subst hm ht hx hy; rfl
@[congr] theorem srcRow_cg {T : Tab} {m m' : Mem} {z z' : A} {es es' : Nat} {x x' : SV} {K : A → Nat → Prop} (hm : m = m') (hz : z = z') (hes : es = es') (hx : x = x') : srcRow T m z es x K = srcRow T m' z' es' x' K := by subst hm hz hes hx; rfl
@[congr] theorem stAppend_cg {T : Tab} {fr fr' : Nat → Bool} {m m' : Mem} {nid nid' : Nat} {ts ts' : TypeId} {tx tx' : TypeId} {s s' : SV} {x x' : SV} {K : SV → Option Nat → Mem → Prop} (hfr : fr = fr') (hm : m = m') (hnid : nid = nid') (hts : ts = ts') (htx : tx = tx') (hs : s = s') (hx : x = x') : stAppend T fr m nid ts tx s x K = stAppend T fr' m' nid' ts' tx' s' x' K := by subst hfr hm hnid hts htx hs hx; rfl
@[congr] theorem stCopy_cg {T : Tab} {m m' : Mem} {td td' : TypeId} {dst dst' : SV} {src src' : SV} {K : SV → Mem → Prop} (hm : m = m') (htd : td = td') (hdst : dst = dst') (hsrc : src = src') : stCopy T m td dst src K = stCopy T m' td' dst' src' K := by subst hm htd hdst hsrc; rfl
@[congr] theorem stNil_cg {x x' : SV} {K : SV → Prop} (hx : x = x') : stNil x K = stNil x' K := by subst hx; rfl
@[congr] theorem stBin_cg {T : Tab} {op op' : BinOp} {t t' : TypeId} {x x' : SV} {y y' : SV} {K : SV → Prop} (hop : op = op') (ht : t = t') (hx : x = x') (hy : y = y') : stBin T op t x y K = stBin T op' t' x' y' K := by subst hop ht hx hy; rfl
@[congr] theorem est_cg {T : Tab} {pu : Pure} {m m' : Mem} {nid nid' : Nat} {g : Operand → SV} {o : Oper} {K : SV → Option Ent → Prop} (hm : m = m') (hnid : nid = nid') : est T pu m nid g o K = est T pu m' nid' g o K := by subst hm hnid; rfl
@[congr] theorem guardOf_cg {st st' : St} {all : List Oper} {o : Oper} {go : St → Prop} {skip : St → Prop} (hst : st = st') : guardOf st all o go skip = guardOf st' all o go skip := by subst hst; rfl
@[congr] theorem step1_cg {T : Tab} {pu : Pure} {fr fr' : Nat → Bool} {N N' : Nat} {o : Oper} {st st' : St} {leaf : St → Prop} {K : St → Prop} (hfr : fr = fr') (hN : N = N') (hst : st = st') : step1 T pu fr N o st leaf K = step1 T pu fr' N' o st' leaf K := by subst hfr hN hst; rfl
@[congr] theorem finOf_cg {T : Tab} {res res' : List ResultVar} {n0 n0' : Nat} {post : SV → Mem → Prop} {st st' : St} (hres : res = res') (hn0 : n0 = n0') (hst : st = st') : finOf T res n0 post st = finOf T res' n0' post st' := by subst hres hn0 hst; rfl
@[congr] theorem fillA_cg {a a' : A} {sz sz' : Nat} {ps ps' : List (Nat × SV)} {K : A → Prop} (h1 : a = a') (h2 : sz = sz') (h3 : ps = ps') : fillA a sz ps K = fillA a' sz' ps' K := by subst h1 h2 h3; rfl
@[congr] theorem fillS_cg {T : Tab} {fs : List (Nat × TypeId)} {l l' : List Seg} {ps ps' : List (Nat × SV)} {K : List Seg → Prop} (h1 : l = l') (h3 : ps = ps') : fillS T fs l ps K = fillS T fs l' ps' K := by subst h1 h3; rfl
@[congr] theorem resP_cg {T : Tab} {st st' : St} {l : List ResultVar} {K : List A → Prop} (h1 : st = st') : resP T st l K = resP T st' l K := by subst h1; rfl
@[congr] theorem hdRun_cg {T : Tab} {pu : Pure} {m0 m0' : Mem} {l r : List Oper} {N : Nat} {sl sl' : Slots} {al al' : List Ent} {K : Slots → List Ent → Prop} (h1 : m0 = m0') (h2 : sl = sl') (h3 : al = al') : hdRun T pu m0 l N r sl al K = hdRun T pu m0' l N r sl' al' K := by subst h1 h2 h3; rfl
@[congr] theorem run_cg {T : Tab} {pu : Pure} {fr : Nat → Bool} {N : Nat} {fin : St → Prop} {leaf : List Item → St → Prop} {n : Nat} {k : List Item} {st st' : St} (h : st = st') : run T pu fr N fin leaf n k st = run T pu fr N fin leaf n k st' := by subst h; rfl
@[congr] theorem Ok_cg {P : Program} {E : Env} {N : Nat} {Q0 : Exit → Act → World → Prop} {k : List Item} {st st' : St} (h : st = st') : Ok P E N Q0 k st = Ok P E N Q0 k st' := by subst h; rfl
def condOf (v : SV) (p q : Prop) : Prop :=
  match v with
  | .one (.s (.b x)) => (x = true → p) ∧ (x = false → q)
  | _ => False
@[congr] theorem condOf_cg {v v' : SV} {p q : Prop} (h : v = v') : condOf v p q = condOf v' p q := by subst h; rfl
section
variable {T : Tab} {pu : Pure} {fr : Nat → Bool} {N : Nat} {fin : St → Prop} {leaf : List Item → St → Prop} {n : Nat} {k : List Item} {st : St}
theorem run_zero : run T pu fr N fin leaf 0 k st = leaf k st := rfl
theorem run_nil : run T pu fr N fin leaf (n + 1) [] st = fin st := rfl
theorem run_blk {j : Nat} : run T pu fr N fin leaf (n + 1) (.blk j :: k) st = run T pu fr N fin leaf n k st := rfl
theorem run_back {I : St → Prop} : run T pu fr N fin leaf (n + 1) (.back I :: k) st = I st := rfl
theorem run_ops0 {all : List Oper} : run T pu fr N fin leaf (n + 1) (.ops all [] :: k) st = run T pu fr N fin leaf n k st := rfl
theorem run_ops {all r : List Oper} {o : Oper} : run T pu fr N fin leaf (n + 1) (.ops all (o :: r) :: k) st = guardOf st all o
      (fun st => step1 T pu fr N o st (leaf (.ops all (o :: r) :: k)) (fun st' => run T pu fr N fin leaf n (.ops all r :: k) st'))
      (fun st => okd N o.dst ∧ run T pu fr N fin leaf n (.ops all r :: k) (st.put o.dst (.tup []))) := rfl
theorem run_skip : run T pu fr N fin leaf (n + 1) (.code .skip :: k) st = run T pu fr N fin leaf n k st := rfl
theorem run_seq {a b : Code} : run T pu fr N fin leaf (n + 1) (.code (.seq a b) :: k) st = run T pu fr N fin leaf n (.code a :: .code b :: k) st := rfl
theorem run_region {id : Nat} {l : List Oper} : run T pu fr N fin leaf (n + 1) (.code (.region id l.toArray false) :: k) st = run T pu fr N fin leaf n (.ops l l :: k) st := rfl
theorem run_draw {id : Nat} {ops : Array Oper} : run T pu fr N fin leaf (n + 1) (.code (.region id ops true) :: k) st = leaf (.code (.region id ops true) :: k) st := rfl
theorem run_cond {c : Operand} {a b : Code} : run T pu fr N fin leaf (n + 1) (.code (.cond c a b) :: k) st = condOf (st.ev c) (run T pu fr N fin leaf n (.code a :: k) st) (run T pu fr N fin leaf n (.code b :: k) st) := rfl
theorem run_block {id : Nat} {c : Code} : run T pu fr N fin leaf (n + 1) (.code (.block id c) :: k) st = run T pu fr N fin leaf n (.code c :: .blk id :: k) st := rfl
theorem run_loop {c : Code} : run T pu fr N fin leaf (n + 1) (.code (.loop c) :: k) st = leaf (.code (.loop c) :: k) st := rfl
theorem run_exit {id : Nat} {k' : List Item} (h : popTo id k = some k') : run T pu fr N fin leaf (n + 1) (.code (.exit id) :: k) st = run T pu fr N fin leaf n k' st := by
  simp only [run, h]
theorem run_ret : run T pu fr N fin leaf (n + 1) (.code .ret :: k) st = fin st := rfl
end
theorem pop_eq {id : Nat} {k : List Item} : popTo id (.blk id :: k) = some k := by simp [popTo]
theorem pop_ne {id j : Nat} {k : List Item} (h : (j == id) = false) : popTo id (.blk j :: k) = popTo id k := by
  simp only [popTo]; rw [if_neg (by simpa using h)]
theorem pop_code {id : Nat} {c : Code} {k : List Item} : popTo id (.code c :: k) = popTo id k := rfl
theorem pop_ops {id : Nat} {a l : List Oper} {k : List Item} : popTo id (.ops a l :: k) = popTo id k := rfl
theorem pop_back {id : Nat} {I : St → Prop} {k : List Item} : popTo id (.back I :: k) = popTo id k := rfl
end Go.V
end
section
set_option linter.unusedSimpArgs false
set_option linter.unusedVariables false
namespace Go.V
open Go

section
variable {T : Tab} {pu : Pure} {fr : Nat → Bool} {N : Nat} {fin : St → Prop} {leaf : List Item → St → Prop} {n : Nat} {k : List Item} {st st' : St} {all r : List Oper} {o : Oper}
theorem run_go (hg : o.guard = none) (h1 : ∀ (L K : St → Prop), K st' → step1 T pu fr N o st L K) (h2 : run T pu fr N fin leaf n (.ops all r :: k) st') : run T pu fr N fin leaf (n + 1) (.ops all (o :: r) :: k) st := by
  rw [run_ops]
  unfold guardOf
  rw [hg]
  exact h1 _ _ h2
/-- An append: the room of the result is open. -/
theorem run_app {nn : Nat} {st' : Nat → St} (hg : o.guard = none) (h1 : ∀ (L K : St → Prop), (∀ cap, nn ≤ cap → K (st' cap)) → step1 T pu fr N o st L K) (h2 : ∀ cap, nn ≤ cap → run T pu fr N fin leaf n (.ops all r :: k) (st' cap)) : run T pu fr N fin leaf (n + 1) (.ops all (o :: r) :: k) st := by
  rw [run_ops]
  unfold guardOf
  rw [hg]
  exact h1 _ _ h2
theorem run_guard {g : Nat} {b c : Bool} {og : Oper} {d : Nat} (hg : o.guard = some (g, b)) (h1 : all[g]? = some og) (h2 : og.dst = some d) (h3 : look st.sl d = one (.b c))
    (h4 : c = b → ∃ st', (∀ (L K : St → Prop), K st' → step1 T pu fr N o (st.put (some d) (one (.b b))) L K) ∧ run T pu fr N fin leaf n (.ops all r :: k) st')
    (h5 : c = (!b) → okd N o.dst ∧ run T pu fr N fin leaf n (.ops all r :: k) ((st.put (some d) (one (.b (!b)))).put o.dst (.tup []))) : run T pu fr N fin leaf (n + 1) (.ops all (o :: r) :: k) st := by
  rw [run_ops]
  unfold guardOf
  simp only [hg, h1, h2, h3, one]
  exact ⟨fun h => let ⟨st', a, b⟩ := h4 h; a _ _ b, fun h => h5 h⟩
theorem run_cond2 {c : Operand} {a b : Code} {x : Bool} (h : st.ev c = one (.b x)) (h1 : x = true → run T pu fr N fin leaf n (.code a :: k) st) (h2 : x = false → run T pu fr N fin leaf n (.code b :: k) st) : run T pu fr N fin leaf (n + 1) (.code (.cond c a b) :: k) st := by
  rw [run_cond, h]
  exact ⟨h1, h2⟩
theorem run_exit2 {id : Nat} {k' : List Item} (h : popTo id k = some k') (h2 : run T pu fr N fin leaf n k' st) : run T pu fr N fin leaf (n + 1) (.code (.exit id) :: k) st := by
  rw [run_exit h]; exact h2
theorem look_hit {t : Nat} {v : SV} {r : Slots} : look ((t, v) :: r) t = v := by simp [look]
theorem look_miss {t u : Nat} {v : SV} {r : Slots} (h : (t == u) = false) : look ((u, v) :: r) t = look r t := by
  simp only [look]; rw [if_neg (by simpa using h)]
end
section
variable {P : Program} {E : Env} {N : Nat}
theorem ok_run {T : Tab} {pu : Pure} {fr : Nat → Bool} {fin : St → Prop} {Q0 : Exit → Act → World → Prop} {n0 : Nat} (hb : Body P E N Q0 fin fr n0) (hT : TabOK P T) (hpu : PureOK P pu) (n : Nat) {k : List Item} {st : St}
    (h : run T pu fr N fin (fun k st => Ok P E N Q0 k st) n k st) : Ok P E N Q0 k st :=
  run_ok hT hpu hb.fr hb.fin (fun _ _ h => h) n k st h
end
section
variable {P : Program}
theorem pureOf_ok {g : FuncId → List SV → Option SV} (h : ∀ f svs sv, g f svs = some sv → Callable P f ∧ Spec P f svs [] [] (fun r _ => r = sv) ∧ svs.all (belV 0) = true ∧ belV 0 sv = true) : PureOK P (pureOf g) := by
  intro m f svs sv hg E w ℓ vs hm hd
  obtain ⟨h1, h2, h3, h4⟩ := h f svs sv hg
  exact ⟨h1, pure_spec h2 h3 h4 w ℓ vs hd⟩
end
section
variable {T : Tab} {pu : Pure} {m0 : Mem} {l r : List Oper} {N : Nat} {o : Oper} {sl : Slots} {al : List Ent} {K : Slots → List Ent → Prop} {d : Nat} {v : SV} {e : Ent}
theorem hd_nil (h : K sl al) : hdRun T pu m0 l N [] sl al K := h
theorem hd_go (hg : o.guard = none) (hd : o.dst = some d) (ha : allocs o = false) (hc : noCap T o = true) (hN : d < N) (h1 : ∀ K' : SV → Option Ent → Prop, K' v none → est T pu m0 (m0.length + al.length) (evS sl) o K')
    (h3 : hdRun T pu m0 l N r ((d, v) :: sl) al K) : hdRun T pu m0 l N (o :: r) sl al K := by
  have hgt : guardTmp l o = none := by simp [guardTmp, hg]
  unfold hdRun
  rw [hgt, hg, hd]
  exact ⟨⟨hc, hN⟩, h1 _ ⟨by rw [ha]; rfl, by simpa [pushD] using h3⟩⟩
theorem hd_new (hg : o.guard = none) (hd : o.dst = some d) (ha : allocs o = true) (hc : noCap T o = true) (hN : d < N) (h1 : ∀ K' : SV → Option Ent → Prop, K' v (some e) → est T pu m0 (m0.length + al.length) (evS sl) o K')
    (h3 : hdRun T pu m0 l N r ((d, v) :: sl) (al ++ [e]) K) : hdRun T pu m0 l N (o :: r) sl al K := by
  have hgt : guardTmp l o = none := by simp [guardTmp, hg]
  unfold hdRun
  rw [hgt, hg, hd]
  exact ⟨⟨hc, hN⟩, h1 _ ⟨by rw [ha]; rfl, by simpa [pushD] using h3⟩⟩
theorem hd_guard {g : Nat} {b c : Bool} {t : Nat} (hg : o.guard = some (g, b)) (hgt : guardTmp l o = some t) (hd : o.dst = some d) (ha : allocs o = false) (hc : noCap T o = true) (hN : d < N) (hl : look sl t = one (.b c))
    (h1 : c = b → ∃ v, (∀ K' : SV → Option Ent → Prop, K' v none → est T pu m0 (m0.length + al.length) (evS sl) o K') ∧ hdRun T pu m0 l N r ((d, v) :: sl) al K)
    (h2 : c = (!b) → hdRun T pu m0 l N r ((d, .tup []) :: sl) al K) : hdRun T pu m0 l N (o :: r) sl al K := by
  unfold hdRun
  rw [hgt, hg, hd]
  refine ⟨⟨hc, hN⟩, ?_⟩
  simp only [hl, one]
  refine ⟨fun h => ?_, fun h => by simpa [pushD] using h2 h⟩
  obtain ⟨v, a, b⟩ := h1 h
  exact a _ ⟨by rw [ha]; rfl, by simpa [pushD] using b⟩
theorem hd_past {g : Nat} {b : Bool} {t : Nat} (hg : o.guard = some (g, b)) (hgt : guardTmp l o = some t) (hd : o.dst = some d) (hc : noCap T o = true) (hN : d < N) (hl : look sl t = .tup [])
    (h2 : hdRun T pu m0 l N r ((d, .tup []) :: sl) al K) : hdRun T pu m0 l N (o :: r) sl al K := by
  unfold hdRun
  rw [hgt, hg, hd]
  refine ⟨⟨hc, hN⟩, ?_⟩
  simp only [hl]
  simpa [pushD] using h2
end
theorem ok_draw2 {P : Program} {E : Env} {N : Nat} {l hd tl : List Oper} {T : Tab} {pu : Pure} (n : Nat) (hT : TabOK P T) (hpu : PureOK P pu) (hmono : PureMono pu) (hmix : P.follows .mixedOrders = true) {Q0 : Exit → Act → World → Prop} {id : Nat} {k : List Item} {sl : Slots} {m : Mem} (hB : drawB l n = true)
    (h1 : l.take n = hd) (h2 : l.drop n = tl)
    (h : hdRun T pu m l N hd sl [] (fun sl al => Ok P E N Q0 (.ops l tl :: k) ⟨sl, m ++ al.map .ent⟩)) : Ok P E N Q0 (.code (.region id l.toArray true) :: k) ⟨sl, m⟩ := by
  subst h1 h2
  exact ok_draw hT hpu hmono hmix hB h
end Go.V
end
section
set_option linter.unusedSimpArgs false
set_option linter.unusedVariables false
namespace Go.V
open Go
theorem ok_draw5 {P : Program} {E : Env} {N : Nat} {l hd tl : List Oper} {T : Tab} {pu : Pure} {nu : New} (n : Nat) (vis : List (Nat × List Nat)) (ss : List (Nat × Nat)) (hT : TabOK P T) (hpu : PureOK P pu) (hnu : NewOK P nu) (hmono : PureSub pu) (hnmono : NewSub nu) (hmix : P.follows .mixedOrders = true) {Q0 : Exit → Act → World → Prop} {id : Nat} {k : List Item} {sl : Slots} {m : Mem} (hB : drawB3 l n vis ss = true)
    (h1 : l.take n = hd) (h2 : l.drop n = tl)
    (h : hd3 T pu nu m l vis ss N 0 hd sl [] (fun sl al => Ok P E N Q0 (.ops l tl :: k) ⟨sl, m ++ (finL ss al).flatten.map .ent⟩)) : Ok P E N Q0 (.code (.region id l.toArray true) :: k) ⟨sl, m⟩ := by
  subst h1 h2
  exact ok_draw4 hT hpu hnu hmono hnmono hmix hB h
def newNone : New := fun _ _ _ _ => none
theorem newNone_ok {P : Program} : NewOK P newNone := fun m f svs nid sv es h => by cases h
theorem newNone_sub : NewSub newNone := fun m m' f l nid r _ h => by cases h
section
variable {T : Tab} {pu : Pure} {nu : New} {m0 : Mem} {l r : List Oper} {vis : List (Nat × List Nat)} {ss : List (Nat × Nat)} {N i : Nat} {o : Oper} {sl : Slots} {al : List (List Ent × Option Ent)} {K : Slots → List (List Ent × Option Ent) → Prop} {d : Nat} {v : SV} {e : Ent} {es : List Ent}
theorem h3_nil (h : K sl al) : hd3 T pu nu m0 l vis ss N i [] sl al K := h
theorem h3_op (hs : stOf ss i = none) (hg : o.guard = none) (hc : noCap T o = true) (hN : okd N o.dst)
    (h : hop T pu nu (viewM m0 vis i (al.map (·.1))) (m0.length + (al.map (·.1)).flatten.length) (evS sl) o (fun v es => hd3 T pu nu m0 l vis ss N (i + 1) r (pushD o.dst v sl) (al ++ [(es, none)]) K)) : hd3 T pu nu m0 l vis ss N i (o :: r) sl al K := by
  have hgt : guardTmp l o = none := by simp [guardTmp, hg]
  unfold hd3
  simp only [hs]
  rw [hgt, hg]
  exact ⟨⟨hc, hN⟩, h⟩
theorem h3_go (hs : stOf ss i = none) (hg : o.guard = none) (hd : o.dst = some d) (ha : allocs o = false) (hc : noCap T o = true) (hN : d < N) (hn : newOf nu (viewM m0 vis i (al.map (·.1))) (m0.length + (al.map (·.1)).flatten.length) (evS sl) o = none)
    (h1 : ∀ K' : SV → Option Ent → Prop, K' v none → est T pu (viewM m0 vis i (al.map (·.1))) (m0.length + (al.map (·.1)).flatten.length) (evS sl) o K')
    (h3 : hd3 T pu nu m0 l vis ss N (i + 1) r ((d, v) :: sl) (al ++ [([], none)]) K) : hd3 T pu nu m0 l vis ss N i (o :: r) sl al K := by
  refine h3_op hs hg hc (by rw [hd]; exact hN) ?_
  unfold hop
  rw [hn]
  exact h1 _ ⟨by rw [ha]; rfl, by rw [hd]; exact h3⟩
theorem h3_new (hs : stOf ss i = none) (hg : o.guard = none) (hd : o.dst = some d) (ha : allocs o = true) (hc : noCap T o = true) (hN : d < N) (hn : newOf nu (viewM m0 vis i (al.map (·.1))) (m0.length + (al.map (·.1)).flatten.length) (evS sl) o = none)
    (h1 : ∀ K' : SV → Option Ent → Prop, K' v (some e) → est T pu (viewM m0 vis i (al.map (·.1))) (m0.length + (al.map (·.1)).flatten.length) (evS sl) o K')
    (h3 : hd3 T pu nu m0 l vis ss N (i + 1) r ((d, v) :: sl) (al ++ [([e], none)]) K) : hd3 T pu nu m0 l vis ss N i (o :: r) sl al K := by
  refine h3_op hs hg hc (by rw [hd]; exact hN) ?_
  unfold hop
  rw [hn]
  exact h1 _ ⟨by rw [ha]; rfl, by rw [hd]; exact h3⟩
theorem h3_call (hs : stOf ss i = none) (hg : o.guard = none) (hd : o.dst = some d) (hc : noCap T o = true) (hN : d < N) (hn : newOf nu (viewM m0 vis i (al.map (·.1))) (m0.length + (al.map (·.1)).flatten.length) (evS sl) o = some (v, es))
    (h3 : hd3 T pu nu m0 l vis ss N (i + 1) r ((d, v) :: sl) (al ++ [(es, none)]) K) : hd3 T pu nu m0 l vis ss N i (o :: r) sl al K := by
  refine h3_op hs hg hc (by rw [hd]; exact hN) ?_
  unfold hop
  rw [hn]
  rw [hd]
  exact h3
theorem h3_sto {j : Nat} (hs : stOf ss i = some j) (h1 : ∀ K' : Ent → Prop, K' e → stoP T m0 al j (evS sl) o K') (h3 : hd3 T pu nu m0 l vis ss N (i + 1) r sl (al ++ [([], some e)]) K) : hd3 T pu nu m0 l vis ss N i (o :: r) sl al K := by
  unfold hd3
  simp only [hs]
  exact h1 _ h3
theorem h3_guard {g : Nat} {b c : Bool} {t : Nat} (hs : stOf ss i = none) (hg : o.guard = some (g, b)) (hgt : guardTmp l o = some t) (hd : o.dst = some d) (hc : noCap T o = true) (hN : d < N) (hl : look sl t = one (.b c))
    (h1 : c = b → ∃ v es, (∀ K' : SV → List Ent → Prop, K' v es → hop T pu nu (viewM m0 vis i (al.map (·.1))) (m0.length + (al.map (·.1)).flatten.length) (evS sl) o K') ∧ hd3 T pu nu m0 l vis ss N (i + 1) r ((d, v) :: sl) (al ++ [(es, none)]) K)
    (h2 : c = (!b) → hd3 T pu nu m0 l vis ss N (i + 1) r ((d, .tup []) :: sl) (al ++ [([], none)]) K) : hd3 T pu nu m0 l vis ss N i (o :: r) sl al K := by
  unfold hd3
  simp only [hs]
  rw [hgt, hg]
  refine ⟨⟨hc, by rw [hd]; exact hN⟩, ?_⟩
  simp only [hl, one]
  refine ⟨fun h => ?_, fun h => by simpa [pushD, hd] using h2 h⟩
  obtain ⟨v, es, a, b⟩ := h1 h
  exact a _ (by simpa [pushD, hd] using b)
theorem h3_past {g : Nat} {b : Bool} {t : Nat} (hs : stOf ss i = none) (hg : o.guard = some (g, b)) (hgt : guardTmp l o = some t) (hd : o.dst = some d) (hc : noCap T o = true) (hN : d < N) (hl : look sl t = .tup [])
    (h2 : hd3 T pu nu m0 l vis ss N (i + 1) r ((d, .tup []) :: sl) (al ++ [([], none)]) K) : hd3 T pu nu m0 l vis ss N i (o :: r) sl al K := by
  unfold hd3
  simp only [hs]
  rw [hgt, hg]
  refine ⟨⟨hc, by rw [hd]; exact hN⟩, ?_⟩
  simp only [hl]
  simpa [pushD, hd] using h2
variable {m : Mem} {nid : Nat} {g : Operand → SV} {K2 : SV → List Ent → Prop}
theorem hop_go (hn : newOf nu m nid g o = none) (ha : allocs o = false) (h1 : ∀ K' : SV → Option Ent → Prop, K' v none → est T pu m nid g o K') : ∀ K' : SV → List Ent → Prop, K' v [] → hop T pu nu m nid g o K' := by
  intro K' h
  unfold hop
  rw [hn]
  exact h1 _ ⟨by rw [ha]; rfl, h⟩
theorem hop_new (hn : newOf nu m nid g o = none) (ha : allocs o = true) (h1 : ∀ K' : SV → Option Ent → Prop, K' v (some e) → est T pu m nid g o K') : ∀ K' : SV → List Ent → Prop, K' v [e] → hop T pu nu m nid g o K' := by
  intro K' h
  unfold hop
  rw [hn]
  exact h1 _ ⟨by rw [ha]; rfl, h⟩
theorem hop_call (hn : newOf nu m nid g o = some (v, es)) : ∀ K' : SV → List Ent → Prop, K' v es → hop T pu nu m nid g o K' := by
  intro K' h
  unfold hop
  rw [hn]
  exact h
end
end Go.V
end
section
set_option linter.unusedSimpArgs false
set_option linter.unusedVariables false
namespace Go.V
open Go Go.Proofs.Try

def ty1 : Ty := ⟨.func, 1, 8, .s (.raw .nilFunc)⟩
theorem tyOK1 : TyOK prog 1 ty1 := ⟨by kernel_rfl, by kernel_rfl, by kernel_rfl, True.intro, ⟨_, _, _, underlying1⟩⟩
def ty2 : Ty := ⟨.int .i64, 1, 8, .s (.i 0)⟩
theorem tyOK2 : TyOK prog 2 ty2 := ⟨by kernel_rfl, by kernel_rfl, by kernel_rfl, True.intro, underlying2⟩
def ty3 : Ty := ⟨.int .i64, 1, 8, .s (.i 0)⟩
theorem tyOK3 : TyOK prog 3 ty3 := ⟨by kernel_rfl, by kernel_rfl, by kernel_rfl, True.intro, underlying3⟩
def ty4 : Ty := ⟨.bool, 1, 1, .s (.b false)⟩
theorem tyOK4 : TyOK prog 4 ty4 := ⟨by kernel_rfl, by kernel_rfl, by kernel_rfl, True.intro, underlying4⟩
def ty5 : Ty := ⟨.int .u8, 1, 1, .s (.u8 0)⟩
theorem tyOK5 : TyOK prog 5 ty5 := ⟨by kernel_rfl, by kernel_rfl, by kernel_rfl, True.intro, underlying5⟩
def ty6 : Ty := ⟨.int .u8, 1, 1, .s (.u8 0)⟩
theorem tyOK6 : TyOK prog 6 ty6 := ⟨by kernel_rfl, by kernel_rfl, by kernel_rfl, True.intro, underlying6⟩
def ty7 : Ty := ⟨.struct [(0, 2), (1, 3), (2, 4), (3, 6)], 4, 24, .st [⟨1, .s (.i 0)⟩, ⟨1, .s (.i 0)⟩, ⟨1, .s (.b false)⟩, ⟨1, .s (.u8 0)⟩]⟩
theorem tyOK7 : TyOK prog 7 ty7 := ⟨by kernel_rfl, by kernel_rfl, by kernel_rfl, ⟨rfl, rfl, rfl, rfl, True.intro⟩, ⟨_, underlying7, rfl, by kernel_rfl⟩⟩
def ty8 : Ty := ⟨.struct [(0, 2), (1, 3), (2, 4), (3, 6)], 4, 24, .st [⟨1, .s (.i 0)⟩, ⟨1, .s (.i 0)⟩, ⟨1, .s (.b false)⟩, ⟨1, .s (.u8 0)⟩]⟩
theorem tyOK8 : TyOK prog 8 ty8 := ⟨by kernel_rfl, by kernel_rfl, by kernel_rfl, ⟨rfl, rfl, rfl, rfl, True.intro⟩, ⟨_, underlying8, rfl, by kernel_rfl⟩⟩
def ty9 : Ty := ⟨.str, 1, 16, .s (.str [])⟩
theorem tyOK9 : TyOK prog 9 ty9 := ⟨by kernel_rfl, by kernel_rfl, by kernel_rfl, True.intro, underlying9⟩
def ty10 : Ty := ⟨.str, 1, 16, .s (.str [])⟩
theorem tyOK10 : TyOK prog 10 ty10 := ⟨by kernel_rfl, by kernel_rfl, by kernel_rfl, True.intro, underlying10⟩
def ty11 : Ty := ⟨.str, 1, 16, .s (.str [])⟩
theorem tyOK11 : TyOK prog 11 ty11 := ⟨by kernel_rfl, by kernel_rfl, by kernel_rfl, True.intro, underlying11⟩
def ty12 : Ty := ⟨.int .u64, 1, 8, .s (.u64 0)⟩
theorem tyOK12 : TyOK prog 12 ty12 := ⟨by kernel_rfl, by kernel_rfl, by kernel_rfl, True.intro, underlying12⟩
def ty13 : Ty := ⟨.struct [(0, 9), (1, 12)], 2, 24, .st [⟨1, .s (.str [])⟩, ⟨1, .s (.u64 0)⟩]⟩
theorem tyOK13 : TyOK prog 13 ty13 := ⟨by kernel_rfl, by kernel_rfl, by kernel_rfl, ⟨rfl, rfl, True.intro⟩, ⟨_, underlying13, rfl, by kernel_rfl⟩⟩
def ty14 : Ty := ⟨.struct [(0, 9), (1, 12)], 2, 24, .st [⟨1, .s (.str [])⟩, ⟨1, .s (.u64 0)⟩]⟩
theorem tyOK14 : TyOK prog 14 ty14 := ⟨by kernel_rfl, by kernel_rfl, by kernel_rfl, ⟨rfl, rfl, True.intro⟩, ⟨_, underlying14, rfl, by kernel_rfl⟩⟩
def ty15 : Ty := ⟨.ptr 178, 1, 8, .s (.nil)⟩
theorem tyOK15 : TyOK prog 15 ty15 := ⟨by kernel_rfl, by kernel_rfl, by kernel_rfl, True.intro, underlying15⟩
def ty16 : Ty := ⟨.ptr 181, 1, 8, .s (.nil)⟩
theorem tyOK16 : TyOK prog 16 ty16 := ⟨by kernel_rfl, by kernel_rfl, by kernel_rfl, True.intro, underlying16⟩
def ty17 : Ty := ⟨.ptr 189, 1, 8, .s (.nil)⟩
theorem tyOK17 : TyOK prog 17 ty17 := ⟨by kernel_rfl, by kernel_rfl, by kernel_rfl, True.intro, underlying17⟩
def ty18 : Ty := ⟨.struct [(0, 17)], 1, 8, .st [⟨1, .s (.nil)⟩]⟩
theorem tyOK18 : TyOK prog 18 ty18 := ⟨by kernel_rfl, by kernel_rfl, by kernel_rfl, ⟨rfl, True.intro⟩, ⟨_, underlying18, rfl, by kernel_rfl⟩⟩
def ty19 : Ty := ⟨.struct [(0, 17)], 1, 8, .st [⟨1, .s (.nil)⟩]⟩
theorem tyOK19 : TyOK prog 19 ty19 := ⟨by kernel_rfl, by kernel_rfl, by kernel_rfl, ⟨rfl, True.intro⟩, ⟨_, underlying19, rfl, by kernel_rfl⟩⟩
def ty20 : Ty := ⟨.iface, 1, 16, .s (.inil)⟩
theorem tyOK20 : TyOK prog 20 ty20 := ⟨by kernel_rfl, by kernel_rfl, by kernel_rfl, True.intro, ⟨_, underlying20⟩⟩
def ty22 : Ty := ⟨.sl 5, 1, 24, .s (.snil)⟩
theorem tyOK22 : TyOK prog 22 ty22 := ⟨by kernel_rfl, by kernel_rfl, by kernel_rfl, True.intro, underlying22⟩
def ty23 : Ty := ⟨.arr 16 5, 16, 16, .a8 [0, 0, 0, 0, 0, 0, 0, 0, 0, 0, 0, 0, 0, 0, 0, 0]⟩
theorem tyOK23 : TyOK prog 23 ty23 := ⟨by kernel_rfl, by kernel_rfl, by kernel_rfl, True.intro, underlying23⟩
def ty24 : Ty := ⟨.func, 1, 8, .s (.raw .nilFunc)⟩
theorem tyOK24 : TyOK prog 24 ty24 := ⟨by kernel_rfl, by kernel_rfl, by kernel_rfl, True.intro, ⟨_, _, _, underlying24⟩⟩
def ty25 : Ty := ⟨.ptr 105, 1, 8, .s (.nil)⟩
theorem tyOK25 : TyOK prog 25 ty25 := ⟨by kernel_rfl, by kernel_rfl, by kernel_rfl, True.intro, underlying25⟩
def ty26 : Ty := ⟨.int .i64, 1, 8, .s (.i 0)⟩
theorem tyOK26 : TyOK prog 26 ty26 := ⟨by kernel_rfl, by kernel_rfl, by kernel_rfl, True.intro, underlying26⟩
def ty28 : Ty := ⟨.func, 1, 8, .s (.raw .nilFunc)⟩
theorem tyOK28 : TyOK prog 28 ty28 := ⟨by kernel_rfl, by kernel_rfl, by kernel_rfl, True.intro, ⟨_, _, _, underlying28⟩⟩
def ty29 : Ty := ⟨.ptr 110, 1, 8, .s (.nil)⟩
theorem tyOK29 : TyOK prog 29 ty29 := ⟨by kernel_rfl, by kernel_rfl, by kernel_rfl, True.intro, underlying29⟩
def ty30 : Ty := ⟨.func, 1, 8, .s (.raw .nilFunc)⟩
theorem tyOK30 : TyOK prog 30 ty30 := ⟨by kernel_rfl, by kernel_rfl, by kernel_rfl, True.intro, ⟨_, _, _, underlying30⟩⟩
def ty31 : Ty := ⟨.func, 1, 8, .s (.raw .nilFunc)⟩
theorem tyOK31 : TyOK prog 31 ty31 := ⟨by kernel_rfl, by kernel_rfl, by kernel_rfl, True.intro, ⟨_, _, _, underlying31⟩⟩
def ty32 : Ty := ⟨.func, 1, 8, .s (.raw .nilFunc)⟩
theorem tyOK32 : TyOK prog 32 ty32 := ⟨by kernel_rfl, by kernel_rfl, by kernel_rfl, True.intro, ⟨_, _, _, underlying32⟩⟩
def ty33 : Ty := ⟨.func, 1, 8, .s (.raw .nilFunc)⟩
theorem tyOK33 : TyOK prog 33 ty33 := ⟨by kernel_rfl, by kernel_rfl, by kernel_rfl, True.intro, ⟨_, _, _, underlying33⟩⟩
def ty34 : Ty := ⟨.func, 1, 8, .s (.raw .nilFunc)⟩
theorem tyOK34 : TyOK prog 34 ty34 := ⟨by kernel_rfl, by kernel_rfl, by kernel_rfl, True.intro, ⟨_, _, _, underlying34⟩⟩
def ty35 : Ty := ⟨.func, 1, 8, .s (.raw .nilFunc)⟩
theorem tyOK35 : TyOK prog 35 ty35 := ⟨by kernel_rfl, by kernel_rfl, by kernel_rfl, True.intro, ⟨_, _, _, underlying35⟩⟩
def ty36 : Ty := ⟨.func, 1, 8, .s (.raw .nilFunc)⟩
theorem tyOK36 : TyOK prog 36 ty36 := ⟨by kernel_rfl, by kernel_rfl, by kernel_rfl, True.intro, ⟨_, _, _, underlying36⟩⟩
def ty37 : Ty := ⟨.struct [(0, 22), (1, 22), (2, 22), (3, 22)], 4, 96, .st [⟨1, .s (.snil)⟩, ⟨1, .s (.snil)⟩, ⟨1, .s (.snil)⟩, ⟨1, .s (.snil)⟩]⟩
theorem tyOK37 : TyOK prog 37 ty37 := ⟨by kernel_rfl, by kernel_rfl, by kernel_rfl, ⟨rfl, rfl, rfl, rfl, True.intro⟩, ⟨_, underlying37, rfl, by kernel_rfl⟩⟩
def ty38 : Ty := ⟨.struct [(0, 22), (1, 22), (2, 22), (3, 22)], 4, 96, .st [⟨1, .s (.snil)⟩, ⟨1, .s (.snil)⟩, ⟨1, .s (.snil)⟩, ⟨1, .s (.snil)⟩]⟩
theorem tyOK38 : TyOK prog 38 ty38 := ⟨by kernel_rfl, by kernel_rfl, by kernel_rfl, ⟨rfl, rfl, rfl, rfl, True.intro⟩, ⟨_, underlying38, rfl, by kernel_rfl⟩⟩
def ty40 : Ty := ⟨.func, 1, 8, .s (.raw .nilFunc)⟩
theorem tyOK40 : TyOK prog 40 ty40 := ⟨by kernel_rfl, by kernel_rfl, by kernel_rfl, True.intro, ⟨_, _, _, underlying40⟩⟩
def ty41 : Ty := ⟨.func, 1, 8, .s (.raw .nilFunc)⟩
theorem tyOK41 : TyOK prog 41 ty41 := ⟨by kernel_rfl, by kernel_rfl, by kernel_rfl, True.intro, ⟨_, _, _, underlying41⟩⟩
def ty42 : Ty := ⟨.func, 1, 8, .s (.raw .nilFunc)⟩
theorem tyOK42 : TyOK prog 42 ty42 := ⟨by kernel_rfl, by kernel_rfl, by kernel_rfl, True.intro, ⟨_, _, _, underlying42⟩⟩
def ty43 : Ty := ⟨.func, 1, 8, .s (.raw .nilFunc)⟩
theorem tyOK43 : TyOK prog 43 ty43 := ⟨by kernel_rfl, by kernel_rfl, by kernel_rfl, True.intro, ⟨_, _, _, underlying43⟩⟩
def ty44 : Ty := ⟨.func, 1, 8, .s (.raw .nilFunc)⟩
theorem tyOK44 : TyOK prog 44 ty44 := ⟨by kernel_rfl, by kernel_rfl, by kernel_rfl, True.intro, ⟨_, _, _, underlying44⟩⟩
def ty45 : Ty := ⟨.int .u64, 1, 8, .s (.u64 0)⟩
theorem tyOK45 : TyOK prog 45 ty45 := ⟨by kernel_rfl, by kernel_rfl, by kernel_rfl, True.intro, underlying45⟩
def ty46 : Ty := ⟨.struct [(0, 3), (1, 22), (2, 22), (3, 22), (4, 22), (5, 45)], 6, 112, .st [⟨1, .s (.i 0)⟩, ⟨1, .s (.snil)⟩, ⟨1, .s (.snil)⟩, ⟨1, .s (.snil)⟩, ⟨1, .s (.snil)⟩, ⟨1, .s (.u64 0)⟩]⟩
theorem tyOK46 : TyOK prog 46 ty46 := ⟨by kernel_rfl, by kernel_rfl, by kernel_rfl, ⟨rfl, rfl, rfl, rfl, rfl, rfl, True.intro⟩, ⟨_, underlying46, rfl, by kernel_rfl⟩⟩
def ty47 : Ty := ⟨.struct [(0, 3), (1, 22), (2, 22), (3, 22), (4, 22), (5, 45)], 6, 112, .st [⟨1, .s (.i 0)⟩, ⟨1, .s (.snil)⟩, ⟨1, .s (.snil)⟩, ⟨1, .s (.snil)⟩, ⟨1, .s (.snil)⟩, ⟨1, .s (.u64 0)⟩]⟩
theorem tyOK47 : TyOK prog 47 ty47 := ⟨by kernel_rfl, by kernel_rfl, by kernel_rfl, ⟨rfl, rfl, rfl, rfl, rfl, rfl, True.intro⟩, ⟨_, underlying47, rfl, by kernel_rfl⟩⟩
def ty48 : Ty := ⟨.ptr 133, 1, 8, .s (.nil)⟩
theorem tyOK48 : TyOK prog 48 ty48 := ⟨by kernel_rfl, by kernel_rfl, by kernel_rfl, True.intro, underlying48⟩
def ty50 : Ty := ⟨.func, 1, 8, .s (.raw .nilFunc)⟩
theorem tyOK50 : TyOK prog 50 ty50 := ⟨by kernel_rfl, by kernel_rfl, by kernel_rfl, True.intro, ⟨_, _, _, underlying50⟩⟩
def ty51 : Ty := ⟨.func, 1, 8, .s (.raw .nilFunc)⟩
theorem tyOK51 : TyOK prog 51 ty51 := ⟨by kernel_rfl, by kernel_rfl, by kernel_rfl, True.intro, ⟨_, _, _, underlying51⟩⟩
def ty52 : Ty := ⟨.func, 1, 8, .s (.raw .nilFunc)⟩
theorem tyOK52 : TyOK prog 52 ty52 := ⟨by kernel_rfl, by kernel_rfl, by kernel_rfl, True.intro, ⟨_, _, _, underlying52⟩⟩
def ty53 : Ty := ⟨.func, 1, 8, .s (.raw .nilFunc)⟩
theorem tyOK53 : TyOK prog 53 ty53 := ⟨by kernel_rfl, by kernel_rfl, by kernel_rfl, True.intro, ⟨_, _, _, underlying53⟩⟩
def ty54 : Ty := ⟨.func, 1, 8, .s (.raw .nilFunc)⟩
theorem tyOK54 : TyOK prog 54 ty54 := ⟨by kernel_rfl, by kernel_rfl, by kernel_rfl, True.intro, ⟨_, _, _, underlying54⟩⟩
def ty55 : Ty := ⟨.func, 1, 8, .s (.raw .nilFunc)⟩
theorem tyOK55 : TyOK prog 55 ty55 := ⟨by kernel_rfl, by kernel_rfl, by kernel_rfl, True.intro, ⟨_, _, _, underlying55⟩⟩
def ty56 : Ty := ⟨.func, 1, 8, .s (.raw .nilFunc)⟩
theorem tyOK56 : TyOK prog 56 ty56 := ⟨by kernel_rfl, by kernel_rfl, by kernel_rfl, True.intro, ⟨_, _, _, underlying56⟩⟩
def ty57 : Ty := ⟨.struct [(0, 3), (1, 22), (2, 22)], 3, 56, .st [⟨1, .s (.i 0)⟩, ⟨1, .s (.snil)⟩, ⟨1, .s (.snil)⟩]⟩
theorem tyOK57 : TyOK prog 57 ty57 := ⟨by kernel_rfl, by kernel_rfl, by kernel_rfl, ⟨rfl, rfl, rfl, True.intro⟩, ⟨_, underlying57, rfl, by kernel_rfl⟩⟩
def ty58 : Ty := ⟨.struct [(0, 3), (1, 22), (2, 22)], 3, 56, .st [⟨1, .s (.i 0)⟩, ⟨1, .s (.snil)⟩, ⟨1, .s (.snil)⟩]⟩
theorem tyOK58 : TyOK prog 58 ty58 := ⟨by kernel_rfl, by kernel_rfl, by kernel_rfl, ⟨rfl, rfl, rfl, True.intro⟩, ⟨_, underlying58, rfl, by kernel_rfl⟩⟩
def ty59 : Ty := ⟨.func, 1, 8, .s (.raw .nilFunc)⟩
theorem tyOK59 : TyOK prog 59 ty59 := ⟨by kernel_rfl, by kernel_rfl, by kernel_rfl, True.intro, ⟨_, _, _, underlying59⟩⟩
def ty60 : Ty := ⟨.func, 1, 8, .s (.raw .nilFunc)⟩
theorem tyOK60 : TyOK prog 60 ty60 := ⟨by kernel_rfl, by kernel_rfl, by kernel_rfl, True.intro, ⟨_, _, _, underlying60⟩⟩
def ty61 : Ty := ⟨.sl 22, 1, 24, .s (.snil)⟩
theorem tyOK61 : TyOK prog 61 ty61 := ⟨by kernel_rfl, by kernel_rfl, by kernel_rfl, True.intro, underlying61⟩
def ty63 : Ty := ⟨.func, 1, 8, .s (.raw .nilFunc)⟩
theorem tyOK63 : TyOK prog 63 ty63 := ⟨by kernel_rfl, by kernel_rfl, by kernel_rfl, True.intro, ⟨_, _, _, underlying63⟩⟩
def ty64 : Ty := ⟨.func, 1, 8, .s (.raw .nilFunc)⟩
theorem tyOK64 : TyOK prog 64 ty64 := ⟨by kernel_rfl, by kernel_rfl, by kernel_rfl, True.intro, ⟨_, _, _, underlying64⟩⟩
def ty65 : Ty := ⟨.sl 80, 1, 24, .s (.snil)⟩
theorem tyOK65 : TyOK prog 65 ty65 := ⟨by kernel_rfl, by kernel_rfl, by kernel_rfl, True.intro, underlying65⟩
def ty66 : Ty := ⟨.func, 1, 8, .s (.raw .nilFunc)⟩
theorem tyOK66 : TyOK prog 66 ty66 := ⟨by kernel_rfl, by kernel_rfl, by kernel_rfl, True.intro, ⟨_, _, _, underlying66⟩⟩
def ty77 : Ty := ⟨.func, 1, 8, .s (.raw .nilFunc)⟩
theorem tyOK77 : TyOK prog 77 ty77 := ⟨by kernel_rfl, by kernel_rfl, by kernel_rfl, True.intro, ⟨_, _, _, underlying77⟩⟩
def ty78 : Ty := ⟨.func, 1, 8, .s (.raw .nilFunc)⟩
theorem tyOK78 : TyOK prog 78 ty78 := ⟨by kernel_rfl, by kernel_rfl, by kernel_rfl, True.intro, ⟨_, _, _, underlying78⟩⟩
def ty79 : Ty := ⟨.struct [(0, 3), (1, 5), (2, 22), (3, 3)], 4, 48, .st [⟨1, .s (.i 0)⟩, ⟨1, .s (.u8 0)⟩, ⟨1, .s (.snil)⟩, ⟨1, .s (.i 0)⟩]⟩
theorem tyOK79 : TyOK prog 79 ty79 := ⟨by kernel_rfl, by kernel_rfl, by kernel_rfl, ⟨rfl, rfl, rfl, rfl, True.intro⟩, ⟨_, underlying79, rfl, by kernel_rfl⟩⟩
def ty80 : Ty := ⟨.struct [(0, 3), (1, 5), (2, 22), (3, 3)], 4, 48, .st [⟨1, .s (.i 0)⟩, ⟨1, .s (.u8 0)⟩, ⟨1, .s (.snil)⟩, ⟨1, .s (.i 0)⟩]⟩
theorem tyOK80 : TyOK prog 80 ty80 := ⟨by kernel_rfl, by kernel_rfl, by kernel_rfl, ⟨rfl, rfl, rfl, rfl, True.intro⟩, ⟨_, underlying80, rfl, by kernel_rfl⟩⟩
def ty81 : Ty := ⟨.func, 1, 8, .s (.raw .nilFunc)⟩
theorem tyOK81 : TyOK prog 81 ty81 := ⟨by kernel_rfl, by kernel_rfl, by kernel_rfl, True.intro, ⟨_, _, _, underlying81⟩⟩
def ty82 : Ty := ⟨.func, 1, 8, .s (.raw .nilFunc)⟩
theorem tyOK82 : TyOK prog 82 ty82 := ⟨by kernel_rfl, by kernel_rfl, by kernel_rfl, True.intro, ⟨_, _, _, underlying82⟩⟩
def ty83 : Ty := ⟨.func, 1, 8, .s (.raw .nilFunc)⟩
theorem tyOK83 : TyOK prog 83 ty83 := ⟨by kernel_rfl, by kernel_rfl, by kernel_rfl, True.intro, ⟨_, _, _, underlying83⟩⟩
def ty85 : Ty := ⟨.func, 1, 8, .s (.raw .nilFunc)⟩
theorem tyOK85 : TyOK prog 85 ty85 := ⟨by kernel_rfl, by kernel_rfl, by kernel_rfl, True.intro, ⟨_, _, _, underlying85⟩⟩
def ty86 : Ty := ⟨.func, 1, 8, .s (.raw .nilFunc)⟩
theorem tyOK86 : TyOK prog 86 ty86 := ⟨by kernel_rfl, by kernel_rfl, by kernel_rfl, True.intro, ⟨_, _, _, underlying86⟩⟩
def ty87 : Ty := ⟨.ptr 73, 1, 8, .s (.nil)⟩
theorem tyOK87 : TyOK prog 87 ty87 := ⟨by kernel_rfl, by kernel_rfl, by kernel_rfl, True.intro, underlying87⟩
def ty88 : Ty := ⟨.ptr 75, 1, 8, .s (.nil)⟩
theorem tyOK88 : TyOK prog 88 ty88 := ⟨by kernel_rfl, by kernel_rfl, by kernel_rfl, True.intro, underlying88⟩
def ty89 : Ty := ⟨.func, 1, 8, .s (.raw .nilFunc)⟩
theorem tyOK89 : TyOK prog 89 ty89 := ⟨by kernel_rfl, by kernel_rfl, by kernel_rfl, True.intro, ⟨_, _, _, underlying89⟩⟩
def ty90 : Ty := ⟨.func, 1, 8, .s (.raw .nilFunc)⟩
theorem tyOK90 : TyOK prog 90 ty90 := ⟨by kernel_rfl, by kernel_rfl, by kernel_rfl, True.intro, ⟨_, _, _, underlying90⟩⟩
def ty91 : Ty := ⟨.ptr 93, 1, 8, .s (.nil)⟩
theorem tyOK91 : TyOK prog 91 ty91 := ⟨by kernel_rfl, by kernel_rfl, by kernel_rfl, True.intro, underlying91⟩
def ty94 : Ty := ⟨.int .u64, 1, 8, .s (.u64 0)⟩
theorem tyOK94 : TyOK prog 94 ty94 := ⟨by kernel_rfl, by kernel_rfl, by kernel_rfl, True.intro, underlying94⟩
def ty96 : Ty := ⟨.func, 1, 8, .s (.raw .nilFunc)⟩
theorem tyOK96 : TyOK prog 96 ty96 := ⟨by kernel_rfl, by kernel_rfl, by kernel_rfl, True.intro, ⟨_, _, _, underlying96⟩⟩
def ty97 : Ty := ⟨.func, 1, 8, .s (.raw .nilFunc)⟩
theorem tyOK97 : TyOK prog 97 ty97 := ⟨by kernel_rfl, by kernel_rfl, by kernel_rfl, True.intro, ⟨_, _, _, underlying97⟩⟩
def ty98 : Ty := ⟨.sl 99, 1, 24, .s (.snil)⟩
theorem tyOK98 : TyOK prog 98 ty98 := ⟨by kernel_rfl, by kernel_rfl, by kernel_rfl, True.intro, underlying98⟩
def ty99 : Ty := ⟨.arr 4 5, 4, 4, .a8 [0, 0, 0, 0]⟩
theorem tyOK99 : TyOK prog 99 ty99 := ⟨by kernel_rfl, by kernel_rfl, by kernel_rfl, True.intro, underlying99⟩
def ty100 : Ty := ⟨.arr 256 5, 256, 256, .a8 (List.replicate 256 0)⟩
theorem tyOK100 : TyOK prog 100 ty100 := ⟨by kernel_rfl, by kernel_rfl, by kernel_rfl, True.intro, underlying100⟩
def ty101 : Ty := ⟨.func, 1, 8, .s (.raw .nilFunc)⟩
theorem tyOK101 : TyOK prog 101 ty101 := ⟨by kernel_rfl, by kernel_rfl, by kernel_rfl, True.intro, ⟨_, _, _, underlying101⟩⟩
def ty102 : Ty := ⟨.func, 1, 8, .s (.raw .nilFunc)⟩
theorem tyOK102 : TyOK prog 102 ty102 := ⟨by kernel_rfl, by kernel_rfl, by kernel_rfl, True.intro, ⟨_, _, _, underlying102⟩⟩
def ty103 : Ty := ⟨.sl 23, 1, 24, .s (.snil)⟩
theorem tyOK103 : TyOK prog 103 ty103 := ⟨by kernel_rfl, by kernel_rfl, by kernel_rfl, True.intro, underlying103⟩
def ty104 : Ty := ⟨.struct [(0, 103)], 1, 24, .st [⟨1, .s (.snil)⟩]⟩
theorem tyOK104 : TyOK prog 104 ty104 := ⟨by kernel_rfl, by kernel_rfl, by kernel_rfl, ⟨rfl, True.intro⟩, ⟨_, underlying104, rfl, by kernel_rfl⟩⟩
def ty105 : Ty := ⟨.struct [(0, 103)], 1, 24, .st [⟨1, .s (.snil)⟩]⟩
theorem tyOK105 : TyOK prog 105 ty105 := ⟨by kernel_rfl, by kernel_rfl, by kernel_rfl, ⟨rfl, True.intro⟩, ⟨_, underlying105, rfl, by kernel_rfl⟩⟩
def ty106 : Ty := ⟨.arr 256 3, 256, 2048, .ai (List.replicate 256 0)⟩
theorem tyOK106 : TyOK prog 106 ty106 := ⟨by kernel_rfl, by kernel_rfl, by kernel_rfl, True.intro, underlying106⟩
def ty107 : Ty := ⟨.func, 1, 8, .s (.raw .nilFunc)⟩
theorem tyOK107 : TyOK prog 107 ty107 := ⟨by kernel_rfl, by kernel_rfl, by kernel_rfl, True.intro, ⟨_, _, _, underlying107⟩⟩
def ty108 : Ty := ⟨.sl 111, 1, 24, .s (.snil)⟩
theorem tyOK108 : TyOK prog 108 ty108 := ⟨by kernel_rfl, by kernel_rfl, by kernel_rfl, True.intro, underlying108⟩
def ty109 : Ty := ⟨.struct [(0, 108), (1, 106), (257, 3)], 258, 2080, .st [⟨1, .s (.snil)⟩, ⟨256, .ai (List.replicate 256 0)⟩, ⟨1, .s (.i 0)⟩]⟩
theorem tyOK109 : TyOK prog 109 ty109 := ⟨by kernel_rfl, by kernel_rfl, by kernel_rfl, ⟨rfl, List.length_replicate, rfl, True.intro⟩, ⟨_, underlying109, rfl, by kernel_rfl⟩⟩
def ty110 : Ty := ⟨.struct [(0, 108), (1, 106), (257, 3)], 258, 2080, .st [⟨1, .s (.snil)⟩, ⟨256, .ai (List.replicate 256 0)⟩, ⟨1, .s (.i 0)⟩]⟩
theorem tyOK110 : TyOK prog 110 ty110 := ⟨by kernel_rfl, by kernel_rfl, by kernel_rfl, ⟨rfl, List.length_replicate, rfl, True.intro⟩, ⟨_, underlying110, rfl, by kernel_rfl⟩⟩
def ty111 : Ty := ⟨.arr 4 3, 4, 32, .ai [0, 0, 0, 0]⟩
theorem tyOK111 : TyOK prog 111 ty111 := ⟨by kernel_rfl, by kernel_rfl, by kernel_rfl, True.intro, underlying111⟩
def ty112 : Ty := ⟨.func, 1, 8, .s (.raw .nilFunc)⟩
theorem tyOK112 : TyOK prog 112 ty112 := ⟨by kernel_rfl, by kernel_rfl, by kernel_rfl, True.intro, ⟨_, _, _, underlying112⟩⟩
def ty113 : Ty := ⟨.arr 4 111, 16, 128, .ai [0, 0, 0, 0, 0, 0, 0, 0, 0, 0, 0, 0, 0, 0, 0, 0]⟩
theorem tyOK113 : TyOK prog 113 ty113 := ⟨by kernel_rfl, by kernel_rfl, by kernel_rfl, True.intro, underlying113⟩
def ty114 : Ty := ⟨.struct [(0, 45), (1, 45)], 2, 16, .st [⟨1, .s (.u64 0)⟩, ⟨1, .s (.u64 0)⟩]⟩
theorem tyOK114 : TyOK prog 114 ty114 := ⟨by kernel_rfl, by kernel_rfl, by kernel_rfl, ⟨rfl, rfl, True.intro⟩, ⟨_, underlying114, rfl, by kernel_rfl⟩⟩
def ty115 : Ty := ⟨.struct [(0, 45), (1, 45)], 2, 16, .st [⟨1, .s (.u64 0)⟩, ⟨1, .s (.u64 0)⟩]⟩
theorem tyOK115 : TyOK prog 115 ty115 := ⟨by kernel_rfl, by kernel_rfl, by kernel_rfl, ⟨rfl, rfl, True.intro⟩, ⟨_, underlying115, rfl, by kernel_rfl⟩⟩
def ty116 : Ty := ⟨.func, 1, 8, .s (.raw .nilFunc)⟩
theorem tyOK116 : TyOK prog 116 ty116 := ⟨by kernel_rfl, by kernel_rfl, by kernel_rfl, True.intro, ⟨_, _, _, underlying116⟩⟩
def ty117 : Ty := ⟨.func, 1, 8, .s (.raw .nilFunc)⟩
theorem tyOK117 : TyOK prog 117 ty117 := ⟨by kernel_rfl, by kernel_rfl, by kernel_rfl, True.intro, ⟨_, _, _, underlying117⟩⟩
def ty118 : Ty := ⟨.func, 1, 8, .s (.raw .nilFunc)⟩
theorem tyOK118 : TyOK prog 118 ty118 := ⟨by kernel_rfl, by kernel_rfl, by kernel_rfl, True.intro, ⟨_, _, _, underlying118⟩⟩
def ty119 : Ty := ⟨.arr 128 4, 128, 128, .ab (List.replicate 128 false)⟩
theorem tyOK119 : TyOK prog 119 ty119 := ⟨by kernel_rfl, by kernel_rfl, by kernel_rfl, True.intro, underlying119⟩
def ty120 : Ty := ⟨.arr 128 4, 128, 128, .ab (List.replicate 128 false)⟩
theorem tyOK120 : TyOK prog 120 ty120 := ⟨by kernel_rfl, by kernel_rfl, by kernel_rfl, True.intro, underlying120⟩
def ty121 : Ty := ⟨.func, 1, 8, .s (.raw .nilFunc)⟩
theorem tyOK121 : TyOK prog 121 ty121 := ⟨by kernel_rfl, by kernel_rfl, by kernel_rfl, True.intro, ⟨_, _, _, underlying121⟩⟩
def ty122 : Ty := ⟨.arr 2 22, 2, 48, .agg [.snil, .snil]⟩
theorem tyOK122 : TyOK prog 122 ty122 := ⟨by kernel_rfl, by kernel_rfl, by kernel_rfl, True.intro, underlying122⟩
def ty123 : Ty := ⟨.func, 1, 8, .s (.raw .nilFunc)⟩
theorem tyOK123 : TyOK prog 123 ty123 := ⟨by kernel_rfl, by kernel_rfl, by kernel_rfl, True.intro, ⟨_, _, _, underlying123⟩⟩
def ty124 : Ty := ⟨.func, 1, 8, .s (.raw .nilFunc)⟩
theorem tyOK124 : TyOK prog 124 ty124 := ⟨by kernel_rfl, by kernel_rfl, by kernel_rfl, True.intro, ⟨_, _, _, underlying124⟩⟩
def ty125 : Ty := ⟨.func, 1, 8, .s (.raw .nilFunc)⟩
theorem tyOK125 : TyOK prog 125 ty125 := ⟨by kernel_rfl, by kernel_rfl, by kernel_rfl, True.intro, ⟨_, _, _, underlying125⟩⟩
def ty126 : Ty := ⟨.func, 1, 8, .s (.raw .nilFunc)⟩
theorem tyOK126 : TyOK prog 126 ty126 := ⟨by kernel_rfl, by kernel_rfl, by kernel_rfl, True.intro, ⟨_, _, _, underlying126⟩⟩
def ty127 : Ty := ⟨.func, 1, 8, .s (.raw .nilFunc)⟩
theorem tyOK127 : TyOK prog 127 ty127 := ⟨by kernel_rfl, by kernel_rfl, by kernel_rfl, True.intro, ⟨_, _, _, underlying127⟩⟩
def ty128 : Ty := ⟨.int .u32, 1, 4, .s (.u32 0)⟩
theorem tyOK128 : TyOK prog 128 ty128 := ⟨by kernel_rfl, by kernel_rfl, by kernel_rfl, True.intro, underlying128⟩
def ty129 : Ty := ⟨.sl 3, 1, 24, .s (.snil)⟩
theorem tyOK129 : TyOK prog 129 ty129 := ⟨by kernel_rfl, by kernel_rfl, by kernel_rfl, True.intro, underlying129⟩
def ty130 : Ty := ⟨.iface, 1, 16, .s (.inil)⟩
theorem tyOK130 : TyOK prog 130 ty130 := ⟨by kernel_rfl, by kernel_rfl, by kernel_rfl, True.intro, ⟨_, underlying130⟩⟩
def ty131 : Ty := ⟨.iface, 1, 16, .s (.inil)⟩
theorem tyOK131 : TyOK prog 131 ty131 := ⟨by kernel_rfl, by kernel_rfl, by kernel_rfl, True.intro, ⟨_, underlying131⟩⟩
def ty132 : Ty := ⟨.struct [(0, 131), (1, 22)], 2, 40, .st [⟨1, .s (.inil)⟩, ⟨1, .s (.snil)⟩]⟩
theorem tyOK132 : TyOK prog 132 ty132 := ⟨by kernel_rfl, by kernel_rfl, by kernel_rfl, ⟨rfl, rfl, True.intro⟩, ⟨_, underlying132, rfl, by kernel_rfl⟩⟩
def ty133 : Ty := ⟨.struct [(0, 131), (1, 22)], 2, 40, .st [⟨1, .s (.inil)⟩, ⟨1, .s (.snil)⟩]⟩
theorem tyOK133 : TyOK prog 133 ty133 := ⟨by kernel_rfl, by kernel_rfl, by kernel_rfl, ⟨rfl, rfl, True.intro⟩, ⟨_, underlying133, rfl, by kernel_rfl⟩⟩
def ty134 : Ty := ⟨.sl 5, 1, 24, .s (.snil)⟩
theorem tyOK134 : TyOK prog 134 ty134 := ⟨by kernel_rfl, by kernel_rfl, by kernel_rfl, True.intro, underlying134⟩
def ty135 : Ty := ⟨.struct [(0, 25)], 1, 8, .st [⟨1, .s (.nil)⟩]⟩
theorem tyOK135 : TyOK prog 135 ty135 := ⟨by kernel_rfl, by kernel_rfl, by kernel_rfl, ⟨rfl, True.intro⟩, ⟨_, underlying135, rfl, by kernel_rfl⟩⟩
def ty136 : Ty := ⟨.struct [(0, 25)], 1, 8, .st [⟨1, .s (.nil)⟩]⟩
theorem tyOK136 : TyOK prog 136 ty136 := ⟨by kernel_rfl, by kernel_rfl, by kernel_rfl, ⟨rfl, True.intro⟩, ⟨_, underlying136, rfl, by kernel_rfl⟩⟩
def ty137 : Ty := ⟨.func, 1, 8, .s (.raw .nilFunc)⟩
theorem tyOK137 : TyOK prog 137 ty137 := ⟨by kernel_rfl, by kernel_rfl, by kernel_rfl, True.intro, ⟨_, _, _, underlying137⟩⟩
def ty138 : Ty := ⟨.func, 1, 8, .s (.raw .nilFunc)⟩
theorem tyOK138 : TyOK prog 138 ty138 := ⟨by kernel_rfl, by kernel_rfl, by kernel_rfl, True.intro, ⟨_, _, _, underlying138⟩⟩
def ty139 : Ty := ⟨.func, 1, 8, .s (.raw .nilFunc)⟩
theorem tyOK139 : TyOK prog 139 ty139 := ⟨by kernel_rfl, by kernel_rfl, by kernel_rfl, True.intro, ⟨_, _, _, underlying139⟩⟩
def ty140 : Ty := ⟨.func, 1, 8, .s (.raw .nilFunc)⟩
theorem tyOK140 : TyOK prog 140 ty140 := ⟨by kernel_rfl, by kernel_rfl, by kernel_rfl, True.intro, ⟨_, _, _, underlying140⟩⟩
def ty141 : Ty := ⟨.func, 1, 8, .s (.raw .nilFunc)⟩
theorem tyOK141 : TyOK prog 141 ty141 := ⟨by kernel_rfl, by kernel_rfl, by kernel_rfl, True.intro, ⟨_, _, _, underlying141⟩⟩
def ty142 : Ty := ⟨.func, 1, 8, .s (.raw .nilFunc)⟩
theorem tyOK142 : TyOK prog 142 ty142 := ⟨by kernel_rfl, by kernel_rfl, by kernel_rfl, True.intro, ⟨_, _, _, underlying142⟩⟩
def ty143 : Ty := ⟨.func, 1, 8, .s (.raw .nilFunc)⟩
theorem tyOK143 : TyOK prog 143 ty143 := ⟨by kernel_rfl, by kernel_rfl, by kernel_rfl, True.intro, ⟨_, _, _, underlying143⟩⟩
def ty144 : Ty := ⟨.func, 1, 8, .s (.raw .nilFunc)⟩
theorem tyOK144 : TyOK prog 144 ty144 := ⟨by kernel_rfl, by kernel_rfl, by kernel_rfl, True.intro, ⟨_, _, _, underlying144⟩⟩
def ty146 : Ty := ⟨.func, 1, 8, .s (.raw .nilFunc)⟩
theorem tyOK146 : TyOK prog 146 ty146 := ⟨by kernel_rfl, by kernel_rfl, by kernel_rfl, True.intro, ⟨_, _, _, underlying146⟩⟩
def ty147 : Ty := ⟨.arr 255 4, 255, 255, .ab (List.replicate 255 false)⟩
theorem tyOK147 : TyOK prog 147 ty147 := ⟨by kernel_rfl, by kernel_rfl, by kernel_rfl, True.intro, underlying147⟩
def ty148 : Ty := ⟨.sl 4, 1, 24, .s (.snil)⟩
theorem tyOK148 : TyOK prog 148 ty148 := ⟨by kernel_rfl, by kernel_rfl, by kernel_rfl, True.intro, underlying148⟩
def ty149 : Ty := ⟨.func, 1, 8, .s (.raw .nilFunc)⟩
theorem tyOK149 : TyOK prog 149 ty149 := ⟨by kernel_rfl, by kernel_rfl, by kernel_rfl, True.intro, ⟨_, _, _, underlying149⟩⟩
def ty150 : Ty := ⟨.func, 1, 8, .s (.raw .nilFunc)⟩
theorem tyOK150 : TyOK prog 150 ty150 := ⟨by kernel_rfl, by kernel_rfl, by kernel_rfl, True.intro, ⟨_, _, _, underlying150⟩⟩
def ty151 : Ty := ⟨.func, 1, 8, .s (.raw .nilFunc)⟩
theorem tyOK151 : TyOK prog 151 ty151 := ⟨by kernel_rfl, by kernel_rfl, by kernel_rfl, True.intro, ⟨_, _, _, underlying151⟩⟩
def ty152 : Ty := ⟨.ptr 71, 1, 8, .s (.nil)⟩
theorem tyOK152 : TyOK prog 152 ty152 := ⟨by kernel_rfl, by kernel_rfl, by kernel_rfl, True.intro, underlying152⟩
def ty153 : Ty := ⟨.func, 1, 8, .s (.raw .nilFunc)⟩
theorem tyOK153 : TyOK prog 153 ty153 := ⟨by kernel_rfl, by kernel_rfl, by kernel_rfl, True.intro, ⟨_, _, _, underlying153⟩⟩
def ty154 : Ty := ⟨.ptr 45, 1, 8, .s (.nil)⟩
theorem tyOK154 : TyOK prog 154 ty154 := ⟨by kernel_rfl, by kernel_rfl, by kernel_rfl, True.intro, underlying154⟩
def ty155 : Ty := ⟨.func, 1, 8, .s (.raw .nilFunc)⟩
theorem tyOK155 : TyOK prog 155 ty155 := ⟨by kernel_rfl, by kernel_rfl, by kernel_rfl, True.intro, ⟨_, _, _, underlying155⟩⟩
def ty156 : Ty := ⟨.func, 1, 8, .s (.raw .nilFunc)⟩
theorem tyOK156 : TyOK prog 156 ty156 := ⟨by kernel_rfl, by kernel_rfl, by kernel_rfl, True.intro, ⟨_, _, _, underlying156⟩⟩
def ty157 : Ty := ⟨.arr 4 45, 4, 32, .a64 [0, 0, 0, 0]⟩
theorem tyOK157 : TyOK prog 157 ty157 := ⟨by kernel_rfl, by kernel_rfl, by kernel_rfl, True.intro, underlying157⟩
def ty158 : Ty := ⟨.arr 4 45, 4, 32, .a64 [0, 0, 0, 0]⟩
theorem tyOK158 : TyOK prog 158 ty158 := ⟨by kernel_rfl, by kernel_rfl, by kernel_rfl, True.intro, underlying158⟩
def ty159 : Ty := ⟨.func, 1, 8, .s (.raw .nilFunc)⟩
theorem tyOK159 : TyOK prog 159 ty159 := ⟨by kernel_rfl, by kernel_rfl, by kernel_rfl, True.intro, ⟨_, _, _, underlying159⟩⟩
def ty160 : Ty := ⟨.func, 1, 8, .s (.raw .nilFunc)⟩
theorem tyOK160 : TyOK prog 160 ty160 := ⟨by kernel_rfl, by kernel_rfl, by kernel_rfl, True.intro, ⟨_, _, _, underlying160⟩⟩
def ty161 : Ty := ⟨.arr 16 45, 16, 128, .a64 [0, 0, 0, 0, 0, 0, 0, 0, 0, 0, 0, 0, 0, 0, 0, 0]⟩
theorem tyOK161 : TyOK prog 161 ty161 := ⟨by kernel_rfl, by kernel_rfl, by kernel_rfl, True.intro, underlying161⟩
def ty162 : Ty := ⟨.func, 1, 8, .s (.raw .nilFunc)⟩
theorem tyOK162 : TyOK prog 162 ty162 := ⟨by kernel_rfl, by kernel_rfl, by kernel_rfl, True.intro, ⟨_, _, _, underlying162⟩⟩
def ty163 : Ty := ⟨.func, 1, 8, .s (.raw .nilFunc)⟩
theorem tyOK163 : TyOK prog 163 ty163 := ⟨by kernel_rfl, by kernel_rfl, by kernel_rfl, True.intro, ⟨_, _, _, underlying163⟩⟩
def ty164 : Ty := ⟨.arr 9 45, 9, 72, .a64 [0, 0, 0, 0, 0, 0, 0, 0, 0]⟩
theorem tyOK164 : TyOK prog 164 ty164 := ⟨by kernel_rfl, by kernel_rfl, by kernel_rfl, True.intro, underlying164⟩
def ty166 : Ty := ⟨.func, 1, 8, .s (.raw .nilFunc)⟩
theorem tyOK166 : TyOK prog 166 ty166 := ⟨by kernel_rfl, by kernel_rfl, by kernel_rfl, True.intro, ⟨_, _, _, underlying166⟩⟩
def ty167 : Ty := ⟨.func, 1, 8, .s (.raw .nilFunc)⟩
theorem tyOK167 : TyOK prog 167 ty167 := ⟨by kernel_rfl, by kernel_rfl, by kernel_rfl, True.intro, ⟨_, _, _, underlying167⟩⟩
def ty168 : Ty := ⟨.func, 1, 8, .s (.raw .nilFunc)⟩
theorem tyOK168 : TyOK prog 168 ty168 := ⟨by kernel_rfl, by kernel_rfl, by kernel_rfl, True.intro, ⟨_, _, _, underlying168⟩⟩
def ty169 : Ty := ⟨.func, 1, 8, .s (.raw .nilFunc)⟩
theorem tyOK169 : TyOK prog 169 ty169 := ⟨by kernel_rfl, by kernel_rfl, by kernel_rfl, True.intro, ⟨_, _, _, underlying169⟩⟩
def ty170 : Ty := ⟨.func, 1, 8, .s (.raw .nilFunc)⟩
theorem tyOK170 : TyOK prog 170 ty170 := ⟨by kernel_rfl, by kernel_rfl, by kernel_rfl, True.intro, ⟨_, _, _, underlying170⟩⟩
def tab : Tab
  | 1 => some ty1
  | 2 => some ty2
  | 3 => some ty3
  | 4 => some ty4
  | 5 => some ty5
  | 6 => some ty6
  | 7 => some ty7
  | 8 => some ty8
  | 9 => some ty9
  | 10 => some ty10
  | 11 => some ty11
  | 12 => some ty12
  | 13 => some ty13
  | 14 => some ty14
  | 15 => some ty15
  | 16 => some ty16
  | 17 => some ty17
  | 18 => some ty18
  | 19 => some ty19
  | 20 => some ty20
  | 22 => some ty22
  | 23 => some ty23
  | 24 => some ty24
  | 25 => some ty25
  | 26 => some ty26
  | 28 => some ty28
  | 29 => some ty29
  | 30 => some ty30
  | 31 => some ty31
  | 32 => some ty32
  | 33 => some ty33
  | 34 => some ty34
  | 35 => some ty35
  | 36 => some ty36
  | 37 => some ty37
  | 38 => some ty38
  | 40 => some ty40
  | 41 => some ty41
  | 42 => some ty42
  | 43 => some ty43
  | 44 => some ty44
  | 45 => some ty45
  | 46 => some ty46
  | 47 => some ty47
  | 48 => some ty48
  | 50 => some ty50
  | 51 => some ty51
  | 52 => some ty52
  | 53 => some ty53
  | 54 => some ty54
  | 55 => some ty55
  | 56 => some ty56
  | 57 => some ty57
  | 58 => some ty58
  | 59 => some ty59
  | 60 => some ty60
  | 61 => some ty61
  | 63 => some ty63
  | 64 => some ty64
  | 65 => some ty65
  | 66 => some ty66
  | 77 => some ty77
  | 78 => some ty78
  | 79 => some ty79
  | 80 => some ty80
  | 81 => some ty81
  | 82 => some ty82
  | 83 => some ty83
  | 85 => some ty85
  | 86 => some ty86
  | 87 => some ty87
  | 88 => some ty88
  | 89 => some ty89
  | 90 => some ty90
  | 91 => some ty91
  | 94 => some ty94
  | 96 => some ty96
  | 97 => some ty97
  | 98 => some ty98
  | 99 => some ty99
  | 100 => some ty100
  | 101 => some ty101
  | 102 => some ty102
  | 103 => some ty103
  | 104 => some ty104
  | 105 => some ty105
  | 106 => some ty106
  | 107 => some ty107
  | 108 => some ty108
  | 109 => some ty109
  | 110 => some ty110
  | 111 => some ty111
  | 112 => some ty112
  | 113 => some ty113
  | 114 => some ty114
  | 115 => some ty115
  | 116 => some ty116
  | 117 => some ty117
  | 118 => some ty118
  | 119 => some ty119
  | 120 => some ty120
  | 121 => some ty121
  | 122 => some ty122
  | 123 => some ty123
  | 124 => some ty124
  | 125 => some ty125
  | 126 => some ty126
  | 127 => some ty127
  | 128 => some ty128
  | 129 => some ty129
  | 130 => some ty130
  | 131 => some ty131
  | 132 => some ty132
  | 133 => some ty133
  | 134 => some ty134
  | 135 => some ty135
  | 136 => some ty136
  | 137 => some ty137
  | 138 => some ty138
  | 139 => some ty139
  | 140 => some ty140
  | 141 => some ty141
  | 142 => some ty142
  | 143 => some ty143
  | 144 => some ty144
  | 146 => some ty146
  | 147 => some ty147
  | 148 => some ty148
  | 149 => some ty149
  | 150 => some ty150
  | 151 => some ty151
  | 152 => some ty152
  | 153 => some ty153
  | 154 => some ty154
  | 155 => some ty155
  | 156 => some ty156
  | 157 => some ty157
  | 158 => some ty158
  | 159 => some ty159
  | 160 => some ty160
  | 161 => some ty161
  | 162 => some ty162
  | 163 => some ty163
  | 164 => some ty164
  | 166 => some ty166
  | 167 => some ty167
  | 168 => some ty168
  | 169 => some ty169
  | 170 => some ty170
  | _ => none
@[simp] theorem tab1 : tab 1 = some ty1 := rfl
@[simp] theorem tab2 : tab 2 = some ty2 := rfl
@[simp] theorem tab3 : tab 3 = some ty3 := rfl
@[simp] theorem tab4 : tab 4 = some ty4 := rfl
@[simp] theorem tab5 : tab 5 = some ty5 := rfl
@[simp] theorem tab6 : tab 6 = some ty6 := rfl
@[simp] theorem tab7 : tab 7 = some ty7 := rfl
@[simp] theorem tab8 : tab 8 = some ty8 := rfl
@[simp] theorem tab9 : tab 9 = some ty9 := rfl
@[simp] theorem tab10 : tab 10 = some ty10 := rfl
@[simp] theorem tab11 : tab 11 = some ty11 := rfl
@[simp] theorem tab12 : tab 12 = some ty12 := rfl
@[simp] theorem tab13 : tab 13 = some ty13 := rfl
@[simp] theorem tab14 : tab 14 = some ty14 := rfl
@[simp] theorem tab15 : tab 15 = some ty15 := rfl
@[simp] theorem tab16 : tab 16 = some ty16 := rfl
@[simp] theorem tab17 : tab 17 = some ty17 := rfl
@[simp] theorem tab18 : tab 18 = some ty18 := rfl
@[simp] theorem tab19 : tab 19 = some ty19 := rfl
@[simp] theorem tab20 : tab 20 = some ty20 := rfl
@[simp] theorem tab22 : tab 22 = some ty22 := rfl
@[simp] theorem tab23 : tab 23 = some ty23 := rfl
@[simp] theorem tab24 : tab 24 = some ty24 := rfl
@[simp] theorem tab25 : tab 25 = some ty25 := rfl
@[simp] theorem tab26 : tab 26 = some ty26 := rfl
@[simp] theorem tab28 : tab 28 = some ty28 := rfl
@[simp] theorem tab29 : tab 29 = some ty29 := rfl
@[simp] theorem tab30 : tab 30 = some ty30 := rfl
@[simp] theorem tab31 : tab 31 = some ty31 := rfl
@[simp] theorem tab32 : tab 32 = some ty32 := rfl
@[simp] theorem tab33 : tab 33 = some ty33 := rfl
@[simp] theorem tab34 : tab 34 = some ty34 := rfl
@[simp] theorem tab35 : tab 35 = some ty35 := rfl
@[simp] theorem tab36 : tab 36 = some ty36 := rfl
@[simp] theorem tab37 : tab 37 = some ty37 := rfl
@[simp] theorem tab38 : tab 38 = some ty38 := rfl
@[simp] theorem tab40 : tab 40 = some ty40 := rfl
@[simp] theorem tab41 : tab 41 = some ty41 := rfl
@[simp] theorem tab42 : tab 42 = some ty42 := rfl
@[simp] theorem tab43 : tab 43 = some ty43 := rfl
@[simp] theorem tab44 : tab 44 = some ty44 := rfl
@[simp] theorem tab45 : tab 45 = some ty45 := rfl
@[simp] theorem tab46 : tab 46 = some ty46 := rfl
@[simp] theorem tab47 : tab 47 = some ty47 := rfl
@[simp] theorem tab48 : tab 48 = some ty48 := rfl
@[simp] theorem tab50 : tab 50 = some ty50 := rfl
@[simp] theorem tab51 : tab 51 = some ty51 := rfl
@[simp] theorem tab52 : tab 52 = some ty52 := rfl
@[simp] theorem tab53 : tab 53 = some ty53 := rfl
@[simp] theorem tab54 : tab 54 = some ty54 := rfl
@[simp] theorem tab55 : tab 55 = some ty55 := rfl
@[simp] theorem tab56 : tab 56 = some ty56 := rfl
@[simp] theorem tab57 : tab 57 = some ty57 := rfl
@[simp] theorem tab58 : tab 58 = some ty58 := rfl
@[simp] theorem tab59 : tab 59 = some ty59 := rfl
@[simp] theorem tab60 : tab 60 = some ty60 := rfl
@[simp] theorem tab61 : tab 61 = some ty61 := rfl
@[simp] theorem tab63 : tab 63 = some ty63 := rfl
@[simp] theorem tab64 : tab 64 = some ty64 := rfl
@[simp] theorem tab65 : tab 65 = some ty65 := rfl
@[simp] theorem tab66 : tab 66 = some ty66 := rfl
@[simp] theorem tab77 : tab 77 = some ty77 := rfl
@[simp] theorem tab78 : tab 78 = some ty78 := rfl
@[simp] theorem tab79 : tab 79 = some ty79 := rfl
@[simp] theorem tab80 : tab 80 = some ty80 := rfl
@[simp] theorem tab81 : tab 81 = some ty81 := rfl
@[simp] theorem tab82 : tab 82 = some ty82 := rfl
@[simp] theorem tab83 : tab 83 = some ty83 := rfl
@[simp] theorem tab85 : tab 85 = some ty85 := rfl
@[simp] theorem tab86 : tab 86 = some ty86 := rfl
@[simp] theorem tab87 : tab 87 = some ty87 := rfl
@[simp] theorem tab88 : tab 88 = some ty88 := rfl
@[simp] theorem tab89 : tab 89 = some ty89 := rfl
@[simp] theorem tab90 : tab 90 = some ty90 := rfl
@[simp] theorem tab91 : tab 91 = some ty91 := rfl
@[simp] theorem tab94 : tab 94 = some ty94 := rfl
@[simp] theorem tab96 : tab 96 = some ty96 := rfl
@[simp] theorem tab97 : tab 97 = some ty97 := rfl
@[simp] theorem tab98 : tab 98 = some ty98 := rfl
@[simp] theorem tab99 : tab 99 = some ty99 := rfl
@[simp] theorem tab100 : tab 100 = some ty100 := rfl
@[simp] theorem tab101 : tab 101 = some ty101 := rfl
@[simp] theorem tab102 : tab 102 = some ty102 := rfl
@[simp] theorem tab103 : tab 103 = some ty103 := rfl
@[simp] theorem tab104 : tab 104 = some ty104 := rfl
@[simp] theorem tab105 : tab 105 = some ty105 := rfl
@[simp] theorem tab106 : tab 106 = some ty106 := rfl
@[simp] theorem tab107 : tab 107 = some ty107 := rfl
@[simp] theorem tab108 : tab 108 = some ty108 := rfl
@[simp] theorem tab109 : tab 109 = some ty109 := rfl
@[simp] theorem tab110 : tab 110 = some ty110 := rfl
@[simp] theorem tab111 : tab 111 = some ty111 := rfl
@[simp] theorem tab112 : tab 112 = some ty112 := rfl
@[simp] theorem tab113 : tab 113 = some ty113 := rfl
@[simp] theorem tab114 : tab 114 = some ty114 := rfl
@[simp] theorem tab115 : tab 115 = some ty115 := rfl
@[simp] theorem tab116 : tab 116 = some ty116 := rfl
@[simp] theorem tab117 : tab 117 = some ty117 := rfl
@[simp] theorem tab118 : tab 118 = some ty118 := rfl
@[simp] theorem tab119 : tab 119 = some ty119 := rfl
@[simp] theorem tab120 : tab 120 = some ty120 := rfl
@[simp] theorem tab121 : tab 121 = some ty121 := rfl
@[simp] theorem tab122 : tab 122 = some ty122 := rfl
@[simp] theorem tab123 : tab 123 = some ty123 := rfl
@[simp] theorem tab124 : tab 124 = some ty124 := rfl
@[simp] theorem tab125 : tab 125 = some ty125 := rfl
@[simp] theorem tab126 : tab 126 = some ty126 := rfl
@[simp] theorem tab127 : tab 127 = some ty127 := rfl
@[simp] theorem tab128 : tab 128 = some ty128 := rfl
@[simp] theorem tab129 : tab 129 = some ty129 := rfl
@[simp] theorem tab130 : tab 130 = some ty130 := rfl
@[simp] theorem tab131 : tab 131 = some ty131 := rfl
@[simp] theorem tab132 : tab 132 = some ty132 := rfl
@[simp] theorem tab133 : tab 133 = some ty133 := rfl
@[simp] theorem tab134 : tab 134 = some ty134 := rfl
@[simp] theorem tab135 : tab 135 = some ty135 := rfl
@[simp] theorem tab136 : tab 136 = some ty136 := rfl
@[simp] theorem tab137 : tab 137 = some ty137 := rfl
@[simp] theorem tab138 : tab 138 = some ty138 := rfl
@[simp] theorem tab139 : tab 139 = some ty139 := rfl
@[simp] theorem tab140 : tab 140 = some ty140 := rfl
@[simp] theorem tab141 : tab 141 = some ty141 := rfl
@[simp] theorem tab142 : tab 142 = some ty142 := rfl
@[simp] theorem tab143 : tab 143 = some ty143 := rfl
@[simp] theorem tab144 : tab 144 = some ty144 := rfl
@[simp] theorem tab146 : tab 146 = some ty146 := rfl
@[simp] theorem tab147 : tab 147 = some ty147 := rfl
@[simp] theorem tab148 : tab 148 = some ty148 := rfl
@[simp] theorem tab149 : tab 149 = some ty149 := rfl
@[simp] theorem tab150 : tab 150 = some ty150 := rfl
@[simp] theorem tab151 : tab 151 = some ty151 := rfl
@[simp] theorem tab152 : tab 152 = some ty152 := rfl
@[simp] theorem tab153 : tab 153 = some ty153 := rfl
@[simp] theorem tab154 : tab 154 = some ty154 := rfl
@[simp] theorem tab155 : tab 155 = some ty155 := rfl
@[simp] theorem tab156 : tab 156 = some ty156 := rfl
@[simp] theorem tab157 : tab 157 = some ty157 := rfl
@[simp] theorem tab158 : tab 158 = some ty158 := rfl
@[simp] theorem tab159 : tab 159 = some ty159 := rfl
@[simp] theorem tab160 : tab 160 = some ty160 := rfl
@[simp] theorem tab161 : tab 161 = some ty161 := rfl
@[simp] theorem tab162 : tab 162 = some ty162 := rfl
@[simp] theorem tab163 : tab 163 = some ty163 := rfl
@[simp] theorem tab164 : tab 164 = some ty164 := rfl
@[simp] theorem tab166 : tab 166 = some ty166 := rfl
@[simp] theorem tab167 : tab 167 = some ty167 := rfl
@[simp] theorem tab168 : tab 168 = some ty168 := rfl
@[simp] theorem tab169 : tab 169 = some ty169 := rfl
@[simp] theorem tab170 : tab 170 = some ty170 := rfl
theorem tabOK : TabOK prog tab := by
  intro t ty h
  unfold tab at h
  split at h
  all_goals first | (cases h; done) | (obtain rfl := Option.some.inj h; first | exact tyOK1 | exact tyOK2 | exact tyOK3 | exact tyOK4 | exact tyOK5 | exact tyOK6 | exact tyOK7 | exact tyOK8 | exact tyOK9 | exact tyOK10 | exact tyOK11 | exact tyOK12 | exact tyOK13 | exact tyOK14 | exact tyOK15 | exact tyOK16 | exact tyOK17 | exact tyOK18 | exact tyOK19 | exact tyOK20 | exact tyOK22 | exact tyOK23 | exact tyOK24 | exact tyOK25 | exact tyOK26 | exact tyOK28 | exact tyOK29 | exact tyOK30 | exact tyOK31 | exact tyOK32 | exact tyOK33 | exact tyOK34 | exact tyOK35 | exact tyOK36 | exact tyOK37 | exact tyOK38 | exact tyOK40 | exact tyOK41 | exact tyOK42 | exact tyOK43 | exact tyOK44 | exact tyOK45 | exact tyOK46 | exact tyOK47 | exact tyOK48 | exact tyOK50 | exact tyOK51 | exact tyOK52 | exact tyOK53 | exact tyOK54 | exact tyOK55 | exact tyOK56 | exact tyOK57 | exact tyOK58 | exact tyOK59 | exact tyOK60 | exact tyOK61 | exact tyOK63 | exact tyOK64 | exact tyOK65 | exact tyOK66 | exact tyOK77 | exact tyOK78 | exact tyOK79 | exact tyOK80 | exact tyOK81 | exact tyOK82 | exact tyOK83 | exact tyOK85 | exact tyOK86 | exact tyOK87 | exact tyOK88 | exact tyOK89 | exact tyOK90 | exact tyOK91 | exact tyOK94 | exact tyOK96 | exact tyOK97 | exact tyOK98 | exact tyOK99 | exact tyOK100 | exact tyOK101 | exact tyOK102 | exact tyOK103 | exact tyOK104 | exact tyOK105 | exact tyOK106 | exact tyOK107 | exact tyOK108 | exact tyOK109 | exact tyOK110 | exact tyOK111 | exact tyOK112 | exact tyOK113 | exact tyOK114 | exact tyOK115 | exact tyOK116 | exact tyOK117 | exact tyOK118 | exact tyOK119 | exact tyOK120 | exact tyOK121 | exact tyOK122 | exact tyOK123 | exact tyOK124 | exact tyOK125 | exact tyOK126 | exact tyOK127 | exact tyOK128 | exact tyOK129 | exact tyOK130 | exact tyOK131 | exact tyOK132 | exact tyOK133 | exact tyOK134 | exact tyOK135 | exact tyOK136 | exact tyOK137 | exact tyOK138 | exact tyOK139 | exact tyOK140 | exact tyOK141 | exact tyOK142 | exact tyOK143 | exact tyOK144 | exact tyOK146 | exact tyOK147 | exact tyOK148 | exact tyOK149 | exact tyOK150 | exact tyOK151 | exact tyOK152 | exact tyOK153 | exact tyOK154 | exact tyOK155 | exact tyOK156 | exact tyOK157 | exact tyOK158 | exact tyOK159 | exact tyOK160 | exact tyOK161 | exact tyOK162 | exact tyOK163 | exact tyOK164 | exact tyOK166 | exact tyOK167 | exact tyOK168 | exact tyOK169 | exact tyOK170)
theorem mixed : prog.follows .mixedOrders = true := by kernel_rfl
end Go.V
end
section
set_option linter.unusedSimpArgs false
set_option linter.unusedVariables false
namespace Go.V
open Go

def appB (l : List Oper) (n : Nat) : Bool :=
  decide (0 < n ∧ n + 1 < l.length) && Region.chainB .any l.toArray n && Region.seqB .any l.toArray (l.length - n) n (firstN n (l.length - n)) && headB l n &&
  ((List.range n).all fun i => i == 0 || (List.range (n + 1)).any fun j => decide (i < j) && Region.waitsFor .any l.toArray j i) && Region.waitsFor .any l.toArray (n + 1) 0 &&
  (match l[0]?, l[n]? with
  | some o0, some on => (match o0.op with | .move _ => true | _ => false) && o0.guard.isNone && on.guard.isNone && Oper.apart l.toArray o0 on && (match on.op with | .call _ => true | _ => false)
  | _, _ => false)
theorem semK_panic {P : Program} {E : Env} {N : Nat} {Q0 : Exit → Act → World → Prop} {c : List PanicEntry} : ∀ (k : List Item) (a : Act) (w : World), semK P E N Q0 k (.panic c) a w = Q0 (.panic c) a w
  | [], a, w => rfl
  | .code _ :: k, a, w => semK_panic k a w
  | .ops _ _ :: k, a, w => semK_panic k a w
  | .blk _ :: k, a, w => semK_panic k a w
  | .back _ :: k, a, w => semK_panic k a w
theorem wp_late {P : Program} {o : Oper} {a : Act} {w : World} {d0 : Option Tmp} {v0 : Value} (hx : execOp (a.put d0 v0).eval o = execOp a.eval o) (hne : ∀ d, d0 = some d → o.dst ≠ some d) {next : Act → World → Prop} {Q : Exit → Act → World → Prop}
    (hpan : ∀ c a w, ¬ Q (.panic c) a w) (h : o.wp P (a.put d0 v0) w next Q) : o.wp P a w (fun a' w' => (∃ u, a'.tmps = (a.put o.dst u).tmps) ∧ next (a'.put d0 v0) w') Q := by
  unfold Oper.wp at *
  rw [hx] at h
  generalize (execOp a.eval o).run P w = r at *
  cases r with
  | ok n w' =>
    cases n <;> simp only [Oper.upon] at h ⊢
    case value u => exact ⟨⟨u, rfl⟩, by rw [← Act.put_comm a v0 u hne]; exact h⟩
    case skip => exact ⟨⟨undef, rfl⟩, by rw [← Act.put_comm a v0 undef hne]; exact h⟩
    case enter f args =>
      refine Calls.mono h ?_
      intro e w'' he
      cases e with
      | returned v => exact ⟨⟨v, rfl⟩, by rw [← Act.put_comm a v0 v hne]; exact he⟩
      | panicked c => exact absurd he (hpan _ _ _)
      | outgrown => exact he
    case row r args => exact Rows.mono h (fun v w'' he => ⟨⟨v, rfl⟩, by rw [← Act.put_comm a v0 v hne]; exact he⟩)
    case defer d =>
      refine ⟨⟨undef, ?_⟩, ?_⟩
      · cases o.dst <;> rfl
      · rw [← Act.put_comm _ v0 undef hne]
        cases d0 <;> exact h
  | halt x w' => cases x <;> simp only [Oper.upon] at h ⊢ <;> first | exact h | exact absurd h (hpan _ _ _)
theorem late_waits {ops : Array Oper} {n : Nat} {listed : Array Bool} (hs : ∀ i, 0 < i → i < n → ∃ j, i < j ∧ j ≤ n ∧ Region.waitsFor .any ops j i = true) (hc : Region.chainB .any ops n = true) (hn : n < ops.size) (inv : HeadInv .any ops n listed) :
    ∀ (d i : Nat), n - i = d → 0 < i → i < n → listed.getD i true = false → ∀ t, n ≤ t → t ∉ Region.ready .any ops listed := by
  intro d
  induction d using Nat.strongRecOn with
  | _ d ih =>
    intro i hd hi0 hi hun t ht hr
    obtain ⟨_, ot, hot, hall⟩ := mem_ready.1 hr
    have htlt : t < ops.size := (Array.getElem?_eq_some_iff.1 hot).1
    by_cases htn : t = n
    · subst htn
      obtain ⟨j, hij, hjn, hw⟩ := hs i hi0 hi
      obtain ⟨oj, hoj, e, he, hb, hon⟩ := Region.waitsFor_spec hw
      by_cases hjt : j = t
      · subst hjt
        obtain rfl : ot = oj := Option.some.inj (hot.symm.trans hoj)
        have h2 := hall e he hb
        rw [hon, getD_both hun] at h2
        cases h2
      · have hl : listed.getD j false = false := by
          cases hl : listed.getD j false with
          | false => rfl
          | true =>
            have h2 := inv.closed j oj hoj hl e he hb
            rw [hon, getD_both hun] at h2
            cases h2
        have hjs : j < listed.size := by rw [inv.size]; exact (Array.getElem?_eq_some_iff.1 hoj).1
        exact ih (t - j) (by omega) j rfl (by omega) (by omega) (getD_in hjs hl) t (Nat.le_refl _) hr
    · have h1 := List.all_eq_true.1 hc t (List.mem_range.2 htlt)
      simp only [Bool.or_eq_true, decide_eq_true_eq] at h1
      rcases h1 with h1 | h1
      · omega
      · obtain ⟨o', ho', e, he, hb, hon⟩ := Region.waitsFor_spec h1
        obtain rfl : o' = ot := Option.some.inj (ho'.symm.trans hot)
        have h2 := hall e he hb
        rw [hon, getD_both (inv.tail (t - 1) (by omega) (by omega))] at h2
        cases h2
section
variable {P : Program} {E : Env} {N : Nat} {l : List Oper}
theorem ok_draw_app {T : Tab} {pu : Pure} (hT : TabOK P T) (hpu : PureOK P pu) (hmono : PureMono pu) (hmix : P.follows .mixedOrders = true) {Q0 : Exit → Act → World → Prop} {id n : Nat} {k : List Item} {st : St} (hpan : ∀ c a w, ¬ Q0 (.panic c) a w) (hB : appB l n = true)
    (h : hdRun T pu st.m l N (l.take n) st.sl [] (fun sl al => Ok P E N Q0 (.ops l (l.drop n) :: k) ⟨sl, st.m ++ al.map .ent⟩)) : Ok P E N Q0 (.code (.region id l.toArray true) :: k) st := by
  simp only [appB, Bool.and_eq_true, decide_eq_true_eq] at hB
  obtain ⟨⟨⟨⟨⟨⟨⟨hn0, hn1⟩, hc⟩, hseq⟩, hhead⟩, hsn⟩, hw10⟩, hlate⟩ := hB
  have hn : n < l.length := by omega
  have hs : ∀ i, 0 < i → i < n → ∃ j, i < j ∧ j ≤ n ∧ Region.waitsFor .any l.toArray j i = true := by
    intro i hi0 hi
    have h1 := List.all_eq_true.1 hsn i (List.mem_range.2 hi)
    simp only [Bool.or_eq_true, beq_iff_eq] at h1
    rcases h1 with h1 | h1
    · omega
    · obtain ⟨j, hj, hj2⟩ := List.any_eq_true.1 h1
      simp only [Bool.and_eq_true, decide_eq_true_eq] at hj2
      have := List.mem_range.1 hj
      exact ⟨j, hj2.1, by omega, hj2.2⟩
  obtain ⟨o0, on, x0, hl0, hln, hop0, hg0, hgn, hap, hcn⟩ : ∃ o0 on x0, l[0]? = some o0 ∧ l[n]? = some on ∧ o0.op = .move x0 ∧ o0.guard = none ∧ on.guard = none ∧ Oper.apart l.toArray o0 on = true ∧ ∃ c, on.op = .call c := by
    split at hlate
    · rename_i o0 on h0 h1
      simp only [Bool.and_eq_true, Option.isNone_iff_eq_none] at hlate
      obtain ⟨⟨⟨⟨a, b⟩, c⟩, d⟩, e⟩ := hlate
      cases ho : o0.op <;> rw [ho] at a <;> first | (cases a; done) | skip
      cases hq : on.op <;> rw [hq] at e <;> first | (cases e; done) | skip
      exact ⟨o0, on, _, h0, h1, ho, b, c, d, _, hq⟩
    · cases hlate
  obtain ⟨hap1, hap2, hap3⟩ := Oper.apart_spec hap
  obtain ⟨vs, htr, hfin⟩ := hdRun_trace _ _ _ _ h
  have hvl : vs.length = n := by rw [trace_len htr]; simp; omega
  simp only [List.nil_append] at hfin
  intro a0 w0 hh
  show (Code.region id l.toArray true).wp P (semK P E N Q0 k) a0 w0
  refine wp_region_any hmix ?_
  have mv : ∀ (K : Act → World → Prop) (a : Act) (w : World), wpOp P l.toArray (semK P E N Q0 k) 0 K a w → K (a.put o0.dst (a.eval x0)) w := by
    intro K a w h
    unfold wpOp at h
    simp only [show l.toArray[0]? = some o0 by simpa using hl0] at h
    rw [if_pos (by simp [Region.wanted, hg0])] at h
    rcases h with h | ⟨h, _⟩
    · unfold Oper.wp at h
      have : (execOp a.eval o0).run P w = .ok (.value (a.eval x0)) w := by simp [execOp, hop0]
      rw [this] at h
      exact h
    · exfalso
      unfold Oper.asks at h
      have := h.1
      have e : (execOp a.eval o0) = pure (Next.value (a.eval x0)) := by simp [execOp, hop0]
      rw [e] at this
      have this2 : noRoomEvent ∈ (#[] : Array Event) := this
      simp at this2
  have late : ∀ (listed : Array Bool) (a : Act) (w : World), HeadInv .any l.toArray n listed → ∀ f, cntF (Lof listed) n = f + 1 → ∀ i0, i0 < n → Lof listed i0 = false → listed.getD i0 true = false →
      (0 ∈ Region.ready .any l.toArray listed → wpAny P .any l.toArray (semK P E N Q0 k) (f + (l.length - n)) (listed.setIfInBounds 0 true) (a.put o0.dst (a.eval x0)) w) →
      ∀ i, i ∈ Region.ready .any l.toArray listed → n ≤ i → wpOp P l.toArray (semK P E N Q0 k) i (wpAny P .any l.toArray (semK P E N Q0 k) (f + (l.length - n)) (listed.setIfInBounds i true)) a w := by
    intro listed a w inv f hcnt i0 hi0 hL0 hun hmv i hi hin
    have hsz : listed.size = l.length := by simpa using inv.size
    have hothers : ∀ j, 0 < j → j < n → listed.getD j true = true := by
      intro j hj0 hj
      cases hx : listed.getD j true with
      | true => rfl
      | false => exact absurd hi (late_waits hs hc (by simpa using hn) inv _ j rfl hj0 hj hx i hin)
    have hz : i0 = 0 := by
      rcases Nat.eq_zero_or_pos i0 with h | h
      · exact h
      · rw [hothers i0 h hi0] at hun; cases hun
    subst hz
    have hLj : ∀ j, 0 < j → j < n → Lof listed j = true := by
      intro j hj0 hj
      have := hothers j hj0 hj
      simp only [Lof]
      have hjs : j < listed.size := by omega
      rw [Array.getD_eq_getD_getElem?, Array.getElem?_eq_getElem hjs] at this ⊢
      simpa using this
    obtain ⟨hiun, oi, hoi, hall⟩ := mem_ready.1 hi
    have hil : i < l.length := by have := (Array.getElem?_eq_some_iff.1 hoi).1; simpa using this
    have hi_n : i = n := by
      rcases Nat.lt_or_ge n i with hlt | hge
      · exfalso
        have h1 := List.all_eq_true.1 hc i (List.mem_range.2 (by simpa using hil))
        simp only [Bool.or_eq_true, decide_eq_true_eq] at h1
        rcases h1 with h1 | h1
        · omega
        · obtain ⟨o', ho', e, he, hb, hon⟩ := Region.waitsFor_spec h1
          obtain rfl : o' = oi := Option.some.inj (ho'.symm.trans hoi)
          have h2 := hall e he hb
          rw [hon, getD_both (inv.tail (i - 1) (by omega) (by simp; omega))] at h2
          cases h2
      · omega
    subst hi_n
    have hon : l.toArray[i]? = some on := by simpa using hln
    obtain rfl : on = oi := Option.some.inj (hon.symm.trans hoi)
    obtain ⟨oz, hoz⟩ := headB_ok hhead hn0
    obtain rfl : o0 = oz := Option.some.inj (hl0.symm.trans hoz.get)
    obtain ⟨d0, hd0⟩ := hoz.dst
    -- the state in which the move has been carried out ahead
    have hf0 : f = 0 := by
      have hLall : ∀ j, j < i → updB (Lof listed) 0 j = true := fun j hj => by
        simp only [updB]
        split
        · rfl
        · exact hLj j (by omega) hj
      have h1 := cntF_set hn0 hL0
      have h2 : ∀ (L : Nat → Bool) (m : Nat), (∀ j, j < m → L j = true) → cntF L m = 0 := by
        intro L m
        induction m with
        | zero => intro _; rfl
        | succ m ihm => intro h; simp only [cntF, ihm (fun j hj => h j (by omega)), h m (by omega)]; rfl
      rw [h2 _ _ hLall] at h1
      omega
    subst hf0
    have hready0 : 0 ∈ Region.ready .any l.toArray listed := by
      refine mem_ready.2 ⟨hun, o0, by simpa using hl0, fun e he hb => ?_⟩
      exact absurd (hoz.back e he hb) (by omega)
    have hpre := hmv hready0
    · -- out of the text's order
      have hseq0 := hseq
      rw [show l.length - i = (l.length - (i + 1)) + 1 by omega] at hseq0
      simp only [Region.seqB, Bool.and_eq_true, decide_eq_true_eq] at hseq0
      have hlist : (listed.setIfInBounds 0 true) = firstN i (l.length - (i + 1) + 1) := by
        have inv' := inv.set hready0 hn0
        have hsz' := inv'.size
        simp only [List.size_toArray] at hsz'
        refine Array.ext (by simp [firstN]; simp at hsz'; omega) (fun j hj hj2 => ?_)
        rcases Nat.lt_or_ge j i with hjn | hjn
        · have : Lof (listed.setIfInBounds 0 true) j = true := by
            rw [Lof_set (by omega)]
            simp only [updB]
            split
            · rfl
            · exact hLj j (by omega) hjn
          simp only [Lof] at this
          rw [Array.getD_eq_getD_getElem?, Array.getElem?_eq_getElem hj] at this
          simp only [Option.getD_some] at this
          rw [this]
          simp [firstN, List.getElem_append, hjn]
        · have := inv'.tail j hjn (by simp at hj ⊢; omega)
          rw [Array.getD_eq_getD_getElem?, Array.getElem?_eq_getElem hj] at this
          simp only [Option.getD_some] at this
          rw [this]
          simp [firstN, List.getElem_append, Nat.not_lt.2 hjn]
      rw [Nat.zero_add, show l.length - i = (l.length - (i + 1)) + 1 by omega] at hpre
      have hrd : Region.ready .any l.toArray (listed.setIfInBounds 0 true) = [i] := by rw [hlist]; exact hseq0.1
      have hop := hpre.2 i (by rw [hrd]; simp)
      unfold wpOp at hop ⊢
      simp only [hoi] at hop ⊢
      have hwn : ∀ tm, Region.wanted on (yielded l.toArray tm) = true := fun tm => by simp [Region.wanted, hgn]
      rw [if_pos (hwn _)] at hop ⊢
      have hexec := execOp_put (ops := l.toArray) on (by obtain ⟨c, hc'⟩ := hcn; rw [hc']; intro cs b h; cases h) a o0.dst (a.eval x0) hap1
      have hQpan : ∀ c a w, ¬ semK P E N Q0 k (.panic c) a w := fun c a w => by rw [semK_panic]; exact hpan c a w
      rcases hop with hop | ⟨hask, hout⟩
      · refine .inl (Oper.wp_mono ?_ (wp_late hexec hap2 hQpan hop))
        rintro a' w' ⟨⟨u, hu⟩, hnx⟩
        rw [Nat.zero_add, show l.length - i = (l.length - (i + 1)) + 1 by omega]
        have hset : (listed.setIfInBounds 0 true).setIfInBounds i true = (listed.setIfInBounds i true).setIfInBounds 0 true := Array.setIfInBounds_comm _ _ (by omega)
        have hr0 : 0 ∈ Region.ready .any l.toArray (listed.setIfInBounds i true) := ready_mono hready0 (by omega)
        refine ⟨fun h => (by rw [h] at hr0; cases hr0), fun j hj => ?_⟩
        have hj0 : j = 0 := by
          rcases Nat.eq_zero_or_pos j with h | hjp
          · exact h
          · exfalso
            obtain ⟨hjun, oj, hoj, hjall⟩ := mem_ready.1 hj
            have hjl : j < l.length := by have := (Array.getElem?_eq_some_iff.1 hoj).1; simpa using this
            by_cases hji : j = i
            · subst hji
              simp [hsz, hjl] at hjun
            · rw [getD_set_ne true (Ne.symm hji)] at hjun
              rcases Nat.lt_or_ge j i with hlt | hge
              · rw [hothers j hjp hlt] at hjun; cases hjun
              · by_cases hj1 : j = i + 1
                · subst hj1
                  obtain ⟨o', ho', e, he, hb, hon'⟩ := Region.waitsFor_spec hw10
                  obtain rfl : o' = oj := Option.some.inj (ho'.symm.trans hoj)
                  have h2 := hjall e he hb
                  rw [hon', getD_set_ne false (by omega), getD_both hun] at h2
                  cases h2
                · have h1 := List.all_eq_true.1 hc j (List.mem_range.2 (by simpa using hjl))
                  simp only [Bool.or_eq_true, decide_eq_true_eq] at h1
                  rcases h1 with h1 | h1
                  · omega
                  · obtain ⟨o', ho', e, he, hb, hon'⟩ := Region.waitsFor_spec h1
                    obtain rfl : o' = oj := Option.some.inj (ho'.symm.trans hoj)
                    have h2 := hjall e he hb
                    rw [hon', getD_set_ne false (by omega), getD_both (inv.tail (j - 1) (by omega) (by simp; omega))] at h2
                    cases h2
        subst hj0
        unfold wpOp
        simp only [show l.toArray[0]? = some o0 by simpa using hl0]
        rw [if_pos (by simp [Region.wanted, hg0])]
        refine .inl ?_
        have hev : a'.eval x0 = a.eval x0 := by
          have h1 : a'.eval x0 = (a.put on.dst u).eval x0 := by
            cases x0 <;> simp [Act.eval, hu]
          rw [h1]
          refine Act.eval_put fun d hd hxd => ?_
          refine hap3 d hd ?_
          subst hxd
          refine List.mem_append_left _ (List.mem_filterMap.2 ⟨.tmp d, ?_, rfl⟩)
          rw [hop0]; simp [Op.operands]
        unfold Oper.wp
        have : (execOp a'.eval o0).run P w' = .ok (.value (a.eval x0)) w' := by
          rw [← hev]; simp [execOp, hop0]
        rw [this]
        show wpAny _ _ _ _ _ _ (a'.put o0.dst (a.eval x0)) w'
        rw [← hset]
        exact hnx
      · refine .inr ⟨?_, hout⟩
        unfold Oper.asks at hask ⊢
        rw [hexec] at hask
        exact hask
  have main : ∀ (f : Nat) (listed : Array Bool) (a : Act) (w : World), HeadInv .any l.toArray n listed → cntF (Lof listed) n = f →
      (∃ ℓ, (∀ t, DenV ℓ (view l n vs st.sl (Lof listed) t) (a.tmps.getD t undef)) ∧ MH E ℓ (st.m ++ memF (vs.map (·.2)) (Lof listed) 0) w ∧ a.defers = [] ∧ a.tmps.size = N) →
      wpAny P .any l.toArray (semK P E N Q0 k) (f + (l.length - n)) listed a w := by
    intro f
    induction f with
    | zero =>
      intro listed a w inv hcnt ⟨ℓ, h1, h2, h3, h4⟩
      have hall := cntF_zero hcnt
      have hlist : listed = firstN n (l.length - n) := by
        have hsz := inv.size
        simp only [List.size_toArray] at hsz
        refine Array.ext (by simp [firstN, hsz]; omega) (fun j hj hj2 => ?_)
        rcases Nat.lt_or_ge j n with hjn | hjn
        · have := hall j hjn
          simp only [Lof] at this
          rw [Array.getD_eq_getD_getElem?, Array.getElem?_eq_getElem hj] at this
          simp only [Option.getD_some] at this
          rw [this]
          simp [firstN, List.getElem_append, hjn]
        · have := inv.tail j hjn (by simp; omega)
          rw [Array.getD_eq_getD_getElem?, Array.getElem?_eq_getElem hj] at this
          simp only [Option.getD_some] at this
          rw [this]
          simp [firstN, List.getElem_append, Nat.not_lt.2 hjn]
      have hdl : (l.drop n).length = l.length - n := by simp
      rw [Nat.zero_add, ← hdl]
      refine wpAny_of_seq (l.drop n) n listed a w (fun j => by simp) (by rw [hdl, hlist]; exact hseq) ?_
      refine hfin a w ⟨ℓ, fun t => ?_, ?_, h3, h4⟩
      · have hpf := look_prefix (Nat.le_of_lt hn) hhead (sl := st.sl) hvl n (Nat.le_refl _) t
        rw [List.take_take, Nat.min_self, List.take_of_length_le (l := vs) (by omega)] at hpf
        show DenV ℓ (look (pushAll (l.take n) vs st.sl) t) _
        rw [hpf]
        rw [view_congr (L' := Lof listed) (fun j hj _ => by rw [hall j hj]; simpa using hj)]
        exact h1 t
      · rw [memF_all (fun k hk => by rw [Nat.zero_add]; exact hall k (by simpa [hvl] using hk))] at h2
        rw [← entsOf_eq] at h2
        exact h2
    | succ f ih =>
      intro listed a w inv hcnt hD
      have hsz : listed.size = l.length := by simpa using inv.size
      obtain ⟨i0, hi0, hL0, hless⟩ := cntF_least (L := Lof listed) (n := n) (by omega)
      have hun : listed.getD i0 true = false := getD_in (by omega) hL0
      rw [show f + 1 + (l.length - n) = (f + (l.length - n)) + 1 by omega]
      refine ⟨fun hr => ?_, fun i hi => ?_⟩
      · exfalso
        obtain ⟨o, ho⟩ := headB_ok hhead hi0
        have : i0 ∈ Region.ready .any l.toArray listed := mem_ready.2 ⟨hun, o, by simpa using ho.get, fun e he hb => hless _ (ho.back e he hb)⟩
        rw [hr] at this; cases this
      · have low : ∀ i, i ∈ Region.ready .any l.toArray listed → i < n → wpOp P l.toArray (semK P E N Q0 k) i (wpAny P .any l.toArray (semK P E N Q0 k) (f + (l.length - n)) (listed.setIfInBounds i true)) a w := by
          intro i hi hin
          obtain ⟨hiun, oi', hoi', hall⟩ := mem_ready.1 hi
          obtain ⟨o, ho⟩ := headB_ok hhead hin
          have hoi : l.toArray[i]? = some o := by simpa using ho.get
          obtain rfl : o = oi' := Option.some.inj (hoi.symm.trans hoi')
          have hLi : Lof listed i = false := getD_both hiun
          have inv' := inv.set hi hin
          have hLof := Lof_set (listed := listed) (i := i) (by omega)
          have hcnt' : cntF (Lof (listed.setIfInBounds i true)) n = f := by
            rw [hLof]
            have := cntF_set hin hLi
            omega
          obtain ⟨d, hd⟩ := ho.dst
          have hdi : dstOf l i = some d := by simp [dstOf, ho.get, hd]
          have huniq : ∀ j, j < n → dstOf l j = some d → j = i := fun j hj hjd => by
            rcases Nat.decEq i j with h | h
            · exact absurd (hjd.trans hdi.symm) (ho.uniq j hj h)
            · exact h.symm
          obtain ⟨v, eo, hvi, ⟨hcap, hok⟩, hex⟩ := trace_at htr (i := i) (o := o) (by rw [List.getElem?_take_of_lt hin]; exact ho.get)
          rw [hd] at hok
          have hok : d < N := hok
          obtain ⟨ℓ, h1, h2, h3, h4⟩ := hD
          have hread : ∀ t, t ∈ readsOf l o → look (pushAll ((l.take n).take i) (vs.take i) st.sl) t = view l n vs st.sl (Lof listed) t := by
            intro t ht
            rw [look_prefix (Nat.le_of_lt hn) hhead hvl i (by omega) t]
            refine view_congr (fun j hj hjd => ?_)
            obtain ⟨hji, hw⟩ := ho.reads j t hj hjd ht
            obtain ⟨oj, hoj, e, he, hb, hon⟩ := Region.waitsFor_spec hw
            obtain rfl : o = oj := Option.some.inj (hoi.symm.trans hoj)
            have := hall e he hb
            rw [hon] at this
            show decide (j < i) = Lof listed j
            rw [show Lof listed j = true from this]
            simpa using hji
          have hview : ∀ t, view l n vs st.sl (updB (Lof listed) i) t = if t = d then v else view l n vs st.sl (Lof listed) t := by
            intro t
            split
            · rename_i htd
              subst htd
              rw [view_at (i := i) (fun a b ha hb h1 h2 => (huniq a ha h1).trans (huniq b hb h2).symm) hin hdi (by simp [updB])]
              simp [valAt, hvi]
            · rename_i htd
              refine view_congr (fun j hj hjd => ?_)
              have : j ≠ i := fun h => by subst h; rw [hdi] at hjd; exact htd (Option.some.inj hjd).symm
              simp [updB, this]
          have hsays : ∀ {t : Bool}, says l o (look (pushAll ((l.take n).take i) (vs.take i) st.sl)) t → Region.wanted o (yielded l.toArray a.tmps) = t := fun hs =>
            wanted_says h1 (says_congr (fun d' hd' => hread d' (by simp [readsOf, hd'])) hs)
          unfold wpOp
          simp only [hoi]
          rcases hex with ⟨hsy, hal, hest⟩ | ⟨hsy, rfl, rfl⟩
          · rw [if_pos (hsays hsy)]
            refine .inl ?_
            have hcg : ∀ K', K' v eo → est T pu (st.m ++ memF (vs.map (·.2)) (Lof listed) 0) (st.m.length + (0 + (entsOf (vs.take i)).length)) (evV (view l n vs st.sl (Lof listed))) o K' := by
              intro K' hK'
              have h5 := hest K' hK'
              rw [evS_V, est_congr (g' := evV (view l n vs st.sl (Lof listed))) (fun x hx => ?_)] at h5
              · exact est_app hmono _ h5
              · cases x with
                | tmp t =>
                  refine hread t ?_
                  simp only [readsOf, tmpsOf, List.mem_append, List.mem_filterMap]
                  exact .inl ⟨.tmp t, hx, rfl⟩
                | _ => rfl
            have next : ∀ {ℓ' : Nat → Option Loc} {v' : Value} {w' : World}, Le ℓ ℓ' → MH E ℓ' (st.m ++ memF (vs.map (·.2)) (updB (Lof listed) i) 0) w' → DenV ℓ' v v' → wpAny P .any l.toArray (semK P E N Q0 k) (f + (l.length - n)) (listed.setIfInBounds i true) (a.put o.dst v') w' := by
              intro ℓ' v' w' hle hm' hdv
              refine ih _ _ _ inv' hcnt' ⟨ℓ', fun t => ?_, by rw [hLof]; exact hm', ?_, ?_⟩
              · rw [hLof, hview, hd]
                exact put_view (fun t => (h1 t).mono hle) (by rw [h4]; exact hok) hdv t
              · rw [hd]; exact h3
              · rw [hd]; simpa [Act.put] using h4
            have hvim : (vs.map (·.2))[i]? = some eo := by simp [hvi]
            cases heo : eo with
            | none =>
              subst heo
              have hna : allocs o = false := by simpa using hal.symm
              have h6 := hcg (fun sv e => sv = v ∧ e = none) ⟨rfl, rfl⟩
              rw [est_nid (n' := (st.m ++ memF (vs.map (·.2)) (Lof listed) 0).length) hna hcap] at h6
              refine est_ok hT hpu h2 (.inl rfl) (evV_den h1) h6 _ _ ?_
              rintro v' w' ⟨sv, e, ℓ', ⟨rfl, rfl⟩, hle, hm', hdv⟩
              refine next hle ?_ hdv
              rw [memF_congr (L' := Lof listed) (fun k e hk => ?_)]
              · exact hm'
              · simp only [updB, Nat.zero_add]
                split
                · rename_i hki; subst hki; rw [hvim] at hk; cases hk
                · rfl
            | some e0 =>
              subst heo
              obtain ⟨A, B, k1, k2, k3⟩ := memF_set (eos := vs.map (·.2)) (L := Lof listed) (i := 0) (k := i) (e := e0) hvim (by rw [Nat.zero_add]; exact hLi)
              rw [Nat.zero_add] at k2
              have hA : A.length = (entsOf (vs.take i)).length := by
                rw [k3, entsOf_eq, List.map_take]
              have hget : (st.m ++ memF (vs.map (·.2)) (Lof listed) 0)[st.m.length + (0 + (entsOf (vs.take i)).length)]? = some .hole := by
                rw [k1, List.getElem?_append_right (by omega), ← hA]
                simp
              refine est_ok hT hpu h2 (.inr hget) (evV_den h1) (hcg (fun sv e => sv = v ∧ e = some e0) ⟨rfl, rfl⟩) _ _ ?_
              rintro v' w' ⟨sv, e, ℓ', ⟨rfl, rfl⟩, hle, hm', hdv⟩
              refine next hle ?_ hdv
              rw [k2]
              have hf : fill (st.m ++ memF (vs.map (·.2)) (Lof listed) 0) (st.m.length + (0 + (entsOf (vs.take i)).length)) e0 = st.m ++ (A ++ .ent e0 :: B) := by
                have hlt := (List.getElem?_eq_some_iff.1 hget).1
                unfold fill
                rw [if_pos hlt, k1, ← hA, List.set_append_right _ _ (by omega)]
                congr 1
                rw [show st.m.length + (0 + A.length) - st.m.length = A.length by omega, List.set_append_right _ _ (Nat.le_refl _)]
                simp
              rw [← hf]
              exact hm'
          · rw [if_neg (by rw [hsays hsy]; simp)]
            refine ih _ _ _ inv' hcnt' ⟨ℓ, fun t => ?_, ?_, ?_, ?_⟩
            · rw [hLof, hview, hd]
              exact put_view (sv := .tup []) (v := undef) h1 (by rw [h4]; exact hok) ⟨[], rfl, trivial⟩ t
            · rw [hLof]
              have hvim : (vs.map (·.2))[i]? = some none := by simp [hvi]
              rw [memF_congr (L' := Lof listed) (fun k e hk => ?_)]
              · exact h2
              · simp only [updB, Nat.zero_add]
                split
                · rename_i hki; subst hki; rw [hvim] at hk; cases hk
                · rfl
            · rw [hd]; exact h3
            · rw [hd]; simpa [Act.put] using h4
        rcases Nat.lt_or_ge i n with hin | hin
        · exact low i hi hin
        · exact late listed a w inv f hcnt i0 hi0 hL0 hun (fun h0 => mv _ a w (low 0 h0 hn0)) i hi hin
  obtain ⟨ℓ, h1, h2, h3, h4⟩ := hh
  have hL0 : ∀ j, Lof (Array.replicate l.toArray.size false) j = false := fun j => getD_replicate_false _ _
  have hc0 : cntF (Lof (Array.replicate l.toArray.size false)) n = n := by
    have : ∀ m, cntF (Lof (Array.replicate l.toArray.size false)) m = m := by
      intro m
      induction m with
      | zero => rfl
      | succ m ih => simp only [cntF, hL0, ih]; rfl
    exact this n
  have := main n (Array.replicate l.toArray.size false) a0 { w0 with drawn := w0.drawn + 1 }
    ⟨by simp, fun j oj _ hl => (by rw [getD_replicate_false] at hl; cases hl), fun t _ ht => getD_in (by simpa using ht) (getD_replicate_false _ _)⟩ hc0
    ⟨ℓ, fun t => by rw [view_none (fun j _ _ => hL0 j)]; exact h1 t, (h2.drew).holes (memF_holes hL0), h3, h4⟩
  rw [show n + (l.length - n) = l.toArray.size by simp; omega] at this
  exact this
theorem ok_draw_app2 {E : Env} {N : Nat} {l hd tl : List Oper} {T : Tab} {pu : Pure} (n : Nat) (hT : TabOK P T) (hpu : PureOK P pu) (hmono : PureMono pu) (hmix : P.follows .mixedOrders = true) {Q0 : Exit → Act → World → Prop} {id : Nat} {k : List Item} {sl : Slots} {m : Mem} (hpan : ∀ c a w, ¬ Q0 (.panic c) a w) (hB : appB l n = true)
    (h1 : l.take n = hd) (h2 : l.drop n = tl)
    (h : hdRun T pu m l N hd sl [] (fun sl al => Ok P E N Q0 (.ops l tl :: k) ⟨sl, m ++ al.map .ent⟩)) : Ok P E N Q0 (.code (.region id l.toArray true) :: k) ⟨sl, m⟩ := by
  subst h1 h2
  exact ok_draw_app hT hpu hmono hmix hpan hB h
end
section
variable {P : Program} {E : Env} {N : Nat} {ℓ : Nat → Option Loc} {m : Mem} {w : World}
/-- The content of a block, said otherwise. -/
theorem MH.again (h : MH E ℓ m w) {i0 : Nat} {e : Ent} {c : A} (hm : m[i0]? = some (.ent e)) (hl : c.len = e.c.len) (hok : c.OK) (hd : ∀ vs, DenL ℓ e.c.cells vs → DenL ℓ c.cells vs) : MH E ℓ (m.set i0 (.ent { e with c := c })) w := by
  have hlt := (List.getElem?_eq_some_iff.1 hm).1
  have get : ∀ {i : Nat} {x : Ent}, (m.set i0 (.ent { e with c := c }))[i]? = some (.ent x) → (i = i0 ∧ x = { e with c := c }) ∨ (i ≠ i0 ∧ m[i]? = some (.ent x)) := by
    intro i x hi
    rw [List.getElem?_set] at hi
    split at hi
    · rename_i hii
      simp only [Option.some.injEq, Mk.ent.injEq] at hi
      exact .inl ⟨hii.symm, hi.symm⟩
    · rename_i hii
      exact .inr ⟨Ne.symm hii, hi⟩
  have back : ∀ {i : Nat} {x : Ent}, (m.set i0 (.ent { e with c := c }))[i]? = some (.ent x) → ∃ x', m[i]? = some (.ent x') ∧ x'.own = x.own ∧ x'.c.len = x.c.len := by
    intro i x hi
    rcases get hi with ⟨rfl, rfl⟩ | ⟨_, hi⟩
    · exact ⟨e, hm, rfl, hl.symm⟩
    · exact ⟨x, hi, rfl, rfl⟩
  refine ⟨h.os, h.tape, h.output, h.size, h.keep, h.anch, fun i hi => ?_, fun i x hi => ?_, fun i j ei ej Li Lj hi hj hLi hLj ho h0 hne hr => ?_⟩
  · refine h.dom i ?_
    rcases hi with hi | hi
    · exact .inl (by simpa using hi)
    · rw [List.getElem?_set] at hi
      split at hi
      · cases hi
      · exact .inr hi
  · rcases get hi with ⟨rfl, rfl⟩ | ⟨_, hi⟩
    · obtain ⟨L, h1, ⟨⟨hf, _⟩, h2⟩, h3⟩ := h.ent _ _ hm
      refine ⟨L, h1, ⟨⟨fun n hn => hl.trans (hf n hn), hok⟩, ?_⟩, h3⟩
      split at h2
      · rename_i ho
        rw [if_pos ho]
        obtain ⟨a, b, g⟩ := h2
        refine ⟨a, by show c.len ≤ L.lim; rw [hl]; exact b, fun h0 => ?_⟩
        obtain ⟨cs, fr, vs, rest, g1, g2, g3, g4, g5⟩ := g h0
        exact ⟨cs, fr, vs, rest, g1, g2, g3, g4, hd vs g5⟩
      · rename_i ho
        rw [if_neg ho]
        obtain ⟨vs, a, b⟩ := h2
        exact ⟨vs, hd vs a, b⟩
    · exact h.ent i x hi
  · obtain ⟨xi, a1, a2, a3⟩ := back hi
    obtain ⟨xj, b1, b2, b3⟩ := back hj
    refine h.apart i j xi xj Li Lj a1 b1 hLi hLj (a2.trans ho) h0 hne ?_
    unfold Real at hr ⊢
    rw [b2, b3]; exact hr
/-- A nil slice that a block of one cell holds may be taken for an empty one of our own. -/
theorem ok_blank_mem {Q0 : Exit → Act → World → Prop} {k : List Item} {st : St} (i0 : Nat) (e : Ent) (rest : List Seg) (ty : TypeId) (es : Nat) (a : A) (hl : a.len = 0) (hok : a.OK) (hm : st.m[i0]? = some (.ent e)) (hc : e.c = .st (⟨1, .s .snil⟩ :: rest))
    (h : Ok P E N Q0 k ⟨st.sl, (st.m ++ [Mk.ent ⟨true, ty, none, a⟩]).set i0 (Mk.ent { e with c := .st (⟨1, .s (.sl st.m.length 0 0 0 es)⟩ :: rest) })⟩) : Ok P E N Q0 k st := by
  intro b w hh
  obtain ⟨ℓ, h1, h2, h3, h4⟩ := hh
  have hf : Fresh st.m st.m.length := .inl rfl
  have hle := h2.le_upd hf ⟨E.w0.heap.size, 0, 0⟩
  have hb := h2.blank hf (ty := ty) hl hok
  have hrest : SegOK rest := by
    obtain ⟨L, _, hE, _⟩ := h2.ent i0 e hm
    have := hE.ok
    rw [hc] at this
    exact this.2
  rw [fill_len] at hb
  have hb2 := hb.again (i0 := i0) (e := e) (c := .st (⟨1, .s (.sl st.m.length 0 0 0 es)⟩ :: rest)) (by rw [List.getElem?_append_left (List.getElem?_eq_some_iff.1 hm).1]; exact hm) (by rw [hc]; rfl) ⟨rfl, hrest⟩ (fun vs hvs => by
    rw [hc] at hvs
    cases vs with
    | nil => exact hvs.elim
    | cons v r =>
      obtain ⟨hv, hr⟩ := hvs
      refine ⟨?_, hr⟩
      have hv' : v = .slice none 0 0 := hv
      rw [hv']
      exact ⟨⟨E.w0.heap.size, 0, 0⟩, by simp [upd], Nat.le_refl _, .inl ⟨rfl, none, rfl⟩⟩)
  exact h b w ⟨_, fun u => (h1 u).mono hle, hb2, h3, h4⟩
end
end Go.V
end
