/- A small verifier of our own: regions whose order is open, with stores to blocks that they make. No condition. -/
import Derived.Test.YtlnoehpjchglnaaVy
set_option linter.unusedSimpArgs false
set_option linter.unusedVariables false
namespace Go.V
open Go

/-! stores to blocks that the region makes: which operation stores, which one made the block -/
def stOf : List (Nat × Nat) → Nat → Option Nat
  | [], _ => none
  | (s, j) :: r, i => if i = s then some j else stOf r i
def stT : List (Nat × Nat) → Nat → Option Nat
  | [], _ => none
  | (s, j') :: r, j => if j = j' then some s else stT r j
theorem stOf_mem : ∀ {st : List (Nat × Nat)} {i j : Nat}, stOf st i = some j → (i, j) ∈ st
  | (s, j') :: r, i, j, h => by
    simp only [stOf] at h
    split at h
    · rename_i hi; subst hi; cases h; exact List.mem_cons_self
    · exact List.mem_cons_of_mem _ (stOf_mem h)
theorem stT_mem : ∀ {st : List (Nat × Nat)} {s j : Nat}, stT st j = some s → (s, j) ∈ st
  | (s', j') :: r, s, j, h => by
    simp only [stT] at h
    split at h
    · rename_i hi; subst hi; cases h; exact List.mem_cons_self
    · exact List.mem_cons_of_mem _ (stT_mem h)
def stB (l : List Oper) (n : Nat) (vis : List (Nat × List Nat)) (st : List (Nat × Nat)) : Bool := st.all fun p =>
  stOf st p.1 == some p.2 && stT st p.2 == some p.1 && stOf st p.2 == none && decide (p.2 < p.1) && decide (p.1 < n) && Region.waitsFor .any l.toArray p.1 p.2 && (dstOf l p.1).isNone && (l[p.1]?).any (fun o => o.guard.isNone) && ((List.range n).all fun i => !(visOf vis i).contains p.2)
def headB3 (l : List Oper) (n : Nat) (vis : List (Nat × List Nat)) (st : List (Nat × Nat)) : Bool := (List.range n).all fun i => match l[i]? with
  | none => false
  | some o => ((dstOf l i).isSome || (stOf st i).isSome) && ((List.range n).all fun j => i == j || (dstOf l i).isNone || dstOf l j != dstOf l i) &&
    ((List.range n).all fun j => match dstOf l j with | none => true | some d => !(readsOf l o).contains d || (decide (j < i) && Region.waitsFor .any l.toArray i j) || (decide (i < j) && Region.waitsFor .any l.toArray j i)) &&
    (o.after.toList.all fun e => !Region.binds .any e || decide (e.on < i)) &&
    ((visOf vis i).all fun j => decide (j < i) && awB l 3 i j)
def drawB3 (l : List Oper) (n : Nat) (vis : List (Nat × List Nat)) (st : List (Nat × Nat)) : Bool :=
  decide (n < l.length) && Region.sinkB .any l.toArray n && Region.chainB .any l.toArray n && Region.seqB .any l.toArray (l.length - n) n (firstN n (l.length - n)) && headB3 l n vis st && stB l n vis st
/-- What a store puts into a block that the region made. -/
def stoP (T : Tab) (m0 : Mem) (al : List (List Ent × Option Ent)) (j : Nat) (g : Operand → SV) (o : Oper) (K : Ent → Prop) : Prop :=
  match o.op, al[j]? with
  | .store t x y, some ([e], _) => (match g x, g y, T t with
    | .one (.s (.ptr id b off)), .one a, some ty => ((id = m0.length + ((al.map (·.1)).take j).flatten.length ∧ b = 0 ∧ off = 0) ∧ (e.own = true ∧ e.c.isRow = true ∧ a.isRow = true) ∧ (e.bound = ty.size ∧ a.len = ty.size ∧ a.solid = true)) ∧ K { e with c := a }
    | _, _, _ => False)
  | _, _ => False
theorem stoP_det {T : Tab} {m0 : Mem} {al : List (List Ent × Option Ent)} {j : Nat} {g : Operand → SV} {o : Oper} {K : Ent → Prop} (h : stoP T m0 al j g o K) : ∃ e', (∀ K' : Ent → Prop, K' e' → stoP T m0 al j g o K') ∧ K e' := by
  unfold stoP at h ⊢
  split at h
  · split at h
    · exact ⟨_, fun K' hK' => ⟨h.1, hK'⟩, h.2⟩
    · exact h.elim
  · exact h.elim
def contAt (st : List (Nat × Nat)) (al : List (List Ent × Option Ent)) (L : Nat → Bool) (j : Nat) : List Ent :=
  match stT st j with
  | some s => if L s = true then (match (al[s]?).bind (·.2) with | some e' => [e'] | none => (match al[j]? with | some p => p.1 | none => [])) else (match al[j]? with | some p => p.1 | none => [])
  | none => (match al[j]? with | some p => p.1 | none => [])
def contL (st : List (Nat × Nat)) (al : List (List Ent × Option Ent)) (L : Nat → Bool) : List (List Ent) := (List.range al.length).map (contAt st al L)
def finL (st : List (Nat × Nat)) (al : List (List Ent × Option Ent)) : List (List Ent) := contL st al (fun _ => true)
theorem contL_len {st : List (Nat × Nat)} {al : List (List Ent × Option Ent)} {L : Nat → Bool} : (contL st al L).length = al.length := by simp [contL]
theorem contL_get {st : List (Nat × Nat)} {al : List (List Ent × Option Ent)} {L : Nat → Bool} {k : Nat} (hk : k < al.length) : (contL st al L)[k]? = some (contAt st al L k) := by
  simp [contL, hk]
def hd3 (T : Tab) (pu : Pure) (nu : New) (m0 : Mem) (l : List Oper) (vis : List (Nat × List Nat)) (ss : List (Nat × Nat)) (N : Nat) : Nat → List Oper → Slots → List (List Ent × Option Ent) → (Slots → List (List Ent × Option Ent) → Prop) → Prop
  | _, [], sl, al, K => K sl al
  | i, o :: r, sl, al, K => match stOf ss i with
    | some j => stoP T m0 al j (evS sl) o (fun e' => hd3 T pu nu m0 l vis ss N (i + 1) r sl (al ++ [([], some e')]) K)
    | none => (noCap T o = true ∧ okd N o.dst) ∧ match guardTmp l o, o.guard with
      | none, none => hop T pu nu (viewM m0 vis i (al.map (·.1))) (m0.length + (al.map (·.1)).flatten.length) (evS sl) o (fun v es => hd3 T pu nu m0 l vis ss N (i + 1) r (pushD o.dst v sl) (al ++ [(es, none)]) K)
      | some d, some (_, b) => (match look sl d with
        | .one (.s (.b c)) => (c = b → hop T pu nu (viewM m0 vis i (al.map (·.1))) (m0.length + (al.map (·.1)).flatten.length) (evS sl) o (fun v es => hd3 T pu nu m0 l vis ss N (i + 1) r (pushD o.dst v sl) (al ++ [(es, none)]) K)) ∧ (c = (!b) → hd3 T pu nu m0 l vis ss N (i + 1) r (pushD o.dst (.tup []) sl) (al ++ [([], none)]) K)
        | .tup [] => hd3 T pu nu m0 l vis ss N (i + 1) r (pushD o.dst (.tup []) sl) (al ++ [([], none)]) K
        | _ => False)
      | _, _ => False
abbrev Out := SV × List Ent × Option Ent
def Trace3 (T : Tab) (pu : Pure) (nu : New) (m0 : Mem) (l : List Oper) (vis : List (Nat × List Nat)) (ss : List (Nat × Nat)) (N : Nat) : Nat → List Oper → Slots → List (List Ent × Option Ent) → List Out → Prop
  | _, [], _, _, [] => True
  | i, o :: r, sl, al, (v, es, up) :: vs => (match stOf ss i with
    | some j => es = [] ∧ v = .tup [] ∧ ∃ e', up = some e' ∧ ∀ K' : Ent → Prop, K' e' → stoP T m0 al j (evS sl) o K'
    | none => up = none ∧ (noCap T o = true ∧ okd N o.dst) ∧ ((says l o (look sl) true ∧ Doing T pu nu (viewM m0 vis i (al.map (·.1))) (m0.length + (al.map (·.1)).flatten.length) (evS sl) o v es) ∨ (says l o (look sl) false ∧ v = .tup [] ∧ es = []))) ∧
    Trace3 T pu nu m0 l vis ss N (i + 1) r (match stOf ss i with | some _ => sl | none => pushD o.dst v sl) (al ++ [(es, up)]) vs
  | _, _, _, _, _ => False
def push3 (ss : List (Nat × Nat)) : Nat → List Oper → List Out → Slots → Slots
  | i, o :: r, (v, _, _) :: vs, sl => push3 ss (i + 1) r vs (match stOf ss i with | some _ => sl | none => pushD o.dst v sl)
  | _, _, _, sl => sl
theorem hd3_trace {T : Tab} {pu : Pure} {nu : New} {m0 : Mem} {l : List Oper} {vis : List (Nat × List Nat)} {ss : List (Nat × Nat)} {N : Nat} : ∀ (r : List Oper) (i : Nat) (sl : Slots) (al : List (List Ent × Option Ent)) (K : Slots → List (List Ent × Option Ent) → Prop), hd3 T pu nu m0 l vis ss N i r sl al K →
    ∃ vs : List Out, Trace3 T pu nu m0 l vis ss N i r sl al vs ∧ K (push3 ss i r vs sl) (al ++ vs.map (·.2))
  | [], i, sl, al, K, h => ⟨[], trivial, by have h' : K sl al := h; simpa [push3] using h'⟩
  | o :: r, i, sl, al, K, h => by
    unfold hd3 at h
    cases hst : stOf ss i with
    | some j =>
      simp only [hst] at h
      obtain ⟨e', h1, h2⟩ := stoP_det h
      obtain ⟨vs, g1, g2⟩ := hd3_trace r _ _ _ _ h2
      refine ⟨(.tup [], [], some e') :: vs, ⟨?_, ?_⟩, ?_⟩
      · simp only [hst]
        exact ⟨trivial, trivial, e', rfl, h1⟩
      · simpa only [hst] using g1
      · simpa [push3, hst] using g2
    | none =>
      simp only [hst] at h
      obtain ⟨⟨hc, hd⟩, h⟩ := h
      have go : says l o (look sl) true → hop T pu nu (viewM m0 vis i (al.map (·.1))) (m0.length + (al.map (·.1)).flatten.length) (evS sl) o (fun v es => hd3 T pu nu m0 l vis ss N (i + 1) r (pushD o.dst v sl) (al ++ [(es, none)]) K) → ∃ vs : List Out, Trace3 T pu nu m0 l vis ss N i (o :: r) sl al vs ∧ K (push3 ss i (o :: r) vs sl) (al ++ vs.map (·.2)) := by
        intro hs h
        obtain ⟨v, es, h1, h2⟩ := hop_doing hc h
        obtain ⟨vs, g1, g2⟩ := hd3_trace r _ _ _ _ h2
        refine ⟨(v, es, none) :: vs, ⟨?_, ?_⟩, ?_⟩
        · simp only [hst]
          exact ⟨trivial, ⟨hc, hd⟩, .inl ⟨hs, h1⟩⟩
        · simpa only [hst] using g1
        · simpa [push3, hst] using g2
      have sk : says l o (look sl) false → hd3 T pu nu m0 l vis ss N (i + 1) r (pushD o.dst (.tup []) sl) (al ++ [([], none)]) K → ∃ vs : List Out, Trace3 T pu nu m0 l vis ss N i (o :: r) sl al vs ∧ K (push3 ss i (o :: r) vs sl) (al ++ vs.map (·.2)) := by
        intro hs h
        obtain ⟨vs, g1, g2⟩ := hd3_trace r _ _ _ _ h
        refine ⟨(.tup [], [], none) :: vs, ⟨?_, ?_⟩, ?_⟩
        · simp only [hst]
          exact ⟨trivial, ⟨hc, hd⟩, .inr ⟨hs, trivial, trivial⟩⟩
        · simpa only [hst] using g1
        · simpa [push3, hst] using g2
      split at h
      · rename_i h1 h2
        exact go (by simp [says, h1, h2]) h
      · rename_i d b h1 h2
        split at h
        · rename_i c hlk
          by_cases hcb : c = b
          · exact go (by simp only [says, h1, h2]; exact .inl ⟨c, hlk, by simp [hcb]⟩) (h.1 hcb)
          · exact sk (by simp only [says, h1, h2]; exact .inl ⟨c, hlk, by simp [hcb]⟩) (h.2 (by cases c <;> cases b <;> simp_all))
        · rename_i hlk
          exact sk (by simp only [says, h1, h2]; exact .inr ⟨hlk, trivial⟩) h
        · exact h.elim
      · exact h.elim
structure HeadOK3 (l : List Oper) (n : Nat) (vis : List (Nat × List Nat)) (ss : List (Nat × Nat)) (i : Nat) (o : Oper) : Prop where
  get : l[i]? = some o
  dst : stOf ss i = none → ∃ d, o.dst = some d
  uniq : ∀ j d, j < n → i ≠ j → dstOf l i = some d → dstOf l j ≠ some d
  reads : ∀ j d, j < n → dstOf l j = some d → d ∈ readsOf l o → (j < i ∧ Region.waitsFor .any l.toArray i j = true) ∨ (i < j ∧ Region.waitsFor .any l.toArray j i = true)
  back : ∀ e ∈ o.after, Region.binds .any e = true → e.on < i
  vis : ∀ j ∈ visOf vis i, j < i ∧ awB l 3 i j = true
theorem headB3_ok {l : List Oper} {n : Nat} {vis : List (Nat × List Nat)} {ss : List (Nat × Nat)} (h : headB3 l n vis ss = true) {i : Nat} (hi : i < n) : ∃ o, HeadOK3 l n vis ss i o := by
  have h1 := List.all_eq_true.1 h i (List.mem_range.2 hi)
  split at h1
  · cases h1
  · rename_i o ho
    simp only [Bool.and_eq_true] at h1
    obtain ⟨⟨⟨⟨a, b⟩, c⟩, d⟩, e⟩ := h1
    have hd : dstOf l i = o.dst := by simp [dstOf, ho]
    refine ⟨o, ho, fun hs => ?_, fun j x hj hij hx hjx => ?_, fun j x hj hx hr => ?_, fun e he hb => ?_, fun j hj => ?_⟩
    · simp only [hs, Option.isSome_none, Bool.or_false] at a
      exact Option.isSome_iff_exists.1 (hd ▸ a)
    · have := List.all_eq_true.1 b j (List.mem_range.2 hj)
      simp only [Bool.or_eq_true, beq_iff_eq, bne_iff_ne, hx, hjx] at this
      rcases this with (h | h) | h
      · exact hij h
      · cases h
      · exact h rfl
    · have := List.all_eq_true.1 c j (List.mem_range.2 hj)
      simp only [hx, Bool.or_eq_true, Bool.not_eq_true', Bool.and_eq_true, decide_eq_true_eq] at this
      rcases this with (h2 | h2) | h2
      · have h3 : (readsOf l o).contains x = true := by simpa using hr
        rw [h2] at h3; cases h3
      · exact .inl h2
      · exact .inr h2
    · have := List.all_eq_true.1 d e (by simpa using he)
      simp only [Bool.or_eq_true, Bool.not_eq_true', decide_eq_true_eq, hb] at this
      simpa using this
    · have := List.all_eq_true.1 e j hj
      simpa using this
structure StOK (l : List Oper) (n : Nat) (vis : List (Nat × List Nat)) (ss : List (Nat × Nat)) (s j : Nat) : Prop where
  of : stOf ss s = some j
  to : stT ss j = some s
  plain : stOf ss j = none
  lt : j < s
  ltn : s < n
  waits : Region.waitsFor .any l.toArray s j = true
  dst : dstOf l s = none
  guard : ∀ o, l[s]? = some o → o.guard = none
  vis : ∀ i, i < n → j ∉ visOf vis i
theorem stB_ok {l : List Oper} {n : Nat} {vis : List (Nat × List Nat)} {ss : List (Nat × Nat)} (h : stB l n vis ss = true) {s j : Nat} (hm : (s, j) ∈ ss) : StOK l n vis ss s j := by
  have h1 := List.all_eq_true.1 h _ hm
  simp only [Bool.and_eq_true, beq_iff_eq, decide_eq_true_eq] at h1
  obtain ⟨⟨⟨⟨⟨⟨⟨⟨a, b⟩, c⟩, d⟩, e⟩, f⟩, g⟩, i⟩, k⟩ := h1
  refine ⟨a, b, c, d, e, f, by simpa using g, fun o ho => ?_, fun i' hi' hc => ?_⟩
  · rw [ho] at i
    simpa using i
  · have := List.all_eq_true.1 k i' (List.mem_range.2 hi')
    simp only [Bool.not_eq_true'] at this
    have h2 : (visOf vis i').contains j = true := by simpa using hc
    rw [this] at h2; cases h2
section
variable {T : Tab} {pu : Pure} {nu : New} {m0 : Mem} {l : List Oper} {vis : List (Nat × List Nat)} {ss : List (Nat × Nat)} {N : Nat}
theorem trace3_len : ∀ {r : List Oper} {i : Nat} {sl : Slots} {al : List (List Ent × Option Ent)} {vs : List Out}, Trace3 T pu nu m0 l vis ss N i r sl al vs → vs.length = r.length
  | [], i, sl, al, [], _ => rfl
  | o :: r, i, sl, al, (v, es, up) :: vs, h => by simp [trace3_len h.2]
  | [], _, _, _, _ :: _, h => h.elim
  | _ :: _, _, _, _, [], h => h.elim
theorem trace3_at : ∀ {r : List Oper} {i0 : Nat} {sl : Slots} {al : List (List Ent × Option Ent)} {vs : List Out}, Trace3 T pu nu m0 l vis ss N i0 r sl al vs → ∀ {i : Nat} {o : Oper}, r[i]? = some o →
    ∃ v es up, vs[i]? = some (v, es, up) ∧ (match stOf ss (i0 + i) with
    | some j => es = [] ∧ v = .tup [] ∧ ∃ e', up = some e' ∧ ∀ K' : Ent → Prop, K' e' → stoP T m0 (al ++ (vs.take i).map (·.2)) j (evS (push3 ss i0 (r.take i) (vs.take i) sl)) o K'
    | none => up = none ∧ (noCap T o = true ∧ okd N o.dst) ∧ ((says l o (look (push3 ss i0 (r.take i) (vs.take i) sl)) true ∧ Doing T pu nu (viewM m0 vis (i0 + i) ((al ++ (vs.take i).map (·.2)).map (·.1))) (m0.length + ((al ++ (vs.take i).map (·.2)).map (·.1)).flatten.length) (evS (push3 ss i0 (r.take i) (vs.take i) sl)) o v es) ∨ (says l o (look (push3 ss i0 (r.take i) (vs.take i) sl)) false ∧ v = .tup [] ∧ es = [])))
  | [], i0, sl, al, vs, _, i, o, hi => by simp at hi
  | o0 :: r, i0, sl, al, [], h, _, _, _ => h.elim
  | o0 :: r, i0, sl, al, (v, es, up) :: vs, h, 0, o, hi => by
    simp at hi; subst hi
    exact ⟨v, es, up, by simp, by simpa [push3] using h.1⟩
  | o0 :: r, i0, sl, al, (v, es, up) :: vs, h, i + 1, o, hi => by
    obtain ⟨v', es', up', g1, g2⟩ := trace3_at h.2 (i := i) (o := o) (by simpa using hi)
    refine ⟨v', es', up', by simpa using g1, ?_⟩
    simp only [List.take_succ_cons, push3, List.map_cons]
    rw [show i0 + (i + 1) = i0 + 1 + i by omega, show al ++ (es, up) :: (vs.take i).map (·.2) = al ++ [(es, up)] ++ (vs.take i).map (·.2) by simp]
    exact g2
theorem push3_succ : ∀ {r : List Oper} {i0 : Nat} {vs : List Out} {sl : Slots} {i : Nat} {o : Oper} {v : SV} {es : List Ent} {up : Option Ent}, r[i]? = some o → vs[i]? = some (v, es, up) →
    push3 ss i0 (r.take (i + 1)) (vs.take (i + 1)) sl = match stOf ss (i0 + i) with | some _ => push3 ss i0 (r.take i) (vs.take i) sl | none => pushD o.dst v (push3 ss i0 (r.take i) (vs.take i) sl)
  | [], i0, vs, sl, i, o, v, es, up, h, _ => by simp at h
  | _ :: r, i0, [], sl, i, o, v, es, up, _, h => by simp at h
  | o0 :: r, i0, (v0, e0, u0) :: vs, sl, 0, o, v, es, up, h, h2 => by
    simp at h h2; subst h; obtain ⟨rfl, rfl, rfl⟩ := h2
    simp [push3]
  | o0 :: r, i0, (v0, e0, u0) :: vs, sl, i + 1, o, v, es, up, h, h2 => by
    simp only [List.take_succ_cons, push3]
    rw [show i0 + (i + 1) = i0 + 1 + i by omega]
    exact push3_succ (by simpa using h) (by simpa using h2)
/-- The values alone. -/
def vals3 (vs : List Out) : List (SV × List Ent) := vs.map (fun p => (p.1, p.2.1))
theorem look_prefix3 {n : Nat} (hn : n ≤ l.length) (hB : headB3 l n vis ss = true) (hS : stB l n vis ss = true) {vs : List Out} {sl : Slots} (hv : vs.length = n) : ∀ (i : Nat), i ≤ n → ∀ t, look (push3 ss 0 ((l.take n).take i) (vs.take i) sl) t = view2 l n (vals3 vs) sl (fun j => decide (j < i)) t
  | 0, _, t => by
    rw [view2_none (fun j _ _ => by simp)]
    simp [push3]
  | i + 1, hi, t => by
    obtain ⟨o, ho⟩ := headB3_ok hB (i := i) (by omega)
    have hl : (l.take n)[i]? = some o := by rw [List.getElem?_take_of_lt (by omega)]; exact ho.get
    have hvi : vs[i]? = some vs[i] := List.getElem?_eq_getElem (by omega)
    rw [push3_succ (v := vs[i].1) (es := vs[i].2.1) (up := vs[i].2.2) hl hvi, Nat.zero_add]
    cases hst : stOf ss i with
    | some j =>
      simp only
      rw [look_prefix3 hn hB hS hv i (by omega) t]
      refine view2_congr (fun k hk hkd => ?_)
      have hne : k ≠ i := fun h => by
        subst h
        rw [(stB_ok hS (stOf_mem hst)).dst] at hkd
        cases hkd
      simp only [decide_eq_decide]; omega
    | none =>
      simp only
      obtain ⟨d, hd⟩ := ho.dst hst
      have hdi : dstOf l i = some d := by simp [dstOf, ho.get, hd]
      rw [hd]
      show (if t = d then vs[i].1 else look (push3 ss 0 ((l.take n).take i) (vs.take i) sl) t) = _
      have huniq : ∀ j, j < n → dstOf l j = some d → j = i := fun j hj hjd => by
        rcases Nat.decEq i j with h | h
        · exact absurd hjd (ho.uniq j d hj h hdi)
        · exact h.symm
      split
      · rename_i htd
        subst htd
        rw [view2_at (i := i) (fun a b ha hb h1 h2 => (huniq a ha h1).trans (huniq b hb h2).symm) (by omega) hdi (by simp)]
        simp [valAt2, vals3, hvi]
      · rename_i htd
        rw [look_prefix3 hn hB hS hv i (by omega) t]
        refine view2_congr (fun j hj hjd => ?_)
        have : j ≠ i := fun h => by subst h; rw [hdi] at hjd; exact htd (Option.some.inj hjd).symm
        simp only [decide_eq_decide]; omega
end
/-- More is known of the second list of blocks. -/
theorem memL_sub2 : ∀ {a b : List (List Ent)} {L L' : Nat → Bool} {i : Nat}, (∀ (k : Nat) (es : List Ent), a[k]? = some es → ∃ fs, b[k]? = some fs ∧ fs.length = es.length ∧ (L (i + k) = true → L' (i + k) = true ∧ fs = es)) → ∀ (p : Nat) (e : Ent), (memL a L i)[p]? = some (.ent e) → (memL b L' i)[p]? = some (.ent e)
  | [], b, L, L', i, _, p, e, hp => by simp [memL] at hp
  | es :: a, [], L, L', i, h, p, e, hp => by obtain ⟨fs, h1, _⟩ := h 0 es rfl; simp at h1
  | es :: a, fs :: b, L, L', i, h, p, e, hp => by
    obtain ⟨fs', h1, h2, h3⟩ := h 0 es rfl
    simp at h1; subst h1
    simp only [memL] at hp ⊢
    rcases Nat.lt_or_ge p es.length with hl | hl
    · rw [List.getElem?_append_left (by simpa using hl)] at hp
      rw [List.getElem?_append_left (by simpa [h2] using hl)]
      rw [List.getElem?_map, List.getElem?_eq_getElem hl] at hp
      simp only [Option.map_some, Option.some.injEq] at hp
      split at hp
      · rename_i hL
        obtain ⟨g1, g2⟩ := h3 hL
        subst g2
        rw [List.getElem?_map, List.getElem?_eq_getElem hl]
        simp only [Option.map_some, Option.some.injEq]
        rw [if_pos (show L' i = true from g1)]
        exact hp
      · cases hp
    · rw [List.getElem?_append_right (by simpa using hl)] at hp
      rw [List.getElem?_append_right (by simpa [h2] using hl)]
      simp only [List.length_map] at hp ⊢
      rw [h2]
      exact memL_sub2 (a := a) (b := b) (fun k es' hk => by
        obtain ⟨fs', q1, q2, q3⟩ := h (k + 1) es' (by simpa using hk)
        refine ⟨fs', by simpa using q1, q2, fun hL => ?_⟩
        rw [show i + 1 + k = i + (k + 1) by omega] at hL ⊢
        exact q3 hL) _ _ hp
theorem flat_len : ∀ {a b : List (List Ent)}, a.length = b.length → (∀ (k : Nat) (es fs : List Ent), a[k]? = some es → b[k]? = some fs → es.length = fs.length) → a.flatten.length = b.flatten.length
  | [], [], _, _ => rfl
  | [], _ :: _, h, _ => by simp at h
  | _ :: _, [], h, _ => by simp at h
  | es :: a, fs :: b, h, hk => by
    simp only [List.flatten_cons, List.length_append]
    rw [hk 0 es fs rfl rfl, flat_len (by simpa using h) (fun k x y hx hy => hk (k + 1) x y (by simpa using hx) (by simpa using hy))]
/-- One block of the list is put otherwise. -/
theorem memL_put : ∀ {a : List (List Ent)} {L : Nat → Bool} {i j : Nat} {e e' : Ent}, a[j]? = some [e] → L (i + j) = true →
    (memL a L i)[(a.take j).flatten.length]? = some (.ent e) ∧ memL (a.set j [e']) L i = (memL a L i).set (a.take j).flatten.length (.ent e')
  | [], L, i, j, e, e', h, _ => by simp at h
  | es :: a, L, i, 0, e, e', h, hL => by
    simp at h; subst h
    rw [Nat.add_zero] at hL
    simp [memL, hL]
  | es :: a, L, i, j + 1, e, e', h, hL => by
    obtain ⟨h1, h2⟩ := memL_put (a := a) (L := L) (i := i + 1) (j := j) (e := e) (e' := e') (by simpa using h) (by rw [show i + 1 + j = i + (j + 1) by omega]; exact hL)
    constructor
    · simp only [memL, List.take_succ_cons, List.flatten_cons, List.length_append]
      rw [List.getElem?_append_right (by simp)]
      simpa using h1
    · simp only [memL, List.set_cons_succ, List.take_succ_cons, List.flatten_cons, List.length_append, h2]
      rw [List.set_append_right _ _ (by simp)]
      simp
section
variable {P : Program} {E : Env} {N : Nat} {l : List Oper}
theorem ok_draw4 {T : Tab} {pu : Pure} {nu : New} {vis : List (Nat × List Nat)} {ss : List (Nat × Nat)} (hT : TabOK P T) (hpu : PureOK P pu) (hnu : NewOK P nu) (hmono : PureSub pu) (hnmono : NewSub nu) (hmix : P.follows .mixedOrders = true) {Q0 : Exit → Act → World → Prop} {id n : Nat} {k : List Item} {st : St} (hB : drawB3 l n vis ss = true)
    (h : hd3 T pu nu st.m l vis ss N 0 (l.take n) st.sl [] (fun sl al => Ok P E N Q0 (.ops l (l.drop n) :: k) ⟨sl, st.m ++ (finL ss al).flatten.map .ent⟩)) : Ok P E N Q0 (.code (.region id l.toArray true) :: k) st := by
  simp only [drawB3, Bool.and_eq_true, decide_eq_true_eq] at hB
  obtain ⟨⟨⟨⟨⟨hn, hs⟩, hc⟩, hseq⟩, hhead⟩, hst0⟩ := hB
  obtain ⟨vs, htr, hfin⟩ := hd3_trace _ _ _ _ _ h
  have hvl : vs.length = n := by rw [trace3_len htr]; simp; omega
  simp only [List.nil_append] at hfin
  intro a0 w0 hh
  show (Code.region id l.toArray true).wp P (semK P E N Q0 k) a0 w0
  refine wp_region_any hmix ?_
  have main : ∀ (f : Nat) (listed : Array Bool) (a : Act) (w : World), HeadInv .any l.toArray n listed → cntF (Lof listed) n = f →
      (∃ ℓ, (∀ t, DenV ℓ (view2 l n (vals3 vs) st.sl (Lof listed) t) (a.tmps.getD t undef)) ∧ MH E ℓ (st.m ++ memL (contL ss (vs.map (·.2)) (Lof listed)) (Lof listed) 0) w ∧ a.defers = [] ∧ a.tmps.size = N) →
      wpAny P .any l.toArray (semK P E N Q0 k) (f + (l.length - n)) listed a w := by
    intro f
    induction f with
    | zero =>
      intro listed a w inv hcnt ⟨ℓ, h1, h2, h3, h4⟩
      have hall := cntF_zero hcnt
      have hlist : listed = firstN n (l.length - n) := by
        have hsz := inv.size
        simp only [List.size_toArray] at hsz
        refine Array.ext (by simp [firstN, hsz]; omega) (fun j hj hj2 => ?_)
        rcases Nat.lt_or_ge j n with hjn | hjn
        · have := hall j hjn
          simp only [Lof] at this
          rw [Array.getD_eq_getD_getElem?, Array.getElem?_eq_getElem hj] at this
          simp only [Option.getD_some] at this
          rw [this]
          simp [firstN, List.getElem_append, hjn]
        · have := inv.tail j hjn (by simp; omega)
          rw [Array.getD_eq_getD_getElem?, Array.getElem?_eq_getElem hj] at this
          simp only [Option.getD_some] at this
          rw [this]
          simp [firstN, List.getElem_append, Nat.not_lt.2 hjn]
      have hdl : (l.drop n).length = l.length - n := by simp
      rw [Nat.zero_add, ← hdl]
      refine wpAny_of_seq (l.drop n) n listed a w (fun j => by simp) (by rw [hdl, hlist]; exact hseq) ?_
      refine hfin a w ⟨ℓ, fun t => ?_, ?_, h3, h4⟩
      · have hpf := look_prefix3 (Nat.le_of_lt hn) hhead hst0 (sl := st.sl) hvl n (Nat.le_refl _) t
        rw [List.take_take, Nat.min_self, List.take_of_length_le (l := vs) (by omega)] at hpf
        show DenV ℓ (look (push3 ss 0 (l.take n) vs st.sl) t) _
        rw [hpf]
        rw [view2_congr (L' := Lof listed) (fun j hj _ => by rw [hall j hj]; simpa using hj)]
        exact h1 t
      · rw [memL_all (fun k hk => by rw [Nat.zero_add]; rw [contL_len] at hk; exact hall k (by simpa [hvl] using hk))] at h2
        have hfl : contL ss (vs.map (·.2)) (Lof listed) = finL ss (vs.map (·.2)) := by
          unfold finL contL
          refine List.map_congr_left (fun j _ => ?_)
          unfold contAt
          split
          · rename_i s hs'
            rw [hall s (stB_ok hst0 (stT_mem hs')).ltn]
          · rfl
        rw [hfl] at h2
        exact h2
    | succ f ih =>
      intro listed a w inv hcnt hD
      have hsz : listed.size = l.length := by simpa using inv.size
      obtain ⟨i0, hi0, hL0, hless⟩ := cntF_least (L := Lof listed) (n := n) (by omega)
      have hun : listed.getD i0 true = false := getD_in (by omega) hL0
      rw [show f + 1 + (l.length - n) = (f + (l.length - n)) + 1 by omega]
      refine ⟨fun hr => ?_, fun i hi => ?_⟩
      · exfalso
        obtain ⟨o, ho⟩ := headB3_ok hhead hi0
        have : i0 ∈ Region.ready .any l.toArray listed := mem_ready.2 ⟨hun, o, by simpa using ho.get, fun e he hb => hless _ (ho.back e he hb)⟩
        rw [hr] at this; cases this
      · have hin : i < n := by
          rcases Nat.lt_or_ge i n with hx | hx
          · exact hx
          · exact absurd hi (tail_waits hs hc (by simpa using hn) inv _ i0 rfl hi0 hun i hx)
        obtain ⟨hiun, oi', hoi', hall⟩ := mem_ready.1 hi
        obtain ⟨o, ho⟩ := headB3_ok hhead hin
        have hoi : l.toArray[i]? = some o := by simpa using ho.get
        obtain rfl : o = oi' := Option.some.inj (hoi.symm.trans hoi')
        have hLi : Lof listed i = false := getD_both hiun
        have inv' := inv.set hi hin
        have hLof := Lof_set (listed := listed) (i := i) (by omega)
        have hcnt' : cntF (Lof (listed.setIfInBounds i true)) n = f := by
          rw [hLof]
          have := cntF_set hin hLi
          omega
        obtain ⟨v, es, up, hvi, hex⟩ := trace3_at htr (i := i) (o := o) (by rw [List.getElem?_take_of_lt hin]; exact ho.get)
        simp only [Nat.zero_add, List.nil_append] at hex
        obtain ⟨ℓ, h1, h2, h3, h4⟩ := hD
        have hW : ∀ m, Region.waitsFor .any l.toArray i m = true → Lof listed m = true := fun m hw => by
          obtain ⟨oj, hoj, e, he, hb, hon⟩ := Region.waitsFor_spec hw
          obtain rfl : o = oj := Option.some.inj (hoi.symm.trans hoj)
          have := hall e he hb
          rw [hon] at this
          exact this
        have hWl : ∀ j m, Lof listed j = true → Region.waitsFor .any l.toArray j m = true → Lof listed m = true := fun j m hj hw => by
          obtain ⟨oj, hoj, e, he, hb, hon⟩ := Region.waitsFor_spec hw
          have := inv.closed j oj hoj hj e he hb
          rw [hon] at this
          exact this
        have hread : ∀ t, t ∈ readsOf l o → look (push3 ss 0 ((l.take n).take i) (vs.take i) st.sl) t = view2 l n (vals3 vs) st.sl (Lof listed) t := by
          intro t ht
          rw [look_prefix3 (Nat.le_of_lt hn) hhead hst0 hvl i (by omega) t]
          refine view2_congr (fun j hj hjd => ?_)
          show decide (j < i) = Lof listed j
          rcases ho.reads j t hj hjd ht with ⟨hji, hw⟩ | ⟨hij, hw⟩
          · rw [hW j hw]
            simpa using hji
          · cases hLj : Lof listed j with
            | false => simp; omega
            | true =>
              rw [hWl j i hLj hw] at hLi
              cases hLi
        have hops : ∀ x ∈ o.op.operands.toList, evV (look (push3 ss 0 ((l.take n).take i) (vs.take i) st.sl)) x = evV (view2 l n (vals3 vs) st.sl (Lof listed)) x := fun x hx => by
          cases x with
          | tmp t =>
            refine hread t ?_
            simp only [readsOf, tmpsOf, List.mem_append, List.mem_filterMap]
            exact .inl ⟨.tmp t, hx, rfl⟩
          | _ => rfl
        -- the blocks of the operations, as they lie now
        have hal : ∀ k, k < n → ∃ q, (vs.map (·.2))[k]? = some q ∧ (vs[k]?).map (·.2) = some q := fun k hk => ⟨vs[k].2, by simp [hvl, hk], by simp [hvl, hk]⟩
        have htgt : ∀ s j, stT ss j = some s → ∃ e u, (vs.map (·.2))[j]? = some ([e], u) := by
          intro s j hsj
          have hk := stB_ok hst0 (stT_mem hsj)
          obtain ⟨os, hos⟩ := headB3_ok hhead hk.ltn
          obtain ⟨v', es', up', q1, q2⟩ := trace3_at htr (i := s) (o := os) (by rw [List.getElem?_take_of_lt hk.ltn]; exact hos.get)
          simp only [Nat.zero_add, List.nil_append, hk.of] at q2
          obtain ⟨_, _, e', _, hst⟩ := q2
          have := hst (fun _ => True) trivial
          unfold stoP at this
          split at this
          · rename_i t x y e u hop hal'
            refine ⟨e, u, ?_⟩
            rw [List.getElem?_map] at hal' ⊢
            rw [List.getElem?_take_of_lt hk.lt] at hal'
            exact hal'
          · exact this.elim
        have hclen : ∀ (L : Nat → Bool) k q, (vs.map (·.2))[k]? = some q → (contAt ss (vs.map (·.2)) L k).length = q.1.length := by
          intro L k q hq
          unfold contAt
          simp only [hq]
          split
          · rename_i s hs'
            obtain ⟨e, u, he⟩ := htgt s k hs'
            rw [hq] at he
            cases he
            split
            · split <;> rfl
            · rfl
          · rfl
        have hcfree : ∀ (L : Nat → Bool) k q, (vs.map (·.2))[k]? = some q → (∀ s, stT ss k = some s → L s = false) → contAt ss (vs.map (·.2)) L k = q.1 := by
          intro L k q hq hfree
          unfold contAt
          simp only [hq]
          split
          · rename_i s hs'
            rw [hfree s hs']
            simp
          · rfl
        have hvim : (vs.map (·.2))[i]? = some (es, up) := by simp [hvi]
        have hpre : ∀ (L : Nat → Bool), ((contL ss (vs.map (·.2)) L).take i).flatten.length = (((vs.take i).map (·.2)).map (·.1)).flatten.length := by
          intro L
          refine flat_len (by simp [contL_len]) (fun k x y hx hy => ?_)
          have hk : k < i := by
            have := (List.getElem?_eq_some_iff.1 hy).1
            simp at this; omega
          rw [List.getElem?_take_of_lt hk, contL_get (by simp; omega)] at hx
          cases hx
          rw [List.getElem?_map, List.getElem?_map, List.getElem?_take_of_lt hk] at hy
          obtain ⟨q, q1, q2⟩ := hal k (by omega)
          rw [q2] at hy
          cases hy
          exact hclen L k q q1
        have hupd : ∀ (hno : ∀ j, stOf ss i ≠ some j), contL ss (vs.map (·.2)) (updB (Lof listed) i) = contL ss (vs.map (·.2)) (Lof listed) := by
          intro hno
          unfold contL
          refine List.map_congr_left (fun j _ => ?_)
          unfold contAt
          split
          · rename_i s hs'
            have : s ≠ i := fun h => by subst h; exact hno _ (stB_ok hst0 (stT_mem hs')).of
            simp only [updB, if_neg this]
          · rfl
        unfold wpOp
        simp only [hoi]
        cases hst : stOf ss i with
        | some j =>
          simp only [hst] at hex
          obtain ⟨rfl, rfl, e', rfl, hsto⟩ := hex
          have hk := stB_ok hst0 (stOf_mem hst)
          have hLj := hW j hk.waits
          have hji := hk.lt
          rw [if_pos (by simp [Region.wanted, hk.guard o ho.get])]
          refine .inl ?_
          have h5 := hsto (fun x => x = e') rfl
          unfold stoP at h5
          split at h5
          · rename_i t x y e u hop hal'
            split at h5
            · rename_i pid pb po a' ty hx hy hty
              obtain ⟨⟨⟨hid, rfl, rfl⟩, ⟨hown, hrow, harow⟩, ⟨hbd, hlen, hsol⟩⟩, rfl⟩ := h5
              rw [hop] at hops
              simp only [Op.operands] at hops
              have hgx := hops x (by simp)
              have hgy := hops y (by simp)
              rw [evS_V] at hx hy
              rw [hgx] at hx
              rw [hgy] at hy
              have hdx := evV_den h1 x
              have hdy := evV_den h1 y
              rw [hx] at hdx
              rw [hy] at hdy
              have hbj : (contL ss (vs.map (·.2)) (Lof listed))[j]? = some [e] := by
                rw [contL_get (by simp; omega)]
                obtain ⟨q, q1, q2⟩ := hal j (by omega)
                rw [hcfree _ j q q1 (fun s hs' => by rw [hk.to] at hs'; cases hs'; exact hLi)]
                rw [List.getElem?_map, List.getElem?_take_of_lt hji] at hal'
                rw [hal'] at q2
                cases q2
                rfl
              obtain ⟨p1, p2⟩ := memL_put (L := Lof listed) (i := 0) (e' := { e with c := a' }) hbj (by rw [Nat.zero_add]; exact hLj)
              have hplen : ((contL ss (vs.map (·.2)) (Lof listed)).take j).flatten.length = ((((vs.take i).map (·.2)).map (·.1)).take j).flatten.length := by
                refine flat_len (by simp [contL_len]; omega) (fun k x y hx hy => ?_)
                have hkj : k < j := by
                  have := (List.getElem?_eq_some_iff.1 hy).1
                  simp at this; omega
                rw [List.getElem?_take_of_lt hkj, contL_get (by simp; omega)] at hx
                cases hx
                rw [List.getElem?_take_of_lt hkj, List.getElem?_map, List.getElem?_map, List.getElem?_take_of_lt (by omega)] at hy
                obtain ⟨q, q1, q2⟩ := hal k (by omega)
                rw [q2] at hy
                cases hy
                exact hclen _ k q q1
              have hget : (st.m ++ memL (contL ss (vs.map (·.2)) (Lof listed)) (Lof listed) 0)[pid]? = some (.ent e) := by
                rw [hid, List.getElem?_append_right (by omega), Nat.add_sub_cancel_left, ← hplen]
                exact p1
              have hset : (st.m ++ memL (contL ss (vs.map (·.2)) (Lof listed)) (Lof listed) 0).set pid (.ent { e with c := a' }) = st.m ++ memL (contL ss (vs.map (·.2)) (updB (Lof listed) i)) (updB (Lof listed) i) 0 := by
                rw [hid, List.set_append_right _ _ (by omega), Nat.add_sub_cancel_left, ← hplen, ← p2]
                congr 1
                have hb' : contL ss (vs.map (·.2)) (updB (Lof listed) i) = (contL ss (vs.map (·.2)) (Lof listed)).set j [{ e with c := a' }] := by
                  apply List.ext_getElem?
                  intro k
                  rw [List.getElem?_set]
                  by_cases hkl : k < (vs.map (·.2)).length
                  · rw [contL_get hkl, contL_get hkl]
                    by_cases hjk : j = k
                    · subst hjk
                      rw [if_pos rfl, if_pos (by rw [contL_len]; exact hkl)]
                      congr 1
                      unfold contAt
                      simp only [hk.to, updB, if_true, hvim]
                      rfl
                    · rw [if_neg hjk]
                      congr 1
                      unfold contAt
                      split
                      · rename_i s hs'
                        have : s ≠ i := fun h => by
                          subst h
                          have := (stB_ok hst0 (stT_mem hs')).of
                          rw [hst] at this
                          exact hjk (Option.some.inj this)
                        simp only [updB, if_neg this]
                      · rfl
                  · rw [List.getElem?_eq_none (by rw [contL_len]; omega), List.getElem?_eq_none (by rw [contL_len]; omega)]
                    simp only [contL_len]
                    split
                    · rename_i hjk
                      subst hjk
                      exact absurd (by simp; omega) hkl
                    · rfl
                rw [hb']
                refine memL_congr (fun k x hx hne => ?_)
                rw [Nat.zero_add]
                simp only [updB]
                split
                · rename_i hki
                  subst hki
                  exfalso
                  rw [List.getElem?_set_ne (by omega), contL_get (by simp; omega)] at hx
                  cases hx
                  refine hne ?_
                  have := hclen (Lof listed) k _ hvim
                  simpa using this
                · rfl
              have hss : stStore T (st.m ++ memL (contL ss (vs.map (·.2)) (Lof listed)) (Lof listed) 0) t (.one (.s (.ptr pid 0 0))) (.one a') (fun m' => m' = st.m ++ memL (contL ss (vs.map (·.2)) (updB (Lof listed) i)) (updB (Lof listed) i) 0) := by
                unfold stStore
                simp only [hty, hget]
                refine ⟨hown, ?_⟩
                cases hec : e.c with
                | st l => rw [hec] at hrow; cases hrow
                | s z => rw [hec] at hrow; cases hrow
                | _ =>
                  simp only
                  cases a' with
                  | st l => cases harow
                  | s z => cases harow
                  | _ =>
                    simp only [wrAt]
                    rw [if_pos hbd]
                    refine ⟨⟨by trivial, hlen.trans hbd.symm, hsol⟩, ?_⟩
                    rw [← hset]
              obtain ⟨m', w', hr, hm', rfl⟩ := stStore_ok hT h2 hdx hdy hss
              unfold Oper.wp
              have hrun : (execOp a.eval o).run P w = .ok .skip w' := by
                simp only [execOp, hop, Sem.run_bind, hr, Result.andThen_ok, Sem.run_pure]
              rw [hrun]
              have hdn : o.dst = none := by
                have := hk.dst
                simpa [dstOf, ho.get] using this
              refine ih _ _ _ inv' hcnt' ⟨ℓ, fun t => ?_, by rw [hLof]; exact hm', ?_, ?_⟩
              · rw [hLof, hdn, view2_congr (L' := Lof listed) (fun j' hj' hjd => ?_)]
                · exact h1 t
                · have : j' ≠ i := fun h => by subst h; rw [hk.dst] at hjd; cases hjd
                  simp only [updB, if_neg this]
              · rw [hdn]; exact h3
              · rw [hdn]; exact h4
            · exact h5.elim
          · exact h5.elim
        | none =>
          simp only [hst] at hex
          obtain ⟨rfl, ⟨hcap, hok⟩, hex⟩ := hex
          have hcu := hupd (by rw [hst]; intro j h; cases h)
          obtain ⟨d, hd⟩ := ho.dst hst
          have hdi : dstOf l i = some d := by simp [dstOf, ho.get, hd]
          have huniq : ∀ j, j < n → dstOf l j = some d → j = i := fun j hj hjd => by
            rcases Nat.decEq i j with h | h
            · exact absurd hjd (ho.uniq j d hj h hdi)
            · exact h.symm
          rw [hd] at hok
          have hok : d < N := hok
          have hview : ∀ t, view2 l n (vals3 vs) st.sl (updB (Lof listed) i) t = if t = d then v else view2 l n (vals3 vs) st.sl (Lof listed) t := by
            intro t
            split
            · rename_i htd
              subst htd
              rw [view2_at (i := i) (fun a b ha hb h1 h2 => (huniq a ha h1).trans (huniq b hb h2).symm) hin hdi (by simp [updB])]
              simp [valAt2, vals3, hvi]
            · rename_i htd
              refine view2_congr (fun j hj hjd => ?_)
              have : j ≠ i := fun h => by subst h; rw [hdi] at hjd; exact htd (Option.some.inj hjd).symm
              simp [updB, this]
          have hsays : ∀ {t : Bool}, says l o (look (push3 ss 0 ((l.take n).take i) (vs.take i) st.sl)) t → Region.wanted o (yielded l.toArray a.tmps) = t := fun hs =>
            wanted_says h1 (says_congr (fun d' hd' => hread d' (by simp [readsOf, hd'])) hs)
          have hci : (contL ss (vs.map (·.2)) (Lof listed))[i]? = some es := by
            rw [contL_get (by simp; omega), hcfree _ i _ hvim (fun s hs' => ?_)]
            have hk := stB_ok hst0 (stT_mem hs')
            cases hLs : Lof listed s with
            | false => rfl
            | true => rw [hWl s i hLs hk.waits] at hLi; cases hLi
          rcases hex with ⟨hsy, hdo⟩ | ⟨hsy, rfl, rfl⟩
          · rw [if_pos (hsays hsy)]
            refine .inl ?_
            have next : ∀ {ℓ' : Nat → Option Loc} {v' : Value} {w' : World}, Le ℓ ℓ' → MH E ℓ' (st.m ++ memL (contL ss (vs.map (·.2)) (Lof listed)) (updB (Lof listed) i) 0) w' → DenV ℓ' v v' → wpAny P .any l.toArray (semK P E N Q0 k) (f + (l.length - n)) (listed.setIfInBounds i true) (a.put o.dst v') w' := by
              intro ℓ' v' w' hle hm' hdv
              refine ih _ _ _ inv' hcnt' ⟨ℓ', fun t => ?_, by rw [hLof, hcu]; exact hm', ?_, ?_⟩
              · rw [hLof, hview, hd]
                exact put_view (fun t => (h1 t).mono hle) (by rw [h4]; exact hok) hdv t
              · rw [hd]; exact h3
              · rw [hd]; simpa [Act.put] using h4
            have hsub : Sub (viewM st.m vis i (((vs.take i).map (·.2)).map (·.1))) (st.m ++ memL (contL ss (vs.map (·.2)) (Lof listed)) (Lof listed) 0) := by
              unfold viewM
              split
              · intro id e hid
                rw [List.getElem?_append_left (List.getElem?_eq_some_iff.1 hid).1]; exact hid
              · intro id e hid
                rcases Nat.lt_or_ge id st.m.length with hl | hl
                · rw [List.getElem?_append_left hl] at hid ⊢; exact hid
                · rw [List.getElem?_append_right hl] at hid ⊢
                  refine memL_sub2 (fun k es' hk' => ?_) _ _ hid
                  have hki : k < i := by
                    have := (List.getElem?_eq_some_iff.1 hk').1
                    simp at this; omega
                  rw [List.getElem?_map, List.getElem?_map, List.getElem?_take_of_lt hki] at hk'
                  obtain ⟨q, q1, q2⟩ := hal k (by omega)
                  rw [q2] at hk'
                  cases hk'
                  refine ⟨contAt ss (vs.map (·.2)) (Lof listed) k, contL_get (by simp; omega), hclen _ k q q1, fun hL => ?_⟩
                  rw [Nat.zero_add] at hL ⊢
                  have hkv : k ∈ visOf vis i := by simpa using hL
                  refine ⟨aw_listed inv 3 i hW k (ho.vis k hkv).2, hcfree _ k q q1 (fun s hs' => ?_)⟩
                  exact absurd hkv ((stB_ok hst0 (stT_mem hs')).vis i hin)
            obtain ⟨k1, k2⟩ := memL_set (L := Lof listed) hci hLi
            have hA : (memL ((contL ss (vs.map (·.2)) (Lof listed)).take i) (Lof listed) 0).length = (((vs.take i).map (·.2)).map (·.1)).flatten.length := by
              rw [memL_len, hpre]
            have hholes : ∀ k, k < es.length → (st.m ++ memL (contL ss (vs.map (·.2)) (Lof listed)) (Lof listed) 0)[st.m.length + (((vs.take i).map (·.2)).map (·.1)).flatten.length + k]? = some .hole := by
              intro k hk
              rw [k1, List.getElem?_append_right (by omega), show st.m.length + (((vs.take i).map (·.2)).map (·.1)).flatten.length + k - st.m.length = (((vs.take i).map (·.2)).map (·.1)).flatten.length + k by omega, ← hA, List.append_assoc, List.getElem?_append_right (by omega), List.getElem?_append_left (by simp; omega)]
              simp [hk]
            have hfill : fillL (st.m ++ memL (contL ss (vs.map (·.2)) (Lof listed)) (Lof listed) 0) (st.m.length + (((vs.take i).map (·.2)).map (·.1)).flatten.length) es = st.m ++ memL (contL ss (vs.map (·.2)) (Lof listed)) (updB (Lof listed) i) 0 := by
              rw [k1, k2, ← List.append_assoc, ← List.append_assoc, fillL_eq (by simp [hA]), List.append_assoc, List.append_assoc, List.append_assoc]
            rcases hdo with hnew | ⟨eo, rfl, halc, hest⟩
            · rw [evS_V, newOf_congr hops] at hnew
              have hn2 := newOf_sub hnmono hsub hnew
              clear hnew
              unfold newOf at hn2
              split at hn2
              · rename_i c hop
                split at hn2
                · rename_i fid hcal
                  have hargs : DenVs ℓ (c.args.toList.map (evV (view2 l n (vals3 vs) st.sl (Lof listed)))) (c.args.toList.map a.eval) := denVs_map (evV_den h1) _
                  obtain ⟨hcallable, hcalls⟩ := hnu _ _ _ _ _ _ hn2 E w ℓ _ h2 hholes hargs
                  rw [hfill] at hcalls
                  have hwp : o.wp P a w (fun a' w' => wpAny P .any l.toArray (semK P E N Q0 k) (f + (l.length - n)) (listed.setIfInBounds i true) a' w') (semK P E N Q0 k) := by
                    clear hn2 hsays hread hview hops
                    obtain ⟨dst, op, type, pos, after, guard⟩ := o
                    simp only at hop; subst hop
                    obtain ⟨callee, cargs, cts⟩ := c
                    simp only at hcal; subst hcal
                    unfold Oper.wp
                    rw [enter_run hcallable]
                    simp only [Oper.upon]
                    refine hcalls.mono ?_
                    rintro e w' ⟨v', ℓ', rfl, hle, hdv, hm'⟩
                    exact next hle hm' hdv
                  exact hwp
                · cases hn2
              · cases hn2
            · have hcg : ∀ K', K' v eo → est T pu (st.m ++ memL (contL ss (vs.map (·.2)) (Lof listed)) (Lof listed) 0) (st.m.length + (((vs.take i).map (·.2)).map (·.1)).flatten.length) (evV (view2 l n (vals3 vs) st.sl (Lof listed))) o K' := by
                intro K' hK'
                have h5 := hest K' hK'
                rw [evS_V, est_congr hops] at h5
                exact est_sub hmono hsub h5
              cases heo : eo with
              | none =>
                subst heo
                have hna : allocs o = false := by simpa using halc.symm
                have h6 := hcg (fun sv e => sv = v ∧ e = none) ⟨rfl, rfl⟩
                rw [est_nid (n' := (st.m ++ memL (contL ss (vs.map (·.2)) (Lof listed)) (Lof listed) 0).length) hna hcap] at h6
                refine est_ok hT hpu h2 (.inl rfl) (evV_den h1) h6 _ _ ?_
                rintro v' w' ⟨sv, e, ℓ', ⟨rfl, rfl⟩, hle, hm', hdv⟩
                refine next hle ?_ hdv
                rw [← hfill]
                exact hm'
              | some e0 =>
                subst heo
                have hget := hholes 0 (by simp)
                rw [Nat.add_zero] at hget
                refine est_ok hT hpu h2 (.inr hget) (evV_den h1) (hcg (fun sv e => sv = v ∧ e = some e0) ⟨rfl, rfl⟩) _ _ ?_
                rintro v' w' ⟨sv, e, ℓ', ⟨rfl, rfl⟩, hle, hm', hdv⟩
                refine next hle ?_ hdv
                rw [← hfill]
                have hlt := (List.getElem?_eq_some_iff.1 hget).1
                have hf : fill (st.m ++ memL (contL ss (vs.map (·.2)) (Lof listed)) (Lof listed) 0) (st.m.length + (((vs.take i).map (·.2)).map (·.1)).flatten.length) e0 = fillL (st.m ++ memL (contL ss (vs.map (·.2)) (Lof listed)) (Lof listed) 0) (st.m.length + (((vs.take i).map (·.2)).map (·.1)).flatten.length) [e0] := by
                  unfold fill
                  rw [if_pos hlt]
                  rfl
                show MH E ℓ' (fillL _ _ [e0]) w'
                rw [← hf]
                exact hm'
          · rw [if_neg (by rw [hsays hsy]; simp)]
            refine ih _ _ _ inv' hcnt' ⟨ℓ, fun t => ?_, ?_, ?_, ?_⟩
            · rw [hLof, hview, hd]
              exact put_view (sv := .tup []) (v := undef) h1 (by rw [h4]; exact hok) ⟨[], rfl, trivial⟩ t
            · rw [hLof, hcu, memL_congr (L' := Lof listed) (fun k e hk hne => ?_)]
              · exact h2
              · simp only [updB, Nat.zero_add]
                split
                · rename_i hki; subst hki; rw [hci] at hk; cases hk; exact absurd rfl hne
                · rfl
            · rw [hd]; exact h3
            · rw [hd]; simpa [Act.put] using h4
  obtain ⟨ℓ, h1, h2, h3, h4⟩ := hh
  have hL0 : ∀ j, Lof (Array.replicate l.toArray.size false) j = false := fun j => getD_replicate_false _ _
  have hc0 : cntF (Lof (Array.replicate l.toArray.size false)) n = n := by
    clear main htr hvl hfin hhead hst0 hseq hc hs hn h
    induction n with
    | zero => rfl
    | succ n ih => simp only [cntF, hL0, ih]; rfl
  have := main n (Array.replicate l.toArray.size false) a0 { w0 with drawn := w0.drawn + 1 }
    ⟨by simp, fun j oj _ hl => (by rw [getD_replicate_false] at hl; cases hl), fun t _ ht => getD_in (by simpa using ht) (getD_replicate_false _ _)⟩ hc0
    ⟨ℓ, fun t => by rw [view2_none (fun j _ _ => hL0 j)]; exact h1 t, (h2.drew).holes (memL_holes hL0), h3, h4⟩
  rw [show n + (l.length - n) = l.toArray.size by simp; omega] at this
  exact this
end
end Go.V
