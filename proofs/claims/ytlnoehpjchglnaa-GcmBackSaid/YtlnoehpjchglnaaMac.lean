/- Texts of the walks, put together: Vz Ya Vs Wa Wb Wc Wd. No condition. -/
import Derived.Test.YtlnoehpjchglnaaMab
import Derived.Test.YtlnoehpjchglnaaProg
import Derived.ProofKit
section
set_option linter.unusedSimpArgs false
set_option linter.unusedVariables false
namespace Go.V
open Go

/-! stores to blocks that the region makes: which operation stores, which one made the block -/
def stOf : List (Nat × Nat) → Nat → Option Nat
  | [], _ => none
  | (s, j) :: r, i => if i = s then some j else stOf r i
def stT : List (Nat × Nat) → Nat → Option Nat
  | [], _ => none
  | (s, j') :: r, j => if j = j' then some s else stT r j
theorem stOf_mem : ∀ {st : List (Nat × Nat)} {i j : Nat}, stOf st i = some j → (i, j) ∈ st
  | (s, j') :: r, i, j, h => by
    simp only [stOf] at h
    split at h
    · rename_i hi; subst hi; cases h; exact List.mem_cons_self
    · exact List.mem_cons_of_mem _ (stOf_mem h)
theorem stT_mem : ∀ {st : List (Nat × Nat)} {s j : Nat}, stT st j = some s → (s, j) ∈ st
  | (s', j') :: r, s, j, h => by
    simp only [stT] at h
    split at h
    · rename_i hi; subst hi; cases h; exact List.mem_cons_self
    · exact List.mem_cons_of_mem _ (stT_mem h)
def stB (l : List Oper) (n : Nat) (vis : List (Nat × List Nat)) (st : List (Nat × Nat)) : Bool := st.all fun p =>
  stOf st p.1 == some p.2 && stT st p.2 == some p.1 && stOf st p.2 == none && decide (p.2 < p.1) && decide (p.1 < n) && Region.waitsFor .any l.toArray p.1 p.2 && (dstOf l p.1).isNone && (l[p.1]?).any (fun o => o.guard.isNone) && ((List.range n).all fun i => !(visOf vis i).contains p.2)
def headB3 (l : List Oper) (n : Nat) (vis : List (Nat × List Nat)) (st : List (Nat × Nat)) : Bool := (List.range n).all fun i => match l[i]? with
  | none => false
  | some o => ((dstOf l i).isSome || (stOf st i).isSome) && ((List.range n).all fun j => i == j || (dstOf l i).isNone || dstOf l j != dstOf l i) &&
    ((List.range n).all fun j => match dstOf l j with | none => true | some d => !(readsOf l o).contains d || (decide (j < i) && Region.waitsFor .any l.toArray i j) || (decide (i < j) && Region.waitsFor .any l.toArray j i)) &&
    (o.after.toList.all fun e => !Region.binds .any e || decide (e.on < i)) &&
    ((visOf vis i).all fun j => decide (j < i) && awB l 3 i j)
def drawB3 (l : List Oper) (n : Nat) (vis : List (Nat × List Nat)) (st : List (Nat × Nat)) : Bool :=
  decide (n < l.length) && Region.sinkB .any l.toArray n && Region.chainB .any l.toArray n && Region.seqB .any l.toArray (l.length - n) n (firstN n (l.length - n)) && headB3 l n vis st && stB l n vis st
/-- What a store puts into a block that the region made. -/
def stoP (T : Tab) (m0 : Mem) (al : List (List Ent × Option Ent)) (j : Nat) (g : Operand → SV) (o : Oper) (K : Ent → Prop) : Prop :=
  match o.op, al[j]? with
  | .store t x y, some ([e], _) => (match g x, g y, T t with
    | .one (.s (.ptr id b off)), .one a, some ty => ((id = m0.length + ((al.map (·.1)).take j).flatten.length ∧ b = 0 ∧ off = 0) ∧ (e.own = true ∧ e.c.isRow = true ∧ a.isRow = true) ∧ (e.bound = ty.size ∧ a.len = ty.size ∧ a.solid = true)) ∧ K { e with c := a }
    | _, _, _ => False)
  | _, _ => False
theorem stoP_det {T : Tab} {m0 : Mem} {al : List (List Ent × Option Ent)} {j : Nat} {g : Operand → SV} {o : Oper} {K : Ent → Prop} (h : stoP T m0 al j g o K) : ∃ e', (∀ K' : Ent → Prop, K' e' → stoP T m0 al j g o K') ∧ K e' := by
  unfold stoP at h ⊢
  split at h
  · split at h
    · exact ⟨_, fun K' hK' => ⟨h.1, hK'⟩, h.2⟩
    · exact h.elim
  · exact h.elim
def contAt (st : List (Nat × Nat)) (al : List (List Ent × Option Ent)) (L : Nat → Bool) (j : Nat) : List Ent :=
  match stT st j with
  | some s => if L s = true then (match (al[s]?).bind (·.2) with | some e' => [e'] | none => (match al[j]? with | some p => p.1 | none => [])) else (match al[j]? with | some p => p.1 | none => [])
  | none => (match al[j]? with | some p => p.1 | none => [])
def contL (st : List (Nat × Nat)) (al : List (List Ent × Option Ent)) (L : Nat → Bool) : List (List Ent) := (List.range al.length).map (contAt st al L)
def finL (st : List (Nat × Nat)) (al : List (List Ent × Option Ent)) : List (List Ent) := contL st al (fun _ => true)
theorem contL_len {st : List (Nat × Nat)} {al : List (List Ent × Option Ent)} {L : Nat → Bool} : (contL st al L).length = al.length := by simp [contL]
theorem contL_get {st : List (Nat × Nat)} {al : List (List Ent × Option Ent)} {L : Nat → Bool} {k : Nat} (hk : k < al.length) : (contL st al L)[k]? = some (contAt st al L k) := by
  simp [contL, hk]
def hd3 (T : Tab) (pu : Pure) (nu : New) (m0 : Mem) (l : List Oper) (vis : List (Nat × List Nat)) (ss : List (Nat × Nat)) (N : Nat) : Nat → List Oper → Slots → List (List Ent × Option Ent) → (Slots → List (List Ent × Option Ent) → Prop) → Prop
  | _, [], sl, al, K => K sl al
  | i, o :: r, sl, al, K => match stOf ss i with
    | some j => stoP T m0 al j (evS sl) o (fun e' => hd3 T pu nu m0 l vis ss N (i + 1) r sl (al ++ [([], some e')]) K)
    | none => (noCap T o = true ∧ okd N o.dst) ∧ match guardTmp l o, o.guard with
      | none, none => hop T pu nu (viewM m0 vis i (al.map (·.1))) (m0.length + (al.map (·.1)).flatten.length) (evS sl) o (fun v es => hd3 T pu nu m0 l vis ss N (i + 1) r (pushD o.dst v sl) (al ++ [(es, none)]) K)
      | some d, some (_, b) => (match look sl d with
        | .one (.s (.b c)) => (c = b → hop T pu nu (viewM m0 vis i (al.map (·.1))) (m0.length + (al.map (·.1)).flatten.length) (evS sl) o (fun v es => hd3 T pu nu m0 l vis ss N (i + 1) r (pushD o.dst v sl) (al ++ [(es, none)]) K)) ∧ (c = (!b) → hd3 T pu nu m0 l vis ss N (i + 1) r (pushD o.dst (.tup []) sl) (al ++ [([], none)]) K)
        | .tup [] => hd3 T pu nu m0 l vis ss N (i + 1) r (pushD o.dst (.tup []) sl) (al ++ [([], none)]) K
        | _ => False)
      | _, _ => False
abbrev Out := SV × List Ent × Option Ent
def Trace3 (T : Tab) (pu : Pure) (nu : New) (m0 : Mem) (l : List Oper) (vis : List (Nat × List Nat)) (ss : List (Nat × Nat)) (N : Nat) : Nat → List Oper → Slots → List (List Ent × Option Ent) → List Out → Prop
  | _, [], _, _, [] => True
  | i, o :: r, sl, al, (v, es, up) :: vs => (match stOf ss i with
    | some j => es = [] ∧ v = .tup [] ∧ ∃ e', up = some e' ∧ ∀ K' : Ent → Prop, K' e' → stoP T m0 al j (evS sl) o K'
    | none => up = none ∧ (noCap T o = true ∧ okd N o.dst) ∧ ((says l o (look sl) true ∧ Doing T pu nu (viewM m0 vis i (al.map (·.1))) (m0.length + (al.map (·.1)).flatten.length) (evS sl) o v es) ∨ (says l o (look sl) false ∧ v = .tup [] ∧ es = []))) ∧
    Trace3 T pu nu m0 l vis ss N (i + 1) r (match stOf ss i with | some _ => sl | none => pushD o.dst v sl) (al ++ [(es, up)]) vs
  | _, _, _, _, _ => False
def push3 (ss : List (Nat × Nat)) : Nat → List Oper → List Out → Slots → Slots
  | i, o :: r, (v, _, _) :: vs, sl => push3 ss (i + 1) r vs (match stOf ss i with | some _ => sl | none => pushD o.dst v sl)
  | _, _, _, sl => sl
theorem hd3_trace {T : Tab} {pu : Pure} {nu : New} {m0 : Mem} {l : List Oper} {vis : List (Nat × List Nat)} {ss : List (Nat × Nat)} {N : Nat} : ∀ (r : List Oper) (i : Nat) (sl : Slots) (al : List (List Ent × Option Ent)) (K : Slots → List (List Ent × Option Ent) → Prop), hd3 T pu nu m0 l vis ss N i r sl al K →
    ∃ vs : List Out, Trace3 T pu nu m0 l vis ss N i r sl al vs ∧ K (push3 ss i r vs sl) (al ++ vs.map (·.2))
  | [], i, sl, al, K, h => ⟨[], trivial, by have h' : K sl al := h; simpa [push3] using h'⟩
  | o :: r, i, sl, al, K, h => by
    unfold hd3 at h
    cases hst : stOf ss i with
    | some j =>
      simp only [hst] at h
      obtain ⟨e', h1, h2⟩ := stoP_det h
      obtain ⟨vs, g1, g2⟩ := hd3_trace r _ _ _ _ h2
      refine ⟨(.tup [], [], some e') :: vs, ⟨?_, ?_⟩, ?_⟩
      · simp only [hst]
        exact ⟨trivial, trivial, e', rfl, h1⟩
      · simpa only [hst] using g1
      · simpa [push3, hst] using g2
    | none =>
      simp only [hst] at h
      obtain ⟨⟨hc, hd⟩, h⟩ := h
      have go : says l o (look sl) true → hop T pu nu (viewM m0 vis i (al.map (·.1))) (m0.length + (al.map (·.1)).flatten.length) (evS sl) o (fun v es => hd3 T pu nu m0 l vis ss N (i + 1) r (pushD o.dst v sl) (al ++ [(es, none)]) K) → ∃ vs : List Out, Trace3 T pu nu m0 l vis ss N i (o :: r) sl al vs ∧ K (push3 ss i (o :: r) vs sl) (al ++ vs.map (·.2)) := by
        intro hs h
        obtain ⟨v, es, h1, h2⟩ := hop_doing hc h
        obtain ⟨vs, g1, g2⟩ := hd3_trace r _ _ _ _ h2
        refine ⟨(v, es, none) :: vs, ⟨?_, ?_⟩, ?_⟩
        · simp only [hst]
          exact ⟨trivial, ⟨hc, hd⟩, .inl ⟨hs, h1⟩⟩
        · simpa only [hst] using g1
        · simpa [push3, hst] using g2
      have sk : says l o (look sl) false → hd3 T pu nu m0 l vis ss N (i + 1) r (pushD o.dst (.tup []) sl) (al ++ [([], none)]) K → ∃ vs : List Out, Trace3 T pu nu m0 l vis ss N i (o :: r) sl al vs ∧ K (push3 ss i (o :: r) vs sl) (al ++ vs.map (·.2)) := by
        intro hs h
        obtain ⟨vs, g1, g2⟩ := hd3_trace r _ _ _ _ h
        refine ⟨(.tup [], [], none) :: vs, ⟨?_, ?_⟩, ?_⟩
        · simp only [hst]
          exact ⟨trivial, ⟨hc, hd⟩, .inr ⟨hs, trivial, trivial⟩⟩
        · simpa only [hst] using g1
        · simpa [push3, hst] using g2
      split at h
      · rename_i h1 h2
        exact go (by simp [says, h1, h2]) h
      · rename_i d b h1 h2
        split at h
        · rename_i c hlk
          by_cases hcb : c = b
          · exact go (by simp only [says, h1, h2]; exact .inl ⟨c, hlk, by simp [hcb]⟩) (h.1 hcb)
          · exact sk (by simp only [says, h1, h2]; exact .inl ⟨c, hlk, by simp [hcb]⟩) (h.2 (by cases c <;> cases b <;> simp_all))
        · rename_i hlk
          exact sk (by simp only [says, h1, h2]; exact .inr ⟨hlk, trivial⟩) h
        · exact h.elim
      · exact h.elim
structure HeadOK3 (l : List Oper) (n : Nat) (vis : List (Nat × List Nat)) (ss : List (Nat × Nat)) (i : Nat) (o : Oper) : Prop where
  get : l[i]? = some o
  dst : stOf ss i = none → ∃ d, o.dst = some d
  uniq : ∀ j d, j < n → i ≠ j → dstOf l i = some d → dstOf l j ≠ some d
  reads : ∀ j d, j < n → dstOf l j = some d → d ∈ readsOf l o → (j < i ∧ Region.waitsFor .any l.toArray i j = true) ∨ (i < j ∧ Region.waitsFor .any l.toArray j i = true)
  back : ∀ e ∈ o.after, Region.binds .any e = true → e.on < i
  vis : ∀ j ∈ visOf vis i, j < i ∧ awB l 3 i j = true
theorem headB3_ok {l : List Oper} {n : Nat} {vis : List (Nat × List Nat)} {ss : List (Nat × Nat)} (h : headB3 l n vis ss = true) {i : Nat} (hi : i < n) : ∃ o, HeadOK3 l n vis ss i o := by
  have h1 := List.all_eq_true.1 h i (List.mem_range.2 hi)
  split at h1
  · cases h1
  · rename_i o ho
    simp only [Bool.and_eq_true] at h1
    obtain ⟨⟨⟨⟨a, b⟩, c⟩, d⟩, e⟩ := h1
    have hd : dstOf l i = o.dst := by simp [dstOf, ho]
    refine ⟨o, ho, fun hs => ?_, fun j x hj hij hx hjx => ?_, fun j x hj hx hr => ?_, fun e he hb => ?_, fun j hj => ?_⟩
    · simp only [hs, Option.isSome_none, Bool.or_false] at a
      exact Option.isSome_iff_exists.1 (hd ▸ a)
    · have := List.all_eq_true.1 b j (List.mem_range.2 hj)
      simp only [Bool.or_eq_true, beq_iff_eq, bne_iff_ne, hx, hjx] at this
      rcases this with (h | h) | h
      · exact hij h
      · cases h
      · exact h rfl
    · have := List.all_eq_true.1 c j (List.mem_range.2 hj)
      simp only [hx, Bool.or_eq_true, Bool.not_eq_true', Bool.and_eq_true, decide_eq_true_eq] at this
      rcases this with (h2 | h2) | h2
      · have h3 : (readsOf l o).contains x = true := by simpa using hr
        rw [h2] at h3; cases h3
      · exact .inl h2
      · exact .inr h2
    · have := List.all_eq_true.1 d e (by simpa using he)
      simp only [Bool.or_eq_true, Bool.not_eq_true', decide_eq_true_eq, hb] at this
      simpa using this
    · have := List.all_eq_true.1 e j hj
      simpa using this
structure StOK (l : List Oper) (n : Nat) (vis : List (Nat × List Nat)) (ss : List (Nat × Nat)) (s j : Nat) : Prop where
  of : stOf ss s = some j
  to : stT ss j = some s
  plain : stOf ss j = none
  lt : j < s
  ltn : s < n
  waits : Region.waitsFor .any l.toArray s j = true
  dst : dstOf l s = none
  guard : ∀ o, l[s]? = some o → o.guard = none
  vis : ∀ i, i < n → j ∉ visOf vis i
theorem stB_ok {l : List Oper} {n : Nat} {vis : List (Nat × List Nat)} {ss : List (Nat × Nat)} (h : stB l n vis ss = true) {s j : Nat} (hm : (s, j) ∈ ss) : StOK l n vis ss s j := by
  have h1 := List.all_eq_true.1 h _ hm
  simp only [Bool.and_eq_true, beq_iff_eq, decide_eq_true_eq] at h1
  obtain ⟨⟨⟨⟨⟨⟨⟨⟨a, b⟩, c⟩, d⟩, e⟩, f⟩, g⟩, i⟩, k⟩ := h1
  refine ⟨a, b, c, d, e, f, by simpa using g, fun o ho => ?_, fun i' hi' hc => ?_⟩
  · rw [ho] at i
    simpa using i
  · have := List.all_eq_true.1 k i' (List.mem_range.2 hi')
    simp only [Bool.not_eq_true'] at this
    have h2 : (visOf vis i').contains j = true := by simpa using hc
    rw [this] at h2; cases h2
section
variable {T : Tab} {pu : Pure} {nu : New} {m0 : Mem} {l : List Oper} {vis : List (Nat × List Nat)} {ss : List (Nat × Nat)} {N : Nat}
theorem trace3_len : ∀ {r : List Oper} {i : Nat} {sl : Slots} {al : List (List Ent × Option Ent)} {vs : List Out}, Trace3 T pu nu m0 l vis ss N i r sl al vs → vs.length = r.length
  | [], i, sl, al, [], _ => rfl
  | o :: r, i, sl, al, (v, es, up) :: vs, h => by simp [trace3_len h.2]
  | [], _, _, _, _ :: _, h => h.elim
  | _ :: _, _, _, _, [], h => h.elim
theorem trace3_at : ∀ {r : List Oper} {i0 : Nat} {sl : Slots} {al : List (List Ent × Option Ent)} {vs : List Out}, Trace3 T pu nu m0 l vis ss N i0 r sl al vs → ∀ {i : Nat} {o : Oper}, r[i]? = some o →
    ∃ v es up, vs[i]? = some (v, es, up) ∧ (match stOf ss (i0 + i) with
    | some j => es = [] ∧ v = .tup [] ∧ ∃ e', up = some e' ∧ ∀ K' : Ent → Prop, K' e' → stoP T m0 (al ++ (vs.take i).map (·.2)) j (evS (push3 ss i0 (r.take i) (vs.take i) sl)) o K'
    | none => up = none ∧ (noCap T o = true ∧ okd N o.dst) ∧ ((says l o (look (push3 ss i0 (r.take i) (vs.take i) sl)) true ∧ Doing T pu nu (viewM m0 vis (i0 + i) ((al ++ (vs.take i).map (·.2)).map (·.1))) (m0.length + ((al ++ (vs.take i).map (·.2)).map (·.1)).flatten.length) (evS (push3 ss i0 (r.take i) (vs.take i) sl)) o v es) ∨ (says l o (look (push3 ss i0 (r.take i) (vs.take i) sl)) false ∧ v = .tup [] ∧ es = [])))
  | [], i0, sl, al, vs, _, i, o, hi => by simp at hi
  | o0 :: r, i0, sl, al, [], h, _, _, _ => h.elim
  | o0 :: r, i0, sl, al, (v, es, up) :: vs, h, 0, o, hi => by
    simp at hi; subst hi
    exact ⟨v, es, up, by simp, by simpa [push3] using h.1⟩
  | o0 :: r, i0, sl, al, (v, es, up) :: vs, h, i + 1, o, hi => by
    obtain ⟨v', es', up', g1, g2⟩ := trace3_at h.2 (i := i) (o := o) (by simpa using hi)
    refine ⟨v', es', up', by simpa using g1, ?_⟩
    simp only [List.take_succ_cons, push3, List.map_cons]
    rw [show i0 + (i + 1) = i0 + 1 + i by omega, show al ++ (es, up) :: (vs.take i).map (·.2) = al ++ [(es, up)] ++ (vs.take i).map (·.2) by simp]
    exact g2
theorem push3_succ : ∀ {r : List Oper} {i0 : Nat} {vs : List Out} {sl : Slots} {i : Nat} {o : Oper} {v : SV} {es : List Ent} {up : Option Ent}, r[i]? = some o → vs[i]? = some (v, es, up) →
    push3 ss i0 (r.take (i + 1)) (vs.take (i + 1)) sl = match stOf ss (i0 + i) with | some _ => push3 ss i0 (r.take i) (vs.take i) sl | none => pushD o.dst v (push3 ss i0 (r.take i) (vs.take i) sl)
  | [], i0, vs, sl, i, o, v, es, up, h, _ => by simp at h
  | _ :: r, i0, [], sl, i, o, v, es, up, _, h => by simp at h
  | o0 :: r, i0, (v0, e0, u0) :: vs, sl, 0, o, v, es, up, h, h2 => by
    simp at h h2; subst h; obtain ⟨rfl, rfl, rfl⟩ := h2
    simp [push3]
  | o0 :: r, i0, (v0, e0, u0) :: vs, sl, i + 1, o, v, es, up, h, h2 => by
    simp only [List.take_succ_cons, push3]
    rw [show i0 + (i + 1) = i0 + 1 + i by omega]
    exact push3_succ (by simpa using h) (by simpa using h2)
/-- The values alone. -/
def vals3 (vs : List Out) : List (SV × List Ent) := vs.map (fun p => (p.1, p.2.1))
theorem look_prefix3 {n : Nat} (hn : n ≤ l.length) (hB : headB3 l n vis ss = true) (hS : stB l n vis ss = true) {vs : List Out} {sl : Slots} (hv : vs.length = n) : ∀ (i : Nat), i ≤ n → ∀ t, look (push3 ss 0 ((l.take n).take i) (vs.take i) sl) t = view2 l n (vals3 vs) sl (fun j => decide (j < i)) t
  | 0, _, t => by
    rw [view2_none (fun j _ _ => by simp)]
    simp [push3]
  | i + 1, hi, t => by
    obtain ⟨o, ho⟩ := headB3_ok hB (i := i) (by omega)
    have hl : (l.take n)[i]? = some o := by rw [List.getElem?_take_of_lt (by omega)]; exact ho.get
    have hvi : vs[i]? = some vs[i] := List.getElem?_eq_getElem (by omega)
    rw [push3_succ (v := vs[i].1) (es := vs[i].2.1) (up := vs[i].2.2) hl hvi, Nat.zero_add]
    cases hst : stOf ss i with
    | some j =>
      simp only
      rw [look_prefix3 hn hB hS hv i (by omega) t]
      refine view2_congr (fun k hk hkd => ?_)
      have hne : k ≠ i := fun h => by
        subst h
        rw [(stB_ok hS (stOf_mem hst)).dst] at hkd
        cases hkd
      simp only [decide_eq_decide]; omega
    | none =>
      simp only
      obtain ⟨d, hd⟩ := ho.dst hst
      have hdi : dstOf l i = some d := by simp [dstOf, ho.get, hd]
      rw [hd]
      show (if t = d then vs[i].1 else look (push3 ss 0 ((l.take n).take i) (vs.take i) sl) t) = _
      have huniq : ∀ j, j < n → dstOf l j = some d → j = i := fun j hj hjd => by
        rcases Nat.decEq i j with h | h
        · exact absurd hjd (ho.uniq j d hj h hdi)
        · exact h.symm
      split
      · rename_i htd
        subst htd
        rw [view2_at (i := i) (fun a b ha hb h1 h2 => (huniq a ha h1).trans (huniq b hb h2).symm) (by omega) hdi (by simp)]
        simp [valAt2, vals3, hvi]
      · rename_i htd
        rw [look_prefix3 hn hB hS hv i (by omega) t]
        refine view2_congr (fun j hj hjd => ?_)
        have : j ≠ i := fun h => by subst h; rw [hdi] at hjd; exact htd (Option.some.inj hjd).symm
        simp only [decide_eq_decide]; omega
end
/-- More is known of the second list of blocks. -/
theorem memL_sub2 : ∀ {a b : List (List Ent)} {L L' : Nat → Bool} {i : Nat}, (∀ (k : Nat) (es : List Ent), a[k]? = some es → ∃ fs, b[k]? = some fs ∧ fs.length = es.length ∧ (L (i + k) = true → L' (i + k) = true ∧ fs = es)) → ∀ (p : Nat) (e : Ent), (memL a L i)[p]? = some (.ent e) → (memL b L' i)[p]? = some (.ent e)
  | [], b, L, L', i, _, p, e, hp => by simp [memL] at hp
  | es :: a, [], L, L', i, h, p, e, hp => by obtain ⟨fs, h1, _⟩ := h 0 es rfl; simp at h1
  | es :: a, fs :: b, L, L', i, h, p, e, hp => by
    obtain ⟨fs', h1, h2, h3⟩ := h 0 es rfl
    simp at h1; subst h1
    simp only [memL] at hp ⊢
    rcases Nat.lt_or_ge p es.length with hl | hl
    · rw [List.getElem?_append_left (by simpa using hl)] at hp
      rw [List.getElem?_append_left (by simpa [h2] using hl)]
      rw [List.getElem?_map, List.getElem?_eq_getElem hl] at hp
      simp only [Option.map_some, Option.some.injEq] at hp
      split at hp
      · rename_i hL
        obtain ⟨g1, g2⟩ := h3 hL
        subst g2
        rw [List.getElem?_map, List.getElem?_eq_getElem hl]
        simp only [Option.map_some, Option.some.injEq]
        rw [if_pos (show L' i = true from g1)]
        exact hp
      · cases hp
    · rw [List.getElem?_append_right (by simpa using hl)] at hp
      rw [List.getElem?_append_right (by simpa [h2] using hl)]
      simp only [List.length_map] at hp ⊢
      rw [h2]
      exact memL_sub2 (a := a) (b := b) (fun k es' hk => by
        obtain ⟨fs', q1, q2, q3⟩ := h (k + 1) es' (by simpa using hk)
        refine ⟨fs', by simpa using q1, q2, fun hL => ?_⟩
        rw [show i + 1 + k = i + (k + 1) by omega] at hL ⊢
        exact q3 hL) _ _ hp
theorem flat_len : ∀ {a b : List (List Ent)}, a.length = b.length → (∀ (k : Nat) (es fs : List Ent), a[k]? = some es → b[k]? = some fs → es.length = fs.length) → a.flatten.length = b.flatten.length
  | [], [], _, _ => rfl
  | [], _ :: _, h, _ => by simp at h
  | _ :: _, [], h, _ => by simp at h
  | es :: a, fs :: b, h, hk => by
    simp only [List.flatten_cons, List.length_append]
    rw [hk 0 es fs rfl rfl, flat_len (by simpa using h) (fun k x y hx hy => hk (k + 1) x y (by simpa using hx) (by simpa using hy))]
/-- One block of the list is put otherwise. -/
theorem memL_put : ∀ {a : List (List Ent)} {L : Nat → Bool} {i j : Nat} {e e' : Ent}, a[j]? = some [e] → L (i + j) = true →
    (memL a L i)[(a.take j).flatten.length]? = some (.ent e) ∧ memL (a.set j [e']) L i = (memL a L i).set (a.take j).flatten.length (.ent e')
  | [], L, i, j, e, e', h, _ => by simp at h
  | es :: a, L, i, 0, e, e', h, hL => by
    simp at h; subst h
    rw [Nat.add_zero] at hL
    simp [memL, hL]
  | es :: a, L, i, j + 1, e, e', h, hL => by
    obtain ⟨h1, h2⟩ := memL_put (a := a) (L := L) (i := i + 1) (j := j) (e := e) (e' := e') (by simpa using h) (by rw [show i + 1 + j = i + (j + 1) by omega]; exact hL)
    constructor
    · simp only [memL, List.take_succ_cons, List.flatten_cons, List.length_append]
      rw [List.getElem?_append_right (by simp)]
      simpa using h1
    · simp only [memL, List.set_cons_succ, List.take_succ_cons, List.flatten_cons, List.length_append, h2]
      rw [List.set_append_right _ _ (by simp)]
      simp
section
variable {P : Program} {E : Env} {N : Nat} {l : List Oper}
theorem ok_draw4 {T : Tab} {pu : Pure} {nu : New} {vis : List (Nat × List Nat)} {ss : List (Nat × Nat)} (hT : TabOK P T) (hpu : PureOK P pu) (hnu : NewOK P nu) (hmono : PureSub pu) (hnmono : NewSub nu) (hmix : P.follows .mixedOrders = true) {Q0 : Exit → Act → World → Prop} {id n : Nat} {k : List Item} {st : St} (hB : drawB3 l n vis ss = true)
    (h : hd3 T pu nu st.m l vis ss N 0 (l.take n) st.sl [] (fun sl al => Ok P E N Q0 (.ops l (l.drop n) :: k) ⟨sl, st.m ++ (finL ss al).flatten.map .ent⟩)) : Ok P E N Q0 (.code (.region id l.toArray true) :: k) st := by
  simp only [drawB3, Bool.and_eq_true, decide_eq_true_eq] at hB
  obtain ⟨⟨⟨⟨⟨hn, hs⟩, hc⟩, hseq⟩, hhead⟩, hst0⟩ := hB
  obtain ⟨vs, htr, hfin⟩ := hd3_trace _ _ _ _ _ h
  have hvl : vs.length = n := by rw [trace3_len htr]; simp; omega
  simp only [List.nil_append] at hfin
  intro a0 w0 hh
  show (Code.region id l.toArray true).wp P (semK P E N Q0 k) a0 w0
  refine wp_region_any hmix ?_
  have main : ∀ (f : Nat) (listed : Array Bool) (a : Act) (w : World), HeadInv .any l.toArray n listed → cntF (Lof listed) n = f →
      (∃ ℓ, (∀ t, DenV ℓ (view2 l n (vals3 vs) st.sl (Lof listed) t) (a.tmps.getD t undef)) ∧ MH E ℓ (st.m ++ memL (contL ss (vs.map (·.2)) (Lof listed)) (Lof listed) 0) w ∧ a.defers = [] ∧ a.tmps.size = N) →
      wpAny P .any l.toArray (semK P E N Q0 k) (f + (l.length - n)) listed a w := by
    intro f
    induction f with
    | zero =>
      intro listed a w inv hcnt ⟨ℓ, h1, h2, h3, h4⟩
      have hall := cntF_zero hcnt
      have hlist : listed = firstN n (l.length - n) := by
        have hsz := inv.size
        simp only [List.size_toArray] at hsz
        refine Array.ext (by simp [firstN, hsz]; omega) (fun j hj hj2 => ?_)
        rcases Nat.lt_or_ge j n with hjn | hjn
        · have := hall j hjn
          simp only [Lof] at this
          rw [Array.getD_eq_getD_getElem?, Array.getElem?_eq_getElem hj] at this
          simp only [Option.getD_some] at this
          rw [this]
          simp [firstN, List.getElem_append, hjn]
        · have := inv.tail j hjn (by simp; omega)
          rw [Array.getD_eq_getD_getElem?, Array.getElem?_eq_getElem hj] at this
          simp only [Option.getD_some] at this
          rw [this]
          simp [firstN, List.getElem_append, Nat.not_lt.2 hjn]
      have hdl : (l.drop n).length = l.length - n := by simp
      rw [Nat.zero_add, ← hdl]
      refine wpAny_of_seq (l.drop n) n listed a w (fun j => by simp) (by rw [hdl, hlist]; exact hseq) ?_
      refine hfin a w ⟨ℓ, fun t => ?_, ?_, h3, h4⟩
      · have hpf := look_prefix3 (Nat.le_of_lt hn) hhead hst0 (sl := st.sl) hvl n (Nat.le_refl _) t
        rw [List.take_take, Nat.min_self, List.take_of_length_le (l := vs) (by omega)] at hpf
        show DenV ℓ (look (push3 ss 0 (l.take n) vs st.sl) t) _
        rw [hpf]
        rw [view2_congr (L' := Lof listed) (fun j hj _ => by rw [hall j hj]; simpa using hj)]
        exact h1 t
      · rw [memL_all (fun k hk => by rw [Nat.zero_add]; rw [contL_len] at hk; exact hall k (by simpa [hvl] using hk))] at h2
        have hfl : contL ss (vs.map (·.2)) (Lof listed) = finL ss (vs.map (·.2)) := by
          unfold finL contL
          refine List.map_congr_left (fun j _ => ?_)
          unfold contAt
          split
          · rename_i s hs'
            rw [hall s (stB_ok hst0 (stT_mem hs')).ltn]
          · rfl
        rw [hfl] at h2
        exact h2
    | succ f ih =>
      intro listed a w inv hcnt hD
      have hsz : listed.size = l.length := by simpa using inv.size
      obtain ⟨i0, hi0, hL0, hless⟩ := cntF_least (L := Lof listed) (n := n) (by omega)
      have hun : listed.getD i0 true = false := getD_in (by omega) hL0
      rw [show f + 1 + (l.length - n) = (f + (l.length - n)) + 1 by omega]
      refine ⟨fun hr => ?_, fun i hi => ?_⟩
      · exfalso
        obtain ⟨o, ho⟩ := headB3_ok hhead hi0
        have : i0 ∈ Region.ready .any l.toArray listed := mem_ready.2 ⟨hun, o, by simpa using ho.get, fun e he hb => hless _ (ho.back e he hb)⟩
        rw [hr] at this; cases this
      · have hin : i < n := by
          rcases Nat.lt_or_ge i n with hx | hx
          · exact hx
          · exact absurd hi (tail_waits hs hc (by simpa using hn) inv _ i0 rfl hi0 hun i hx)
        obtain ⟨hiun, oi', hoi', hall⟩ := mem_ready.1 hi
        obtain ⟨o, ho⟩ := headB3_ok hhead hin
        have hoi : l.toArray[i]? = some o := by simpa using ho.get
        obtain rfl : o = oi' := Option.some.inj (hoi.symm.trans hoi')
        have hLi : Lof listed i = false := getD_both hiun
        have inv' := inv.set hi hin
        have hLof := Lof_set (listed := listed) (i := i) (by omega)
        have hcnt' : cntF (Lof (listed.setIfInBounds i true)) n = f := by
          rw [hLof]
          have := cntF_set hin hLi
          omega
        obtain ⟨v, es, up, hvi, hex⟩ := trace3_at htr (i := i) (o := o) (by rw [List.getElem?_take_of_lt hin]; exact ho.get)
        simp only [Nat.zero_add, List.nil_append] at hex
        obtain ⟨ℓ, h1, h2, h3, h4⟩ := hD
        have hW : ∀ m, Region.waitsFor .any l.toArray i m = true → Lof listed m = true := fun m hw => by
          obtain ⟨oj, hoj, e, he, hb, hon⟩ := Region.waitsFor_spec hw
          obtain rfl : o = oj := Option.some.inj (hoi.symm.trans hoj)
          have := hall e he hb
          rw [hon] at this
          exact this
        have hWl : ∀ j m, Lof listed j = true → Region.waitsFor .any l.toArray j m = true → Lof listed m = true := fun j m hj hw => by
          obtain ⟨oj, hoj, e, he, hb, hon⟩ := Region.waitsFor_spec hw
          have := inv.closed j oj hoj hj e he hb
          rw [hon] at this
          exact this
        have hread : ∀ t, t ∈ readsOf l o → look (push3 ss 0 ((l.take n).take i) (vs.take i) st.sl) t = view2 l n (vals3 vs) st.sl (Lof listed) t := by
          intro t ht
          rw [look_prefix3 (Nat.le_of_lt hn) hhead hst0 hvl i (by omega) t]
          refine view2_congr (fun j hj hjd => ?_)
          show decide (j < i) = Lof listed j
          rcases ho.reads j t hj hjd ht with ⟨hji, hw⟩ | ⟨hij, hw⟩
          · rw [hW j hw]
            simpa using hji
          · cases hLj : Lof listed j with
            | false => simp; omega
            | true =>
              rw [hWl j i hLj hw] at hLi
              cases hLi
        have hops : ∀ x ∈ o.op.operands.toList, evV (look (push3 ss 0 ((l.take n).take i) (vs.take i) st.sl)) x = evV (view2 l n (vals3 vs) st.sl (Lof listed)) x := fun x hx => by
          cases x with
          | tmp t =>
            refine hread t ?_
            simp only [readsOf, tmpsOf, List.mem_append, List.mem_filterMap]
            exact .inl ⟨.tmp t, hx, rfl⟩
          | _ => rfl
        -- the blocks of the operations, as they lie now
        have hal : ∀ k, k < n → ∃ q, (vs.map (·.2))[k]? = some q ∧ (vs[k]?).map (·.2) = some q := fun k hk => ⟨vs[k].2, by simp [hvl, hk], by simp [hvl, hk]⟩
        have htgt : ∀ s j, stT ss j = some s → ∃ e u, (vs.map (·.2))[j]? = some ([e], u) := by
          intro s j hsj
          have hk := stB_ok hst0 (stT_mem hsj)
          obtain ⟨os, hos⟩ := headB3_ok hhead hk.ltn
          obtain ⟨v', es', up', q1, q2⟩ := trace3_at htr (i := s) (o := os) (by rw [List.getElem?_take_of_lt hk.ltn]; exact hos.get)
          simp only [Nat.zero_add, List.nil_append, hk.of] at q2
          obtain ⟨_, _, e', _, hst⟩ := q2
          have := hst (fun _ => True) trivial
          unfold stoP at this
          split at this
          · rename_i t x y e u hop hal'
            refine ⟨e, u, ?_⟩
            rw [List.getElem?_map] at hal' ⊢
            rw [List.getElem?_take_of_lt hk.lt] at hal'
            exact hal'
          · exact this.elim
        have hclen : ∀ (L : Nat → Bool) k q, (vs.map (·.2))[k]? = some q → (contAt ss (vs.map (·.2)) L k).length = q.1.length := by
          intro L k q hq
          unfold contAt
          simp only [hq]
          split
          · rename_i s hs'
            obtain ⟨e, u, he⟩ := htgt s k hs'
            rw [hq] at he
            cases he
            split
            · split <;> rfl
            · rfl
          · rfl
        have hcfree : ∀ (L : Nat → Bool) k q, (vs.map (·.2))[k]? = some q → (∀ s, stT ss k = some s → L s = false) → contAt ss (vs.map (·.2)) L k = q.1 := by
          intro L k q hq hfree
          unfold contAt
          simp only [hq]
          split
          · rename_i s hs'
            rw [hfree s hs']
            simp
          · rfl
        have hvim : (vs.map (·.2))[i]? = some (es, up) := by simp [hvi]
        have hpre : ∀ (L : Nat → Bool), ((contL ss (vs.map (·.2)) L).take i).flatten.length = (((vs.take i).map (·.2)).map (·.1)).flatten.length := by
          intro L
          refine flat_len (by simp [contL_len]) (fun k x y hx hy => ?_)
          have hk : k < i := by
            have := (List.getElem?_eq_some_iff.1 hy).1
            simp at this; omega
          rw [List.getElem?_take_of_lt hk, contL_get (by simp; omega)] at hx
          cases hx
          rw [List.getElem?_map, List.getElem?_map, List.getElem?_take_of_lt hk] at hy
          obtain ⟨q, q1, q2⟩ := hal k (by omega)
          rw [q2] at hy
          cases hy
          exact hclen L k q q1
        have hupd : ∀ (hno : ∀ j, stOf ss i ≠ some j), contL ss (vs.map (·.2)) (updB (Lof listed) i) = contL ss (vs.map (·.2)) (Lof listed) := by
          intro hno
          unfold contL
          refine List.map_congr_left (fun j _ => ?_)
          unfold contAt
          split
          · rename_i s hs'
            have : s ≠ i := fun h => by subst h; exact hno _ (stB_ok hst0 (stT_mem hs')).of
            simp only [updB, if_neg this]
          · rfl
        unfold wpOp
        simp only [hoi]
        cases hst : stOf ss i with
        | some j =>
          simp only [hst] at hex
          obtain ⟨rfl, rfl, e', rfl, hsto⟩ := hex
          have hk := stB_ok hst0 (stOf_mem hst)
          have hLj := hW j hk.waits
          have hji := hk.lt
          rw [if_pos (by simp [Region.wanted, hk.guard o ho.get])]
          refine .inl ?_
          have h5 := hsto (fun x => x = e') rfl
          unfold stoP at h5
          split at h5
          · rename_i t x y e u hop hal'
            split at h5
            · rename_i pid pb po a' ty hx hy hty
              obtain ⟨⟨⟨hid, rfl, rfl⟩, ⟨hown, hrow, harow⟩, ⟨hbd, hlen, hsol⟩⟩, rfl⟩ := h5
              rw [hop] at hops
              simp only [Op.operands] at hops
              have hgx := hops x (by simp)
              have hgy := hops y (by simp)
              rw [evS_V] at hx hy
              rw [hgx] at hx
              rw [hgy] at hy
              have hdx := evV_den h1 x
              have hdy := evV_den h1 y
              rw [hx] at hdx
              rw [hy] at hdy
              have hbj : (contL ss (vs.map (·.2)) (Lof listed))[j]? = some [e] := by
                rw [contL_get (by simp; omega)]
                obtain ⟨q, q1, q2⟩ := hal j (by omega)
                rw [hcfree _ j q q1 (fun s hs' => by rw [hk.to] at hs'; cases hs'; exact hLi)]
                rw [List.getElem?_map, List.getElem?_take_of_lt hji] at hal'
                rw [hal'] at q2
                cases q2
                rfl
              obtain ⟨p1, p2⟩ := memL_put (L := Lof listed) (i := 0) (e' := { e with c := a' }) hbj (by rw [Nat.zero_add]; exact hLj)
              have hplen : ((contL ss (vs.map (·.2)) (Lof listed)).take j).flatten.length = ((((vs.take i).map (·.2)).map (·.1)).take j).flatten.length := by
                refine flat_len (by simp [contL_len]; omega) (fun k x y hx hy => ?_)
                have hkj : k < j := by
                  have := (List.getElem?_eq_some_iff.1 hy).1
                  simp at this; omega
                rw [List.getElem?_take_of_lt hkj, contL_get (by simp; omega)] at hx
                cases hx
                rw [List.getElem?_take_of_lt hkj, List.getElem?_map, List.getElem?_map, List.getElem?_take_of_lt (by omega)] at hy
                obtain ⟨q, q1, q2⟩ := hal k (by omega)
                rw [q2] at hy
                cases hy
                exact hclen _ k q q1
              have hget : (st.m ++ memL (contL ss (vs.map (·.2)) (Lof listed)) (Lof listed) 0)[pid]? = some (.ent e) := by
                rw [hid, List.getElem?_append_right (by omega), Nat.add_sub_cancel_left, ← hplen]
                exact p1
              have hset : (st.m ++ memL (contL ss (vs.map (·.2)) (Lof listed)) (Lof listed) 0).set pid (.ent { e with c := a' }) = st.m ++ memL (contL ss (vs.map (·.2)) (updB (Lof listed) i)) (updB (Lof listed) i) 0 := by
                rw [hid, List.set_append_right _ _ (by omega), Nat.add_sub_cancel_left, ← hplen, ← p2]
                congr 1
                have hb' : contL ss (vs.map (·.2)) (updB (Lof listed) i) = (contL ss (vs.map (·.2)) (Lof listed)).set j [{ e with c := a' }] := by
                  apply List.ext_getElem?
                  intro k
                  rw [List.getElem?_set]
                  by_cases hkl : k < (vs.map (·.2)).length
                  · rw [contL_get hkl, contL_get hkl]
                    by_cases hjk : j = k
                    · subst hjk
                      rw [if_pos rfl, if_pos (by rw [contL_len]; exact hkl)]
                      congr 1
                      unfold contAt
                      simp only [hk.to, updB, if_true, hvim]
                      rfl
                    · rw [if_neg hjk]
                      congr 1
                      unfold contAt
                      split
                      · rename_i s hs'
                        have : s ≠ i := fun h => by
                          subst h
                          have := (stB_ok hst0 (stT_mem hs')).of
                          rw [hst] at this
                          exact hjk (Option.some.inj this)
                        simp only [updB, if_neg this]
                      · rfl
                  · rw [List.getElem?_eq_none (by rw [contL_len]; omega), List.getElem?_eq_none (by rw [contL_len]; omega)]
                    simp only [contL_len]
                    split
                    · rename_i hjk
                      subst hjk
                      exact absurd (by simp; omega) hkl
                    · rfl
                rw [hb']
                refine memL_congr (fun k x hx hne => ?_)
                rw [Nat.zero_add]
                simp only [updB]
                split
                · rename_i hki
                  subst hki
                  exfalso
                  rw [List.getElem?_set_ne (by omega), contL_get (by simp; omega)] at hx
                  cases hx
                  refine hne ?_
                  have := hclen (Lof listed) k _ hvim
                  simpa using this
                · rfl
              have hss : stStore T (st.m ++ memL (contL ss (vs.map (·.2)) (Lof listed)) (Lof listed) 0) t (.one (.s (.ptr pid 0 0))) (.one a') (fun m' => m' = st.m ++ memL (contL ss (vs.map (·.2)) (updB (Lof listed) i)) (updB (Lof listed) i) 0) := by
                unfold stStore
                simp only [hty, hget]
                refine ⟨hown, ?_⟩
                cases hec : e.c with
                | st l => rw [hec] at hrow; cases hrow
                | s z => rw [hec] at hrow; cases hrow
                | _ =>
                  simp only
                  cases a' with
                  | st l => cases harow
                  | s z => cases harow
                  | _ =>
                    simp only [wrAt]
                    rw [if_pos hbd]
                    refine ⟨⟨by trivial, hlen.trans hbd.symm, hsol⟩, ?_⟩
                    rw [← hset]
              obtain ⟨m', w', hr, hm', rfl⟩ := stStore_ok hT h2 hdx hdy hss
              unfold Oper.wp
              have hrun : (execOp a.eval o).run P w = .ok .skip w' := by
                simp only [execOp, hop, Sem.run_bind, hr, Result.andThen_ok, Sem.run_pure]
              rw [hrun]
              have hdn : o.dst = none := by
                have := hk.dst
                simpa [dstOf, ho.get] using this
              refine ih _ _ _ inv' hcnt' ⟨ℓ, fun t => ?_, by rw [hLof]; exact hm', ?_, ?_⟩
              · rw [hLof, hdn, view2_congr (L' := Lof listed) (fun j' hj' hjd => ?_)]
                · exact h1 t
                · have : j' ≠ i := fun h => by subst h; rw [hk.dst] at hjd; cases hjd
                  simp only [updB, if_neg this]
              · rw [hdn]; exact h3
              · rw [hdn]; exact h4
            · exact h5.elim
          · exact h5.elim
        | none =>
          simp only [hst] at hex
          obtain ⟨rfl, ⟨hcap, hok⟩, hex⟩ := hex
          have hcu := hupd (by rw [hst]; intro j h; cases h)
          obtain ⟨d, hd⟩ := ho.dst hst
          have hdi : dstOf l i = some d := by simp [dstOf, ho.get, hd]
          have huniq : ∀ j, j < n → dstOf l j = some d → j = i := fun j hj hjd => by
            rcases Nat.decEq i j with h | h
            · exact absurd hjd (ho.uniq j d hj h hdi)
            · exact h.symm
          rw [hd] at hok
          have hok : d < N := hok
          have hview : ∀ t, view2 l n (vals3 vs) st.sl (updB (Lof listed) i) t = if t = d then v else view2 l n (vals3 vs) st.sl (Lof listed) t := by
            intro t
            split
            · rename_i htd
              subst htd
              rw [view2_at (i := i) (fun a b ha hb h1 h2 => (huniq a ha h1).trans (huniq b hb h2).symm) hin hdi (by simp [updB])]
              simp [valAt2, vals3, hvi]
            · rename_i htd
              refine view2_congr (fun j hj hjd => ?_)
              have : j ≠ i := fun h => by subst h; rw [hdi] at hjd; exact htd (Option.some.inj hjd).symm
              simp [updB, this]
          have hsays : ∀ {t : Bool}, says l o (look (push3 ss 0 ((l.take n).take i) (vs.take i) st.sl)) t → Region.wanted o (yielded l.toArray a.tmps) = t := fun hs =>
            wanted_says h1 (says_congr (fun d' hd' => hread d' (by simp [readsOf, hd'])) hs)
          have hci : (contL ss (vs.map (·.2)) (Lof listed))[i]? = some es := by
            rw [contL_get (by simp; omega), hcfree _ i _ hvim (fun s hs' => ?_)]
            have hk := stB_ok hst0 (stT_mem hs')
            cases hLs : Lof listed s with
            | false => rfl
            | true => rw [hWl s i hLs hk.waits] at hLi; cases hLi
          rcases hex with ⟨hsy, hdo⟩ | ⟨hsy, rfl, rfl⟩
          · rw [if_pos (hsays hsy)]
            refine .inl ?_
            have next : ∀ {ℓ' : Nat → Option Loc} {v' : Value} {w' : World}, Le ℓ ℓ' → MH E ℓ' (st.m ++ memL (contL ss (vs.map (·.2)) (Lof listed)) (updB (Lof listed) i) 0) w' → DenV ℓ' v v' → wpAny P .any l.toArray (semK P E N Q0 k) (f + (l.length - n)) (listed.setIfInBounds i true) (a.put o.dst v') w' := by
              intro ℓ' v' w' hle hm' hdv
              refine ih _ _ _ inv' hcnt' ⟨ℓ', fun t => ?_, by rw [hLof, hcu]; exact hm', ?_, ?_⟩
              · rw [hLof, hview, hd]
                exact put_view (fun t => (h1 t).mono hle) (by rw [h4]; exact hok) hdv t
              · rw [hd]; exact h3
              · rw [hd]; simpa [Act.put] using h4
            have hsub : Sub (viewM st.m vis i (((vs.take i).map (·.2)).map (·.1))) (st.m ++ memL (contL ss (vs.map (·.2)) (Lof listed)) (Lof listed) 0) := by
              unfold viewM
              split
              · intro id e hid
                rw [List.getElem?_append_left (List.getElem?_eq_some_iff.1 hid).1]; exact hid
              · intro id e hid
                rcases Nat.lt_or_ge id st.m.length with hl | hl
                · rw [List.getElem?_append_left hl] at hid ⊢; exact hid
                · rw [List.getElem?_append_right hl] at hid ⊢
                  refine memL_sub2 (fun k es' hk' => ?_) _ _ hid
                  have hki : k < i := by
                    have := (List.getElem?_eq_some_iff.1 hk').1
                    simp at this; omega
                  rw [List.getElem?_map, List.getElem?_map, List.getElem?_take_of_lt hki] at hk'
                  obtain ⟨q, q1, q2⟩ := hal k (by omega)
                  rw [q2] at hk'
                  cases hk'
                  refine ⟨contAt ss (vs.map (·.2)) (Lof listed) k, contL_get (by simp; omega), hclen _ k q q1, fun hL => ?_⟩
                  rw [Nat.zero_add] at hL ⊢
                  have hkv : k ∈ visOf vis i := by simpa using hL
                  refine ⟨aw_listed inv 3 i hW k (ho.vis k hkv).2, hcfree _ k q q1 (fun s hs' => ?_)⟩
                  exact absurd hkv ((stB_ok hst0 (stT_mem hs')).vis i hin)
            obtain ⟨k1, k2⟩ := memL_set (L := Lof listed) hci hLi
            have hA : (memL ((contL ss (vs.map (·.2)) (Lof listed)).take i) (Lof listed) 0).length = (((vs.take i).map (·.2)).map (·.1)).flatten.length := by
              rw [memL_len, hpre]
            have hholes : ∀ k, k < es.length → (st.m ++ memL (contL ss (vs.map (·.2)) (Lof listed)) (Lof listed) 0)[st.m.length + (((vs.take i).map (·.2)).map (·.1)).flatten.length + k]? = some .hole := by
              intro k hk
              rw [k1, List.getElem?_append_right (by omega), show st.m.length + (((vs.take i).map (·.2)).map (·.1)).flatten.length + k - st.m.length = (((vs.take i).map (·.2)).map (·.1)).flatten.length + k by omega, ← hA, List.append_assoc, List.getElem?_append_right (by omega), List.getElem?_append_left (by simp; omega)]
              simp [hk]
            have hfill : fillL (st.m ++ memL (contL ss (vs.map (·.2)) (Lof listed)) (Lof listed) 0) (st.m.length + (((vs.take i).map (·.2)).map (·.1)).flatten.length) es = st.m ++ memL (contL ss (vs.map (·.2)) (Lof listed)) (updB (Lof listed) i) 0 := by
              rw [k1, k2, ← List.append_assoc, ← List.append_assoc, fillL_eq (by simp [hA]), List.append_assoc, List.append_assoc, List.append_assoc]
            rcases hdo with hnew | ⟨eo, rfl, halc, hest⟩
            · rw [evS_V, newOf_congr hops] at hnew
              have hn2 := newOf_sub hnmono hsub hnew
              clear hnew
              unfold newOf at hn2
              split at hn2
              · rename_i c hop
                split at hn2
                · rename_i fid hcal
                  have hargs : DenVs ℓ (c.args.toList.map (evV (view2 l n (vals3 vs) st.sl (Lof listed)))) (c.args.toList.map a.eval) := denVs_map (evV_den h1) _
                  obtain ⟨hcallable, hcalls⟩ := hnu _ _ _ _ _ _ hn2 E w ℓ _ h2 hholes hargs
                  rw [hfill] at hcalls
                  have hwp : o.wp P a w (fun a' w' => wpAny P .any l.toArray (semK P E N Q0 k) (f + (l.length - n)) (listed.setIfInBounds i true) a' w') (semK P E N Q0 k) := by
                    clear hn2 hsays hread hview hops
                    obtain ⟨dst, op, type, pos, after, guard⟩ := o
                    simp only at hop; subst hop
                    obtain ⟨callee, cargs, cts⟩ := c
                    simp only at hcal; subst hcal
                    unfold Oper.wp
                    rw [enter_run hcallable]
                    simp only [Oper.upon]
                    refine hcalls.mono ?_
                    rintro e w' ⟨v', ℓ', rfl, hle, hdv, hm'⟩
                    exact next hle hm' hdv
                  exact hwp
                · cases hn2
              · cases hn2
            · have hcg : ∀ K', K' v eo → est T pu (st.m ++ memL (contL ss (vs.map (·.2)) (Lof listed)) (Lof listed) 0) (st.m.length + (((vs.take i).map (·.2)).map (·.1)).flatten.length) (evV (view2 l n (vals3 vs) st.sl (Lof listed))) o K' := by
                intro K' hK'
                have h5 := hest K' hK'
                rw [evS_V, est_congr hops] at h5
                exact est_sub hmono hsub h5
              cases heo : eo with
              | none =>
                subst heo
                have hna : allocs o = false := by simpa using halc.symm
                have h6 := hcg (fun sv e => sv = v ∧ e = none) ⟨rfl, rfl⟩
                rw [est_nid (n' := (st.m ++ memL (contL ss (vs.map (·.2)) (Lof listed)) (Lof listed) 0).length) hna hcap] at h6
                refine est_ok hT hpu h2 (.inl rfl) (evV_den h1) h6 _ _ ?_
                rintro v' w' ⟨sv, e, ℓ', ⟨rfl, rfl⟩, hle, hm', hdv⟩
                refine next hle ?_ hdv
                rw [← hfill]
                exact hm'
              | some e0 =>
                subst heo
                have hget := hholes 0 (by simp)
                rw [Nat.add_zero] at hget
                refine est_ok hT hpu h2 (.inr hget) (evV_den h1) (hcg (fun sv e => sv = v ∧ e = some e0) ⟨rfl, rfl⟩) _ _ ?_
                rintro v' w' ⟨sv, e, ℓ', ⟨rfl, rfl⟩, hle, hm', hdv⟩
                refine next hle ?_ hdv
                rw [← hfill]
                have hlt := (List.getElem?_eq_some_iff.1 hget).1
                have hf : fill (st.m ++ memL (contL ss (vs.map (·.2)) (Lof listed)) (Lof listed) 0) (st.m.length + (((vs.take i).map (·.2)).map (·.1)).flatten.length) e0 = fillL (st.m ++ memL (contL ss (vs.map (·.2)) (Lof listed)) (Lof listed) 0) (st.m.length + (((vs.take i).map (·.2)).map (·.1)).flatten.length) [e0] := by
                  unfold fill
                  rw [if_pos hlt]
                  rfl
                show MH E ℓ' (fillL _ _ [e0]) w'
                rw [← hf]
                exact hm'
          · rw [if_neg (by rw [hsays hsy]; simp)]
            refine ih _ _ _ inv' hcnt' ⟨ℓ, fun t => ?_, ?_, ?_, ?_⟩
            · rw [hLof, hview, hd]
              exact put_view (sv := .tup []) (v := undef) h1 (by rw [h4]; exact hok) ⟨[], rfl, trivial⟩ t
            · rw [hLof, hcu, memL_congr (L' := Lof listed) (fun k e hk hne => ?_)]
              · exact h2
              · simp only [updB, Nat.zero_add]
                split
                · rename_i hki; subst hki; rw [hci] at hk; cases hk; exact absurd rfl hne
                · rfl
            · rw [hd]; exact h3
            · rw [hd]; simpa [Act.put] using h4
  obtain ⟨ℓ, h1, h2, h3, h4⟩ := hh
  have hL0 : ∀ j, Lof (Array.replicate l.toArray.size false) j = false := fun j => getD_replicate_false _ _
  have hc0 : cntF (Lof (Array.replicate l.toArray.size false)) n = n := by
    clear main htr hvl hfin hhead hst0 hseq hc hs hn h
    induction n with
    | zero => rfl
    | succ n ih => simp only [cntF, hL0, ih]; rfl
  have := main n (Array.replicate l.toArray.size false) a0 { w0 with drawn := w0.drawn + 1 }
    ⟨by simp, fun j oj _ hl => (by rw [getD_replicate_false] at hl; cases hl), fun t _ ht => getD_in (by simpa using ht) (getD_replicate_false _ _)⟩ hc0
    ⟨ℓ, fun t => by rw [view2_none (fun j _ _ => hL0 j)]; exact h1 t, (h2.drew).holes (memL_holes hL0), h3, h4⟩
  rw [show n + (l.length - n) = l.toArray.size by simp; omega] at this
  exact this
end
end Go.V
end
section
set_option linter.unusedSimpArgs false
set_option linter.unusedVariables false
namespace Go.V
open Go
theorem ok_draw5 {P : Program} {E : Env} {N : Nat} {l hd tl : List Oper} {T : Tab} {pu : Pure} {nu : New} (n : Nat) (vis : List (Nat × List Nat)) (ss : List (Nat × Nat)) (hT : TabOK P T) (hpu : PureOK P pu) (hnu : NewOK P nu) (hmono : PureSub pu) (hnmono : NewSub nu) (hmix : P.follows .mixedOrders = true) {Q0 : Exit → Act → World → Prop} {id : Nat} {k : List Item} {sl : Slots} {m : Mem} (hB : drawB3 l n vis ss = true)
    (h1 : l.take n = hd) (h2 : l.drop n = tl)
    (h : hd3 T pu nu m l vis ss N 0 hd sl [] (fun sl al => Ok P E N Q0 (.ops l tl :: k) ⟨sl, m ++ (finL ss al).flatten.map .ent⟩)) : Ok P E N Q0 (.code (.region id l.toArray true) :: k) ⟨sl, m⟩ := by
  subst h1 h2
  exact ok_draw4 hT hpu hnu hmono hnmono hmix hB h
def newNone : New := fun _ _ _ _ => none
theorem newNone_ok {P : Program} : NewOK P newNone := fun m f svs nid sv es h => by cases h
theorem newNone_sub : NewSub newNone := fun m m' f l nid r _ h => by cases h
section
variable {T : Tab} {pu : Pure} {nu : New} {m0 : Mem} {l r : List Oper} {vis : List (Nat × List Nat)} {ss : List (Nat × Nat)} {N i : Nat} {o : Oper} {sl : Slots} {al : List (List Ent × Option Ent)} {K : Slots → List (List Ent × Option Ent) → Prop} {d : Nat} {v : SV} {e : Ent} {es : List Ent}
theorem h3_nil (h : K sl al) : hd3 T pu nu m0 l vis ss N i [] sl al K := h
theorem h3_op (hs : stOf ss i = none) (hg : o.guard = none) (hc : noCap T o = true) (hN : okd N o.dst)
    (h : hop T pu nu (viewM m0 vis i (al.map (·.1))) (m0.length + (al.map (·.1)).flatten.length) (evS sl) o (fun v es => hd3 T pu nu m0 l vis ss N (i + 1) r (pushD o.dst v sl) (al ++ [(es, none)]) K)) : hd3 T pu nu m0 l vis ss N i (o :: r) sl al K := by
  have hgt : guardTmp l o = none := by simp [guardTmp, hg]
  unfold hd3
  simp only [hs]
  rw [hgt, hg]
  exact ⟨⟨hc, hN⟩, h⟩
theorem h3_go (hs : stOf ss i = none) (hg : o.guard = none) (hd : o.dst = some d) (ha : allocs o = false) (hc : noCap T o = true) (hN : d < N) (hn : newOf nu (viewM m0 vis i (al.map (·.1))) (m0.length + (al.map (·.1)).flatten.length) (evS sl) o = none)
    (h1 : ∀ K' : SV → Option Ent → Prop, K' v none → est T pu (viewM m0 vis i (al.map (·.1))) (m0.length + (al.map (·.1)).flatten.length) (evS sl) o K')
    (h3 : hd3 T pu nu m0 l vis ss N (i + 1) r ((d, v) :: sl) (al ++ [([], none)]) K) : hd3 T pu nu m0 l vis ss N i (o :: r) sl al K := by
  refine h3_op hs hg hc (by rw [hd]; exact hN) ?_
  unfold hop
  rw [hn]
  exact h1 _ ⟨by rw [ha]; rfl, by rw [hd]; exact h3⟩
theorem h3_new (hs : stOf ss i = none) (hg : o.guard = none) (hd : o.dst = some d) (ha : allocs o = true) (hc : noCap T o = true) (hN : d < N) (hn : newOf nu (viewM m0 vis i (al.map (·.1))) (m0.length + (al.map (·.1)).flatten.length) (evS sl) o = none)
    (h1 : ∀ K' : SV → Option Ent → Prop, K' v (some e) → est T pu (viewM m0 vis i (al.map (·.1))) (m0.length + (al.map (·.1)).flatten.length) (evS sl) o K')
    (h3 : hd3 T pu nu m0 l vis ss N (i + 1) r ((d, v) :: sl) (al ++ [([e], none)]) K) : hd3 T pu nu m0 l vis ss N i (o :: r) sl al K := by
  refine h3_op hs hg hc (by rw [hd]; exact hN) ?_
  unfold hop
  rw [hn]
  exact h1 _ ⟨by rw [ha]; rfl, by rw [hd]; exact h3⟩
theorem h3_call (hs : stOf ss i = none) (hg : o.guard = none) (hd : o.dst = some d) (hc : noCap T o = true) (hN : d < N) (hn : newOf nu (viewM m0 vis i (al.map (·.1))) (m0.length + (al.map (·.1)).flatten.length) (evS sl) o = some (v, es))
    (h3 : hd3 T pu nu m0 l vis ss N (i + 1) r ((d, v) :: sl) (al ++ [(es, none)]) K) : hd3 T pu nu m0 l vis ss N i (o :: r) sl al K := by
  refine h3_op hs hg hc (by rw [hd]; exact hN) ?_
  unfold hop
  rw [hn]
  rw [hd]
  exact h3
theorem h3_sto {j : Nat} (hs : stOf ss i = some j) (h1 : ∀ K' : Ent → Prop, K' e → stoP T m0 al j (evS sl) o K') (h3 : hd3 T pu nu m0 l vis ss N (i + 1) r sl (al ++ [([], some e)]) K) : hd3 T pu nu m0 l vis ss N i (o :: r) sl al K := by
  unfold hd3
  simp only [hs]
  exact h1 _ h3
theorem h3_guard {g : Nat} {b c : Bool} {t : Nat} (hs : stOf ss i = none) (hg : o.guard = some (g, b)) (hgt : guardTmp l o = some t) (hd : o.dst = some d) (hc : noCap T o = true) (hN : d < N) (hl : look sl t = one (.b c))
    (h1 : c = b → ∃ v es, (∀ K' : SV → List Ent → Prop, K' v es → hop T pu nu (viewM m0 vis i (al.map (·.1))) (m0.length + (al.map (·.1)).flatten.length) (evS sl) o K') ∧ hd3 T pu nu m0 l vis ss N (i + 1) r ((d, v) :: sl) (al ++ [(es, none)]) K)
    (h2 : c = (!b) → hd3 T pu nu m0 l vis ss N (i + 1) r ((d, .tup []) :: sl) (al ++ [([], none)]) K) : hd3 T pu nu m0 l vis ss N i (o :: r) sl al K := by
  unfold hd3
  simp only [hs]
  rw [hgt, hg]
  refine ⟨⟨hc, by rw [hd]; exact hN⟩, ?_⟩
  simp only [hl, one]
  refine ⟨fun h => ?_, fun h => by simpa [pushD, hd] using h2 h⟩
  obtain ⟨v, es, a, b⟩ := h1 h
  exact a _ (by simpa [pushD, hd] using b)
theorem h3_past {g : Nat} {b : Bool} {t : Nat} (hs : stOf ss i = none) (hg : o.guard = some (g, b)) (hgt : guardTmp l o = some t) (hd : o.dst = some d) (hc : noCap T o = true) (hN : d < N) (hl : look sl t = .tup [])
    (h2 : hd3 T pu nu m0 l vis ss N (i + 1) r ((d, .tup []) :: sl) (al ++ [([], none)]) K) : hd3 T pu nu m0 l vis ss N i (o :: r) sl al K := by
  unfold hd3
  simp only [hs]
  rw [hgt, hg]
  refine ⟨⟨hc, by rw [hd]; exact hN⟩, ?_⟩
  simp only [hl]
  simpa [pushD, hd] using h2
variable {m : Mem} {nid : Nat} {g : Operand → SV} {K2 : SV → List Ent → Prop}
theorem hop_go (hn : newOf nu m nid g o = none) (ha : allocs o = false) (h1 : ∀ K' : SV → Option Ent → Prop, K' v none → est T pu m nid g o K') : ∀ K' : SV → List Ent → Prop, K' v [] → hop T pu nu m nid g o K' := by
  intro K' h
  unfold hop
  rw [hn]
  exact h1 _ ⟨by rw [ha]; rfl, h⟩
theorem hop_new (hn : newOf nu m nid g o = none) (ha : allocs o = true) (h1 : ∀ K' : SV → Option Ent → Prop, K' v (some e) → est T pu m nid g o K') : ∀ K' : SV → List Ent → Prop, K' v [e] → hop T pu nu m nid g o K' := by
  intro K' h
  unfold hop
  rw [hn]
  exact h1 _ ⟨by rw [ha]; rfl, h⟩
theorem hop_call (hn : newOf nu m nid g o = some (v, es)) : ∀ K' : SV → List Ent → Prop, K' v es → hop T pu nu m nid g o K' := by
  intro K' h
  unfold hop
  rw [hn]
  exact h
end
end Go.V
end
section
set_option linter.unusedSimpArgs false
set_option linter.unusedVariables false
namespace Go.V
open Go Go.Proofs.Try

def ty1 : Ty := ⟨.func, 1, 8, .s (.raw .nilFunc)⟩
theorem tyOK1 : TyOK prog 1 ty1 := ⟨by kernel_rfl, by kernel_rfl, by kernel_rfl, True.intro, ⟨_, _, _, underlying1⟩⟩
def ty2 : Ty := ⟨.int .i64, 1, 8, .s (.i 0)⟩
theorem tyOK2 : TyOK prog 2 ty2 := ⟨by kernel_rfl, by kernel_rfl, by kernel_rfl, True.intro, underlying2⟩
def ty3 : Ty := ⟨.int .i64, 1, 8, .s (.i 0)⟩
theorem tyOK3 : TyOK prog 3 ty3 := ⟨by kernel_rfl, by kernel_rfl, by kernel_rfl, True.intro, underlying3⟩
def ty4 : Ty := ⟨.bool, 1, 1, .s (.b false)⟩
theorem tyOK4 : TyOK prog 4 ty4 := ⟨by kernel_rfl, by kernel_rfl, by kernel_rfl, True.intro, underlying4⟩
def ty5 : Ty := ⟨.int .u8, 1, 1, .s (.u8 0)⟩
theorem tyOK5 : TyOK prog 5 ty5 := ⟨by kernel_rfl, by kernel_rfl, by kernel_rfl, True.intro, underlying5⟩
def ty6 : Ty := ⟨.int .u8, 1, 1, .s (.u8 0)⟩
theorem tyOK6 : TyOK prog 6 ty6 := ⟨by kernel_rfl, by kernel_rfl, by kernel_rfl, True.intro, underlying6⟩
def ty7 : Ty := ⟨.struct [(0, 2), (1, 3), (2, 4), (3, 6)], 4, 24, .st [⟨1, .s (.i 0)⟩, ⟨1, .s (.i 0)⟩, ⟨1, .s (.b false)⟩, ⟨1, .s (.u8 0)⟩]⟩
theorem tyOK7 : TyOK prog 7 ty7 := ⟨by kernel_rfl, by kernel_rfl, by kernel_rfl, ⟨rfl, rfl, rfl, rfl, True.intro⟩, ⟨_, underlying7, rfl, by kernel_rfl⟩⟩
def ty8 : Ty := ⟨.struct [(0, 2), (1, 3), (2, 4), (3, 6)], 4, 24, .st [⟨1, .s (.i 0)⟩, ⟨1, .s (.i 0)⟩, ⟨1, .s (.b false)⟩, ⟨1, .s (.u8 0)⟩]⟩
theorem tyOK8 : TyOK prog 8 ty8 := ⟨by kernel_rfl, by kernel_rfl, by kernel_rfl, ⟨rfl, rfl, rfl, rfl, True.intro⟩, ⟨_, underlying8, rfl, by kernel_rfl⟩⟩
def ty9 : Ty := ⟨.str, 1, 16, .s (.str [])⟩
theorem tyOK9 : TyOK prog 9 ty9 := ⟨by kernel_rfl, by kernel_rfl, by kernel_rfl, True.intro, underlying9⟩
def ty10 : Ty := ⟨.str, 1, 16, .s (.str [])⟩
theorem tyOK10 : TyOK prog 10 ty10 := ⟨by kernel_rfl, by kernel_rfl, by kernel_rfl, True.intro, underlying10⟩
def ty11 : Ty := ⟨.str, 1, 16, .s (.str [])⟩
theorem tyOK11 : TyOK prog 11 ty11 := ⟨by kernel_rfl, by kernel_rfl, by kernel_rfl, True.intro, underlying11⟩
def ty12 : Ty := ⟨.int .u64, 1, 8, .s (.u64 0)⟩
theorem tyOK12 : TyOK prog 12 ty12 := ⟨by kernel_rfl, by kernel_rfl, by kernel_rfl, True.intro, underlying12⟩
def ty13 : Ty := ⟨.struct [(0, 9), (1, 12)], 2, 24, .st [⟨1, .s (.str [])⟩, ⟨1, .s (.u64 0)⟩]⟩
theorem tyOK13 : TyOK prog 13 ty13 := ⟨by kernel_rfl, by kernel_rfl, by kernel_rfl, ⟨rfl, rfl, True.intro⟩, ⟨_, underlying13, rfl, by kernel_rfl⟩⟩
def ty14 : Ty := ⟨.struct [(0, 9), (1, 12)], 2, 24, .st [⟨1, .s (.str [])⟩, ⟨1, .s (.u64 0)⟩]⟩
theorem tyOK14 : TyOK prog 14 ty14 := ⟨by kernel_rfl, by kernel_rfl, by kernel_rfl, ⟨rfl, rfl, True.intro⟩, ⟨_, underlying14, rfl, by kernel_rfl⟩⟩
def ty15 : Ty := ⟨.ptr 178, 1, 8, .s (.nil)⟩
theorem tyOK15 : TyOK prog 15 ty15 := ⟨by kernel_rfl, by kernel_rfl, by kernel_rfl, True.intro, underlying15⟩
def ty16 : Ty := ⟨.ptr 181, 1, 8, .s (.nil)⟩
theorem tyOK16 : TyOK prog 16 ty16 := ⟨by kernel_rfl, by kernel_rfl, by kernel_rfl, True.intro, underlying16⟩
def ty17 : Ty := ⟨.ptr 189, 1, 8, .s (.nil)⟩
theorem tyOK17 : TyOK prog 17 ty17 := ⟨by kernel_rfl, by kernel_rfl, by kernel_rfl, True.intro, underlying17⟩
def ty18 : Ty := ⟨.struct [(0, 17)], 1, 8, .st [⟨1, .s (.nil)⟩]⟩
theorem tyOK18 : TyOK prog 18 ty18 := ⟨by kernel_rfl, by kernel_rfl, by kernel_rfl, ⟨rfl, True.intro⟩, ⟨_, underlying18, rfl, by kernel_rfl⟩⟩
def ty19 : Ty := ⟨.struct [(0, 17)], 1, 8, .st [⟨1, .s (.nil)⟩]⟩
theorem tyOK19 : TyOK prog 19 ty19 := ⟨by kernel_rfl, by kernel_rfl, by kernel_rfl, ⟨rfl, True.intro⟩, ⟨_, underlying19, rfl, by kernel_rfl⟩⟩
def ty20 : Ty := ⟨.iface, 1, 16, .s (.inil)⟩
theorem tyOK20 : TyOK prog 20 ty20 := ⟨by kernel_rfl, by kernel_rfl, by kernel_rfl, True.intro, ⟨_, underlying20⟩⟩
def ty22 : Ty := ⟨.sl 5, 1, 24, .s (.snil)⟩
theorem tyOK22 : TyOK prog 22 ty22 := ⟨by kernel_rfl, by kernel_rfl, by kernel_rfl, True.intro, underlying22⟩
def ty23 : Ty := ⟨.arr 16 5, 16, 16, .a8 [0, 0, 0, 0, 0, 0, 0, 0, 0, 0, 0, 0, 0, 0, 0, 0]⟩
theorem tyOK23 : TyOK prog 23 ty23 := ⟨by kernel_rfl, by kernel_rfl, by kernel_rfl, True.intro, underlying23⟩
def ty24 : Ty := ⟨.func, 1, 8, .s (.raw .nilFunc)⟩
theorem tyOK24 : TyOK prog 24 ty24 := ⟨by kernel_rfl, by kernel_rfl, by kernel_rfl, True.intro, ⟨_, _, _, underlying24⟩⟩
def ty25 : Ty := ⟨.ptr 105, 1, 8, .s (.nil)⟩
theorem tyOK25 : TyOK prog 25 ty25 := ⟨by kernel_rfl, by kernel_rfl, by kernel_rfl, True.intro, underlying25⟩
def ty26 : Ty := ⟨.int .i64, 1, 8, .s (.i 0)⟩
theorem tyOK26 : TyOK prog 26 ty26 := ⟨by kernel_rfl, by kernel_rfl, by kernel_rfl, True.intro, underlying26⟩
def ty28 : Ty := ⟨.func, 1, 8, .s (.raw .nilFunc)⟩
theorem tyOK28 : TyOK prog 28 ty28 := ⟨by kernel_rfl, by kernel_rfl, by kernel_rfl, True.intro, ⟨_, _, _, underlying28⟩⟩
def ty29 : Ty := ⟨.ptr 110, 1, 8, .s (.nil)⟩
theorem tyOK29 : TyOK prog 29 ty29 := ⟨by kernel_rfl, by kernel_rfl, by kernel_rfl, True.intro, underlying29⟩
def ty30 : Ty := ⟨.func, 1, 8, .s (.raw .nilFunc)⟩
theorem tyOK30 : TyOK prog 30 ty30 := ⟨by kernel_rfl, by kernel_rfl, by kernel_rfl, True.intro, ⟨_, _, _, underlying30⟩⟩
def ty31 : Ty := ⟨.func, 1, 8, .s (.raw .nilFunc)⟩
theorem tyOK31 : TyOK prog 31 ty31 := ⟨by kernel_rfl, by kernel_rfl, by kernel_rfl, True.intro, ⟨_, _, _, underlying31⟩⟩
def ty32 : Ty := ⟨.func, 1, 8, .s (.raw .nilFunc)⟩
theorem tyOK32 : TyOK prog 32 ty32 := ⟨by kernel_rfl, by kernel_rfl, by kernel_rfl, True.intro, ⟨_, _, _, underlying32⟩⟩
def ty33 : Ty := ⟨.func, 1, 8, .s (.raw .nilFunc)⟩
theorem tyOK33 : TyOK prog 33 ty33 := ⟨by kernel_rfl, by kernel_rfl, by kernel_rfl, True.intro, ⟨_, _, _, underlying33⟩⟩
def ty34 : Ty := ⟨.func, 1, 8, .s (.raw .nilFunc)⟩
theorem tyOK34 : TyOK prog 34 ty34 := ⟨by kernel_rfl, by kernel_rfl, by kernel_rfl, True.intro, ⟨_, _, _, underlying34⟩⟩
def ty35 : Ty := ⟨.func, 1, 8, .s (.raw .nilFunc)⟩
theorem tyOK35 : TyOK prog 35 ty35 := ⟨by kernel_rfl, by kernel_rfl, by kernel_rfl, True.intro, ⟨_, _, _, underlying35⟩⟩
def ty36 : Ty := ⟨.func, 1, 8, .s (.raw .nilFunc)⟩
theorem tyOK36 : TyOK prog 36 ty36 := ⟨by kernel_rfl, by kernel_rfl, by kernel_rfl, True.intro, ⟨_, _, _, underlying36⟩⟩
def ty37 : Ty := ⟨.struct [(0, 22), (1, 22), (2, 22), (3, 22)], 4, 96, .st [⟨1, .s (.snil)⟩, ⟨1, .s (.snil)⟩, ⟨1, .s (.snil)⟩, ⟨1, .s (.snil)⟩]⟩
theorem tyOK37 : TyOK prog 37 ty37 := ⟨by kernel_rfl, by kernel_rfl, by kernel_rfl, ⟨rfl, rfl, rfl, rfl, True.intro⟩, ⟨_, underlying37, rfl, by kernel_rfl⟩⟩
def ty38 : Ty := ⟨.struct [(0, 22), (1, 22), (2, 22), (3, 22)], 4, 96, .st [⟨1, .s (.snil)⟩, ⟨1, .s (.snil)⟩, ⟨1, .s (.snil)⟩, ⟨1, .s (.snil)⟩]⟩
theorem tyOK38 : TyOK prog 38 ty38 := ⟨by kernel_rfl, by kernel_rfl, by kernel_rfl, ⟨rfl, rfl, rfl, rfl, True.intro⟩, ⟨_, underlying38, rfl, by kernel_rfl⟩⟩
def ty40 : Ty := ⟨.func, 1, 8, .s (.raw .nilFunc)⟩
theorem tyOK40 : TyOK prog 40 ty40 := ⟨by kernel_rfl, by kernel_rfl, by kernel_rfl, True.intro, ⟨_, _, _, underlying40⟩⟩
def ty41 : Ty := ⟨.func, 1, 8, .s (.raw .nilFunc)⟩
theorem tyOK41 : TyOK prog 41 ty41 := ⟨by kernel_rfl, by kernel_rfl, by kernel_rfl, True.intro, ⟨_, _, _, underlying41⟩⟩
def ty42 : Ty := ⟨.func, 1, 8, .s (.raw .nilFunc)⟩
theorem tyOK42 : TyOK prog 42 ty42 := ⟨by kernel_rfl, by kernel_rfl, by kernel_rfl, True.intro, ⟨_, _, _, underlying42⟩⟩
def ty43 : Ty := ⟨.func, 1, 8, .s (.raw .nilFunc)⟩
theorem tyOK43 : TyOK prog 43 ty43 := ⟨by kernel_rfl, by kernel_rfl, by kernel_rfl, True.intro, ⟨_, _, _, underlying43⟩⟩
def ty44 : Ty := ⟨.func, 1, 8, .s (.raw .nilFunc)⟩
theorem tyOK44 : TyOK prog 44 ty44 := ⟨by kernel_rfl, by kernel_rfl, by kernel_rfl, True.intro, ⟨_, _, _, underlying44⟩⟩
def ty45 : Ty := ⟨.int .u64, 1, 8, .s (.u64 0)⟩
theorem tyOK45 : TyOK prog 45 ty45 := ⟨by kernel_rfl, by kernel_rfl, by kernel_rfl, True.intro, underlying45⟩
def ty46 : Ty := ⟨.struct [(0, 3), (1, 22), (2, 22), (3, 22), (4, 22), (5, 45)], 6, 112, .st [⟨1, .s (.i 0)⟩, ⟨1, .s (.snil)⟩, ⟨1, .s (.snil)⟩, ⟨1, .s (.snil)⟩, ⟨1, .s (.snil)⟩, ⟨1, .s (.u64 0)⟩]⟩
theorem tyOK46 : TyOK prog 46 ty46 := ⟨by kernel_rfl, by kernel_rfl, by kernel_rfl, ⟨rfl, rfl, rfl, rfl, rfl, rfl, True.intro⟩, ⟨_, underlying46, rfl, by kernel_rfl⟩⟩
def ty47 : Ty := ⟨.struct [(0, 3), (1, 22), (2, 22), (3, 22), (4, 22), (5, 45)], 6, 112, .st [⟨1, .s (.i 0)⟩, ⟨1, .s (.snil)⟩, ⟨1, .s (.snil)⟩, ⟨1, .s (.snil)⟩, ⟨1, .s (.snil)⟩, ⟨1, .s (.u64 0)⟩]⟩
theorem tyOK47 : TyOK prog 47 ty47 := ⟨by kernel_rfl, by kernel_rfl, by kernel_rfl, ⟨rfl, rfl, rfl, rfl, rfl, rfl, True.intro⟩, ⟨_, underlying47, rfl, by kernel_rfl⟩⟩
def ty48 : Ty := ⟨.ptr 133, 1, 8, .s (.nil)⟩
theorem tyOK48 : TyOK prog 48 ty48 := ⟨by kernel_rfl, by kernel_rfl, by kernel_rfl, True.intro, underlying48⟩
def ty50 : Ty := ⟨.func, 1, 8, .s (.raw .nilFunc)⟩
theorem tyOK50 : TyOK prog 50 ty50 := ⟨by kernel_rfl, by kernel_rfl, by kernel_rfl, True.intro, ⟨_, _, _, underlying50⟩⟩
def ty51 : Ty := ⟨.func, 1, 8, .s (.raw .nilFunc)⟩
theorem tyOK51 : TyOK prog 51 ty51 := ⟨by kernel_rfl, by kernel_rfl, by kernel_rfl, True.intro, ⟨_, _, _, underlying51⟩⟩
def ty52 : Ty := ⟨.func, 1, 8, .s (.raw .nilFunc)⟩
theorem tyOK52 : TyOK prog 52 ty52 := ⟨by kernel_rfl, by kernel_rfl, by kernel_rfl, True.intro, ⟨_, _, _, underlying52⟩⟩
def ty53 : Ty := ⟨.func, 1, 8, .s (.raw .nilFunc)⟩
theorem tyOK53 : TyOK prog 53 ty53 := ⟨by kernel_rfl, by kernel_rfl, by kernel_rfl, True.intro, ⟨_, _, _, underlying53⟩⟩
def ty54 : Ty := ⟨.func, 1, 8, .s (.raw .nilFunc)⟩
theorem tyOK54 : TyOK prog 54 ty54 := ⟨by kernel_rfl, by kernel_rfl, by kernel_rfl, True.intro, ⟨_, _, _, underlying54⟩⟩
def ty55 : Ty := ⟨.func, 1, 8, .s (.raw .nilFunc)⟩
theorem tyOK55 : TyOK prog 55 ty55 := ⟨by kernel_rfl, by kernel_rfl, by kernel_rfl, True.intro, ⟨_, _, _, underlying55⟩⟩
def ty56 : Ty := ⟨.func, 1, 8, .s (.raw .nilFunc)⟩
theorem tyOK56 : TyOK prog 56 ty56 := ⟨by kernel_rfl, by kernel_rfl, by kernel_rfl, True.intro, ⟨_, _, _, underlying56⟩⟩
def ty57 : Ty := ⟨.struct [(0, 3), (1, 22), (2, 22)], 3, 56, .st [⟨1, .s (.i 0)⟩, ⟨1, .s (.snil)⟩, ⟨1, .s (.snil)⟩]⟩
theorem tyOK57 : TyOK prog 57 ty57 := ⟨by kernel_rfl, by kernel_rfl, by kernel_rfl, ⟨rfl, rfl, rfl, True.intro⟩, ⟨_, underlying57, rfl, by kernel_rfl⟩⟩
def ty58 : Ty := ⟨.struct [(0, 3), (1, 22), (2, 22)], 3, 56, .st [⟨1, .s (.i 0)⟩, ⟨1, .s (.snil)⟩, ⟨1, .s (.snil)⟩]⟩
theorem tyOK58 : TyOK prog 58 ty58 := ⟨by kernel_rfl, by kernel_rfl, by kernel_rfl, ⟨rfl, rfl, rfl, True.intro⟩, ⟨_, underlying58, rfl, by kernel_rfl⟩⟩
def ty59 : Ty := ⟨.func, 1, 8, .s (.raw .nilFunc)⟩
theorem tyOK59 : TyOK prog 59 ty59 := ⟨by kernel_rfl, by kernel_rfl, by kernel_rfl, True.intro, ⟨_, _, _, underlying59⟩⟩
def ty60 : Ty := ⟨.func, 1, 8, .s (.raw .nilFunc)⟩
theorem tyOK60 : TyOK prog 60 ty60 := ⟨by kernel_rfl, by kernel_rfl, by kernel_rfl, True.intro, ⟨_, _, _, underlying60⟩⟩
def ty61 : Ty := ⟨.sl 22, 1, 24, .s (.snil)⟩
theorem tyOK61 : TyOK prog 61 ty61 := ⟨by kernel_rfl, by kernel_rfl, by kernel_rfl, True.intro, underlying61⟩
def ty63 : Ty := ⟨.func, 1, 8, .s (.raw .nilFunc)⟩
theorem tyOK63 : TyOK prog 63 ty63 := ⟨by kernel_rfl, by kernel_rfl, by kernel_rfl, True.intro, ⟨_, _, _, underlying63⟩⟩
def ty64 : Ty := ⟨.func, 1, 8, .s (.raw .nilFunc)⟩
theorem tyOK64 : TyOK prog 64 ty64 := ⟨by kernel_rfl, by kernel_rfl, by kernel_rfl, True.intro, ⟨_, _, _, underlying64⟩⟩
def ty65 : Ty := ⟨.sl 80, 1, 24, .s (.snil)⟩
theorem tyOK65 : TyOK prog 65 ty65 := ⟨by kernel_rfl, by kernel_rfl, by kernel_rfl, True.intro, underlying65⟩
def ty66 : Ty := ⟨.func, 1, 8, .s (.raw .nilFunc)⟩
theorem tyOK66 : TyOK prog 66 ty66 := ⟨by kernel_rfl, by kernel_rfl, by kernel_rfl, True.intro, ⟨_, _, _, underlying66⟩⟩
def ty77 : Ty := ⟨.func, 1, 8, .s (.raw .nilFunc)⟩
theorem tyOK77 : TyOK prog 77 ty77 := ⟨by kernel_rfl, by kernel_rfl, by kernel_rfl, True.intro, ⟨_, _, _, underlying77⟩⟩
def ty78 : Ty := ⟨.func, 1, 8, .s (.raw .nilFunc)⟩
theorem tyOK78 : TyOK prog 78 ty78 := ⟨by kernel_rfl, by kernel_rfl, by kernel_rfl, True.intro, ⟨_, _, _, underlying78⟩⟩
def ty79 : Ty := ⟨.struct [(0, 3), (1, 5), (2, 22), (3, 3)], 4, 48, .st [⟨1, .s (.i 0)⟩, ⟨1, .s (.u8 0)⟩, ⟨1, .s (.snil)⟩, ⟨1, .s (.i 0)⟩]⟩
theorem tyOK79 : TyOK prog 79 ty79 := ⟨by kernel_rfl, by kernel_rfl, by kernel_rfl, ⟨rfl, rfl, rfl, rfl, True.intro⟩, ⟨_, underlying79, rfl, by kernel_rfl⟩⟩
def ty80 : Ty := ⟨.struct [(0, 3), (1, 5), (2, 22), (3, 3)], 4, 48, .st [⟨1, .s (.i 0)⟩, ⟨1, .s (.u8 0)⟩, ⟨1, .s (.snil)⟩, ⟨1, .s (.i 0)⟩]⟩
theorem tyOK80 : TyOK prog 80 ty80 := ⟨by kernel_rfl, by kernel_rfl, by kernel_rfl, ⟨rfl, rfl, rfl, rfl, True.intro⟩, ⟨_, underlying80, rfl, by kernel_rfl⟩⟩
def ty81 : Ty := ⟨.func, 1, 8, .s (.raw .nilFunc)⟩
theorem tyOK81 : TyOK prog 81 ty81 := ⟨by kernel_rfl, by kernel_rfl, by kernel_rfl, True.intro, ⟨_, _, _, underlying81⟩⟩
def ty82 : Ty := ⟨.func, 1, 8, .s (.raw .nilFunc)⟩
theorem tyOK82 : TyOK prog 82 ty82 := ⟨by kernel_rfl, by kernel_rfl, by kernel_rfl, True.intro, ⟨_, _, _, underlying82⟩⟩
def ty83 : Ty := ⟨.func, 1, 8, .s (.raw .nilFunc)⟩
theorem tyOK83 : TyOK prog 83 ty83 := ⟨by kernel_rfl, by kernel_rfl, by kernel_rfl, True.intro, ⟨_, _, _, underlying83⟩⟩
def ty85 : Ty := ⟨.func, 1, 8, .s (.raw .nilFunc)⟩
theorem tyOK85 : TyOK prog 85 ty85 := ⟨by kernel_rfl, by kernel_rfl, by kernel_rfl, True.intro, ⟨_, _, _, underlying85⟩⟩
def ty86 : Ty := ⟨.func, 1, 8, .s (.raw .nilFunc)⟩
theorem tyOK86 : TyOK prog 86 ty86 := ⟨by kernel_rfl, by kernel_rfl, by kernel_rfl, True.intro, ⟨_, _, _, underlying86⟩⟩
def ty87 : Ty := ⟨.ptr 73, 1, 8, .s (.nil)⟩
theorem tyOK87 : TyOK prog 87 ty87 := ⟨by kernel_rfl, by kernel_rfl, by kernel_rfl, True.intro, underlying87⟩
def ty88 : Ty := ⟨.ptr 75, 1, 8, .s (.nil)⟩
theorem tyOK88 : TyOK prog 88 ty88 := ⟨by kernel_rfl, by kernel_rfl, by kernel_rfl, True.intro, underlying88⟩
def ty89 : Ty := ⟨.func, 1, 8, .s (.raw .nilFunc)⟩
theorem tyOK89 : TyOK prog 89 ty89 := ⟨by kernel_rfl, by kernel_rfl, by kernel_rfl, True.intro, ⟨_, _, _, underlying89⟩⟩
def ty90 : Ty := ⟨.func, 1, 8, .s (.raw .nilFunc)⟩
theorem tyOK90 : TyOK prog 90 ty90 := ⟨by kernel_rfl, by kernel_rfl, by kernel_rfl, True.intro, ⟨_, _, _, underlying90⟩⟩
def ty91 : Ty := ⟨.ptr 93, 1, 8, .s (.nil)⟩
theorem tyOK91 : TyOK prog 91 ty91 := ⟨by kernel_rfl, by kernel_rfl, by kernel_rfl, True.intro, underlying91⟩
def ty94 : Ty := ⟨.int .u64, 1, 8, .s (.u64 0)⟩
theorem tyOK94 : TyOK prog 94 ty94 := ⟨by kernel_rfl, by kernel_rfl, by kernel_rfl, True.intro, underlying94⟩
def ty96 : Ty := ⟨.func, 1, 8, .s (.raw .nilFunc)⟩
theorem tyOK96 : TyOK prog 96 ty96 := ⟨by kernel_rfl, by kernel_rfl, by kernel_rfl, True.intro, ⟨_, _, _, underlying96⟩⟩
def ty97 : Ty := ⟨.func, 1, 8, .s (.raw .nilFunc)⟩
theorem tyOK97 : TyOK prog 97 ty97 := ⟨by kernel_rfl, by kernel_rfl, by kernel_rfl, True.intro, ⟨_, _, _, underlying97⟩⟩
def ty98 : Ty := ⟨.sl 99, 1, 24, .s (.snil)⟩
theorem tyOK98 : TyOK prog 98 ty98 := ⟨by kernel_rfl, by kernel_rfl, by kernel_rfl, True.intro, underlying98⟩
def ty99 : Ty := ⟨.arr 4 5, 4, 4, .a8 [0, 0, 0, 0]⟩
theorem tyOK99 : TyOK prog 99 ty99 := ⟨by kernel_rfl, by kernel_rfl, by kernel_rfl, True.intro, underlying99⟩
def ty100 : Ty := ⟨.arr 256 5, 256, 256, .a8 (List.replicate 256 0)⟩
theorem tyOK100 : TyOK prog 100 ty100 := ⟨by kernel_rfl, by kernel_rfl, by kernel_rfl, True.intro, underlying100⟩
def ty101 : Ty := ⟨.func, 1, 8, .s (.raw .nilFunc)⟩
theorem tyOK101 : TyOK prog 101 ty101 := ⟨by kernel_rfl, by kernel_rfl, by kernel_rfl, True.intro, ⟨_, _, _, underlying101⟩⟩
def ty102 : Ty := ⟨.func, 1, 8, .s (.raw .nilFunc)⟩
theorem tyOK102 : TyOK prog 102 ty102 := ⟨by kernel_rfl, by kernel_rfl, by kernel_rfl, True.intro, ⟨_, _, _, underlying102⟩⟩
def ty103 : Ty := ⟨.sl 23, 1, 24, .s (.snil)⟩
theorem tyOK103 : TyOK prog 103 ty103 := ⟨by kernel_rfl, by kernel_rfl, by kernel_rfl, True.intro, underlying103⟩
def ty104 : Ty := ⟨.struct [(0, 103)], 1, 24, .st [⟨1, .s (.snil)⟩]⟩
theorem tyOK104 : TyOK prog 104 ty104 := ⟨by kernel_rfl, by kernel_rfl, by kernel_rfl, ⟨rfl, True.intro⟩, ⟨_, underlying104, rfl, by kernel_rfl⟩⟩
def ty105 : Ty := ⟨.struct [(0, 103)], 1, 24, .st [⟨1, .s (.snil)⟩]⟩
theorem tyOK105 : TyOK prog 105 ty105 := ⟨by kernel_rfl, by kernel_rfl, by kernel_rfl, ⟨rfl, True.intro⟩, ⟨_, underlying105, rfl, by kernel_rfl⟩⟩
def ty106 : Ty := ⟨.arr 256 3, 256, 2048, .ai (List.replicate 256 0)⟩
theorem tyOK106 : TyOK prog 106 ty106 := ⟨by kernel_rfl, by kernel_rfl, by kernel_rfl, True.intro, underlying106⟩
def ty107 : Ty := ⟨.func, 1, 8, .s (.raw .nilFunc)⟩
theorem tyOK107 : TyOK prog 107 ty107 := ⟨by kernel_rfl, by kernel_rfl, by kernel_rfl, True.intro, ⟨_, _, _, underlying107⟩⟩
def ty108 : Ty := ⟨.sl 111, 1, 24, .s (.snil)⟩
theorem tyOK108 : TyOK prog 108 ty108 := ⟨by kernel_rfl, by kernel_rfl, by kernel_rfl, True.intro, underlying108⟩
def ty109 : Ty := ⟨.struct [(0, 108), (1, 106), (257, 3)], 258, 2080, .st [⟨1, .s (.snil)⟩, ⟨256, .ai (List.replicate 256 0)⟩, ⟨1, .s (.i 0)⟩]⟩
theorem tyOK109 : TyOK prog 109 ty109 := ⟨by kernel_rfl, by kernel_rfl, by kernel_rfl, ⟨rfl, List.length_replicate, rfl, True.intro⟩, ⟨_, underlying109, rfl, by kernel_rfl⟩⟩
def ty110 : Ty := ⟨.struct [(0, 108), (1, 106), (257, 3)], 258, 2080, .st [⟨1, .s (.snil)⟩, ⟨256, .ai (List.replicate 256 0)⟩, ⟨1, .s (.i 0)⟩]⟩
theorem tyOK110 : TyOK prog 110 ty110 := ⟨by kernel_rfl, by kernel_rfl, by kernel_rfl, ⟨rfl, List.length_replicate, rfl, True.intro⟩, ⟨_, underlying110, rfl, by kernel_rfl⟩⟩
def ty111 : Ty := ⟨.arr 4 3, 4, 32, .ai [0, 0, 0, 0]⟩
theorem tyOK111 : TyOK prog 111 ty111 := ⟨by kernel_rfl, by kernel_rfl, by kernel_rfl, True.intro, underlying111⟩
def ty112 : Ty := ⟨.func, 1, 8, .s (.raw .nilFunc)⟩
theorem tyOK112 : TyOK prog 112 ty112 := ⟨by kernel_rfl, by kernel_rfl, by kernel_rfl, True.intro, ⟨_, _, _, underlying112⟩⟩
def ty113 : Ty := ⟨.arr 4 111, 16, 128, .ai [0, 0, 0, 0, 0, 0, 0, 0, 0, 0, 0, 0, 0, 0, 0, 0]⟩
theorem tyOK113 : TyOK prog 113 ty113 := ⟨by kernel_rfl, by kernel_rfl, by kernel_rfl, True.intro, underlying113⟩
def ty114 : Ty := ⟨.struct [(0, 45), (1, 45)], 2, 16, .st [⟨1, .s (.u64 0)⟩, ⟨1, .s (.u64 0)⟩]⟩
theorem tyOK114 : TyOK prog 114 ty114 := ⟨by kernel_rfl, by kernel_rfl, by kernel_rfl, ⟨rfl, rfl, True.intro⟩, ⟨_, underlying114, rfl, by kernel_rfl⟩⟩
def ty115 : Ty := ⟨.struct [(0, 45), (1, 45)], 2, 16, .st [⟨1, .s (.u64 0)⟩, ⟨1, .s (.u64 0)⟩]⟩
theorem tyOK115 : TyOK prog 115 ty115 := ⟨by kernel_rfl, by kernel_rfl, by kernel_rfl, ⟨rfl, rfl, True.intro⟩, ⟨_, underlying115, rfl, by kernel_rfl⟩⟩
def ty116 : Ty := ⟨.func, 1, 8, .s (.raw .nilFunc)⟩
theorem tyOK116 : TyOK prog 116 ty116 := ⟨by kernel_rfl, by kernel_rfl, by kernel_rfl, True.intro, ⟨_, _, _, underlying116⟩⟩
def ty117 : Ty := ⟨.func, 1, 8, .s (.raw .nilFunc)⟩
theorem tyOK117 : TyOK prog 117 ty117 := ⟨by kernel_rfl, by kernel_rfl, by kernel_rfl, True.intro, ⟨_, _, _, underlying117⟩⟩
def ty118 : Ty := ⟨.func, 1, 8, .s (.raw .nilFunc)⟩
theorem tyOK118 : TyOK prog 118 ty118 := ⟨by kernel_rfl, by kernel_rfl, by kernel_rfl, True.intro, ⟨_, _, _, underlying118⟩⟩
def ty119 : Ty := ⟨.arr 128 4, 128, 128, .ab (List.replicate 128 false)⟩
theorem tyOK119 : TyOK prog 119 ty119 := ⟨by kernel_rfl, by kernel_rfl, by kernel_rfl, True.intro, underlying119⟩
def ty120 : Ty := ⟨.arr 128 4, 128, 128, .ab (List.replicate 128 false)⟩
theorem tyOK120 : TyOK prog 120 ty120 := ⟨by kernel_rfl, by kernel_rfl, by kernel_rfl, True.intro, underlying120⟩
def ty121 : Ty := ⟨.func, 1, 8, .s (.raw .nilFunc)⟩
theorem tyOK121 : TyOK prog 121 ty121 := ⟨by kernel_rfl, by kernel_rfl, by kernel_rfl, True.intro, ⟨_, _, _, underlying121⟩⟩
def ty122 : Ty := ⟨.arr 2 22, 2, 48, .agg [.snil, .snil]⟩
theorem tyOK122 : TyOK prog 122 ty122 := ⟨by kernel_rfl, by kernel_rfl, by kernel_rfl, True.intro, underlying122⟩
def ty123 : Ty := ⟨.func, 1, 8, .s (.raw .nilFunc)⟩
theorem tyOK123 : TyOK prog 123 ty123 := ⟨by kernel_rfl, by kernel_rfl, by kernel_rfl, True.intro, ⟨_, _, _, underlying123⟩⟩
def ty124 : Ty := ⟨.func, 1, 8, .s (.raw .nilFunc)⟩
theorem tyOK124 : TyOK prog 124 ty124 := ⟨by kernel_rfl, by kernel_rfl, by kernel_rfl, True.intro, ⟨_, _, _, underlying124⟩⟩
def ty125 : Ty := ⟨.func, 1, 8, .s (.raw .nilFunc)⟩
theorem tyOK125 : TyOK prog 125 ty125 := ⟨by kernel_rfl, by kernel_rfl, by kernel_rfl, True.intro, ⟨_, _, _, underlying125⟩⟩
def ty126 : Ty := ⟨.func, 1, 8, .s (.raw .nilFunc)⟩
theorem tyOK126 : TyOK prog 126 ty126 := ⟨by kernel_rfl, by kernel_rfl, by kernel_rfl, True.intro, ⟨_, _, _, underlying126⟩⟩
def ty127 : Ty := ⟨.func, 1, 8, .s (.raw .nilFunc)⟩
theorem tyOK127 : TyOK prog 127 ty127 := ⟨by kernel_rfl, by kernel_rfl, by kernel_rfl, True.intro, ⟨_, _, _, underlying127⟩⟩
def ty128 : Ty := ⟨.int .u32, 1, 4, .s (.u32 0)⟩
theorem tyOK128 : TyOK prog 128 ty128 := ⟨by kernel_rfl, by kernel_rfl, by kernel_rfl, True.intro, underlying128⟩
def ty129 : Ty := ⟨.sl 3, 1, 24, .s (.snil)⟩
theorem tyOK129 : TyOK prog 129 ty129 := ⟨by kernel_rfl, by kernel_rfl, by kernel_rfl, True.intro, underlying129⟩
def ty130 : Ty := ⟨.iface, 1, 16, .s (.inil)⟩
theorem tyOK130 : TyOK prog 130 ty130 := ⟨by kernel_rfl, by kernel_rfl, by kernel_rfl, True.intro, ⟨_, underlying130⟩⟩
def ty131 : Ty := ⟨.iface, 1, 16, .s (.inil)⟩
theorem tyOK131 : TyOK prog 131 ty131 := ⟨by kernel_rfl, by kernel_rfl, by kernel_rfl, True.intro, ⟨_, underlying131⟩⟩
def ty132 : Ty := ⟨.struct [(0, 131), (1, 22)], 2, 40, .st [⟨1, .s (.inil)⟩, ⟨1, .s (.snil)⟩]⟩
theorem tyOK132 : TyOK prog 132 ty132 := ⟨by kernel_rfl, by kernel_rfl, by kernel_rfl, ⟨rfl, rfl, True.intro⟩, ⟨_, underlying132, rfl, by kernel_rfl⟩⟩
def ty133 : Ty := ⟨.struct [(0, 131), (1, 22)], 2, 40, .st [⟨1, .s (.inil)⟩, ⟨1, .s (.snil)⟩]⟩
theorem tyOK133 : TyOK prog 133 ty133 := ⟨by kernel_rfl, by kernel_rfl, by kernel_rfl, ⟨rfl, rfl, True.intro⟩, ⟨_, underlying133, rfl, by kernel_rfl⟩⟩
def ty134 : Ty := ⟨.sl 5, 1, 24, .s (.snil)⟩
theorem tyOK134 : TyOK prog 134 ty134 := ⟨by kernel_rfl, by kernel_rfl, by kernel_rfl, True.intro, underlying134⟩
def ty135 : Ty := ⟨.struct [(0, 25)], 1, 8, .st [⟨1, .s (.nil)⟩]⟩
theorem tyOK135 : TyOK prog 135 ty135 := ⟨by kernel_rfl, by kernel_rfl, by kernel_rfl, ⟨rfl, True.intro⟩, ⟨_, underlying135, rfl, by kernel_rfl⟩⟩
def ty136 : Ty := ⟨.struct [(0, 25)], 1, 8, .st [⟨1, .s (.nil)⟩]⟩
theorem tyOK136 : TyOK prog 136 ty136 := ⟨by kernel_rfl, by kernel_rfl, by kernel_rfl, ⟨rfl, True.intro⟩, ⟨_, underlying136, rfl, by kernel_rfl⟩⟩
def ty137 : Ty := ⟨.func, 1, 8, .s (.raw .nilFunc)⟩
theorem tyOK137 : TyOK prog 137 ty137 := ⟨by kernel_rfl, by kernel_rfl, by kernel_rfl, True.intro, ⟨_, _, _, underlying137⟩⟩
def ty138 : Ty := ⟨.func, 1, 8, .s (.raw .nilFunc)⟩
theorem tyOK138 : TyOK prog 138 ty138 := ⟨by kernel_rfl, by kernel_rfl, by kernel_rfl, True.intro, ⟨_, _, _, underlying138⟩⟩
def ty139 : Ty := ⟨.func, 1, 8, .s (.raw .nilFunc)⟩
theorem tyOK139 : TyOK prog 139 ty139 := ⟨by kernel_rfl, by kernel_rfl, by kernel_rfl, True.intro, ⟨_, _, _, underlying139⟩⟩
def ty140 : Ty := ⟨.func, 1, 8, .s (.raw .nilFunc)⟩
theorem tyOK140 : TyOK prog 140 ty140 := ⟨by kernel_rfl, by kernel_rfl, by kernel_rfl, True.intro, ⟨_, _, _, underlying140⟩⟩
def ty141 : Ty := ⟨.func, 1, 8, .s (.raw .nilFunc)⟩
theorem tyOK141 : TyOK prog 141 ty141 := ⟨by kernel_rfl, by kernel_rfl, by kernel_rfl, True.intro, ⟨_, _, _, underlying141⟩⟩
def ty142 : Ty := ⟨.func, 1, 8, .s (.raw .nilFunc)⟩
theorem tyOK142 : TyOK prog 142 ty142 := ⟨by kernel_rfl, by kernel_rfl, by kernel_rfl, True.intro, ⟨_, _, _, underlying142⟩⟩
def ty143 : Ty := ⟨.func, 1, 8, .s (.raw .nilFunc)⟩
theorem tyOK143 : TyOK prog 143 ty143 := ⟨by kernel_rfl, by kernel_rfl, by kernel_rfl, True.intro, ⟨_, _, _, underlying143⟩⟩
def ty144 : Ty := ⟨.func, 1, 8, .s (.raw .nilFunc)⟩
theorem tyOK144 : TyOK prog 144 ty144 := ⟨by kernel_rfl, by kernel_rfl, by kernel_rfl, True.intro, ⟨_, _, _, underlying144⟩⟩
def ty146 : Ty := ⟨.func, 1, 8, .s (.raw .nilFunc)⟩
theorem tyOK146 : TyOK prog 146 ty146 := ⟨by kernel_rfl, by kernel_rfl, by kernel_rfl, True.intro, ⟨_, _, _, underlying146⟩⟩
def ty147 : Ty := ⟨.arr 255 4, 255, 255, .ab (List.replicate 255 false)⟩
theorem tyOK147 : TyOK prog 147 ty147 := ⟨by kernel_rfl, by kernel_rfl, by kernel_rfl, True.intro, underlying147⟩
def ty148 : Ty := ⟨.sl 4, 1, 24, .s (.snil)⟩
theorem tyOK148 : TyOK prog 148 ty148 := ⟨by kernel_rfl, by kernel_rfl, by kernel_rfl, True.intro, underlying148⟩
def ty149 : Ty := ⟨.func, 1, 8, .s (.raw .nilFunc)⟩
theorem tyOK149 : TyOK prog 149 ty149 := ⟨by kernel_rfl, by kernel_rfl, by kernel_rfl, True.intro, ⟨_, _, _, underlying149⟩⟩
def ty150 : Ty := ⟨.func, 1, 8, .s (.raw .nilFunc)⟩
theorem tyOK150 : TyOK prog 150 ty150 := ⟨by kernel_rfl, by kernel_rfl, by kernel_rfl, True.intro, ⟨_, _, _, underlying150⟩⟩
def ty151 : Ty := ⟨.func, 1, 8, .s (.raw .nilFunc)⟩
theorem tyOK151 : TyOK prog 151 ty151 := ⟨by kernel_rfl, by kernel_rfl, by kernel_rfl, True.intro, ⟨_, _, _, underlying151⟩⟩
def ty152 : Ty := ⟨.ptr 71, 1, 8, .s (.nil)⟩
theorem tyOK152 : TyOK prog 152 ty152 := ⟨by kernel_rfl, by kernel_rfl, by kernel_rfl, True.intro, underlying152⟩
def ty153 : Ty := ⟨.func, 1, 8, .s (.raw .nilFunc)⟩
theorem tyOK153 : TyOK prog 153 ty153 := ⟨by kernel_rfl, by kernel_rfl, by kernel_rfl, True.intro, ⟨_, _, _, underlying153⟩⟩
def ty154 : Ty := ⟨.ptr 45, 1, 8, .s (.nil)⟩
theorem tyOK154 : TyOK prog 154 ty154 := ⟨by kernel_rfl, by kernel_rfl, by kernel_rfl, True.intro, underlying154⟩
def ty155 : Ty := ⟨.func, 1, 8, .s (.raw .nilFunc)⟩
theorem tyOK155 : TyOK prog 155 ty155 := ⟨by kernel_rfl, by kernel_rfl, by kernel_rfl, True.intro, ⟨_, _, _, underlying155⟩⟩
def ty156 : Ty := ⟨.func, 1, 8, .s (.raw .nilFunc)⟩
theorem tyOK156 : TyOK prog 156 ty156 := ⟨by kernel_rfl, by kernel_rfl, by kernel_rfl, True.intro, ⟨_, _, _, underlying156⟩⟩
def ty157 : Ty := ⟨.arr 4 45, 4, 32, .a64 [0, 0, 0, 0]⟩
theorem tyOK157 : TyOK prog 157 ty157 := ⟨by kernel_rfl, by kernel_rfl, by kernel_rfl, True.intro, underlying157⟩
def ty158 : Ty := ⟨.arr 4 45, 4, 32, .a64 [0, 0, 0, 0]⟩
theorem tyOK158 : TyOK prog 158 ty158 := ⟨by kernel_rfl, by kernel_rfl, by kernel_rfl, True.intro, underlying158⟩
def ty159 : Ty := ⟨.func, 1, 8, .s (.raw .nilFunc)⟩
theorem tyOK159 : TyOK prog 159 ty159 := ⟨by kernel_rfl, by kernel_rfl, by kernel_rfl, True.intro, ⟨_, _, _, underlying159⟩⟩
def ty160 : Ty := ⟨.func, 1, 8, .s (.raw .nilFunc)⟩
theorem tyOK160 : TyOK prog 160 ty160 := ⟨by kernel_rfl, by kernel_rfl, by kernel_rfl, True.intro, ⟨_, _, _, underlying160⟩⟩
def ty161 : Ty := ⟨.arr 16 45, 16, 128, .a64 [0, 0, 0, 0, 0, 0, 0, 0, 0, 0, 0, 0, 0, 0, 0, 0]⟩
theorem tyOK161 : TyOK prog 161 ty161 := ⟨by kernel_rfl, by kernel_rfl, by kernel_rfl, True.intro, underlying161⟩
def ty162 : Ty := ⟨.func, 1, 8, .s (.raw .nilFunc)⟩
theorem tyOK162 : TyOK prog 162 ty162 := ⟨by kernel_rfl, by kernel_rfl, by kernel_rfl, True.intro, ⟨_, _, _, underlying162⟩⟩
def ty163 : Ty := ⟨.func, 1, 8, .s (.raw .nilFunc)⟩
theorem tyOK163 : TyOK prog 163 ty163 := ⟨by kernel_rfl, by kernel_rfl, by kernel_rfl, True.intro, ⟨_, _, _, underlying163⟩⟩
def ty164 : Ty := ⟨.arr 9 45, 9, 72, .a64 [0, 0, 0, 0, 0, 0, 0, 0, 0]⟩
theorem tyOK164 : TyOK prog 164 ty164 := ⟨by kernel_rfl, by kernel_rfl, by kernel_rfl, True.intro, underlying164⟩
def ty166 : Ty := ⟨.func, 1, 8, .s (.raw .nilFunc)⟩
theorem tyOK166 : TyOK prog 166 ty166 := ⟨by kernel_rfl, by kernel_rfl, by kernel_rfl, True.intro, ⟨_, _, _, underlying166⟩⟩
def ty167 : Ty := ⟨.func, 1, 8, .s (.raw .nilFunc)⟩
theorem tyOK167 : TyOK prog 167 ty167 := ⟨by kernel_rfl, by kernel_rfl, by kernel_rfl, True.intro, ⟨_, _, _, underlying167⟩⟩
def ty168 : Ty := ⟨.func, 1, 8, .s (.raw .nilFunc)⟩
theorem tyOK168 : TyOK prog 168 ty168 := ⟨by kernel_rfl, by kernel_rfl, by kernel_rfl, True.intro, ⟨_, _, _, underlying168⟩⟩
def ty169 : Ty := ⟨.func, 1, 8, .s (.raw .nilFunc)⟩
theorem tyOK169 : TyOK prog 169 ty169 := ⟨by kernel_rfl, by kernel_rfl, by kernel_rfl, True.intro, ⟨_, _, _, underlying169⟩⟩
def ty170 : Ty := ⟨.func, 1, 8, .s (.raw .nilFunc)⟩
theorem tyOK170 : TyOK prog 170 ty170 := ⟨by kernel_rfl, by kernel_rfl, by kernel_rfl, True.intro, ⟨_, _, _, underlying170⟩⟩
def tab : Tab
  | 1 => some ty1
  | 2 => some ty2
  | 3 => some ty3
  | 4 => some ty4
  | 5 => some ty5
  | 6 => some ty6
  | 7 => some ty7
  | 8 => some ty8
  | 9 => some ty9
  | 10 => some ty10
  | 11 => some ty11
  | 12 => some ty12
  | 13 => some ty13
  | 14 => some ty14
  | 15 => some ty15
  | 16 => some ty16
  | 17 => some ty17
  | 18 => some ty18
  | 19 => some ty19
  | 20 => some ty20
  | 22 => some ty22
  | 23 => some ty23
  | 24 => some ty24
  | 25 => some ty25
  | 26 => some ty26
  | 28 => some ty28
  | 29 => some ty29
  | 30 => some ty30
  | 31 => some ty31
  | 32 => some ty32
  | 33 => some ty33
  | 34 => some ty34
  | 35 => some ty35
  | 36 => some ty36
  | 37 => some ty37
  | 38 => some ty38
  | 40 => some ty40
  | 41 => some ty41
  | 42 => some ty42
  | 43 => some ty43
  | 44 => some ty44
  | 45 => some ty45
  | 46 => some ty46
  | 47 => some ty47
  | 48 => some ty48
  | 50 => some ty50
  | 51 => some ty51
  | 52 => some ty52
  | 53 => some ty53
  | 54 => some ty54
  | 55 => some ty55
  | 56 => some ty56
  | 57 => some ty57
  | 58 => some ty58
  | 59 => some ty59
  | 60 => some ty60
  | 61 => some ty61
  | 63 => some ty63
  | 64 => some ty64
  | 65 => some ty65
  | 66 => some ty66
  | 77 => some ty77
  | 78 => some ty78
  | 79 => some ty79
  | 80 => some ty80
  | 81 => some ty81
  | 82 => some ty82
  | 83 => some ty83
  | 85 => some ty85
  | 86 => some ty86
  | 87 => some ty87
  | 88 => some ty88
  | 89 => some ty89
  | 90 => some ty90
  | 91 => some ty91
  | 94 => some ty94
  | 96 => some ty96
  | 97 => some ty97
  | 98 => some ty98
  | 99 => some ty99
  | 100 => some ty100
  | 101 => some ty101
  | 102 => some ty102
  | 103 => some ty103
  | 104 => some ty104
  | 105 => some ty105
  | 106 => some ty106
  | 107 => some ty107
  | 108 => some ty108
  | 109 => some ty109
  | 110 => some ty110
  | 111 => some ty111
  | 112 => some ty112
  | 113 => some ty113
  | 114 => some ty114
  | 115 => some ty115
  | 116 => some ty116
  | 117 => some ty117
  | 118 => some ty118
  | 119 => some ty119
  | 120 => some ty120
  | 121 => some ty121
  | 122 => some ty122
  | 123 => some ty123
  | 124 => some ty124
  | 125 => some ty125
  | 126 => some ty126
  | 127 => some ty127
  | 128 => some ty128
  | 129 => some ty129
  | 130 => some ty130
  | 131 => some ty131
  | 132 => some ty132
  | 133 => some ty133
  | 134 => some ty134
  | 135 => some ty135
  | 136 => some ty136
  | 137 => some ty137
  | 138 => some ty138
  | 139 => some ty139
  | 140 => some ty140
  | 141 => some ty141
  | 142 => some ty142
  | 143 => some ty143
  | 144 => some ty144
  | 146 => some ty146
  | 147 => some ty147
  | 148 => some ty148
  | 149 => some ty149
  | 150 => some ty150
  | 151 => some ty151
  | 152 => some ty152
  | 153 => some ty153
  | 154 => some ty154
  | 155 => some ty155
  | 156 => some ty156
  | 157 => some ty157
  | 158 => some ty158
  | 159 => some ty159
  | 160 => some ty160
  | 161 => some ty161
  | 162 => some ty162
  | 163 => some ty163
  | 164 => some ty164
  | 166 => some ty166
  | 167 => some ty167
  | 168 => some ty168
  | 169 => some ty169
  | 170 => some ty170
  | _ => none
@[simp] theorem tab1 : tab 1 = some ty1 := rfl
@[simp] theorem tab2 : tab 2 = some ty2 := rfl
@[simp] theorem tab3 : tab 3 = some ty3 := rfl
@[simp] theorem tab4 : tab 4 = some ty4 := rfl
@[simp] theorem tab5 : tab 5 = some ty5 := rfl
@[simp] theorem tab6 : tab 6 = some ty6 := rfl
@[simp] theorem tab7 : tab 7 = some ty7 := rfl
@[simp] theorem tab8 : tab 8 = some ty8 := rfl
@[simp] theorem tab9 : tab 9 = some ty9 := rfl
@[simp] theorem tab10 : tab 10 = some ty10 := rfl
@[simp] theorem tab11 : tab 11 = some ty11 := rfl
@[simp] theorem tab12 : tab 12 = some ty12 := rfl
@[simp] theorem tab13 : tab 13 = some ty13 := rfl
@[simp] theorem tab14 : tab 14 = some ty14 := rfl
@[simp] theorem tab15 : tab 15 = some ty15 := rfl
@[simp] theorem tab16 : tab 16 = some ty16 := rfl
@[simp] theorem tab17 : tab 17 = some ty17 := rfl
@[simp] theorem tab18 : tab 18 = some ty18 := rfl
@[simp] theorem tab19 : tab 19 = some ty19 := rfl
@[simp] theorem tab20 : tab 20 = some ty20 := rfl
@[simp] theorem tab22 : tab 22 = some ty22 := rfl
@[simp] theorem tab23 : tab 23 = some ty23 := rfl
@[simp] theorem tab24 : tab 24 = some ty24 := rfl
@[simp] theorem tab25 : tab 25 = some ty25 := rfl
@[simp] theorem tab26 : tab 26 = some ty26 := rfl
@[simp] theorem tab28 : tab 28 = some ty28 := rfl
@[simp] theorem tab29 : tab 29 = some ty29 := rfl
@[simp] theorem tab30 : tab 30 = some ty30 := rfl
@[simp] theorem tab31 : tab 31 = some ty31 := rfl
@[simp] theorem tab32 : tab 32 = some ty32 := rfl
@[simp] theorem tab33 : tab 33 = some ty33 := rfl
@[simp] theorem tab34 : tab 34 = some ty34 := rfl
@[simp] theorem tab35 : tab 35 = some ty35 := rfl
@[simp] theorem tab36 : tab 36 = some ty36 := rfl
@[simp] theorem tab37 : tab 37 = some ty37 := rfl
@[simp] theorem tab38 : tab 38 = some ty38 := rfl
@[simp] theorem tab40 : tab 40 = some ty40 := rfl
@[simp] theorem tab41 : tab 41 = some ty41 := rfl
@[simp] theorem tab42 : tab 42 = some ty42 := rfl
@[simp] theorem tab43 : tab 43 = some ty43 := rfl
@[simp] theorem tab44 : tab 44 = some ty44 := rfl
@[simp] theorem tab45 : tab 45 = some ty45 := rfl
@[simp] theorem tab46 : tab 46 = some ty46 := rfl
@[simp] theorem tab47 : tab 47 = some ty47 := rfl
@[simp] theorem tab48 : tab 48 = some ty48 := rfl
@[simp] theorem tab50 : tab 50 = some ty50 := rfl
@[simp] theorem tab51 : tab 51 = some ty51 := rfl
@[simp] theorem tab52 : tab 52 = some ty52 := rfl
@[simp] theorem tab53 : tab 53 = some ty53 := rfl
@[simp] theorem tab54 : tab 54 = some ty54 := rfl
@[simp] theorem tab55 : tab 55 = some ty55 := rfl
@[simp] theorem tab56 : tab 56 = some ty56 := rfl
@[simp] theorem tab57 : tab 57 = some ty57 := rfl
@[simp] theorem tab58 : tab 58 = some ty58 := rfl
@[simp] theorem tab59 : tab 59 = some ty59 := rfl
@[simp] theorem tab60 : tab 60 = some ty60 := rfl
@[simp] theorem tab61 : tab 61 = some ty61 := rfl
@[simp] theorem tab63 : tab 63 = some ty63 := rfl
@[simp] theorem tab64 : tab 64 = some ty64 := rfl
@[simp] theorem tab65 : tab 65 = some ty65 := rfl
@[simp] theorem tab66 : tab 66 = some ty66 := rfl
@[simp] theorem tab77 : tab 77 = some ty77 := rfl
@[simp] theorem tab78 : tab 78 = some ty78 := rfl
@[simp] theorem tab79 : tab 79 = some ty79 := rfl
@[simp] theorem tab80 : tab 80 = some ty80 := rfl
@[simp] theorem tab81 : tab 81 = some ty81 := rfl
@[simp] theorem tab82 : tab 82 = some ty82 := rfl
@[simp] theorem tab83 : tab 83 = some ty83 := rfl
@[simp] theorem tab85 : tab 85 = some ty85 := rfl
@[simp] theorem tab86 : tab 86 = some ty86 := rfl
@[simp] theorem tab87 : tab 87 = some ty87 := rfl
@[simp] theorem tab88 : tab 88 = some ty88 := rfl
@[simp] theorem tab89 : tab 89 = some ty89 := rfl
@[simp] theorem tab90 : tab 90 = some ty90 := rfl
@[simp] theorem tab91 : tab 91 = some ty91 := rfl
@[simp] theorem tab94 : tab 94 = some ty94 := rfl
@[simp] theorem tab96 : tab 96 = some ty96 := rfl
@[simp] theorem tab97 : tab 97 = some ty97 := rfl
@[simp] theorem tab98 : tab 98 = some ty98 := rfl
@[simp] theorem tab99 : tab 99 = some ty99 := rfl
@[simp] theorem tab100 : tab 100 = some ty100 := rfl
@[simp] theorem tab101 : tab 101 = some ty101 := rfl
@[simp] theorem tab102 : tab 102 = some ty102 := rfl
@[simp] theorem tab103 : tab 103 = some ty103 := rfl
@[simp] theorem tab104 : tab 104 = some ty104 := rfl
@[simp] theorem tab105 : tab 105 = some ty105 := rfl
@[simp] theorem tab106 : tab 106 = some ty106 := rfl
@[simp] theorem tab107 : tab 107 = some ty107 := rfl
@[simp] theorem tab108 : tab 108 = some ty108 := rfl
@[simp] theorem tab109 : tab 109 = some ty109 := rfl
@[simp] theorem tab110 : tab 110 = some ty110 := rfl
@[simp] theorem tab111 : tab 111 = some ty111 := rfl
@[simp] theorem tab112 : tab 112 = some ty112 := rfl
@[simp] theorem tab113 : tab 113 = some ty113 := rfl
@[simp] theorem tab114 : tab 114 = some ty114 := rfl
@[simp] theorem tab115 : tab 115 = some ty115 := rfl
@[simp] theorem tab116 : tab 116 = some ty116 := rfl
@[simp] theorem tab117 : tab 117 = some ty117 := rfl
@[simp] theorem tab118 : tab 118 = some ty118 := rfl
@[simp] theorem tab119 : tab 119 = some ty119 := rfl
@[simp] theorem tab120 : tab 120 = some ty120 := rfl
@[simp] theorem tab121 : tab 121 = some ty121 := rfl
@[simp] theorem tab122 : tab 122 = some ty122 := rfl
@[simp] theorem tab123 : tab 123 = some ty123 := rfl
@[simp] theorem tab124 : tab 124 = some ty124 := rfl
@[simp] theorem tab125 : tab 125 = some ty125 := rfl
@[simp] theorem tab126 : tab 126 = some ty126 := rfl
@[simp] theorem tab127 : tab 127 = some ty127 := rfl
@[simp] theorem tab128 : tab 128 = some ty128 := rfl
@[simp] theorem tab129 : tab 129 = some ty129 := rfl
@[simp] theorem tab130 : tab 130 = some ty130 := rfl
@[simp] theorem tab131 : tab 131 = some ty131 := rfl
@[simp] theorem tab132 : tab 132 = some ty132 := rfl
@[simp] theorem tab133 : tab 133 = some ty133 := rfl
@[simp] theorem tab134 : tab 134 = some ty134 := rfl
@[simp] theorem tab135 : tab 135 = some ty135 := rfl
@[simp] theorem tab136 : tab 136 = some ty136 := rfl
@[simp] theorem tab137 : tab 137 = some ty137 := rfl
@[simp] theorem tab138 : tab 138 = some ty138 := rfl
@[simp] theorem tab139 : tab 139 = some ty139 := rfl
@[simp] theorem tab140 : tab 140 = some ty140 := rfl
@[simp] theorem tab141 : tab 141 = some ty141 := rfl
@[simp] theorem tab142 : tab 142 = some ty142 := rfl
@[simp] theorem tab143 : tab 143 = some ty143 := rfl
@[simp] theorem tab144 : tab 144 = some ty144 := rfl
@[simp] theorem tab146 : tab 146 = some ty146 := rfl
@[simp] theorem tab147 : tab 147 = some ty147 := rfl
@[simp] theorem tab148 : tab 148 = some ty148 := rfl
@[simp] theorem tab149 : tab 149 = some ty149 := rfl
@[simp] theorem tab150 : tab 150 = some ty150 := rfl
@[simp] theorem tab151 : tab 151 = some ty151 := rfl
@[simp] theorem tab152 : tab 152 = some ty152 := rfl
@[simp] theorem tab153 : tab 153 = some ty153 := rfl
@[simp] theorem tab154 : tab 154 = some ty154 := rfl
@[simp] theorem tab155 : tab 155 = some ty155 := rfl
@[simp] theorem tab156 : tab 156 = some ty156 := rfl
@[simp] theorem tab157 : tab 157 = some ty157 := rfl
@[simp] theorem tab158 : tab 158 = some ty158 := rfl
@[simp] theorem tab159 : tab 159 = some ty159 := rfl
@[simp] theorem tab160 : tab 160 = some ty160 := rfl
@[simp] theorem tab161 : tab 161 = some ty161 := rfl
@[simp] theorem tab162 : tab 162 = some ty162 := rfl
@[simp] theorem tab163 : tab 163 = some ty163 := rfl
@[simp] theorem tab164 : tab 164 = some ty164 := rfl
@[simp] theorem tab166 : tab 166 = some ty166 := rfl
@[simp] theorem tab167 : tab 167 = some ty167 := rfl
@[simp] theorem tab168 : tab 168 = some ty168 := rfl
@[simp] theorem tab169 : tab 169 = some ty169 := rfl
@[simp] theorem tab170 : tab 170 = some ty170 := rfl
theorem tabOK : TabOK prog tab := by
  intro t ty h
  unfold tab at h
  split at h
  all_goals first | (cases h; done) | (obtain rfl := Option.some.inj h; first | exact tyOK1 | exact tyOK2 | exact tyOK3 | exact tyOK4 | exact tyOK5 | exact tyOK6 | exact tyOK7 | exact tyOK8 | exact tyOK9 | exact tyOK10 | exact tyOK11 | exact tyOK12 | exact tyOK13 | exact tyOK14 | exact tyOK15 | exact tyOK16 | exact tyOK17 | exact tyOK18 | exact tyOK19 | exact tyOK20 | exact tyOK22 | exact tyOK23 | exact tyOK24 | exact tyOK25 | exact tyOK26 | exact tyOK28 | exact tyOK29 | exact tyOK30 | exact tyOK31 | exact tyOK32 | exact tyOK33 | exact tyOK34 | exact tyOK35 | exact tyOK36 | exact tyOK37 | exact tyOK38 | exact tyOK40 | exact tyOK41 | exact tyOK42 | exact tyOK43 | exact tyOK44 | exact tyOK45 | exact tyOK46 | exact tyOK47 | exact tyOK48 | exact tyOK50 | exact tyOK51 | exact tyOK52 | exact tyOK53 | exact tyOK54 | exact tyOK55 | exact tyOK56 | exact tyOK57 | exact tyOK58 | exact tyOK59 | exact tyOK60 | exact tyOK61 | exact tyOK63 | exact tyOK64 | exact tyOK65 | exact tyOK66 | exact tyOK77 | exact tyOK78 | exact tyOK79 | exact tyOK80 | exact tyOK81 | exact tyOK82 | exact tyOK83 | exact tyOK85 | exact tyOK86 | exact tyOK87 | exact tyOK88 | exact tyOK89 | exact tyOK90 | exact tyOK91 | exact tyOK94 | exact tyOK96 | exact tyOK97 | exact tyOK98 | exact tyOK99 | exact tyOK100 | exact tyOK101 | exact tyOK102 | exact tyOK103 | exact tyOK104 | exact tyOK105 | exact tyOK106 | exact tyOK107 | exact tyOK108 | exact tyOK109 | exact tyOK110 | exact tyOK111 | exact tyOK112 | exact tyOK113 | exact tyOK114 | exact tyOK115 | exact tyOK116 | exact tyOK117 | exact tyOK118 | exact tyOK119 | exact tyOK120 | exact tyOK121 | exact tyOK122 | exact tyOK123 | exact tyOK124 | exact tyOK125 | exact tyOK126 | exact tyOK127 | exact tyOK128 | exact tyOK129 | exact tyOK130 | exact tyOK131 | exact tyOK132 | exact tyOK133 | exact tyOK134 | exact tyOK135 | exact tyOK136 | exact tyOK137 | exact tyOK138 | exact tyOK139 | exact tyOK140 | exact tyOK141 | exact tyOK142 | exact tyOK143 | exact tyOK144 | exact tyOK146 | exact tyOK147 | exact tyOK148 | exact tyOK149 | exact tyOK150 | exact tyOK151 | exact tyOK152 | exact tyOK153 | exact tyOK154 | exact tyOK155 | exact tyOK156 | exact tyOK157 | exact tyOK158 | exact tyOK159 | exact tyOK160 | exact tyOK161 | exact tyOK162 | exact tyOK163 | exact tyOK164 | exact tyOK166 | exact tyOK167 | exact tyOK168 | exact tyOK169 | exact tyOK170)
theorem mixed : prog.follows .mixedOrders = true := by kernel_rfl
end Go.V
end
section
set_option linter.unusedSimpArgs false
set_option linter.unusedVariables false
set_option maxRecDepth 10000
namespace Go.V
open Go Go.Proofs.Try
theorem spec59 (a : BitVec 8) : Spec prog 59 [one (.u8 a)] [] [] (fun r _ => r = one (.u8 ((a <<< 1) ^^^ ((a >>> 7) * 27#8)))) := by
  refine spec_of_body tabOK func59 rfl (Nat.le_of_ble_eq_true rfl) ?_
  intro E Q0 hb
  refine ok_run hb tabOK pureNone_ok 100 ?_
  simp only [argSl]
  repeat (first
    | rw [run_ops0]
    | rw [run_seq]
    | rw [run_region]
    | rw [run_block]
    | rw [run_blk]
    | rw [run_skip]
    | (apply run_go rfl; focus (intro L K hK; simp [step1, evS, est, St.ev, St.put, St.add, St.upd, look_hit, look_miss, okd, stBin, bin, binS, binB, binI, shS, shB, S.num, constS, one, inI, stUn, stNil, stLoad, stAt, stField, stIndexAddr, stStore, wrAt, stAlloc, stBox, stIndex, stPart, stPartRow, stFieldV, stConv, cvS, cvB, cvI, stSlice, optN, SV.num, noMax, stArrPtr, stExtract, stLen, stBuild, A.isRow, A.isAgg, A.noRec, A.len, A.get, A.sub, A.set, A.over, Ent.bound, Kind.isStruct, Kind.isAgg, S.known, A.solid, segAt, segPut, segLen, R.a, R.len, A.r, stMake, stBuildSlice, litA, repA, rep1, fillA, putP, sing, stMin, stEqA, rowEq, Kind.isScal, -List.reduceReplicate, tab5, ty5, ntmps59]; (repeat' apply And.intro); all_goals first | exact hK | omega)))
  rw [run_ret]
  simp [finOf, resP, resV, extraOwn, look_hit, look_miss, one, -List.reduceReplicate, stLoad, stAt, Ent.bound, A.len, A.isRow, A.isAgg, results59, f59]

def xorI (a b : Int) : Int := ((a.toNat ^^^ b.toNat : Nat) : Int)
def timesStep (a b r : Int) (i : Nat) : Int :=
  let r2 := r * 2
  let r3 := if 255 < r2 then xorI r2 283 else r2
  if (b / 2 ^ i).tmod 2 = 1 then xorI r3 a else r3
def timesR (a b : Int) : Nat → Int
  | 0 => 0
  | j + 1 => timesStep a b (timesR a b j) (7 - j)
theorem xorI_lt {a b : Int} (ha : 0 ≤ a ∧ a < 256) (hb : 0 ≤ b ∧ b < 256) : 0 ≤ xorI a b ∧ xorI a b < 256 := by
  unfold xorI
  have := Nat.xor_lt_two_pow (x := a.toNat) (y := b.toNat) (n := 8) (by omega) (by omega)
  omega
theorem xor283 {r : Int} (hr : 0 ≤ r ∧ r < 256) (h : 255 < r * 2) : (r * 2).toNat ^^^ 283 < 256 := by
  obtain ⟨n, rfl⟩ := Int.eq_ofNat_of_zero_le hr.1
  have key : ∀ m : Fin 256, 255 < m.1 * 2 → (m.1 * 2) ^^^ 283 < 256 := by decide
  have := key ⟨n, by omega⟩ (by simp; omega)
  have e : ((n : Int) * 2).toNat = n * 2 := by omega
  rw [e]
  simpa using this
theorem timesStep_lt {a b r : Int} {i : Nat} (ha : 0 ≤ a ∧ a < 256) (hr : 0 ≤ r ∧ r < 256) : 0 ≤ timesStep a b r i ∧ timesStep a b r i < 256 := by
  have h3 : 0 ≤ (if 255 < r * 2 then xorI (r * 2) 283 else r * 2) ∧ (if 255 < r * 2 then xorI (r * 2) 283 else r * 2) < 256 := by
    split
    · rename_i h
      have := xor283 hr h
      unfold xorI
      have e : (283 : Int).toNat = 283 := rfl
      rw [e]
      omega
    · omega
  unfold timesStep
  simp only
  split
  · exact xorI_lt h3 ha
  · exact h3
theorem timesR_lt {a b : Int} (ha : 0 ≤ a ∧ a < 256) : ∀ j, 0 ≤ timesR a b j ∧ timesR a b j < 256
  | 0 => by simp [timesR]
  | j + 1 => timesStep_lt ha (timesR_lt ha j)
theorem spec62 (a b : Int) (ha : 0 ≤ a ∧ a < 256) (hb : 0 ≤ b ∧ b < 256) : Spec prog 62 [one (.i a), one (.i b)] [] [] (fun r _ => r = one (.i (timesR a b 8))) := by
  refine spec_of_body tabOK func62 rfl (Nat.le_of_ble_eq_true rfl) ?_
  intro E Q0 hB
  refine ok_run hB tabOK pureNone_ok 100 ?_
  simp only [argSl]
  repeat (first
    | rw [run_ops0]
    | rw [run_seq]
    | rw [run_region]
    | rw [run_block]
    | rw [run_blk]
    | rw [run_skip]
    | (apply run_go rfl; focus (intro L K hK; simp [step1, evS, est, St.ev, St.put, St.add, St.upd, look_hit, look_miss, okd, stBin, bin, binS, binB, binI, shS, shB, S.num, constS, one, inI, stUn, stNil, stLoad, stAt, stField, stIndexAddr, stStore, wrAt, stAlloc, stBox, stIndex, stPart, stPartRow, stFieldV, stConv, cvS, cvB, cvI, stSlice, optN, SV.num, noMax, stArrPtr, stExtract, stLen, stBuild, A.isRow, A.isAgg, A.noRec, A.len, A.get, A.sub, A.set, A.over, Ent.bound, Kind.isStruct, Kind.isAgg, S.known, A.solid, segAt, segPut, segLen, R.a, R.len, A.r, stMake, stBuildSlice, litA, repA, rep1, fillA, putP, sing, stMin, stEqA, rowEq, Kind.isScal, -List.reduceReplicate, tab3, ty3, ntmps62]; (repeat' apply And.intro); all_goals first | exact hK | omega)))
  rw [run_loop]
  refine ok_loop (X := Nat) (fun j => ⟨[(6, one (.i (7 - j))), (5, one (.i (timesR a b j))), (1, one (.i b)), (0, one (.i a))], []⟩) (fun j => j ≤ 8) (fun j => 8 - j) (fun j i L h => hB.anc i L h) ⟨0, by simp, by simp [Ent2, entSl, entM, belSl, belV, belA, belS, belR, belM, look_hit, look_miss, one, timesR]⟩ ?_
  intro j hj
  refine ok_run hB tabOK pureNone_ok 100 ?_
  have hr := timesR_lt (a := a) (b := b) ha j
  repeat (first
    | rw [run_ops0]
    | rw [run_seq]
    | rw [run_region]
    | rw [run_block]
    | rw [run_blk]
    | rw [run_skip]
    | (apply run_go rfl; focus (intro L K hK; simp [step1, evS, est, St.ev, St.put, St.add, St.upd, look_hit, look_miss, okd, stBin, bin, binS, binB, binI, shS, shB, S.num, constS, one, inI, stUn, stNil, stLoad, stAt, stField, stIndexAddr, stStore, wrAt, stAlloc, stBox, stIndex, stPart, stPartRow, stFieldV, stConv, cvS, cvB, cvI, stSlice, optN, SV.num, noMax, stArrPtr, stExtract, stLen, stBuild, A.isRow, A.isAgg, A.noRec, A.len, A.get, A.sub, A.set, A.over, Ent.bound, Kind.isStruct, Kind.isAgg, S.known, A.solid, segAt, segPut, segLen, R.a, R.len, A.r, stMake, stBuildSlice, litA, repA, rep1, fillA, putP, sing, stMin, stEqA, rowEq, Kind.isScal, -List.reduceReplicate, tab3, ty3, ntmps62]; (repeat' apply And.intro); all_goals first | exact hK | omega)))
  apply run_cond2 rfl
  · intro h
    simp at h
    repeat (first
    | rw [run_ops0]
    | rw [run_seq]
    | rw [run_region]
    | rw [run_block]
    | rw [run_blk]
    | rw [run_skip]
    | (apply run_go rfl; focus (intro L K hK; simp [step1, evS, est, St.ev, St.put, St.add, St.upd, look_hit, look_miss, okd, stBin, bin, binS, binB, binI, shS, shB, S.num, constS, one, inI, stUn, stNil, stLoad, stAt, stField, stIndexAddr, stStore, wrAt, stAlloc, stBox, stIndex, stPart, stPartRow, stFieldV, stConv, cvS, cvB, cvI, stSlice, optN, SV.num, noMax, stArrPtr, stExtract, stLen, stBuild, A.isRow, A.isAgg, A.noRec, A.len, A.get, A.sub, A.set, A.over, Ent.bound, Kind.isStruct, Kind.isAgg, S.known, A.solid, segAt, segPut, segLen, R.a, R.len, A.r, stMake, stBuildSlice, litA, repA, rep1, fillA, putP, sing, stMin, stEqA, rowEq, Kind.isScal, -List.reduceReplicate, tab3, ty3, ntmps62]; (repeat' apply And.intro); all_goals first | exact hK | omega)))
    have h7 : (7 - (j : Int)).toNat = 7 - j := by omega
    have back : ∀ st : St, look st.sl 6 = one (.i (7 - j - 1)) → look st.sl 5 = one (.i (timesR a b (j + 1))) → look st.sl 1 = one (.i b) → look st.sl 0 = one (.i a) → st.m = [] →
        ∃ x', x' ≤ 8 ∧ 8 - x' < 8 - j ∧ Ent2 st ⟨[(6, one (.i (7 - (x' : Nat)))), (5, one (.i (timesR a b x'))), (1, one (.i b)), (0, one (.i a))], []⟩ := by
      intro st e1 e2 e3 e4 e5
      refine ⟨j + 1, by omega, by omega, ?_⟩
      refine ⟨⟨?_, e2, e3, e4, trivial⟩, trivial, rfl, rfl⟩
      rw [e1]; simp [one]; omega
    apply run_cond2 rfl
    · intro h2
      simp at h2
      have hx := xor283 hr h2
      repeat (first
    | rw [run_ops0]
    | rw [run_seq]
    | rw [run_region]
    | rw [run_block]
    | rw [run_blk]
    | rw [run_skip]
    | (apply run_go rfl; focus (intro L K hK; simp [step1, evS, est, St.ev, St.put, St.add, St.upd, look_hit, look_miss, okd, stBin, bin, binS, binB, binI, shS, shB, S.num, constS, one, inI, stUn, stNil, stLoad, stAt, stField, stIndexAddr, stStore, wrAt, stAlloc, stBox, stIndex, stPart, stPartRow, stFieldV, stConv, cvS, cvB, cvI, stSlice, optN, SV.num, noMax, stArrPtr, stExtract, stLen, stBuild, A.isRow, A.isAgg, A.noRec, A.len, A.get, A.sub, A.set, A.over, Ent.bound, Kind.isStruct, Kind.isAgg, S.known, A.solid, segAt, segPut, segLen, R.a, R.len, A.r, stMake, stBuildSlice, litA, repA, rep1, fillA, putP, sing, stMin, stEqA, rowEq, Kind.isScal, -List.reduceReplicate, tab3, ty3, ntmps62]; (repeat' apply And.intro); all_goals first | exact hK | omega)))
      apply run_cond2 rfl
      · intro h3
        simp at h3
        repeat (first
    | rw [run_ops0]
    | rw [run_seq]
    | rw [run_region]
    | rw [run_block]
    | rw [run_blk]
    | rw [run_skip]
    | (apply run_go rfl; focus (intro L K hK; simp [step1, evS, est, St.ev, St.put, St.add, St.upd, look_hit, look_miss, okd, stBin, bin, binS, binB, binI, shS, shB, S.num, constS, one, inI, stUn, stNil, stLoad, stAt, stField, stIndexAddr, stStore, wrAt, stAlloc, stBox, stIndex, stPart, stPartRow, stFieldV, stConv, cvS, cvB, cvI, stSlice, optN, SV.num, noMax, stArrPtr, stExtract, stLen, stBuild, A.isRow, A.isAgg, A.noRec, A.len, A.get, A.sub, A.set, A.over, Ent.bound, Kind.isStruct, Kind.isAgg, S.known, A.solid, segAt, segPut, segLen, R.a, R.len, A.r, stMake, stBuildSlice, litA, repA, rep1, fillA, putP, sing, stMin, stEqA, rowEq, Kind.isScal, -List.reduceReplicate, tab3, ty3, ntmps62]; (repeat' apply And.intro); all_goals first | exact hK | omega)))
        rw [run_back]
        apply back <;> simp [look_hit, look_miss, one, timesR, timesStep, xorI, h2, h3]
      · intro h3
        simp at h3
        repeat (first
    | rw [run_ops0]
    | rw [run_seq]
    | rw [run_region]
    | rw [run_block]
    | rw [run_blk]
    | rw [run_skip]
    | (apply run_go rfl; focus (intro L K hK; simp [step1, evS, est, St.ev, St.put, St.add, St.upd, look_hit, look_miss, okd, stBin, bin, binS, binB, binI, shS, shB, S.num, constS, one, inI, stUn, stNil, stLoad, stAt, stField, stIndexAddr, stStore, wrAt, stAlloc, stBox, stIndex, stPart, stPartRow, stFieldV, stConv, cvS, cvB, cvI, stSlice, optN, SV.num, noMax, stArrPtr, stExtract, stLen, stBuild, A.isRow, A.isAgg, A.noRec, A.len, A.get, A.sub, A.set, A.over, Ent.bound, Kind.isStruct, Kind.isAgg, S.known, A.solid, segAt, segPut, segLen, R.a, R.len, A.r, stMake, stBuildSlice, litA, repA, rep1, fillA, putP, sing, stMin, stEqA, rowEq, Kind.isScal, -List.reduceReplicate, tab3, ty3, ntmps62]; (repeat' apply And.intro); all_goals first | exact hK | omega)))
        rw [run_back]
        apply back <;> simp [look_hit, look_miss, one, timesR, timesStep, xorI, h2, h3]
    · intro h2
      simp at h2
      have h2' : ¬ 255 < timesR a b j * 2 := by omega
      repeat (first
    | rw [run_ops0]
    | rw [run_seq]
    | rw [run_region]
    | rw [run_block]
    | rw [run_blk]
    | rw [run_skip]
    | (apply run_go rfl; focus (intro L K hK; simp [step1, evS, est, St.ev, St.put, St.add, St.upd, look_hit, look_miss, okd, stBin, bin, binS, binB, binI, shS, shB, S.num, constS, one, inI, stUn, stNil, stLoad, stAt, stField, stIndexAddr, stStore, wrAt, stAlloc, stBox, stIndex, stPart, stPartRow, stFieldV, stConv, cvS, cvB, cvI, stSlice, optN, SV.num, noMax, stArrPtr, stExtract, stLen, stBuild, A.isRow, A.isAgg, A.noRec, A.len, A.get, A.sub, A.set, A.over, Ent.bound, Kind.isStruct, Kind.isAgg, S.known, A.solid, segAt, segPut, segLen, R.a, R.len, A.r, stMake, stBuildSlice, litA, repA, rep1, fillA, putP, sing, stMin, stEqA, rowEq, Kind.isScal, -List.reduceReplicate, tab3, ty3, ntmps62]; (repeat' apply And.intro); all_goals first | exact hK | omega)))
      apply run_cond2 rfl
      · intro h3
        simp at h3
        repeat (first
    | rw [run_ops0]
    | rw [run_seq]
    | rw [run_region]
    | rw [run_block]
    | rw [run_blk]
    | rw [run_skip]
    | (apply run_go rfl; focus (intro L K hK; simp [step1, evS, est, St.ev, St.put, St.add, St.upd, look_hit, look_miss, okd, stBin, bin, binS, binB, binI, shS, shB, S.num, constS, one, inI, stUn, stNil, stLoad, stAt, stField, stIndexAddr, stStore, wrAt, stAlloc, stBox, stIndex, stPart, stPartRow, stFieldV, stConv, cvS, cvB, cvI, stSlice, optN, SV.num, noMax, stArrPtr, stExtract, stLen, stBuild, A.isRow, A.isAgg, A.noRec, A.len, A.get, A.sub, A.set, A.over, Ent.bound, Kind.isStruct, Kind.isAgg, S.known, A.solid, segAt, segPut, segLen, R.a, R.len, A.r, stMake, stBuildSlice, litA, repA, rep1, fillA, putP, sing, stMin, stEqA, rowEq, Kind.isScal, -List.reduceReplicate, tab3, ty3, ntmps62]; (repeat' apply And.intro); all_goals first | exact hK | omega)))
        rw [run_back]
        apply back <;> simp [look_hit, look_miss, one, timesR, timesStep, xorI, h2', h3]
      · intro h3
        simp at h3
        repeat (first
    | rw [run_ops0]
    | rw [run_seq]
    | rw [run_region]
    | rw [run_block]
    | rw [run_blk]
    | rw [run_skip]
    | (apply run_go rfl; focus (intro L K hK; simp [step1, evS, est, St.ev, St.put, St.add, St.upd, look_hit, look_miss, okd, stBin, bin, binS, binB, binI, shS, shB, S.num, constS, one, inI, stUn, stNil, stLoad, stAt, stField, stIndexAddr, stStore, wrAt, stAlloc, stBox, stIndex, stPart, stPartRow, stFieldV, stConv, cvS, cvB, cvI, stSlice, optN, SV.num, noMax, stArrPtr, stExtract, stLen, stBuild, A.isRow, A.isAgg, A.noRec, A.len, A.get, A.sub, A.set, A.over, Ent.bound, Kind.isStruct, Kind.isAgg, S.known, A.solid, segAt, segPut, segLen, R.a, R.len, A.r, stMake, stBuildSlice, litA, repA, rep1, fillA, putP, sing, stMin, stEqA, rowEq, Kind.isScal, -List.reduceReplicate, tab3, ty3, ntmps62]; (repeat' apply And.intro); all_goals first | exact hK | omega)))
        rw [run_back]
        apply back <;> simp [look_hit, look_miss, one, timesR, timesStep, xorI, h2', h3]
  · intro h
    simp at h
    obtain rfl : j = 8 := by omega
    apply run_exit2 rfl
    repeat (first
    | rw [run_ops0]
    | rw [run_seq]
    | rw [run_region]
    | rw [run_block]
    | rw [run_blk]
    | rw [run_skip]
    | (apply run_go rfl; focus (intro L K hK; simp [step1, evS, est, St.ev, St.put, St.add, St.upd, look_hit, look_miss, okd, stBin, bin, binS, binB, binI, shS, shB, S.num, constS, one, inI, stUn, stNil, stLoad, stAt, stField, stIndexAddr, stStore, wrAt, stAlloc, stBox, stIndex, stPart, stPartRow, stFieldV, stConv, cvS, cvB, cvI, stSlice, optN, SV.num, noMax, stArrPtr, stExtract, stLen, stBuild, A.isRow, A.isAgg, A.noRec, A.len, A.get, A.sub, A.set, A.over, Ent.bound, Kind.isStruct, Kind.isAgg, S.known, A.solid, segAt, segPut, segLen, R.a, R.len, A.r, stMake, stBuildSlice, litA, repA, rep1, fillA, putP, sing, stMin, stEqA, rowEq, Kind.isScal, -List.reduceReplicate, tab3, ty3, ntmps62]; (repeat' apply And.intro); all_goals first | exact hK | omega)))
    rw [run_ret]
    simp [finOf, resP, resV, extraOwn, look_hit, look_miss, one, -List.reduceReplicate, stLoad, stAt, Ent.bound, A.len, A.isRow, A.isAgg, results62, f62]

/-! plain calls: Times, twice -/
def pureB (f : FuncId) (l : List SV) : Option SV :=
  match f, l with
  | 62, [.one (.s (.i a)), .one (.s (.i b))] => if (0 ≤ a ∧ a < 256) ∧ (0 ≤ b ∧ b < 256) then some (one (.i (timesR a b 8))) else none
  | 59, [.one (.s (.u8 a))] => some (one (.u8 ((a <<< 1) ^^^ ((a >>> 7) * 27#8))))
  | _, _ => none
theorem pureB_ok : PureOK prog (pureOf pureB) := by
  refine pureOf_ok ?_
  intro f svs sv h
  unfold pureB at h
  split at h
  · split at h
    · rename_i hc
      cases h
      exact ⟨⟨f62, func62, nofun, by decide⟩, spec62 _ _ hc.1 hc.2, rfl, rfl⟩
    · cases h
  · cases h
    exact ⟨⟨f59, func59, nofun, by decide⟩, spec59 _, rfl, rfl⟩
  · cases h

/-! power, at 254 -/
def nAt (j : Nat) : Int := ((254 / 2 ^ j : Nat) : Int)
def sqR (b : Int) : Nat → Int
  | 0 => b
  | j + 1 => timesR (sqR b j) (sqR b j) 8
def powR (b : Int) : Nat → Int
  | 0 => 1
  | j + 1 => if (nAt j).tmod 2 = 1 then timesR (powR b j) (sqR b j) 8 else powR b j
theorem sqR_lt {b : Int} (hb : 0 ≤ b ∧ b < 256) : ∀ j, 0 ≤ sqR b j ∧ sqR b j < 256
  | 0 => hb
  | j + 1 => timesR_lt (sqR_lt hb j) 8
theorem powR_lt {b : Int} (hb : 0 ≤ b ∧ b < 256) : ∀ j, 0 ≤ powR b j ∧ powR b j < 256
  | 0 => by simp [powR]
  | j + 1 => by
    unfold powR
    split
    · exact timesR_lt (powR_lt hb j) 8
    · exact powR_lt hb j
theorem nAt_pos {j : Nat} (h : j < 8) : 0 < nAt j ∧ nAt j ≤ 254 ∧ (nAt j).tdiv 2 = nAt (j + 1) ∧ 0 ≤ (nAt j).tdiv 2 ∧ (nAt j).tdiv 2 ≤ 127 := by
  have : ∀ j : Fin 8, 0 < nAt j.1 ∧ nAt j.1 ≤ 254 ∧ (nAt j.1).tdiv 2 = nAt (j.1 + 1) ∧ 0 ≤ (nAt j.1).tdiv 2 ∧ (nAt j.1).tdiv 2 ≤ 127 := by decide
  exact this ⟨j, h⟩
theorem spec61 (b : Int) (hb : 0 ≤ b ∧ b < 256) : Spec prog 61 [one (.i b), one (.i 254)] [] [] (fun r _ => r = one (.i (powR b 8))) := by
  refine spec_of_body tabOK func61 rfl (Nat.le_of_ble_eq_true rfl) ?_
  intro E Q0 hB
  refine ok_run hB tabOK pureB_ok 100 ?_
  simp only [argSl]
  repeat (first
    | rw [run_ops0]
    | rw [run_seq]
    | rw [run_region]
    | rw [run_block]
    | rw [run_blk]
    | rw [run_skip]
    | (apply run_go rfl; focus (intro L K hK; simp [step1, evS, est, St.ev, St.put, St.add, St.upd, look_hit, look_miss, okd, stBin, bin, binS, binB, binI, shS, shB, S.num, constS, one, inI, stUn, stNil, stLoad, stAt, stField, stIndexAddr, stStore, wrAt, stAlloc, stBox, stIndex, stPart, stPartRow, stFieldV, stConv, cvS, cvB, cvI, stSlice, optN, SV.num, noMax, stArrPtr, stExtract, stLen, stBuild, A.isRow, A.isAgg, A.noRec, A.len, A.get, A.sub, A.set, A.over, Ent.bound, Kind.isStruct, Kind.isAgg, S.known, A.solid, segAt, segPut, segLen, R.a, R.len, A.r, stMake, stBuildSlice, litA, repA, rep1, fillA, putP, sing, stMin, stEqA, rowEq, Kind.isScal, -List.reduceReplicate, tab3, ty3, ntmps61]; (repeat' apply And.intro); all_goals first | exact hK | omega)))
  rw [run_loop]
  refine ok_loop (X := Nat) (fun j => ⟨[(5, one (.i (powR b j))), (1, one (.i (nAt j))), (0, one (.i (sqR b j)))], []⟩) (fun j => j ≤ 8) (fun j => 8 - j) (fun j i L h => hB.anc i L h) ⟨0, by simp, by simp [Ent2, entSl, entM, belSl, belV, belA, belS, belR, belM, look_hit, look_miss, one, powR, sqR, nAt]⟩ ?_
  intro j hj
  refine ok_run hB tabOK pureB_ok 100 ?_
  have hp := powR_lt hb j
  have hs := sqR_lt hb j
  repeat (first
    | rw [run_ops0]
    | rw [run_seq]
    | rw [run_region]
    | rw [run_block]
    | rw [run_blk]
    | rw [run_skip]
    | (apply run_go rfl; focus (intro L K hK; simp [step1, evS, est, St.ev, St.put, St.add, St.upd, look_hit, look_miss, okd, stBin, bin, binS, binB, binI, shS, shB, S.num, constS, one, inI, stUn, stNil, stLoad, stAt, stField, stIndexAddr, stStore, wrAt, stAlloc, stBox, stIndex, stPart, stPartRow, stFieldV, stConv, cvS, cvB, cvI, stSlice, optN, SV.num, noMax, stArrPtr, stExtract, stLen, stBuild, A.isRow, A.isAgg, A.noRec, A.len, A.get, A.sub, A.set, A.over, Ent.bound, Kind.isStruct, Kind.isAgg, S.known, A.solid, segAt, segPut, segLen, R.a, R.len, A.r, stMake, stBuildSlice, litA, repA, rep1, fillA, putP, sing, stMin, stEqA, rowEq, Kind.isScal, -List.reduceReplicate, tab3, ty3, ntmps61]; (repeat' apply And.intro); all_goals first | exact hK | omega)))
  apply run_cond2 rfl
  · intro h
    simp at h
    have hj8 : j < 8 := by
      rcases Nat.lt_or_ge j 8 with h8 | h8
      · exact h8
      · obtain rfl : j = 8 := by omega
        exact absurd h (by decide)
    obtain ⟨n1, n2, n3, n4⟩ := nAt_pos hj8
    repeat (first
    | rw [run_ops0]
    | rw [run_seq]
    | rw [run_region]
    | rw [run_block]
    | rw [run_blk]
    | rw [run_skip]
    | (apply run_go rfl; focus (intro L K hK; simp [step1, evS, est, St.ev, St.put, St.add, St.upd, look_hit, look_miss, okd, stBin, bin, binS, binB, binI, shS, shB, S.num, constS, one, inI, stUn, stNil, stLoad, stAt, stField, stIndexAddr, stStore, wrAt, stAlloc, stBox, stIndex, stPart, stPartRow, stFieldV, stConv, cvS, cvB, cvI, stSlice, optN, SV.num, noMax, stArrPtr, stExtract, stLen, stBuild, A.isRow, A.isAgg, A.noRec, A.len, A.get, A.sub, A.set, A.over, Ent.bound, Kind.isStruct, Kind.isAgg, S.known, A.solid, segAt, segPut, segLen, R.a, R.len, A.r, stMake, stBuildSlice, litA, repA, rep1, fillA, putP, sing, stMin, stEqA, rowEq, Kind.isScal, -List.reduceReplicate, tab3, ty3, ntmps61]; (repeat' apply And.intro); all_goals first | exact hK | omega)))
    apply run_cond2 rfl
    · intro h2
      simp at h2
      repeat (first
    | rw [run_ops0]
    | rw [run_seq]
    | rw [run_region]
    | rw [run_block]
    | rw [run_blk]
    | rw [run_skip]
    | (apply run_go rfl; focus (intro L K hK; simp [step1, evS, est, St.ev, St.put, St.add, St.upd, look_hit, look_miss, okd, stBin, bin, binS, binB, binI, shS, shB, S.num, constS, one, inI, stUn, stNil, stLoad, stAt, stField, stIndexAddr, stStore, wrAt, stAlloc, stBox, stIndex, stPart, stPartRow, stFieldV, stConv, cvS, cvB, cvI, stSlice, optN, SV.num, noMax, stArrPtr, stExtract, stLen, stBuild, A.isRow, A.isAgg, A.noRec, A.len, A.get, A.sub, A.set, A.over, Ent.bound, Kind.isStruct, Kind.isAgg, S.known, A.solid, segAt, segPut, segLen, R.a, R.len, A.r, stMake, stBuildSlice, litA, repA, rep1, fillA, putP, sing, stMin, stEqA, rowEq, Kind.isScal, -List.reduceReplicate, tab3, ty3, ntmps61, pureOf, pureB, hp, hs]; (repeat' apply And.intro); all_goals first | exact hK | omega)))
      rw [run_back]
      refine ⟨j + 1, by omega, by omega, ?_⟩
      simp [Ent2, entSl, entM, belSl, belV, belA, belS, belR, belM, look_hit, look_miss, one, powR, sqR, h2, n3]
    · intro h2
      simp at h2
      repeat (first
    | rw [run_ops0]
    | rw [run_seq]
    | rw [run_region]
    | rw [run_block]
    | rw [run_blk]
    | rw [run_skip]
    | (apply run_go rfl; focus (intro L K hK; simp [step1, evS, est, St.ev, St.put, St.add, St.upd, look_hit, look_miss, okd, stBin, bin, binS, binB, binI, shS, shB, S.num, constS, one, inI, stUn, stNil, stLoad, stAt, stField, stIndexAddr, stStore, wrAt, stAlloc, stBox, stIndex, stPart, stPartRow, stFieldV, stConv, cvS, cvB, cvI, stSlice, optN, SV.num, noMax, stArrPtr, stExtract, stLen, stBuild, A.isRow, A.isAgg, A.noRec, A.len, A.get, A.sub, A.set, A.over, Ent.bound, Kind.isStruct, Kind.isAgg, S.known, A.solid, segAt, segPut, segLen, R.a, R.len, A.r, stMake, stBuildSlice, litA, repA, rep1, fillA, putP, sing, stMin, stEqA, rowEq, Kind.isScal, -List.reduceReplicate, tab3, ty3, ntmps61, pureOf, pureB, hp, hs]; (repeat' apply And.intro); all_goals first | exact hK | omega)))
      rw [run_back]
      refine ⟨j + 1, by omega, by omega, ?_⟩
      simp [Ent2, entSl, entM, belSl, belV, belA, belS, belR, belM, look_hit, look_miss, one, powR, sqR, h2, n3]
  · intro h
    simp at h
    obtain rfl : j = 8 := by
      rcases Nat.lt_or_ge j 8 with h8 | h8
      · have := (nAt_pos h8).1; omega
      · omega
    apply run_exit2 rfl
    repeat (first
    | rw [run_ops0]
    | rw [run_seq]
    | rw [run_region]
    | rw [run_block]
    | rw [run_blk]
    | rw [run_skip]
    | (apply run_go rfl; focus (intro L K hK; simp [step1, evS, est, St.ev, St.put, St.add, St.upd, look_hit, look_miss, okd, stBin, bin, binS, binB, binI, shS, shB, S.num, constS, one, inI, stUn, stNil, stLoad, stAt, stField, stIndexAddr, stStore, wrAt, stAlloc, stBox, stIndex, stPart, stPartRow, stFieldV, stConv, cvS, cvB, cvI, stSlice, optN, SV.num, noMax, stArrPtr, stExtract, stLen, stBuild, A.isRow, A.isAgg, A.noRec, A.len, A.get, A.sub, A.set, A.over, Ent.bound, Kind.isStruct, Kind.isAgg, S.known, A.solid, segAt, segPut, segLen, R.a, R.len, A.r, stMake, stBuildSlice, litA, repA, rep1, fillA, putP, sing, stMin, stEqA, rowEq, Kind.isScal, -List.reduceReplicate, tab3, ty3, ntmps61]; (repeat' apply And.intro); all_goals first | exact hK | omega)))
    rw [run_ret]
    simp [finOf, resP, resV, extraOwn, look_hit, look_miss, one, -List.reduceReplicate, stLoad, stAt, Ent.bound, A.len, A.isRow, A.isAgg, results61, f61]

/-! sub -/
def pureC (f : FuncId) (l : List SV) : Option SV :=
  match f, l with
  | 61, [.one (.s (.i b)), .one (.s (.i 254))] => if 0 ≤ b ∧ b < 256 then some (one (.i (powR b 8))) else none
  | f, l => pureB f l
theorem pureC_ok : PureOK prog (pureOf pureC) := by
  refine pureOf_ok ?_
  intro f svs sv h
  unfold pureC at h
  split at h
  · split at h
    · rename_i hc
      cases h
      exact ⟨⟨f61, func61, nofun, by decide⟩, spec61 _ hc, rfl, rfl⟩
    · cases h
  · unfold pureB at h
    split at h
    · split at h
      · rename_i hc
        cases h
        exact ⟨⟨f62, func62, nofun, by decide⟩, spec62 _ _ hc.1 hc.2, rfl, rfl⟩
      · cases h
    · cases h
      exact ⟨⟨f59, func59, nofun, by decide⟩, spec59 _, rfl, rfl⟩
    · cases h
def rotR (y : Int) : Nat → Int
  | 0 => y
  | j + 1 => xorI (rotR y j) ((y * 2 ^ (j + 1)).tmod 256 + y / 2 ^ (7 - j))
theorem rot_part {y : Int} (hy : 0 ≤ y ∧ y < 256) {j : Nat} (hj : j < 4) : 0 ≤ y * 2 ^ (j + 1) ∧ y * 2 ^ (j + 1) < 4096 ∧ 0 ≤ (y * 2 ^ (j + 1)).tmod 256 + y / 2 ^ (7 - j) ∧ (y * 2 ^ (j + 1)).tmod 256 + y / 2 ^ (7 - j) < 256 ∧ 0 ≤ y / 2 ^ (7 - j) ∧ y / 2 ^ (7 - j) < 256 ∧ 0 ≤ (y * 2 ^ (j + 1)).tmod 256 ∧ (y * 2 ^ (j + 1)).tmod 256 < 256 := by
  obtain ⟨n, rfl⟩ := Int.eq_ofNat_of_zero_le hy.1
  have key : ∀ (j : Fin 4) (n : Fin 256), 0 ≤ (n.1 : Int) * 2 ^ (j.1 + 1) ∧ (n.1 : Int) * 2 ^ (j.1 + 1) < 4096 ∧ 0 ≤ ((n.1 : Int) * 2 ^ (j.1 + 1)).tmod 256 + (n.1 : Int) / 2 ^ (7 - j.1) ∧ ((n.1 : Int) * 2 ^ (j.1 + 1)).tmod 256 + (n.1 : Int) / 2 ^ (7 - j.1) < 256 ∧ 0 ≤ (n.1 : Int) / 2 ^ (7 - j.1) ∧ (n.1 : Int) / 2 ^ (7 - j.1) < 256 ∧ 0 ≤ ((n.1 : Int) * 2 ^ (j.1 + 1)).tmod 256 ∧ ((n.1 : Int) * 2 ^ (j.1 + 1)).tmod 256 < 256 := by decide +kernel
  exact key ⟨j, hj⟩ ⟨n, by omega⟩
theorem rotR_lt {y : Int} (hy : 0 ≤ y ∧ y < 256) : ∀ j, j ≤ 4 → 0 ≤ rotR y j ∧ rotR y j < 256
  | 0, _ => hy
  | j + 1, h => by
    obtain ⟨_, _, h3, h4, _⟩ := rot_part hy (j := j) (by omega)
    exact xorI_lt (rotR_lt hy j (by omega)) ⟨h3, h4⟩
def subR (x : Int) : Int := xorI (rotR (powR x 8) 4) 99
theorem subR_lt {x : Int} (hx : 0 ≤ x ∧ x < 256) : 0 ≤ subR x ∧ subR x < 256 := xorI_lt (rotR_lt (powR_lt hx 8) 4 (by omega)) ⟨by decide, by decide⟩
set_option maxHeartbeats 1000000 in
theorem spec81 (x : Int) (hx : 0 ≤ x ∧ x < 256) : Spec prog 81 [one (.i x)] [] [] (fun r _ => r = one (.i (subR x))) := by
  refine spec_of_body tabOK func81 rfl (Nat.le_of_ble_eq_true rfl) ?_
  intro E Q0 hB
  refine ok_run hB tabOK pureC_ok 100 ?_
  simp only [argSl]
  have hy := powR_lt hx 8
  repeat (first
    | rw [run_ops0]
    | rw [run_seq]
    | rw [run_region]
    | rw [run_block]
    | rw [run_blk]
    | rw [run_skip]
    | (apply run_go rfl; focus (intro L K hK; simp [step1, evS, est, St.ev, St.put, St.add, St.upd, look_hit, look_miss, okd, stBin, bin, binS, binB, binI, shS, shB, S.num, constS, one, inI, stUn, stNil, stLoad, stAt, stField, stIndexAddr, stStore, wrAt, stAlloc, stBox, stIndex, stPart, stPartRow, stFieldV, stConv, cvS, cvB, cvI, stSlice, optN, SV.num, noMax, stArrPtr, stExtract, stLen, stBuild, A.isRow, A.isAgg, A.noRec, A.len, A.get, A.sub, A.set, A.over, Ent.bound, Kind.isStruct, Kind.isAgg, S.known, A.solid, segAt, segPut, segLen, R.a, R.len, A.r, stMake, stBuildSlice, litA, repA, rep1, fillA, putP, sing, stMin, stEqA, rowEq, Kind.isScal, -List.reduceReplicate, tab3, ty3, ntmps81, pureOf, pureC, hx]; (repeat' apply And.intro); all_goals first | exact hK | omega)))
  rw [run_loop]
  refine ok_loop (X := Nat) (fun j => ⟨[(5, one (.i (j + 1))), (4, one (.i (rotR (powR x 8) j))), (3, one (.i (powR x 8)))], []⟩) (fun j => j ≤ 4) (fun j => 4 - j) (fun j i L h => hB.anc i L h) ⟨0, by simp, by simp [Ent2, entSl, entM, belSl, belV, belA, belS, belR, belM, look_hit, look_miss, one, rotR]⟩ ?_
  intro j hj
  refine ok_run hB tabOK pureC_ok 100 ?_
  have hr := rotR_lt hy j hj
  repeat (first
    | rw [run_ops0]
    | rw [run_seq]
    | rw [run_region]
    | rw [run_block]
    | rw [run_blk]
    | rw [run_skip]
    | (apply run_go rfl; focus (intro L K hK; simp [step1, evS, est, St.ev, St.put, St.add, St.upd, look_hit, look_miss, okd, stBin, bin, binS, binB, binI, shS, shB, S.num, constS, one, inI, stUn, stNil, stLoad, stAt, stField, stIndexAddr, stStore, wrAt, stAlloc, stBox, stIndex, stPart, stPartRow, stFieldV, stConv, cvS, cvB, cvI, stSlice, optN, SV.num, noMax, stArrPtr, stExtract, stLen, stBuild, A.isRow, A.isAgg, A.noRec, A.len, A.get, A.sub, A.set, A.over, Ent.bound, Kind.isStruct, Kind.isAgg, S.known, A.solid, segAt, segPut, segLen, R.a, R.len, A.r, stMake, stBuildSlice, litA, repA, rep1, fillA, putP, sing, stMin, stEqA, rowEq, Kind.isScal, -List.reduceReplicate, tab3, ty3, ntmps81]; (repeat' apply And.intro); all_goals first | exact hK | omega)))
  apply run_cond2 rfl
  · intro h
    simp at h
    obtain ⟨p1, p2, p3, p4, p5, p6, p7, p8⟩ := rot_part hy (j := j) (by omega)
    repeat (first
    | rw [run_ops0]
    | rw [run_seq]
    | rw [run_region]
    | rw [run_block]
    | rw [run_blk]
    | rw [run_skip]
    | (apply run_go rfl; focus (intro L K hK; simp [step1, evS, est, St.ev, St.put, St.add, St.upd, look_hit, look_miss, okd, stBin, bin, binS, binB, binI, shS, shB, S.num, constS, one, inI, stUn, stNil, stLoad, stAt, stField, stIndexAddr, stStore, wrAt, stAlloc, stBox, stIndex, stPart, stPartRow, stFieldV, stConv, cvS, cvB, cvI, stSlice, optN, SV.num, noMax, stArrPtr, stExtract, stLen, stBuild, A.isRow, A.isAgg, A.noRec, A.len, A.get, A.sub, A.set, A.over, Ent.bound, Kind.isStruct, Kind.isAgg, S.known, A.solid, segAt, segPut, segLen, R.a, R.len, A.r, stMake, stBuildSlice, litA, repA, rep1, fillA, putP, sing, stMin, stEqA, rowEq, Kind.isScal, -List.reduceReplicate, tab3, ty3, ntmps81]; (repeat' apply And.intro); all_goals first | exact hK | omega)))
    rw [run_draw]
    refine ok_draw2 11 tabOK pureC_ok (pureOf_mono _) mixed (by decide +kernel) rfl rfl ?_
    have e7 : (8 - ((j : Int) + 1)).toNat = 7 - j := by omega
    repeat (first
    | (apply hd_go rfl rfl rfl rfl (Nat.le_of_ble_eq_true rfl); focus (intro K' hK; simp [step1, evS, est, St.ev, St.put, St.add, St.upd, look_hit, look_miss, okd, stBin, bin, binS, binB, binI, shS, shB, S.num, constS, one, inI, stUn, stNil, stLoad, stAt, stField, stIndexAddr, stStore, wrAt, stAlloc, stBox, stIndex, stPart, stPartRow, stFieldV, stConv, cvS, cvB, cvI, stSlice, optN, SV.num, noMax, stArrPtr, stExtract, stLen, stBuild, A.isRow, A.isAgg, A.noRec, A.len, A.get, A.sub, A.set, A.over, Ent.bound, Kind.isStruct, Kind.isAgg, S.known, A.solid, segAt, segPut, segLen, R.a, R.len, A.r, stMake, stBuildSlice, litA, repA, rep1, fillA, putP, sing, stMin, stEqA, rowEq, Kind.isScal, -List.reduceReplicate, tab3, ty3, e7]; (repeat' apply And.intro); all_goals first | exact hK | omega))
    | (apply hd_new rfl rfl rfl rfl (Nat.le_of_ble_eq_true rfl); focus (intro K' hK; simp [step1, evS, est, St.ev, St.put, St.add, St.upd, look_hit, look_miss, okd, stBin, bin, binS, binB, binI, shS, shB, S.num, constS, one, inI, stUn, stNil, stLoad, stAt, stField, stIndexAddr, stStore, wrAt, stAlloc, stBox, stIndex, stPart, stPartRow, stFieldV, stConv, cvS, cvB, cvI, stSlice, optN, SV.num, noMax, stArrPtr, stExtract, stLen, stBuild, A.isRow, A.isAgg, A.noRec, A.len, A.get, A.sub, A.set, A.over, Ent.bound, Kind.isStruct, Kind.isAgg, S.known, A.solid, segAt, segPut, segLen, R.a, R.len, A.r, stMake, stBuildSlice, litA, repA, rep1, fillA, putP, sing, stMin, stEqA, rowEq, Kind.isScal, -List.reduceReplicate, tab3, ty3, e7]; (repeat' apply And.intro); all_goals first | exact hK | omega)))
    refine hd_nil ?_
    simp only [List.map_nil, List.append_nil]
    refine ok_run hB tabOK pureC_ok 100 ?_
    repeat (first
    | rw [run_ops0]
    | rw [run_seq]
    | rw [run_region]
    | rw [run_block]
    | rw [run_blk]
    | rw [run_skip]
    | (apply run_go rfl; focus (intro L K hK; simp [step1, evS, est, St.ev, St.put, St.add, St.upd, look_hit, look_miss, okd, stBin, bin, binS, binB, binI, shS, shB, S.num, constS, one, inI, stUn, stNil, stLoad, stAt, stField, stIndexAddr, stStore, wrAt, stAlloc, stBox, stIndex, stPart, stPartRow, stFieldV, stConv, cvS, cvB, cvI, stSlice, optN, SV.num, noMax, stArrPtr, stExtract, stLen, stBuild, A.isRow, A.isAgg, A.noRec, A.len, A.get, A.sub, A.set, A.over, Ent.bound, Kind.isStruct, Kind.isAgg, S.known, A.solid, segAt, segPut, segLen, R.a, R.len, A.r, stMake, stBuildSlice, litA, repA, rep1, fillA, putP, sing, stMin, stEqA, rowEq, Kind.isScal, -List.reduceReplicate, tab3, ty3, ntmps81]; (repeat' apply And.intro); all_goals first | exact hK | omega)))
    rw [run_back]
    refine ⟨j + 1, by omega, by omega, ?_⟩
    simp [Ent2, entSl, entM, belSl, belV, belA, belS, belR, belM, look_hit, look_miss, one, rotR, xorI]
    trace_state
  · intro h
    simp at h
    obtain rfl : j = 4 := by omega
    apply run_exit2 rfl
    repeat (first
    | rw [run_ops0]
    | rw [run_seq]
    | rw [run_region]
    | rw [run_block]
    | rw [run_blk]
    | rw [run_skip]
    | (apply run_go rfl; focus (intro L K hK; simp [step1, evS, est, St.ev, St.put, St.add, St.upd, look_hit, look_miss, okd, stBin, bin, binS, binB, binI, shS, shB, S.num, constS, one, inI, stUn, stNil, stLoad, stAt, stField, stIndexAddr, stStore, wrAt, stAlloc, stBox, stIndex, stPart, stPartRow, stFieldV, stConv, cvS, cvB, cvI, stSlice, optN, SV.num, noMax, stArrPtr, stExtract, stLen, stBuild, A.isRow, A.isAgg, A.noRec, A.len, A.get, A.sub, A.set, A.over, Ent.bound, Kind.isStruct, Kind.isAgg, S.known, A.solid, segAt, segPut, segLen, R.a, R.len, A.r, stMake, stBuildSlice, litA, repA, rep1, fillA, putP, sing, stMin, stEqA, rowEq, Kind.isScal, -List.reduceReplicate, tab3, ty3, ntmps81]; (repeat' apply And.intro); all_goals first | exact hK | omega)))
    rw [run_ret]
    simp [finOf, resP, resV, extraOwn, look_hit, look_miss, one, -List.reduceReplicate, stLoad, stAt, Ent.bound, A.len, A.isRow, A.isAgg, results81, f81, subR, xorI]
end Go.V
end
section
set_option linter.unusedSimpArgs false
set_option linter.unusedVariables false
set_option maxRecDepth 10000
namespace Go.V
open Go Go.Proofs.Try
def tabR : Nat → List Int
  | 0 => List.replicate 256 0
  | j + 1 => (tabR j).set j (subR j)
theorem tabR_len : ∀ j, (tabR j).length = 256
  | 0 => List.length_replicate
  | j + 1 => by simp [tabR, tabR_len j]
def pureD (f : FuncId) (l : List SV) : Option SV :=
  match f, l with
  | 81, [.one (.s (.i b))] => if 0 ≤ b ∧ b < 256 then some (one (.i (subR b))) else none
  | _, _ => none
theorem pureD_ok : PureOK prog (pureOf pureD) := by
  refine pureOf_ok ?_
  intro f svs sv h
  unfold pureD at h
  split at h
  · split at h
    · rename_i hc
      cases h
      exact ⟨⟨f81, func81, nofun, by decide⟩, spec81 _ hc, rfl, rfl⟩
    · cases h
  · cases h
theorem spec60 : Spec prog 60 [] [] [] (fun r _ => r = .one (.ai (tabR 256))) := by
  refine spec_of_body tabOK func60 rfl (Nat.le_of_ble_eq_true rfl) ?_
  intro E Q0 hB
  refine ok_run hB tabOK pureD_ok 100 ?_
  simp only [argSl]
  repeat (first
    | rw [run_ops0]
    | rw [run_seq]
    | rw [run_region]
    | rw [run_block]
    | rw [run_blk]
    | rw [run_skip]
    | (apply run_go rfl; focus (intro L K hK; simp [step1, evS, est, St.ev, St.put, St.add, St.upd, look_hit, look_miss, okd, stBin, bin, binS, binB, binI, shS, shB, S.num, constS, one, inI, stUn, stNil, stLoad, stAt, stField, stIndexAddr, stStore, wrAt, stAlloc, stBox, stIndex, stPart, stPartRow, stFieldV, stConv, cvS, cvB, cvI, stSlice, optN, SV.num, noMax, stArrPtr, stExtract, stLen, stBuild, A.isRow, A.isAgg, A.noRec, A.len, A.get, A.sub, A.set, A.over, Ent.bound, Kind.isStruct, Kind.isAgg, S.known, A.solid, segAt, segPut, segLen, R.a, R.len, A.r, stMake, stBuildSlice, litA, repA, rep1, fillA, putP, sing, stMin, stEqA, rowEq, Kind.isScal, -List.reduceReplicate, tab106, ty106, tab3, ty3, ntmps60]; (repeat' apply And.intro); all_goals first | exact hK | omega)))
  rw [run_loop]
  refine ok_loop (X := Nat) (fun j => ⟨[(2, one (.i j)), (1, one (.ptr 1 0 0)), (0, one (.ptr 0 0 0))], [.ent ⟨true, 106, some 256, .ai (List.replicate 256 0)⟩, .ent ⟨true, 106, some 256, .ai (tabR j)⟩]⟩) (fun j => j ≤ 256) (fun j => 256 - j) (fun j i L h => absurd (hB.anc i L h) (by simp)) ⟨0, by simp, by simp [Ent2, entSl, entM, belSl, belV, belA, belS, belR, belM, look_hit, look_miss, one, tabR, -List.reduceReplicate]⟩ ?_
  intro j hj
  refine ok_run hB tabOK pureD_ok 100 ?_
  have hlen := tabR_len j
  repeat (first
    | rw [run_ops0]
    | rw [run_seq]
    | rw [run_region]
    | rw [run_block]
    | rw [run_blk]
    | rw [run_skip]
    | (apply run_go rfl; focus (intro L K hK; simp [step1, evS, est, St.ev, St.put, St.add, St.upd, look_hit, look_miss, okd, stBin, bin, binS, binB, binI, shS, shB, S.num, constS, one, inI, stUn, stNil, stLoad, stAt, stField, stIndexAddr, stStore, wrAt, stAlloc, stBox, stIndex, stPart, stPartRow, stFieldV, stConv, cvS, cvB, cvI, stSlice, optN, SV.num, noMax, stArrPtr, stExtract, stLen, stBuild, A.isRow, A.isAgg, A.noRec, A.len, A.get, A.sub, A.set, A.over, Ent.bound, Kind.isStruct, Kind.isAgg, S.known, A.solid, segAt, segPut, segLen, R.a, R.len, A.r, stMake, stBuildSlice, litA, repA, rep1, fillA, putP, sing, stMin, stEqA, rowEq, Kind.isScal, -List.reduceReplicate, tab3, ty3, tab106, ty106, ntmps60]; (repeat' apply And.intro); all_goals first | exact hK | omega)))
  apply run_cond2 rfl
  · intro h
    simp at h
    have hj' : (j : Int) < 256 := by omega
    repeat (first
    | rw [run_ops0]
    | rw [run_seq]
    | rw [run_region]
    | rw [run_block]
    | rw [run_blk]
    | rw [run_skip]
    | (apply run_go rfl; focus (intro L K hK; simp [step1, evS, est, St.ev, St.put, St.add, St.upd, look_hit, look_miss, okd, stBin, bin, binS, binB, binI, shS, shB, S.num, constS, one, inI, stUn, stNil, stLoad, stAt, stField, stIndexAddr, stStore, wrAt, stAlloc, stBox, stIndex, stPart, stPartRow, stFieldV, stConv, cvS, cvB, cvI, stSlice, optN, SV.num, noMax, stArrPtr, stExtract, stLen, stBuild, A.isRow, A.isAgg, A.noRec, A.len, A.get, A.sub, A.set, A.over, Ent.bound, Kind.isStruct, Kind.isAgg, S.known, A.solid, segAt, segPut, segLen, R.a, R.len, A.r, stMake, stBuildSlice, litA, repA, rep1, fillA, putP, sing, stMin, stEqA, rowEq, Kind.isScal, -List.reduceReplicate, tab3, ty3, tab106, ty106, ntmps60, pureOf, pureD, hj', hlen]; (repeat' apply And.intro); all_goals first | exact hK | omega)))
    rw [run_back]
    refine ⟨j + 1, by omega, by omega, ?_⟩
    simp [Ent2, entSl, entM, belSl, belV, belA, belS, belR, belM, look_hit, look_miss, one, tabR, -List.reduceReplicate]
  · intro h
    simp at h
    obtain rfl : j = 256 := by omega
    apply run_exit2 rfl
    repeat (first
    | rw [run_ops0]
    | rw [run_seq]
    | rw [run_region]
    | rw [run_block]
    | rw [run_blk]
    | rw [run_skip]
    | (apply run_go rfl; focus (intro L K hK; simp [step1, evS, est, St.ev, St.put, St.add, St.upd, look_hit, look_miss, okd, stBin, bin, binS, binB, binI, shS, shB, S.num, constS, one, inI, stUn, stNil, stLoad, stAt, stField, stIndexAddr, stStore, wrAt, stAlloc, stBox, stIndex, stPart, stPartRow, stFieldV, stConv, cvS, cvB, cvI, stSlice, optN, SV.num, noMax, stArrPtr, stExtract, stLen, stBuild, A.isRow, A.isAgg, A.noRec, A.len, A.get, A.sub, A.set, A.over, Ent.bound, Kind.isStruct, Kind.isAgg, S.known, A.solid, segAt, segPut, segLen, R.a, R.len, A.r, stMake, stBuildSlice, litA, repA, rep1, fillA, putP, sing, stMin, stEqA, rowEq, Kind.isScal, -List.reduceReplicate, tab3, ty3, tab106, ty106, ntmps60, hlen]; (repeat' apply And.intro); all_goals first | exact hK | omega)))
    rw [run_ret]
    simp [finOf, resP, resV, extraOwn, look_hit, look_miss, one, -List.reduceReplicate, stLoad, stAt, Ent.bound, A.len, A.isRow, A.isAgg, results60, f60, tab106, ty106]

/-! the box -/
def boxL : List (BitVec 8) := [99, 124, 119, 123, 242, 107, 111, 197, 48, 1, 103, 43, 254, 215, 171, 118, 202, 130, 201, 125, 250, 89, 71, 240, 173, 212, 162, 175, 156, 164, 114, 192, 183, 253, 147, 38, 54, 63, 247, 204, 52, 165, 229, 241, 113, 216, 49, 21, 4, 199, 35, 195, 24, 150, 5, 154, 7, 18, 128, 226, 235, 39, 178, 117, 9, 131, 44, 26, 27, 110, 90, 160, 82, 59, 214, 179, 41, 227, 47, 132, 83, 209, 0, 237, 32, 252, 177, 91, 106, 203, 190, 57, 74, 76, 88, 207, 208, 239, 170, 251, 67, 77, 51, 133, 69, 249, 2, 127, 80, 60, 159, 168, 81, 163, 64, 143, 146, 157, 56, 245, 188, 182, 218, 33, 16, 255, 243, 210, 205, 12, 19, 236, 95, 151, 68, 23, 196, 167, 126, 61, 100, 93, 25, 115, 96, 129, 79, 220, 34, 42, 144, 136, 70, 238, 184, 20, 222, 94, 11, 219, 224, 50, 58, 10, 73, 6, 36, 92, 194, 211, 172, 98, 145, 149, 228, 121, 231, 200, 55, 109, 141, 213, 78, 169, 108, 86, 244, 234, 101, 122, 174, 8, 186, 120, 37, 46, 28, 166, 180, 198, 232, 221, 116, 31, 75, 189, 139, 138, 112, 62, 181, 102, 72, 3, 246, 14, 97, 53, 87, 185, 134, 193, 29, 158, 225, 248, 152, 17, 105, 217, 142, 148, 155, 30, 135, 233, 206, 85, 40, 223, 140, 161, 137, 13, 191, 230, 66, 104, 65, 153, 45, 15, 176, 84, 187, 22]
def boxPs : List (Nat × SV) := boxL.zipIdx.map (fun p => (p.2, one (.u8 p.1)))
theorem fill_bytes : ∀ (xs pre post : List (BitVec 8)) (K : A → Prop), post.length = xs.length → K (.a8 (pre ++ xs)) → fillA (.a8 (pre ++ post)) 1 ((xs.zipIdx pre.length).map (fun p => (p.2, one (.u8 p.1)))) K
  | [], pre, [], K, _, h => h
  | x :: xs, pre, y :: post, K, hl, h => by
    have h2 := fill_bytes xs (pre ++ [x]) post K (by simpa using hl) (by simpa using h)
    simp only [List.length_append, List.length_cons, List.length_nil, Nat.zero_add, List.append_assoc, List.cons_append, List.nil_append] at h2
    simp only [List.zipIdx_cons, List.map_cons, fillA, putP, one]
    refine ⟨⟨trivial, by simp [A.len], rfl⟩, ?_⟩
    simp only [A.set]
    rw [List.set_append_right _ _ (Nat.le_refl _), Nat.sub_self]
    exact h2
  | [], pre, y :: post, K, hl, h => by simp at hl
  | x :: xs, pre, [], K, hl, h => by simp at hl
theorem box_build {K : SV → Prop} (h : K (.one (.a8 boxL))) : stBuild tab 100 boxPs K := by
  unfold stBuild
  simp only [tab100, ty100, tab5, ty5]
  refine ⟨rfl, ?_⟩
  have := fill_bytes boxL [] (List.replicate 256 0) (fun a => K (.one a)) (by rw [List.length_replicate]; rfl) h
  simpa [boxPs, -List.reduceReplicate] using this
theorem box_build2 {ps : List (Nat × SV)} (hp : ps = boxPs) {K : SV → Prop} (h : K (.one (.a8 boxL))) : stBuild tab 100 ps K := by
  subst hp; exact box_build h
theorem boxL_len : boxL.length = 256 := rfl
theorem spec58 : Spec prog 58 [] [] [] (fun r _ => r = .one (.a8 boxL)) := by
  refine spec_of_body tabOK func58 rfl (Nat.le_of_ble_eq_true rfl) ?_
  intro E Q0 hB
  refine ok_run hB tabOK pureNone_ok 100 ?_
  simp only [argSl]
  rw [run_seq, run_region]
  apply run_go rfl
  · intro L K hK
    simp [step1, est, stAlloc, tab100, ty100, A.solid, okd, ntmps58, St.add, St.put, one, -List.reduceReplicate]
    exact hK
  rw [run_ops0, run_seq, run_region]
  apply run_go rfl
  · intro L K hK
    simp only [step1, est]
    refine box_build2 (by kernel_rfl) ?_
    simp only [St.add, St.put, okd, ntmps58]
    exact ⟨by decide, hK⟩
  have hl := boxL_len
  generalize boxL = bl at hl ⊢
  repeat (first
    | rw [run_ops0]
    | rw [run_seq]
    | rw [run_region]
    | rw [run_block]
    | rw [run_blk]
    | rw [run_skip]
    | (apply run_go rfl; focus (intro L K hK; simp [step1, evS, est, St.ev, St.put, St.add, St.upd, look_hit, look_miss, okd, stBin, bin, binS, binB, binI, shS, shB, S.num, constS, one, inI, stUn, stNil, stLoad, stAt, stField, stIndexAddr, stStore, wrAt, stAlloc, stBox, stIndex, stPart, stPartRow, stFieldV, stConv, cvS, cvB, cvI, stSlice, optN, SV.num, noMax, stArrPtr, stExtract, stLen, stBuild, A.isRow, A.isAgg, A.noRec, A.len, A.get, A.sub, A.set, A.over, Ent.bound, Kind.isStruct, Kind.isAgg, S.known, A.solid, segAt, segPut, segLen, R.a, R.len, A.r, stMake, stBuildSlice, litA, repA, rep1, fillA, putP, sing, stMin, stEqA, rowEq, Kind.isScal, -List.reduceReplicate, tab100, ty100, ntmps58, hl]; (repeat' apply And.intro); all_goals first | exact hK | omega)))
  rw [run_ret]
  simp [finOf, resP, resV, extraOwn, look_hit, look_miss, one, -List.reduceReplicate, stLoad, stAt, Ent.bound, A.len, A.isRow, A.isAgg, results58, f58, tab100, ty100, hl]
end Go.V
end
section
set_option linter.unusedSimpArgs false
set_option linter.unusedVariables false
set_option maxRecDepth 10000
namespace Go.V
open Go Go.Proofs.Try
def pureE (f : FuncId) (l : List SV) : Option SV :=
  match f, l with
  | 58, [] => some (.one (.a8 boxL))
  | 59, [.one (.s (.u8 a))] => some (one (.u8 ((a <<< 1) ^^^ ((a >>> 7) * 27#8))))
  | _, _ => none
theorem pureE_ok : PureOK prog (pureOf pureE) := by
  refine pureOf_ok ?_
  intro f svs sv h
  unfold pureE at h
  split at h
  · cases h
    exact ⟨⟨f58, func58, nofun, by decide⟩, spec58, rfl, rfl⟩
  · cases h
    exact ⟨⟨f59, func59, nofun, by decide⟩, spec59 _, rfl, rfl⟩
  · cases h
abbrev B8 := List (BitVec 8)
def xorAt (b s W : B8) (o : Nat) : Nat → B8
  | 0 => b
  | j + 1 => (xorAt b s W o j).set j (s.getD j 0 ^^^ W.getD (o + j) 0)
def xorIn (b W : B8) : Nat → B8
  | 0 => b
  | j + 1 => (xorIn b W j).set j ((xorIn b W j).getD j 0 ^^^ W.getD j 0)
theorem xorIn_len (b W : B8) : ∀ j, (xorIn b W j).length = b.length
  | 0 => rfl
  | j + 1 => by simp [xorIn, xorIn_len b W j]
theorem xorAt_len (b s W : B8) (o : Nat) : ∀ j, (xorAt b s W o j).length = b.length
  | 0 => rfl
  | j + 1 => by simp [xorAt, xorAt_len b s W o j]
def twice8 (a : BitVec 8) : BitVec 8 := (a <<< 1) ^^^ ((a >>> 7) * 27#8)
def zero16 : B8 := [0, 0, 0, 0, 0, 0, 0, 0, 0, 0, 0, 0, 0, 0, 0, 0]
def subS (b : B8) : Nat → B8
  | 0 => zero16
  | j + 1 => (subS b j).set j (boxL.getD (b.getD (((j : Int) + 4 * ((j : Int) % 4)) % 16).toNat 0).toNat 0)
theorem subS_len (b : B8) : ∀ j, (subS b j).length = 16
  | 0 => rfl
  | j + 1 => by simp [subS, subS_len b j]
def mixIn (x : B8) (all : BitVec 8) (s : B8) (c : Nat) : Nat → B8
  | 0 => s
  | i + 1 => (mixIn x all s c i).set (c + i) (x.getD i 0 ^^^ all ^^^ twice8 (x.getD i 0 ^^^ x.getD ((i + 1) % 4) 0))
theorem mixIn_len (x : B8) (all : BitVec 8) (s : B8) (c : Nat) : ∀ j, (mixIn x all s c j).length = s.length
  | 0 => rfl
  | j + 1 => by simp [mixIn, mixIn_len x all s c j]
def allOf (x : B8) : BitVec 8 := x.getD 0 0 ^^^ x.getD 1 0 ^^^ x.getD 2 0 ^^^ x.getD 3 0
def mixS (s : B8) : Nat → B8
  | 0 => s
  | k + 1 => mixIn (((mixS s k).drop (4 * k)).take 4) (allOf (((mixS s k).drop (4 * k)).take 4)) (mixS s k) (4 * k) 4
theorem mixS_len (s : B8) : ∀ k, (mixS s k).length = s.length
  | 0 => rfl
  | k + 1 => by simp [mixS, mixIn_len, mixS_len s k]
def oneRound (b W : B8) (nr r : Nat) : B8 := xorAt b (if r + 1 < nr then mixS (subS b 16) 4 else subS b 16) W (16 * r) 16
def rounds (b W : B8) (nr : Nat) : Nat → B8
  | 0 => xorIn b W 16
  | q + 1 => oneRound (rounds b W nr q) W nr (q + 1)
theorem xorAt_len2 (b s W : B8) (o : Nat) : ∀ j, (xorAt b s W o j).length = b.length := xorAt_len b s W o
theorem rounds_len (b W : B8) (nr : Nat) : ∀ q, (rounds b W nr q).length = b.length
  | 0 => xorIn_len b W 16
  | q + 1 => by simp [rounds, oneRound, xorAt_len, rounds_len b W nr q]
def kmem (nr cap : Nat) (W : B8) : Mem := [.ent ⟨false, 105, some 1, .st [⟨1, .s (.sl 1 0 nr cap 16)⟩]⟩, .ent ⟨false, 23, none, .a8 W⟩]
theorem spec23 (b W : B8) (nr cap : Nat) (hb : b.length = 16) (hW : 16 * nr ≤ W.length) (hR : 0 < nr) (hR2 : nr < 1000) : Spec prog 23 [one (.ptr 0 0 0), .one (.a8 b)] (kmem nr cap W) [] (fun r _ => r = .one (.a8 (rounds b W nr (nr - 1)))) := by
  refine spec_of_body tabOK func23 rfl (Nat.le_of_ble_eq_true rfl) ?_
  intro E Q0 hB
  refine ok_run hB tabOK pureE_ok 100 ?_
  simp only [argSl, kmem]
  have hlt : ∀ x : BitVec 8, x.toNat < 256 := fun x => x.isLt
  repeat (first
    | rw [run_ops0]
    | rw [run_seq]
    | rw [run_region]
    | rw [run_block]
    | rw [run_blk]
    | rw [run_skip]
    | (apply run_go rfl; focus (intro L K hK; simp [step1, evS, est, St.ev, St.put, St.add, St.upd, look_hit, look_miss, okd, stBin, bin, binS, binB, binI, shS, shB, S.num, constS, one, inI, stUn, stNil, stLoad, stAt, stField, stIndexAddr, stStore, wrAt, stAlloc, stBox, stIndex, stPart, stPartRow, stFieldV, stConv, cvS, cvB, cvI, stSlice, optN, SV.num, noMax, stArrPtr, stExtract, stLen, stBuild, A.isRow, A.isAgg, A.noRec, A.len, A.get, A.sub, A.set, A.over, Ent.bound, Kind.isStruct, Kind.isAgg, S.known, A.solid, segAt, segPut, segLen, R.a, R.len, A.r, stMake, stBuildSlice, litA, repA, rep1, fillA, putP, sing, stMin, stEqA, rowEq, Kind.isScal, -List.reduceReplicate, -List.getD_eq_getElem?_getD, tab23, ty23, tab25, ty25, ntmps23, hb]; (repeat' apply And.intro); all_goals first | exact hK | omega)))
  apply run_cond2 rfl
  · intro h; cases h
  intro _
  repeat (first
    | rw [run_ops0]
    | rw [run_seq]
    | rw [run_region]
    | rw [run_block]
    | rw [run_blk]
    | rw [run_skip]
    | (apply run_go rfl; focus (intro L K hK; simp [step1, evS, est, St.ev, St.put, St.add, St.upd, look_hit, look_miss, okd, stBin, bin, binS, binB, binI, shS, shB, S.num, constS, one, inI, stUn, stNil, stLoad, stAt, stField, stIndexAddr, stStore, wrAt, stAlloc, stBox, stIndex, stPart, stPartRow, stFieldV, stConv, cvS, cvB, cvI, stSlice, optN, SV.num, noMax, stArrPtr, stExtract, stLen, stBuild, A.isRow, A.isAgg, A.noRec, A.len, A.get, A.sub, A.set, A.over, Ent.bound, Kind.isStruct, Kind.isAgg, S.known, A.solid, segAt, segPut, segLen, R.a, R.len, A.r, stMake, stBuildSlice, litA, repA, rep1, fillA, putP, sing, stMin, stEqA, rowEq, Kind.isScal, -List.reduceReplicate, -List.getD_eq_getElem?_getD, tab23, ty23, tab25, ty25, tab3, ty3, ntmps23, hb]; (repeat' apply And.intro); all_goals first | exact hK | omega)))
  rw [run_loop]
  refine ok_loop (X := Nat) (fun j => ⟨[(17, one (.i j)), (0, one (.ptr 0 0 0)), (3, one (.ptr 2 0 0)), (4, one (.ptr 3 0 0))], kmem nr cap W ++ [.ent ⟨true, 23, some 16, .a8 (xorIn b W j)⟩, .ent ⟨true, 23, some 16, .a8 [0, 0, 0, 0, 0, 0, 0, 0, 0, 0, 0, 0, 0, 0, 0, 0]⟩]⟩) (fun j => j ≤ 16) (fun j => 16 - j) (fun j i L h => by have := hB.anc i L h; simp [kmem] at this ⊢; omega) ⟨0, by simp, by simp [Ent2, entSl, entM, belSl, belV, belA, belS, belR, belM, look_hit, look_miss, one, -List.getD_eq_getElem?_getD, xorIn, kmem]⟩ ?_
  · intro j hj
    refine ok_run hB tabOK pureE_ok 100 ?_
    have hxl := xorIn_len b W j
    simp only [kmem, List.cons_append, List.nil_append]
    repeat (first
    | rw [run_ops0]
    | rw [run_seq]
    | rw [run_region]
    | rw [run_block]
    | rw [run_blk]
    | rw [run_skip]
    | (apply run_go rfl; focus (intro L K hK; simp [step1, evS, est, St.ev, St.put, St.add, St.upd, look_hit, look_miss, okd, stBin, bin, binS, binB, binI, shS, shB, S.num, constS, one, inI, stUn, stNil, stLoad, stAt, stField, stIndexAddr, stStore, wrAt, stAlloc, stBox, stIndex, stPart, stPartRow, stFieldV, stConv, cvS, cvB, cvI, stSlice, optN, SV.num, noMax, stArrPtr, stExtract, stLen, stBuild, A.isRow, A.isAgg, A.noRec, A.len, A.get, A.sub, A.set, A.over, Ent.bound, Kind.isStruct, Kind.isAgg, S.known, A.solid, segAt, segPut, segLen, R.a, R.len, A.r, stMake, stBuildSlice, litA, repA, rep1, fillA, putP, sing, stMin, stEqA, rowEq, Kind.isScal, -List.reduceReplicate, -List.getD_eq_getElem?_getD, tab3, ty3, ntmps23]; (repeat' apply And.intro); all_goals first | exact hK | omega)))
    apply run_cond2 rfl
    · intro h
      simp at h
      have hj' : (j : Int) < 16 := by omega
      repeat (first
    | rw [run_ops0]
    | rw [run_seq]
    | rw [run_region]
    | rw [run_block]
    | rw [run_blk]
    | rw [run_skip]
    | (apply run_go rfl; focus (intro L K hK; simp [step1, evS, est, St.ev, St.put, St.add, St.upd, look_hit, look_miss, okd, stBin, bin, binS, binB, binI, shS, shB, S.num, constS, one, inI, stUn, stNil, stLoad, stAt, stField, stIndexAddr, stStore, wrAt, stAlloc, stBox, stIndex, stPart, stPartRow, stFieldV, stConv, cvS, cvB, cvI, stSlice, optN, SV.num, noMax, stArrPtr, stExtract, stLen, stBuild, A.isRow, A.isAgg, A.noRec, A.len, A.get, A.sub, A.set, A.over, Ent.bound, Kind.isStruct, Kind.isAgg, S.known, A.solid, segAt, segPut, segLen, R.a, R.len, A.r, stMake, stBuildSlice, litA, repA, rep1, fillA, putP, sing, stMin, stEqA, rowEq, Kind.isScal, -List.reduceReplicate, -List.getD_eq_getElem?_getD, tab3, ty3, ntmps23]; (repeat' apply And.intro); all_goals first | exact hK | omega)))
      rw [run_draw]
      refine ok_draw2 12 tabOK pureE_ok (pureOf_mono _) mixed (by decide +kernel) rfl rfl ?_
      repeat (first
    | (apply hd_go rfl rfl rfl rfl (Nat.le_of_ble_eq_true rfl); focus (intro K' hK; simp [step1, evS, est, St.ev, St.put, St.add, St.upd, look_hit, look_miss, okd, stBin, bin, binS, binB, binI, shS, shB, S.num, constS, one, inI, stUn, stNil, stLoad, stAt, stField, stIndexAddr, stStore, wrAt, stAlloc, stBox, stIndex, stPart, stPartRow, stFieldV, stConv, cvS, cvB, cvI, stSlice, optN, SV.num, noMax, stArrPtr, stExtract, stLen, stBuild, A.isRow, A.isAgg, A.noRec, A.len, A.get, A.sub, A.set, A.over, Ent.bound, Kind.isStruct, Kind.isAgg, S.known, A.solid, segAt, segPut, segLen, R.a, R.len, A.r, stMake, stBuildSlice, litA, repA, rep1, fillA, putP, sing, stMin, stEqA, rowEq, Kind.isScal, -List.reduceReplicate, -List.getD_eq_getElem?_getD, tab3, ty3, tab5, ty5, tab23, ty23, tab25, ty25, tab105, ty105, tab103, ty103, hxl, hb, hj', h, pureOf, pureE]; (repeat' apply And.intro); all_goals first | exact hK | omega))
    | (apply hd_new rfl rfl rfl rfl (Nat.le_of_ble_eq_true rfl); focus (intro K' hK; simp [step1, evS, est, St.ev, St.put, St.add, St.upd, look_hit, look_miss, okd, stBin, bin, binS, binB, binI, shS, shB, S.num, constS, one, inI, stUn, stNil, stLoad, stAt, stField, stIndexAddr, stStore, wrAt, stAlloc, stBox, stIndex, stPart, stPartRow, stFieldV, stConv, cvS, cvB, cvI, stSlice, optN, SV.num, noMax, stArrPtr, stExtract, stLen, stBuild, A.isRow, A.isAgg, A.noRec, A.len, A.get, A.sub, A.set, A.over, Ent.bound, Kind.isStruct, Kind.isAgg, S.known, A.solid, segAt, segPut, segLen, R.a, R.len, A.r, stMake, stBuildSlice, litA, repA, rep1, fillA, putP, sing, stMin, stEqA, rowEq, Kind.isScal, -List.reduceReplicate, -List.getD_eq_getElem?_getD, tab3, ty3, tab5, ty5, tab23, ty23, tab25, ty25, tab105, ty105, tab103, ty103, hxl, hb, hj', h, pureOf, pureE]; (repeat' apply And.intro); all_goals first | exact hK | omega)))
      refine hd_nil ?_
      simp only [List.map_nil, List.append_nil]
      refine ok_run hB tabOK pureE_ok 100 ?_
      repeat (first
    | rw [run_ops0]
    | rw [run_seq]
    | rw [run_region]
    | rw [run_block]
    | rw [run_blk]
    | rw [run_skip]
    | (apply run_go rfl; focus (intro L K hK; simp [step1, evS, est, St.ev, St.put, St.add, St.upd, look_hit, look_miss, okd, stBin, bin, binS, binB, binI, shS, shB, S.num, constS, one, inI, stUn, stNil, stLoad, stAt, stField, stIndexAddr, stStore, wrAt, stAlloc, stBox, stIndex, stPart, stPartRow, stFieldV, stConv, cvS, cvB, cvI, stSlice, optN, SV.num, noMax, stArrPtr, stExtract, stLen, stBuild, A.isRow, A.isAgg, A.noRec, A.len, A.get, A.sub, A.set, A.over, Ent.bound, Kind.isStruct, Kind.isAgg, S.known, A.solid, segAt, segPut, segLen, R.a, R.len, A.r, stMake, stBuildSlice, litA, repA, rep1, fillA, putP, sing, stMin, stEqA, rowEq, Kind.isScal, -List.reduceReplicate, -List.getD_eq_getElem?_getD, tab3, ty3, tab5, ty5, tab23, ty23, ntmps23, hxl, hb, hj', h]; (repeat' apply And.intro); all_goals first | exact hK | omega)))
      rw [run_back]
      refine ⟨j + 1, by omega, by omega, ?_⟩
      simp [Ent2, entSl, entM, belSl, belV, belA, belS, belR, belM, look_hit, look_miss, one, -List.getD_eq_getElem?_getD, xorIn, kmem]
    · intro h
      simp at h
      obtain rfl : j = 16 := by omega
      apply run_exit2 rfl
      repeat (first
    | rw [run_ops0]
    | rw [run_seq]
    | rw [run_region]
    | rw [run_block]
    | rw [run_blk]
    | rw [run_skip]
    | (apply run_go rfl; focus (intro L K hK; simp [step1, evS, est, St.ev, St.put, St.add, St.upd, look_hit, look_miss, okd, stBin, bin, binS, binB, binI, shS, shB, S.num, constS, one, inI, stUn, stNil, stLoad, stAt, stField, stIndexAddr, stStore, wrAt, stAlloc, stBox, stIndex, stPart, stPartRow, stFieldV, stConv, cvS, cvB, cvI, stSlice, optN, SV.num, noMax, stArrPtr, stExtract, stLen, stBuild, A.isRow, A.isAgg, A.noRec, A.len, A.get, A.sub, A.set, A.over, Ent.bound, Kind.isStruct, Kind.isAgg, S.known, A.solid, segAt, segPut, segLen, R.a, R.len, A.r, stMake, stBuildSlice, litA, repA, rep1, fillA, putP, sing, stMin, stEqA, rowEq, Kind.isScal, -List.reduceReplicate, -List.getD_eq_getElem?_getD, tab3, ty3, ntmps23]; (repeat' apply And.intro); all_goals first | exact hK | omega)))
      rw [run_loop]
      refine ok_loop (X := Nat) (fun q => ⟨[(6, one (.i (q + 1))), (0, one (.ptr 0 0 0)), (3, one (.ptr 2 0 0)), (4, one (.ptr 3 0 0))], kmem nr cap W ++ [.ent ⟨true, 23, some 16, .a8 (rounds b W nr q)⟩, .ent ⟨true, 23, some 16, .a8 zero16⟩]⟩) (fun q => q + 1 ≤ nr) (fun q => nr - q) (fun j i L h => by have := hB.anc i L h; simp [kmem] at this ⊢; omega) ⟨0, by omega, by simp [Ent2, entSl, entM, belSl, belV, belA, belS, belR, belM, look_hit, look_miss, one, -List.getD_eq_getElem?_getD, rounds, kmem, zero16]⟩ ?_
      intro q hq
      refine ok_run hB tabOK pureE_ok 100 ?_
      have hbl := rounds_len b W nr q
      have hz : zero16.length = 16 := rfl
      simp only [kmem, List.cons_append, List.nil_append]
      generalize hbq : rounds b W nr q = bq at hbl ⊢
      repeat (first
    | rw [run_ops0]
    | rw [run_seq]
    | rw [run_region]
    | rw [run_block]
    | rw [run_blk]
    | rw [run_skip]
    | (apply run_go rfl; focus (intro L K hK; simp [step1, evS, est, St.ev, St.put, St.add, St.upd, look_hit, look_miss, okd, stBin, bin, binS, binB, binI, shS, shB, S.num, constS, one, inI, stUn, stNil, stLoad, stAt, stField, stIndexAddr, stStore, wrAt, stAlloc, stBox, stIndex, stPart, stPartRow, stFieldV, stConv, cvS, cvB, cvI, stSlice, optN, SV.num, noMax, stArrPtr, stExtract, stLen, stBuild, A.isRow, A.isAgg, A.noRec, A.len, A.get, A.sub, A.set, A.over, Ent.bound, Kind.isStruct, Kind.isAgg, S.known, A.solid, segAt, segPut, segLen, R.a, R.len, A.r, stMake, stBuildSlice, litA, repA, rep1, fillA, putP, sing, stMin, stEqA, rowEq, Kind.isScal, -List.reduceReplicate, -List.getD_eq_getElem?_getD, tab3, ty3, tab105, ty105, tab103, ty103, ntmps23]; (repeat' apply And.intro); all_goals first | exact hK | omega)))
      apply run_cond2 rfl
      · intro h
        simp at h
        have hq2 : q + 1 < nr := by omega
        repeat (first
    | rw [run_ops0]
    | rw [run_seq]
    | rw [run_region]
    | rw [run_block]
    | rw [run_blk]
    | rw [run_skip]
    | (apply run_go rfl; focus (intro L K hK; simp [step1, evS, est, St.ev, St.put, St.add, St.upd, look_hit, look_miss, okd, stBin, bin, binS, binB, binI, shS, shB, S.num, constS, one, inI, stUn, stNil, stLoad, stAt, stField, stIndexAddr, stStore, wrAt, stAlloc, stBox, stIndex, stPart, stPartRow, stFieldV, stConv, cvS, cvB, cvI, stSlice, optN, SV.num, noMax, stArrPtr, stExtract, stLen, stBuild, A.isRow, A.isAgg, A.noRec, A.len, A.get, A.sub, A.set, A.over, Ent.bound, Kind.isStruct, Kind.isAgg, S.known, A.solid, segAt, segPut, segLen, R.a, R.len, A.r, stMake, stBuildSlice, litA, repA, rep1, fillA, putP, sing, stMin, stEqA, rowEq, Kind.isScal, -List.reduceReplicate, -List.getD_eq_getElem?_getD, tab3, ty3, tab23, ty23, ntmps23]; (repeat' apply And.intro); all_goals first | exact hK | omega)))
        rw [run_loop]
        refine ok_loop (X := Nat) (fun j => ⟨[(43, one (.i j)), (7, one (.ptr 4 0 0)), (6, one (.i (q + 1))), (0, one (.ptr 0 0 0)), (3, one (.ptr 2 0 0)), (4, one (.ptr 3 0 0))], kmem nr cap W ++ [.ent ⟨true, 23, some 16, .a8 bq⟩, .ent ⟨true, 23, some 16, .a8 zero16⟩, .ent ⟨true, 23, some 16, .a8 (subS bq j)⟩]⟩) (fun j => j ≤ 16) (fun j => 16 - j) (fun j i L h => by have := hB.anc i L h; simp [kmem] at this ⊢; omega) ⟨0, by omega, by simp [Ent2, entSl, entM, belSl, belV, belA, belS, belR, belM, look_hit, look_miss, one, -List.getD_eq_getElem?_getD, subS, kmem, zero16]⟩ ?_
        intro j hj
        refine ok_run hB tabOK pureE_ok 19 ?_
        simp only [kmem, List.cons_append, List.nil_append]
        have hsl := subS_len bq j
        repeat (first
    | rw [run_ops0]
    | rw [run_seq]
    | rw [run_region]
    | rw [run_block]
    | rw [run_blk]
    | rw [run_skip]
    | (apply run_go rfl; focus (intro L K hK; simp [step1, evS, est, St.ev, St.put, St.add, St.upd, look_hit, look_miss, okd, stBin, bin, binS, binB, binI, shS, shB, S.num, constS, one, inI, stUn, stNil, stLoad, stAt, stField, stIndexAddr, stStore, wrAt, stAlloc, stBox, stIndex, stPart, stPartRow, stFieldV, stConv, cvS, cvB, cvI, stSlice, optN, SV.num, noMax, stArrPtr, stExtract, stLen, stBuild, A.isRow, A.isAgg, A.noRec, A.len, A.get, A.sub, A.set, A.over, Ent.bound, Kind.isStruct, Kind.isAgg, S.known, A.solid, segAt, segPut, segLen, R.a, R.len, A.r, stMake, stBuildSlice, litA, repA, rep1, fillA, putP, sing, stMin, stEqA, rowEq, Kind.isScal, -List.reduceReplicate, -List.getD_eq_getElem?_getD, tab3, ty3, ntmps23]; (repeat' apply And.intro); all_goals first | exact hK | omega)))
        apply run_cond2 rfl
        · intro h
          simp at h
          repeat (first
    | rw [run_ops0]
    | rw [run_seq]
    | rw [run_region]
    | rw [run_block]
    | rw [run_blk]
    | rw [run_skip]
    | (apply run_go rfl; focus (intro L K hK; simp [step1, evS, est, St.ev, St.put, St.add, St.upd, look_hit, look_miss, okd, stBin, bin, binS, binB, binI, shS, shB, S.num, constS, one, inI, stUn, stNil, stLoad, stAt, stField, stIndexAddr, stStore, wrAt, stAlloc, stBox, stIndex, stPart, stPartRow, stFieldV, stConv, cvS, cvB, cvI, stSlice, optN, SV.num, noMax, stArrPtr, stExtract, stLen, stBuild, A.isRow, A.isAgg, A.noRec, A.len, A.get, A.sub, A.set, A.over, Ent.bound, Kind.isStruct, Kind.isAgg, S.known, A.solid, segAt, segPut, segLen, R.a, R.len, A.r, stMake, stBuildSlice, litA, repA, rep1, fillA, putP, sing, stMin, stEqA, rowEq, Kind.isScal, -List.reduceReplicate, -List.getD_eq_getElem?_getD, tab3, ty3, ntmps23]; (repeat' apply And.intro); all_goals first | exact hK | omega)))
          rw [run_draw]
          refine ok_draw2 11 tabOK pureE_ok (pureOf_mono _) mixed (by decide +kernel) rfl rfl ?_
          have t4 : (j : Int).tmod 4 = (j : Int) % 4 := Int.tmod_eq_emod_of_nonneg (by omega)
          have t16 : ((j : Int) + 4 * ((j : Int) % 4)).tmod 16 = ((j : Int) + 4 * ((j : Int) % 4)) % 16 := Int.tmod_eq_emod_of_nonneg (by omega)
          have hbx := boxL_len
          repeat (first
    | (apply hd_go rfl rfl rfl rfl (Nat.le_of_ble_eq_true rfl); focus (intro K' hK; simp [step1, evS, est, St.ev, St.put, St.add, St.upd, look_hit, look_miss, okd, stBin, bin, binS, binB, binI, shS, shB, S.num, constS, one, inI, stUn, stNil, stLoad, stAt, stField, stIndexAddr, stStore, wrAt, stAlloc, stBox, stIndex, stPart, stPartRow, stFieldV, stConv, cvS, cvB, cvI, stSlice, optN, SV.num, noMax, stArrPtr, stExtract, stLen, stBuild, A.isRow, A.isAgg, A.noRec, A.len, A.get, A.sub, A.set, A.over, Ent.bound, Kind.isStruct, Kind.isAgg, S.known, A.solid, segAt, segPut, segLen, R.a, R.len, A.r, stMake, stBuildSlice, litA, repA, rep1, fillA, putP, sing, stMin, stEqA, rowEq, Kind.isScal, -List.reduceReplicate, -List.getD_eq_getElem?_getD, tab3, ty3, tab5, ty5, tab23, ty23, tab100, ty100, hbl, hb, hsl, t4, t16, hbx, hlt, pureOf, pureE]; (repeat' apply And.intro); all_goals first | exact hK | omega))
    | (apply hd_new rfl rfl rfl rfl (Nat.le_of_ble_eq_true rfl); focus (intro K' hK; simp [step1, evS, est, St.ev, St.put, St.add, St.upd, look_hit, look_miss, okd, stBin, bin, binS, binB, binI, shS, shB, S.num, constS, one, inI, stUn, stNil, stLoad, stAt, stField, stIndexAddr, stStore, wrAt, stAlloc, stBox, stIndex, stPart, stPartRow, stFieldV, stConv, cvS, cvB, cvI, stSlice, optN, SV.num, noMax, stArrPtr, stExtract, stLen, stBuild, A.isRow, A.isAgg, A.noRec, A.len, A.get, A.sub, A.set, A.over, Ent.bound, Kind.isStruct, Kind.isAgg, S.known, A.solid, segAt, segPut, segLen, R.a, R.len, A.r, stMake, stBuildSlice, litA, repA, rep1, fillA, putP, sing, stMin, stEqA, rowEq, Kind.isScal, -List.reduceReplicate, -List.getD_eq_getElem?_getD, tab3, ty3, tab5, ty5, tab23, ty23, tab100, ty100, hbl, hb, hsl, t4, t16, hbx, hlt, pureOf, pureE]; (repeat' apply And.intro); all_goals first | exact hK | omega)))
          refine hd_nil ?_
          simp only [List.map_nil, List.append_nil]
          refine ok_run hB tabOK pureE_ok 100 ?_
          repeat (first
    | rw [run_ops0]
    | rw [run_seq]
    | rw [run_region]
    | rw [run_block]
    | rw [run_blk]
    | rw [run_skip]
    | (apply run_go rfl; focus (intro L K hK; simp [step1, evS, est, St.ev, St.put, St.add, St.upd, look_hit, look_miss, okd, stBin, bin, binS, binB, binI, shS, shB, S.num, constS, one, inI, stUn, stNil, stLoad, stAt, stField, stIndexAddr, stStore, wrAt, stAlloc, stBox, stIndex, stPart, stPartRow, stFieldV, stConv, cvS, cvB, cvI, stSlice, optN, SV.num, noMax, stArrPtr, stExtract, stLen, stBuild, A.isRow, A.isAgg, A.noRec, A.len, A.get, A.sub, A.set, A.over, Ent.bound, Kind.isStruct, Kind.isAgg, S.known, A.solid, segAt, segPut, segLen, R.a, R.len, A.r, stMake, stBuildSlice, litA, repA, rep1, fillA, putP, sing, stMin, stEqA, rowEq, Kind.isScal, -List.reduceReplicate, -List.getD_eq_getElem?_getD, tab3, ty3, tab5, ty5, tab23, ty23, ntmps23, hsl]; (repeat' apply And.intro); all_goals first | exact hK | omega)))
          rw [run_back]
          refine ⟨j + 1, by omega, by omega, ?_⟩
          simp [Ent2, entSl, entM, belSl, belV, belA, belS, belR, belM, look_hit, look_miss, one, -List.getD_eq_getElem?_getD, subS, kmem]
        · intro h
          simp at h
          obtain rfl : j = 16 := by omega
          apply run_exit2 rfl
          repeat (first
    | rw [run_ops0]
    | rw [run_seq]
    | rw [run_region]
    | rw [run_block]
    | rw [run_blk]
    | rw [run_skip]
    | (apply run_go rfl; focus (intro L K hK; simp [step1, evS, est, St.ev, St.put, St.add, St.upd, look_hit, look_miss, okd, stBin, bin, binS, binB, binI, shS, shB, S.num, constS, one, inI, stUn, stNil, stLoad, stAt, stField, stIndexAddr, stStore, wrAt, stAlloc, stBox, stIndex, stPart, stPartRow, stFieldV, stConv, cvS, cvB, cvI, stSlice, optN, SV.num, noMax, stArrPtr, stExtract, stLen, stBuild, A.isRow, A.isAgg, A.noRec, A.len, A.get, A.sub, A.set, A.over, Ent.bound, Kind.isStruct, Kind.isAgg, S.known, A.solid, segAt, segPut, segLen, R.a, R.len, A.r, stMake, stBuildSlice, litA, repA, rep1, fillA, putP, sing, stMin, stEqA, rowEq, Kind.isScal, -List.reduceReplicate, -List.getD_eq_getElem?_getD, tab3, ty3, tab105, ty105, tab103, ty103, ntmps23]; (repeat' apply And.intro); all_goals first | exact hK | omega)))
          rw [run_zero]
          have hsl16 := subS_len bq 16
          generalize hsq : subS bq 16 = sq at hsl16 ⊢
          refine ok_join (X := B8) (fun s => ⟨[(7, one (.ptr 4 0 0)), (6, one (.i (q + 1))), (0, one (.ptr 0 0 0)), (3, one (.ptr 2 0 0)), (4, one (.ptr 3 0 0))], kmem nr cap W ++ [.ent ⟨true, 23, some 16, .a8 bq⟩, .ent ⟨true, 23, some 16, .a8 zero16⟩, .ent ⟨true, 23, some 16, .a8 s⟩]⟩) (fun s => s = if q + 1 + 1 < nr then mixS sq 4 else sq) (fun s i L h => by have := hB.anc i L h; simp [kmem] at this ⊢; omega) ?_ ?_
          · refine ok_run hB tabOK pureE_ok 100 ?_
            apply run_cond2 rfl
            · intro h
              simp at h
              have hq3 : q + 1 + 1 < nr := by omega
              repeat (first
    | rw [run_ops0]
    | rw [run_seq]
    | rw [run_region]
    | rw [run_block]
    | rw [run_blk]
    | rw [run_skip]
    | (apply run_go rfl; focus (intro L K hK; simp [step1, evS, est, St.ev, St.put, St.add, St.upd, look_hit, look_miss, okd, stBin, bin, binS, binB, binI, shS, shB, S.num, constS, one, inI, stUn, stNil, stLoad, stAt, stField, stIndexAddr, stStore, wrAt, stAlloc, stBox, stIndex, stPart, stPartRow, stFieldV, stConv, cvS, cvB, cvI, stSlice, optN, SV.num, noMax, stArrPtr, stExtract, stLen, stBuild, A.isRow, A.isAgg, A.noRec, A.len, A.get, A.sub, A.set, A.over, Ent.bound, Kind.isStruct, Kind.isAgg, S.known, A.solid, segAt, segPut, segLen, R.a, R.len, A.r, stMake, stBuildSlice, litA, repA, rep1, fillA, putP, sing, stMin, stEqA, rowEq, Kind.isScal, -List.reduceReplicate, -List.getD_eq_getElem?_getD, tab3, ty3, ntmps23]; (repeat' apply And.intro); all_goals first | exact hK | omega)))
              rw [run_loop]
              refine ok_loop (X := Nat) (fun k => ⟨[(9, one (.i (4 * k : Nat))), (7, one (.ptr 4 0 0)), (6, one (.i (q + 1))), (0, one (.ptr 0 0 0)), (3, one (.ptr 2 0 0)), (4, one (.ptr 3 0 0))], kmem nr cap W ++ [.ent ⟨true, 23, some 16, .a8 bq⟩, .ent ⟨true, 23, some 16, .a8 zero16⟩, .ent ⟨true, 23, some 16, .a8 (mixS sq k)⟩]⟩) (fun k => k ≤ 4) (fun k => 4 - k) (fun j i L h => by have := hB.anc i L h; simp [kmem] at this ⊢; omega) ⟨0, by omega, by simp [Ent2, entSl, entM, belSl, belV, belA, belS, belR, belM, look_hit, look_miss, one, -List.getD_eq_getElem?_getD, mixS, kmem]⟩ ?_
              intro c hc
              refine ok_run hB tabOK pureE_ok 100 ?_
              simp only [kmem, List.cons_append, List.nil_append]
              have hml := mixS_len sq c
              repeat (first
    | rw [run_ops0]
    | rw [run_seq]
    | rw [run_region]
    | rw [run_block]
    | rw [run_blk]
    | rw [run_skip]
    | (apply run_go rfl; focus (intro L K hK; simp [step1, evS, est, St.ev, St.put, St.add, St.upd, look_hit, look_miss, okd, stBin, bin, binS, binB, binI, shS, shB, S.num, constS, one, inI, stUn, stNil, stLoad, stAt, stField, stIndexAddr, stStore, wrAt, stAlloc, stBox, stIndex, stPart, stPartRow, stFieldV, stConv, cvS, cvB, cvI, stSlice, optN, SV.num, noMax, stArrPtr, stExtract, stLen, stBuild, A.isRow, A.isAgg, A.noRec, A.len, A.get, A.sub, A.set, A.over, Ent.bound, Kind.isStruct, Kind.isAgg, S.known, A.solid, segAt, segPut, segLen, R.a, R.len, A.r, stMake, stBuildSlice, litA, repA, rep1, fillA, putP, sing, stMin, stEqA, rowEq, Kind.isScal, -List.reduceReplicate, -List.getD_eq_getElem?_getD, tab3, ty3, ntmps23]; (repeat' apply And.intro); all_goals first | exact hK | omega)))
              apply run_cond2 rfl
              · intro h
                simp at h
                have hc4 : c < 4 := by omega
                have e4 : (4 * (c : Int)).toNat = 4 * c := by omega
                repeat (first
    | rw [run_ops0]
    | rw [run_seq]
    | rw [run_region]
    | rw [run_block]
    | rw [run_blk]
    | rw [run_skip]
    | (apply run_go rfl; focus (intro L K hK; simp [step1, evS, est, St.ev, St.put, St.add, St.upd, look_hit, look_miss, okd, stBin, bin, binS, binB, binI, shS, shB, S.num, constS, one, inI, stUn, stNil, stLoad, stAt, stField, stIndexAddr, stStore, wrAt, stAlloc, stBox, stIndex, stPart, stPartRow, stFieldV, stConv, cvS, cvB, cvI, stSlice, optN, SV.num, noMax, stArrPtr, stExtract, stLen, stBuild, A.isRow, A.isAgg, A.noRec, A.len, A.get, A.sub, A.set, A.over, Ent.bound, Kind.isStruct, Kind.isAgg, S.known, A.solid, segAt, segPut, segLen, R.a, R.len, A.r, stMake, stBuildSlice, litA, repA, rep1, fillA, putP, sing, stMin, stEqA, rowEq, Kind.isScal, -List.reduceReplicate, -List.getD_eq_getElem?_getD, tab3, ty3, tab5, ty5, tab23, ty23, tab22, ty22, tab99, ty99, ntmps23, hml, hsl16, e4]; (repeat' apply And.intro); all_goals first | exact hK | omega)))
                rw [run_loop]
                have hxx : (((mixS sq c).drop (4 * c)).take 4).length = 4 := by simp [hml, hsl16]; omega
                have hmix : mixS sq (c + 1) = mixIn (((mixS sq c).drop (4 * c)).take 4) (allOf (((mixS sq c).drop (4 * c)).take 4)) (mixS sq c) (4 * c) 4 := rfl
                generalize ((mixS sq c).drop (4 * c)).take 4 = x at hxx hmix ⊢
                generalize mixS sq c = sc at hml hmix ⊢
                refine ok_loop (X := Nat) (fun i => ⟨[(86, one (.i i)), (10, one (.ptr 5 0 0)), (11, one (.u8 (allOf x))), (9, one (.i (4 * c : Nat))), (7, one (.ptr 4 0 0)), (6, one (.i (q + 1))), (0, one (.ptr 0 0 0)), (3, one (.ptr 2 0 0)), (4, one (.ptr 3 0 0))], kmem nr cap W ++ [.ent ⟨true, 23, some 16, .a8 bq⟩, .ent ⟨true, 23, some 16, .a8 zero16⟩, .ent ⟨true, 23, some 16, .a8 (mixIn x (allOf x) sc (4 * c) i)⟩, .ent ⟨true, 99, some 4, .a8 x⟩]⟩) (fun i => i ≤ 4) (fun i => 4 - i) (fun j i L h => by have := hB.anc i L h; simp [kmem] at this ⊢; omega) ⟨0, by omega, by simp [Ent2, entSl, entM, belSl, belV, belA, belS, belR, belM, look_hit, look_miss, one, -List.getD_eq_getElem?_getD, mixIn, kmem, allOf]⟩ ?_
                intro i hi
                refine ok_run hB tabOK pureE_ok 100 ?_
                simp only [kmem, List.cons_append, List.nil_append]
                have hil := mixIn_len x (allOf x) sc (4 * c) i
                repeat (first
    | rw [run_ops0]
    | rw [run_seq]
    | rw [run_region]
    | rw [run_block]
    | rw [run_blk]
    | rw [run_skip]
    | (apply run_go rfl; focus (intro L K hK; simp [step1, evS, est, St.ev, St.put, St.add, St.upd, look_hit, look_miss, okd, stBin, bin, binS, binB, binI, shS, shB, S.num, constS, one, inI, stUn, stNil, stLoad, stAt, stField, stIndexAddr, stStore, wrAt, stAlloc, stBox, stIndex, stPart, stPartRow, stFieldV, stConv, cvS, cvB, cvI, stSlice, optN, SV.num, noMax, stArrPtr, stExtract, stLen, stBuild, A.isRow, A.isAgg, A.noRec, A.len, A.get, A.sub, A.set, A.over, Ent.bound, Kind.isStruct, Kind.isAgg, S.known, A.solid, segAt, segPut, segLen, R.a, R.len, A.r, stMake, stBuildSlice, litA, repA, rep1, fillA, putP, sing, stMin, stEqA, rowEq, Kind.isScal, -List.reduceReplicate, -List.getD_eq_getElem?_getD, tab3, ty3, ntmps23]; (repeat' apply And.intro); all_goals first | exact hK | omega)))
                apply run_cond2 rfl
                · intro h
                  simp at h
                  repeat (first
    | rw [run_ops0]
    | rw [run_seq]
    | rw [run_region]
    | rw [run_block]
    | rw [run_blk]
    | rw [run_skip]
    | (apply run_go rfl; focus (intro L K hK; simp [step1, evS, est, St.ev, St.put, St.add, St.upd, look_hit, look_miss, okd, stBin, bin, binS, binB, binI, shS, shB, S.num, constS, one, inI, stUn, stNil, stLoad, stAt, stField, stIndexAddr, stStore, wrAt, stAlloc, stBox, stIndex, stPart, stPartRow, stFieldV, stConv, cvS, cvB, cvI, stSlice, optN, SV.num, noMax, stArrPtr, stExtract, stLen, stBuild, A.isRow, A.isAgg, A.noRec, A.len, A.get, A.sub, A.set, A.over, Ent.bound, Kind.isStruct, Kind.isAgg, S.known, A.solid, segAt, segPut, segLen, R.a, R.len, A.r, stMake, stBuildSlice, litA, repA, rep1, fillA, putP, sing, stMin, stEqA, rowEq, Kind.isScal, -List.reduceReplicate, -List.getD_eq_getElem?_getD, tab3, ty3, ntmps23]; (repeat' apply And.intro); all_goals first | exact hK | omega)))
                  rw [run_draw]
                  refine ok_draw2 19 tabOK pureE_ok (pureOf_mono _) mixed (by decide +kernel) rfl rfl ?_
                  have t4 : ((i : Int) + 1).tmod 4 = ((i : Int) + 1) % 4 := Int.tmod_eq_emod_of_nonneg (by omega)
                  have e5 : (((i : Int) + 1) % 4).toNat = (i + 1) % 4 := by omega
                  have e6 : (4 * (c : Int) + i).toNat = 4 * c + i := by omega
                  repeat (first
    | (apply hd_go rfl rfl rfl rfl (Nat.le_of_ble_eq_true rfl); focus (intro K' hK; simp [step1, evS, est, St.ev, St.put, St.add, St.upd, look_hit, look_miss, okd, stBin, bin, binS, binB, binI, shS, shB, S.num, constS, one, inI, stUn, stNil, stLoad, stAt, stField, stIndexAddr, stStore, wrAt, stAlloc, stBox, stIndex, stPart, stPartRow, stFieldV, stConv, cvS, cvB, cvI, stSlice, optN, SV.num, noMax, stArrPtr, stExtract, stLen, stBuild, A.isRow, A.isAgg, A.noRec, A.len, A.get, A.sub, A.set, A.over, Ent.bound, Kind.isStruct, Kind.isAgg, S.known, A.solid, segAt, segPut, segLen, R.a, R.len, A.r, stMake, stBuildSlice, litA, repA, rep1, fillA, putP, sing, stMin, stEqA, rowEq, Kind.isScal, -List.reduceReplicate, -List.getD_eq_getElem?_getD, tab3, ty3, tab5, ty5, tab99, ty99, hxx, t4, e5, h, pureOf, pureE]; (repeat' apply And.intro); all_goals first | exact hK | omega))
    | (apply hd_new rfl rfl rfl rfl (Nat.le_of_ble_eq_true rfl); focus (intro K' hK; simp [step1, evS, est, St.ev, St.put, St.add, St.upd, look_hit, look_miss, okd, stBin, bin, binS, binB, binI, shS, shB, S.num, constS, one, inI, stUn, stNil, stLoad, stAt, stField, stIndexAddr, stStore, wrAt, stAlloc, stBox, stIndex, stPart, stPartRow, stFieldV, stConv, cvS, cvB, cvI, stSlice, optN, SV.num, noMax, stArrPtr, stExtract, stLen, stBuild, A.isRow, A.isAgg, A.noRec, A.len, A.get, A.sub, A.set, A.over, Ent.bound, Kind.isStruct, Kind.isAgg, S.known, A.solid, segAt, segPut, segLen, R.a, R.len, A.r, stMake, stBuildSlice, litA, repA, rep1, fillA, putP, sing, stMin, stEqA, rowEq, Kind.isScal, -List.reduceReplicate, -List.getD_eq_getElem?_getD, tab3, ty3, tab5, ty5, tab99, ty99, hxx, t4, e5, h, pureOf, pureE]; (repeat' apply And.intro); all_goals first | exact hK | omega)))
                  refine hd_nil ?_
                  simp only [List.map_nil, List.append_nil]
                  refine ok_run hB tabOK pureE_ok 100 ?_
                  repeat (first
    | rw [run_ops0]
    | rw [run_seq]
    | rw [run_region]
    | rw [run_block]
    | rw [run_blk]
    | rw [run_skip]
    | (apply run_go rfl; focus (intro L K hK; simp [step1, evS, est, St.ev, St.put, St.add, St.upd, look_hit, look_miss, okd, stBin, bin, binS, binB, binI, shS, shB, S.num, constS, one, inI, stUn, stNil, stLoad, stAt, stField, stIndexAddr, stStore, wrAt, stAlloc, stBox, stIndex, stPart, stPartRow, stFieldV, stConv, cvS, cvB, cvI, stSlice, optN, SV.num, noMax, stArrPtr, stExtract, stLen, stBuild, A.isRow, A.isAgg, A.noRec, A.len, A.get, A.sub, A.set, A.over, Ent.bound, Kind.isStruct, Kind.isAgg, S.known, A.solid, segAt, segPut, segLen, R.a, R.len, A.r, stMake, stBuildSlice, litA, repA, rep1, fillA, putP, sing, stMin, stEqA, rowEq, Kind.isScal, -List.reduceReplicate, -List.getD_eq_getElem?_getD, tab3, ty3, tab5, ty5, tab23, ty23, ntmps23, hil, hml, hsl16, e6]; (repeat' apply And.intro); all_goals first | exact hK | omega)))
                  rw [run_back]
                  refine ⟨i + 1, by omega, by omega, ?_⟩
                  simp [Ent2, entSl, entM, belSl, belV, belA, belS, belR, belM, look_hit, look_miss, one, -List.getD_eq_getElem?_getD, mixIn, kmem, twice8]
                · intro h
                  simp at h
                  obtain rfl : i = 4 := by omega
                  apply run_exit2 rfl
                  repeat (first
    | rw [run_ops0]
    | rw [run_seq]
    | rw [run_region]
    | rw [run_block]
    | rw [run_blk]
    | rw [run_skip]
    | (apply run_go rfl; focus (intro L K hK; simp [step1, evS, est, St.ev, St.put, St.add, St.upd, look_hit, look_miss, okd, stBin, bin, binS, binB, binI, shS, shB, S.num, constS, one, inI, stUn, stNil, stLoad, stAt, stField, stIndexAddr, stStore, wrAt, stAlloc, stBox, stIndex, stPart, stPartRow, stFieldV, stConv, cvS, cvB, cvI, stSlice, optN, SV.num, noMax, stArrPtr, stExtract, stLen, stBuild, A.isRow, A.isAgg, A.noRec, A.len, A.get, A.sub, A.set, A.over, Ent.bound, Kind.isStruct, Kind.isAgg, S.known, A.solid, segAt, segPut, segLen, R.a, R.len, A.r, stMake, stBuildSlice, litA, repA, rep1, fillA, putP, sing, stMin, stEqA, rowEq, Kind.isScal, -List.reduceReplicate, -List.getD_eq_getElem?_getD, tab3, ty3, ntmps23]; (repeat' apply And.intro); all_goals first | exact hK | omega)))
                  rw [run_back]
                  refine ⟨c + 1, by omega, by omega, ?_⟩
                  rw [hmix]
                  simp [Ent2, entSl, entM, belSl, belV, belA, belS, belR, belM, look_hit, look_miss, one, -List.getD_eq_getElem?_getD, kmem]
                  omega
              · intro h
                simp at h
                obtain rfl : c = 4 := by omega
                apply run_exit2 rfl
                repeat (first
    | rw [run_ops0]
    | rw [run_seq]
    | rw [run_region]
    | rw [run_block]
    | rw [run_blk]
    | rw [run_skip]
    | (apply run_go rfl; focus (intro L K hK; simp [step1, evS, est, St.ev, St.put, St.add, St.upd, look_hit, look_miss, okd, stBin, bin, binS, binB, binI, shS, shB, S.num, constS, one, inI, stUn, stNil, stLoad, stAt, stField, stIndexAddr, stStore, wrAt, stAlloc, stBox, stIndex, stPart, stPartRow, stFieldV, stConv, cvS, cvB, cvI, stSlice, optN, SV.num, noMax, stArrPtr, stExtract, stLen, stBuild, A.isRow, A.isAgg, A.noRec, A.len, A.get, A.sub, A.set, A.over, Ent.bound, Kind.isStruct, Kind.isAgg, S.known, A.solid, segAt, segPut, segLen, R.a, R.len, A.r, stMake, stBuildSlice, litA, repA, rep1, fillA, putP, sing, stMin, stEqA, rowEq, Kind.isScal, -List.reduceReplicate, -List.getD_eq_getElem?_getD, tab3, ty3, ntmps23]; (repeat' apply And.intro); all_goals first | exact hK | omega)))
                rw [run_back]
                refine ⟨mixS sq 4, by rw [if_pos hq3], ?_⟩
                simp [Ent2, entSl, entM, belSl, belV, belA, belS, belR, belM, look_hit, look_miss, one, -List.getD_eq_getElem?_getD, kmem]
            · intro h
              simp at h
              have hq3 : ¬ q + 1 + 1 < nr := by omega
              repeat (first
    | rw [run_ops0]
    | rw [run_seq]
    | rw [run_region]
    | rw [run_block]
    | rw [run_blk]
    | rw [run_skip]
    | (apply run_go rfl; focus (intro L K hK; simp [step1, evS, est, St.ev, St.put, St.add, St.upd, look_hit, look_miss, okd, stBin, bin, binS, binB, binI, shS, shB, S.num, constS, one, inI, stUn, stNil, stLoad, stAt, stField, stIndexAddr, stStore, wrAt, stAlloc, stBox, stIndex, stPart, stPartRow, stFieldV, stConv, cvS, cvB, cvI, stSlice, optN, SV.num, noMax, stArrPtr, stExtract, stLen, stBuild, A.isRow, A.isAgg, A.noRec, A.len, A.get, A.sub, A.set, A.over, Ent.bound, Kind.isStruct, Kind.isAgg, S.known, A.solid, segAt, segPut, segLen, R.a, R.len, A.r, stMake, stBuildSlice, litA, repA, rep1, fillA, putP, sing, stMin, stEqA, rowEq, Kind.isScal, -List.reduceReplicate, -List.getD_eq_getElem?_getD, tab3, ty3, ntmps23]; (repeat' apply And.intro); all_goals first | exact hK | omega)))
              rw [run_back]
              refine ⟨sq, by rw [if_neg hq3], ?_⟩
              simp [Ent2, entSl, entM, belSl, belV, belA, belS, belR, belM, look_hit, look_miss, one, -List.getD_eq_getElem?_getD, kmem]
          · intro s hs
            have hsl3 : s.length = 16 := by
              subst hs
              split
              · rw [mixS_len, hsl16]
              · exact hsl16
            refine ok_run hB tabOK pureE_ok 100 ?_
            simp only [kmem, List.cons_append, List.nil_append]
            repeat (first
    | rw [run_ops0]
    | rw [run_seq]
    | rw [run_region]
    | rw [run_block]
    | rw [run_blk]
    | rw [run_skip]
    | (apply run_go rfl; focus (intro L K hK; simp [step1, evS, est, St.ev, St.put, St.add, St.upd, look_hit, look_miss, okd, stBin, bin, binS, binB, binI, shS, shB, S.num, constS, one, inI, stUn, stNil, stLoad, stAt, stField, stIndexAddr, stStore, wrAt, stAlloc, stBox, stIndex, stPart, stPartRow, stFieldV, stConv, cvS, cvB, cvI, stSlice, optN, SV.num, noMax, stArrPtr, stExtract, stLen, stBuild, A.isRow, A.isAgg, A.noRec, A.len, A.get, A.sub, A.set, A.over, Ent.bound, Kind.isStruct, Kind.isAgg, S.known, A.solid, segAt, segPut, segLen, R.a, R.len, A.r, stMake, stBuildSlice, litA, repA, rep1, fillA, putP, sing, stMin, stEqA, rowEq, Kind.isScal, -List.reduceReplicate, -List.getD_eq_getElem?_getD, tab3, ty3, ntmps23]; (repeat' apply And.intro); all_goals first | exact hK | omega)))
            rw [run_loop]
            refine ok_loop (X := Nat) (fun j => ⟨[(110, one (.i j)), (7, one (.ptr 4 0 0)), (6, one (.i (q + 1))), (0, one (.ptr 0 0 0)), (3, one (.ptr 2 0 0)), (4, one (.ptr 3 0 0))], kmem nr cap W ++ [.ent ⟨true, 23, some 16, .a8 (xorAt bq s W (16 * (q + 1)) j)⟩, .ent ⟨true, 23, some 16, .a8 zero16⟩, .ent ⟨true, 23, some 16, .a8 s⟩]⟩) (fun j => j ≤ 16) (fun j => 16 - j) (fun j i L h => by have := hB.anc i L h; simp [kmem] at this ⊢; omega) ⟨0, by omega, by simp [Ent2, entSl, entM, belSl, belV, belA, belS, belR, belM, look_hit, look_miss, one, -List.getD_eq_getElem?_getD, xorAt, kmem]⟩ ?_
            intro j hj
            refine ok_run hB tabOK pureE_ok 100 ?_
            simp only [kmem, List.cons_append, List.nil_append]
            have hxl := xorAt_len bq s W (16 * (q + 1)) j
            repeat (first
    | rw [run_ops0]
    | rw [run_seq]
    | rw [run_region]
    | rw [run_block]
    | rw [run_blk]
    | rw [run_skip]
    | (apply run_go rfl; focus (intro L K hK; simp [step1, evS, est, St.ev, St.put, St.add, St.upd, look_hit, look_miss, okd, stBin, bin, binS, binB, binI, shS, shB, S.num, constS, one, inI, stUn, stNil, stLoad, stAt, stField, stIndexAddr, stStore, wrAt, stAlloc, stBox, stIndex, stPart, stPartRow, stFieldV, stConv, cvS, cvB, cvI, stSlice, optN, SV.num, noMax, stArrPtr, stExtract, stLen, stBuild, A.isRow, A.isAgg, A.noRec, A.len, A.get, A.sub, A.set, A.over, Ent.bound, Kind.isStruct, Kind.isAgg, S.known, A.solid, segAt, segPut, segLen, R.a, R.len, A.r, stMake, stBuildSlice, litA, repA, rep1, fillA, putP, sing, stMin, stEqA, rowEq, Kind.isScal, -List.reduceReplicate, -List.getD_eq_getElem?_getD, tab3, ty3, ntmps23]; (repeat' apply And.intro); all_goals first | exact hK | omega)))
            apply run_cond2 rfl
            · intro h
              simp at h
              repeat (first
    | rw [run_ops0]
    | rw [run_seq]
    | rw [run_region]
    | rw [run_block]
    | rw [run_blk]
    | rw [run_skip]
    | (apply run_go rfl; focus (intro L K hK; simp [step1, evS, est, St.ev, St.put, St.add, St.upd, look_hit, look_miss, okd, stBin, bin, binS, binB, binI, shS, shB, S.num, constS, one, inI, stUn, stNil, stLoad, stAt, stField, stIndexAddr, stStore, wrAt, stAlloc, stBox, stIndex, stPart, stPartRow, stFieldV, stConv, cvS, cvB, cvI, stSlice, optN, SV.num, noMax, stArrPtr, stExtract, stLen, stBuild, A.isRow, A.isAgg, A.noRec, A.len, A.get, A.sub, A.set, A.over, Ent.bound, Kind.isStruct, Kind.isAgg, S.known, A.solid, segAt, segPut, segLen, R.a, R.len, A.r, stMake, stBuildSlice, litA, repA, rep1, fillA, putP, sing, stMin, stEqA, rowEq, Kind.isScal, -List.reduceReplicate, -List.getD_eq_getElem?_getD, tab3, ty3, ntmps23]; (repeat' apply And.intro); all_goals first | exact hK | omega)))
              rw [run_draw]
              refine ok_draw2 14 tabOK pureE_ok (pureOf_mono _) mixed (by decide +kernel) rfl rfl ?_
              repeat (first
    | (apply hd_go rfl rfl rfl rfl (Nat.le_of_ble_eq_true rfl); focus (intro K' hK; simp [step1, evS, est, St.ev, St.put, St.add, St.upd, look_hit, look_miss, okd, stBin, bin, binS, binB, binI, shS, shB, S.num, constS, one, inI, stUn, stNil, stLoad, stAt, stField, stIndexAddr, stStore, wrAt, stAlloc, stBox, stIndex, stPart, stPartRow, stFieldV, stConv, cvS, cvB, cvI, stSlice, optN, SV.num, noMax, stArrPtr, stExtract, stLen, stBuild, A.isRow, A.isAgg, A.noRec, A.len, A.get, A.sub, A.set, A.over, Ent.bound, Kind.isStruct, Kind.isAgg, S.known, A.solid, segAt, segPut, segLen, R.a, R.len, A.r, stMake, stBuildSlice, litA, repA, rep1, fillA, putP, sing, stMin, stEqA, rowEq, Kind.isScal, -List.reduceReplicate, -List.getD_eq_getElem?_getD, tab3, ty3, tab5, ty5, tab23, ty23, tab25, ty25, tab105, ty105, tab103, ty103, hxl, hbl, hb, hsl3, h]; (repeat' apply And.intro); all_goals first | exact hK | omega))
    | (apply hd_new rfl rfl rfl rfl (Nat.le_of_ble_eq_true rfl); focus (intro K' hK; simp [step1, evS, est, St.ev, St.put, St.add, St.upd, look_hit, look_miss, okd, stBin, bin, binS, binB, binI, shS, shB, S.num, constS, one, inI, stUn, stNil, stLoad, stAt, stField, stIndexAddr, stStore, wrAt, stAlloc, stBox, stIndex, stPart, stPartRow, stFieldV, stConv, cvS, cvB, cvI, stSlice, optN, SV.num, noMax, stArrPtr, stExtract, stLen, stBuild, A.isRow, A.isAgg, A.noRec, A.len, A.get, A.sub, A.set, A.over, Ent.bound, Kind.isStruct, Kind.isAgg, S.known, A.solid, segAt, segPut, segLen, R.a, R.len, A.r, stMake, stBuildSlice, litA, repA, rep1, fillA, putP, sing, stMin, stEqA, rowEq, Kind.isScal, -List.reduceReplicate, -List.getD_eq_getElem?_getD, tab3, ty3, tab5, ty5, tab23, ty23, tab25, ty25, tab105, ty105, tab103, ty103, hxl, hbl, hb, hsl3, h]; (repeat' apply And.intro); all_goals first | exact hK | omega)))
              refine hd_nil ?_
              simp only [List.map_nil, List.append_nil]
              refine ok_run hB tabOK pureE_ok 100 ?_
              repeat (first
    | rw [run_ops0]
    | rw [run_seq]
    | rw [run_region]
    | rw [run_block]
    | rw [run_blk]
    | rw [run_skip]
    | (apply run_go rfl; focus (intro L K hK; simp [step1, evS, est, St.ev, St.put, St.add, St.upd, look_hit, look_miss, okd, stBin, bin, binS, binB, binI, shS, shB, S.num, constS, one, inI, stUn, stNil, stLoad, stAt, stField, stIndexAddr, stStore, wrAt, stAlloc, stBox, stIndex, stPart, stPartRow, stFieldV, stConv, cvS, cvB, cvI, stSlice, optN, SV.num, noMax, stArrPtr, stExtract, stLen, stBuild, A.isRow, A.isAgg, A.noRec, A.len, A.get, A.sub, A.set, A.over, Ent.bound, Kind.isStruct, Kind.isAgg, S.known, A.solid, segAt, segPut, segLen, R.a, R.len, A.r, stMake, stBuildSlice, litA, repA, rep1, fillA, putP, sing, stMin, stEqA, rowEq, Kind.isScal, -List.reduceReplicate, -List.getD_eq_getElem?_getD, tab3, ty3, tab5, ty5, tab23, ty23, ntmps23, hxl, hbl, hb]; (repeat' apply And.intro); all_goals first | exact hK | omega)))
              rw [run_back]
              refine ⟨j + 1, by omega, by omega, ?_⟩
              simp [Ent2, entSl, entM, belSl, belV, belA, belS, belR, belM, look_hit, look_miss, one, -List.getD_eq_getElem?_getD, xorAt, kmem]
              rw [Nat.mul_comm 16 (q + 1)]
            · intro h
              simp at h
              obtain rfl : j = 16 := by omega
              apply run_exit2 rfl
              repeat (first
    | rw [run_ops0]
    | rw [run_seq]
    | rw [run_region]
    | rw [run_block]
    | rw [run_blk]
    | rw [run_skip]
    | (apply run_go rfl; focus (intro L K hK; simp [step1, evS, est, St.ev, St.put, St.add, St.upd, look_hit, look_miss, okd, stBin, bin, binS, binB, binI, shS, shB, S.num, constS, one, inI, stUn, stNil, stLoad, stAt, stField, stIndexAddr, stStore, wrAt, stAlloc, stBox, stIndex, stPart, stPartRow, stFieldV, stConv, cvS, cvB, cvI, stSlice, optN, SV.num, noMax, stArrPtr, stExtract, stLen, stBuild, A.isRow, A.isAgg, A.noRec, A.len, A.get, A.sub, A.set, A.over, Ent.bound, Kind.isStruct, Kind.isAgg, S.known, A.solid, segAt, segPut, segLen, R.a, R.len, A.r, stMake, stBuildSlice, litA, repA, rep1, fillA, putP, sing, stMin, stEqA, rowEq, Kind.isScal, -List.reduceReplicate, -List.getD_eq_getElem?_getD, tab3, ty3, ntmps23]; (repeat' apply And.intro); all_goals first | exact hK | omega)))
              rw [run_back]
              refine ⟨q + 1, by omega, by omega, ?_⟩
              simp [Ent2, entSl, entM, belSl, belV, belA, belS, belR, belM, look_hit, look_miss, one, -List.getD_eq_getElem?_getD, kmem, rounds, oneRound, hbq, hsq, hs]
      · intro h
        simp at h
        obtain rfl : nr = q + 1 := by omega
        apply run_exit2 rfl
        subst hbq
        repeat (first
    | rw [run_ops0]
    | rw [run_seq]
    | rw [run_region]
    | rw [run_block]
    | rw [run_blk]
    | rw [run_skip]
    | (apply run_go rfl; focus (intro L K hK; simp [step1, evS, est, St.ev, St.put, St.add, St.upd, look_hit, look_miss, okd, stBin, bin, binS, binB, binI, shS, shB, S.num, constS, one, inI, stUn, stNil, stLoad, stAt, stField, stIndexAddr, stStore, wrAt, stAlloc, stBox, stIndex, stPart, stPartRow, stFieldV, stConv, cvS, cvB, cvI, stSlice, optN, SV.num, noMax, stArrPtr, stExtract, stLen, stBuild, A.isRow, A.isAgg, A.noRec, A.len, A.get, A.sub, A.set, A.over, Ent.bound, Kind.isStruct, Kind.isAgg, S.known, A.solid, segAt, segPut, segLen, R.a, R.len, A.r, stMake, stBuildSlice, litA, repA, rep1, fillA, putP, sing, stMin, stEqA, rowEq, Kind.isScal, -List.reduceReplicate, -List.getD_eq_getElem?_getD, tab3, ty3, tab23, ty23, ntmps23, hbl, hz, hb]; (repeat' apply And.intro); all_goals first | exact hK | omega)))
        rw [run_ret]
        simp [finOf, resP, resV, extraOwn, look_hit, look_miss, one, -List.reduceReplicate, -List.getD_eq_getElem?_getD, stLoad, stAt, Ent.bound, A.len, A.isRow, A.isAgg, results23, f23, tab23, ty23, hbl, hb]
end Go.V
end
section
set_option linter.unusedSimpArgs false
set_option linter.unusedVariables false
set_option maxRecDepth 10000
namespace Go.V
open Go Go.Proofs.Try
abbrev LI := List Int
def Byt (l : LI) : Prop := ∀ i, 0 ≤ l.getD i 0 ∧ l.getD i 0 < 256
theorem Byt.set {l : LI} (h : Byt l) {j : Nat} {x : Int} (hx : 0 ≤ x ∧ x < 256) : Byt (l.set j x) := by
  intro i
  have h2 := h i
  simp only [List.getD_eq_getElem?_getD] at h2 ⊢
  rw [List.getElem?_set]
  split
  · split
    · simpa using hx
    · simp
  · exact h2
theorem nat_xor_lt {a b : Nat} (ha : a < 256) (hb : b < 256) : a ^^^ b < 256 := Nat.xor_lt_two_pow (n := 8) ha hb
def zero16I : LI := [0, 0, 0, 0, 0, 0, 0, 0, 0, 0, 0, 0, 0, 0, 0, 0]
theorem zero16I_byt : Byt zero16I := by
  intro i
  by_cases h : i < 16
  · have : ∀ i : Fin 16, 0 ≤ zero16I.getD i.1 0 ∧ zero16I.getD i.1 0 < 256 := by decide
    exact this ⟨i, h⟩
  · rw [List.getD_eq_getElem?_getD, List.getElem?_eq_none (by simp [zero16I]; omega)]; simp
def iniS (b : B8) (W : LI) : Nat → LI
  | 0 => zero16I
  | j + 1 => (iniS b W j).set (j / 4 * 4 + j % 4) (((b.getD j 0).toNat ^^^ (W.getD (j / 4 * 4 + j % 4) 0).toNat : Nat) : Int)
theorem iniS_len (b : B8) (W : LI) : ∀ j, (iniS b W j).length = 16
  | 0 => rfl
  | j + 1 => by simp [iniS, iniS_len b W j]
theorem iniS_byt (b : B8) {W : LI} (hW : Byt W) : ∀ j, Byt (iniS b W j)
  | 0 => zero16I_byt
  | j + 1 => (iniS_byt b hW j).set (by
      have := nat_xor_lt (a := (b.getD j 0).toNat) (b := (W.getD (j / 4 * 4 + j % 4) 0).toNat) (b.getD j 0).isLt (by have := hW (j / 4 * 4 + j % 4); omega)
      omega)
def innT (sb s : LI) (c : Nat) (t : LI) : Nat → LI
  | 0 => t
  | i + 1 => (innT sb s c t i).set (c * 4 + i) (sb.getD (s.getD ((c + i) % 4 * 4 + i) 0).toNat 0)
def outT (sb s : LI) : Nat → LI
  | 0 => zero16I
  | c + 1 => innT sb s c (outT sb s c) 4
theorem innT_len (sb s : LI) (c : Nat) (t : LI) : ∀ i, (innT sb s c t i).length = t.length
  | 0 => rfl
  | i + 1 => by simp [innT, innT_len sb s c t i]
theorem outT_len (sb s : LI) : ∀ c, (outT sb s c).length = 16
  | 0 => rfl
  | c + 1 => by simp [outT, innT_len, outT_len sb s c]
theorem innT_byt {sb : LI} (hs : Byt sb) (s : LI) (c : Nat) {t : LI} (ht : Byt t) : ∀ i, Byt (innT sb s c t i)
  | 0 => ht
  | i + 1 => (innT_byt hs s c ht i).set (hs _)
theorem outT_byt {sb : LI} (hs : Byt sb) (s : LI) : ∀ c, Byt (outT sb s c)
  | 0 => zero16I_byt
  | c + 1 => innT_byt hs s c (outT_byt hs s c) 4
def matL : LI := [2, 3, 1, 1, 1, 2, 3, 1, 1, 1, 2, 3, 3, 1, 1, 2]
theorem matL_byt : Byt matL := by
  intro i
  by_cases h : i < 16
  · have : ∀ i : Fin 16, 0 ≤ matL.getD i.1 0 ∧ matL.getD i.1 0 < 256 := by decide
    exact this ⟨i, h⟩
  · rw [List.getD_eq_getElem?_getD, List.getElem?_eq_none (by simp [matL]; omega)]; simp
def cellX (mx : Bool) (t : LI) (c i : Nat) : Int :=
  if mx = true then xorI (xorI (xorI (timesR (matL.getD (i * 4) 0) (t.getD (c * 4) 0) 8) (timesR (matL.getD (i * 4 + 1) 0) (t.getD (c * 4 + 1) 0) 8)) (timesR (matL.getD (i * 4 + 2) 0) (t.getD (c * 4 + 2) 0) 8)) (timesR (matL.getD (i * 4 + 3) 0) (t.getD (c * 4 + 3) 0) 8)
  else t.getD (c * 4 + i) 0
theorem cellX_lt {t : LI} (ht : Byt t) (mx : Bool) (c i : Nat) : 0 ≤ cellX mx t c i ∧ cellX mx t c i < 256 := by
  unfold cellX
  split
  · exact xorI_lt (xorI_lt (xorI_lt (timesR_lt (matL_byt _) 8) (timesR_lt (matL_byt _) 8)) (timesR_lt (matL_byt _) 8)) (timesR_lt (matL_byt _) 8)
  · exact ht _
def innM (mx : Bool) (t W : LI) (r c : Nat) (s : LI) : Nat → LI
  | 0 => s
  | i + 1 => (innM mx t W r c s i).set (c * 4 + i) (xorI (cellX mx t c i) (W.getD ((4 * r + c) * 4 + i) 0))
def outM (mx : Bool) (t W : LI) (r : Nat) (s : LI) : Nat → LI
  | 0 => s
  | c + 1 => innM mx t W r c (outM mx t W r s c) 4
theorem innM_len (mx : Bool) (t W : LI) (r c : Nat) (s : LI) : ∀ i, (innM mx t W r c s i).length = s.length
  | 0 => rfl
  | i + 1 => by simp [innM, innM_len mx t W r c s i]
theorem outM_len (mx : Bool) (t W : LI) (r : Nat) (s : LI) : ∀ c, (outM mx t W r s c).length = s.length
  | 0 => rfl
  | c + 1 => by simp [outM, innM_len, outM_len mx t W r s c]
theorem innM_byt (mx : Bool) {t W : LI} (ht : Byt t) (hW : Byt W) (r c : Nat) {s : LI} (hs : Byt s) : ∀ i, Byt (innM mx t W r c s i)
  | 0 => hs
  | i + 1 => (innM_byt mx ht hW r c hs i).set (xorI_lt (cellX_lt ht mx c i) (hW _))
theorem outM_byt (mx : Bool) {t W : LI} (ht : Byt t) (hW : Byt W) (r : Nat) {s : LI} (hs : Byt s) : ∀ c, Byt (outM mx t W r s c)
  | 0 => hs
  | c + 1 => innM_byt mx ht hW r c (outM_byt mx ht hW r hs c) 4
def rRounds (sb W : LI) (n : Nat) (s0 : LI) : Nat → LI
  | 0 => s0
  | q + 1 => outM (decide (q + 1 < n + 6)) (outT sb (rRounds sb W n s0 q) 4) W (q + 1) (rRounds sb W n s0 q) 4
theorem rRounds_len (sb W : LI) (n : Nat) (s0 : LI) : ∀ q, (rRounds sb W n s0 q).length = s0.length
  | 0 => rfl
  | q + 1 => by simp [rRounds, outM_len, rRounds_len sb W n s0 q]
theorem rRounds_byt {sb W : LI} (hs : Byt sb) (hW : Byt W) (n : Nat) {s0 : LI} (h0 : Byt s0) : ∀ q, Byt (rRounds sb W n s0 q)
  | 0 => h0
  | q + 1 => outM_byt _ (outT_byt hs _ 4) hW _ (rRounds_byt hs hW n h0 q) 4
def outB (s : LI) : Nat → B8
  | 0 => zero16
  | j + 1 => (outB s j).set j (BitVec.ofInt 8 (s.getD (j / 4 * 4 + j % 4) 0))
theorem outB_len (s : LI) : ∀ j, (outB s j).length = 16
  | 0 => rfl
  | j + 1 => by simp [outB, outB_len s j]
def rkmem (nw cap : Nat) (N : Int) (sb W : LI) : Mem := [.ent ⟨false, 110, some 258, .st [⟨1, .s (.sl 1 0 nw cap 4)⟩, ⟨256, .ai sb⟩, ⟨1, .s (.i N)⟩]⟩, .ent ⟨false, 111, none, .ai W⟩]
set_option maxHeartbeats 1000000 in
theorem spec24 (b : B8) (sb W : LI) (nw cap n : Nat) (hb : b.length = 16) (hW : 4 * nw ≤ W.length) (hN : nw = 4 * (n + 7)) (hn : n < 100) (hsb : sb.length = 256) (hWb : Byt W) (hsbb : Byt sb) : Spec prog 24 [one (.ptr 0 0 0), .one (.a8 b)] (rkmem nw cap n sb W) [] (fun r _ => r = .one (.a8 (outB (rRounds sb W n (iniS b W 16) (n + 6)) 16))) := by
  refine spec_of_body tabOK func24 rfl (Nat.le_of_ble_eq_true rfl) ?_
  intro E Q0 hB
  refine ok_run hB tabOK pureB_ok 100 ?_
  simp only [argSl, rkmem]
  have hlt : ∀ x : BitVec 8, x.toNat < 256 := fun x => x.isLt
  repeat (first
    | rw [run_ops0]
    | rw [run_seq]
    | rw [run_region]
    | rw [run_block]
    | rw [run_blk]
    | rw [run_skip]
    | (apply run_go rfl; focus (intro L K hK; simp [step1, evS, est, St.ev, St.put, St.add, St.upd, look_hit, look_miss, okd, stBin, bin, binS, binB, binI, shS, shB, S.num, constS, one, inI, stUn, stNil, stLoad, stAt, stField, stIndexAddr, stStore, wrAt, stAlloc, stBox, stIndex, stPart, stPartRow, stFieldV, stConv, cvS, cvB, cvI, stSlice, optN, SV.num, noMax, stArrPtr, stExtract, stLen, stBuild, A.isRow, A.isAgg, A.noRec, A.len, A.get, A.sub, A.set, A.over, Ent.bound, Kind.isStruct, Kind.isAgg, S.known, A.solid, segAt, segPut, segLen, R.a, R.len, A.r, stMake, stBuildSlice, litA, repA, rep1, fillA, putP, sing, stMin, stEqA, rowEq, Kind.isScal, -List.reduceReplicate, -List.getD_eq_getElem?_getD, tab23, ty23, tab113, ty113, tab3, ty3, ntmps24, hb]; (repeat' apply And.intro); all_goals first | exact hK | omega)))
  rw [run_loop]
  refine ok_loop (X := Nat) (fun j => ⟨[(6, one (.i j)), (5, one (.ptr 4 0 0)), (0, one (.ptr 0 0 0)), (3, one (.ptr 2 0 0)), (4, one (.ptr 3 0 0))], rkmem nw cap n sb W ++ [.ent ⟨true, 23, some 16, .a8 b⟩, .ent ⟨true, 23, some 16, .a8 zero16⟩, .ent ⟨true, 113, some 16, .ai (iniS b W j)⟩]⟩) (fun j => j ≤ 16) (fun j => 16 - j) (fun j i L h => by have := hB.anc i L h; simp [rkmem] at this ⊢; omega) ⟨0, by simp, by simp [Ent2, entSl, entM, belSl, belV, belA, belS, belR, belM, look_hit, look_miss, one, -List.getD_eq_getElem?_getD, iniS, rkmem, zero16, zero16I]⟩ ?_
  intro j hj
  refine ok_run hB tabOK pureB_ok 100 ?_
  have hxl := iniS_len b W j
  simp only [rkmem, List.cons_append, List.nil_append]
  repeat (first
    | rw [run_ops0]
    | rw [run_seq]
    | rw [run_region]
    | rw [run_block]
    | rw [run_blk]
    | rw [run_skip]
    | (apply run_go rfl; focus (intro L K hK; simp [step1, evS, est, St.ev, St.put, St.add, St.upd, look_hit, look_miss, okd, stBin, bin, binS, binB, binI, shS, shB, S.num, constS, one, inI, stUn, stNil, stLoad, stAt, stField, stIndexAddr, stStore, wrAt, stAlloc, stBox, stIndex, stPart, stPartRow, stFieldV, stConv, cvS, cvB, cvI, stSlice, optN, SV.num, noMax, stArrPtr, stExtract, stLen, stBuild, A.isRow, A.isAgg, A.noRec, A.len, A.get, A.sub, A.set, A.over, Ent.bound, Kind.isStruct, Kind.isAgg, S.known, A.solid, segAt, segPut, segLen, R.a, R.len, A.r, stMake, stBuildSlice, litA, repA, rep1, fillA, putP, sing, stMin, stEqA, rowEq, Kind.isScal, -List.reduceReplicate, -List.getD_eq_getElem?_getD, tab3, ty3, ntmps24]; (repeat' apply And.intro); all_goals first | exact hK | omega)))
  apply run_cond2 rfl
  · intro h
    simp at h
    have q1 : (j : Int).tdiv 4 = (j : Int) / 4 := Int.tdiv_eq_ediv_of_nonneg (by omega)
    have q2 : (j : Int).tmod 4 = (j : Int) % 4 := Int.tmod_eq_emod_of_nonneg (by omega)
    have q3 : ((j : Int) / 4).toNat = j / 4 := by omega
    have q4 : ((j : Int) % 4).toNat = j % 4 := by omega
    repeat (first
    | rw [run_ops0]
    | rw [run_seq]
    | rw [run_region]
    | rw [run_block]
    | rw [run_blk]
    | rw [run_skip]
    | (apply run_go rfl; focus (intro L K hK; simp [step1, evS, est, St.ev, St.put, St.add, St.upd, look_hit, look_miss, okd, stBin, bin, binS, binB, binI, shS, shB, S.num, constS, one, inI, stUn, stNil, stLoad, stAt, stField, stIndexAddr, stStore, wrAt, stAlloc, stBox, stIndex, stPart, stPartRow, stFieldV, stConv, cvS, cvB, cvI, stSlice, optN, SV.num, noMax, stArrPtr, stExtract, stLen, stBuild, A.isRow, A.isAgg, A.noRec, A.len, A.get, A.sub, A.set, A.over, Ent.bound, Kind.isStruct, Kind.isAgg, S.known, A.solid, segAt, segPut, segLen, R.a, R.len, A.r, stMake, stBuildSlice, litA, repA, rep1, fillA, putP, sing, stMin, stEqA, rowEq, Kind.isScal, -List.reduceReplicate, -List.getD_eq_getElem?_getD, tab3, ty3, ntmps24]; (repeat' apply And.intro); all_goals first | exact hK | omega)))
    rw [run_draw]
    refine ok_draw2 21 tabOK pureB_ok (pureOf_mono _) mixed (by decide +kernel) rfl rfl ?_
    have hw := hWb (j / 4 * 4 + j % 4)
    have hx := nat_xor_lt (a := (b.getD j 0).toNat) (b := (W.getD (j / 4 * 4 + j % 4) 0).toNat) (b.getD j 0).isLt (by omega)
    have hbt := hlt (b.getD j 0)
    repeat (first
    | (apply hd_go rfl rfl rfl rfl (Nat.le_of_ble_eq_true rfl); focus (intro K' hK; simp [step1, evS, est, St.ev, St.put, St.add, St.upd, look_hit, look_miss, okd, stBin, bin, binS, binB, binI, shS, shB, S.num, constS, one, inI, stUn, stNil, stLoad, stAt, stField, stIndexAddr, stStore, wrAt, stAlloc, stBox, stIndex, stPart, stPartRow, stFieldV, stConv, cvS, cvB, cvI, stSlice, optN, SV.num, noMax, stArrPtr, stExtract, stLen, stBuild, A.isRow, A.isAgg, A.noRec, A.len, A.get, A.sub, A.set, A.over, Ent.bound, Kind.isStruct, Kind.isAgg, S.known, A.solid, segAt, segPut, segLen, R.a, R.len, A.r, stMake, stBuildSlice, litA, repA, rep1, fillA, putP, sing, stMin, stEqA, rowEq, Kind.isScal, -List.reduceReplicate, -List.getD_eq_getElem?_getD, tab3, ty3, tab5, ty5, tab23, ty23, tab29, ty29, tab110, ty110, tab108, ty108, tab111, ty111, tab106, ty106, tab113, ty113, q1, q2, q3, q4, hb, hw, noCap]; (repeat' apply And.intro); all_goals first | exact hK | omega))
    | (apply hd_new rfl rfl rfl rfl (Nat.le_of_ble_eq_true rfl); focus (intro K' hK; simp [step1, evS, est, St.ev, St.put, St.add, St.upd, look_hit, look_miss, okd, stBin, bin, binS, binB, binI, shS, shB, S.num, constS, one, inI, stUn, stNil, stLoad, stAt, stField, stIndexAddr, stStore, wrAt, stAlloc, stBox, stIndex, stPart, stPartRow, stFieldV, stConv, cvS, cvB, cvI, stSlice, optN, SV.num, noMax, stArrPtr, stExtract, stLen, stBuild, A.isRow, A.isAgg, A.noRec, A.len, A.get, A.sub, A.set, A.over, Ent.bound, Kind.isStruct, Kind.isAgg, S.known, A.solid, segAt, segPut, segLen, R.a, R.len, A.r, stMake, stBuildSlice, litA, repA, rep1, fillA, putP, sing, stMin, stEqA, rowEq, Kind.isScal, -List.reduceReplicate, -List.getD_eq_getElem?_getD, tab3, ty3, tab5, ty5, tab23, ty23, tab29, ty29, tab110, ty110, tab108, ty108, tab111, ty111, tab106, ty106, tab113, ty113, q1, q2, q3, q4, hb, hw, noCap]; (repeat' apply And.intro); all_goals first | exact hK | omega)))
    refine hd_nil ?_
    simp only [List.map_nil, List.append_nil]
    refine ok_run hB tabOK pureB_ok 100 ?_
    repeat (first
    | rw [run_ops0]
    | rw [run_seq]
    | rw [run_region]
    | rw [run_block]
    | rw [run_blk]
    | rw [run_skip]
    | (apply run_go rfl; focus (intro L K hK; simp [step1, evS, est, St.ev, St.put, St.add, St.upd, look_hit, look_miss, okd, stBin, bin, binS, binB, binI, shS, shB, S.num, constS, one, inI, stUn, stNil, stLoad, stAt, stField, stIndexAddr, stStore, wrAt, stAlloc, stBox, stIndex, stPart, stPartRow, stFieldV, stConv, cvS, cvB, cvI, stSlice, optN, SV.num, noMax, stArrPtr, stExtract, stLen, stBuild, A.isRow, A.isAgg, A.noRec, A.len, A.get, A.sub, A.set, A.over, Ent.bound, Kind.isStruct, Kind.isAgg, S.known, A.solid, segAt, segPut, segLen, R.a, R.len, A.r, stMake, stBuildSlice, litA, repA, rep1, fillA, putP, sing, stMin, stEqA, rowEq, Kind.isScal, -List.reduceReplicate, -List.getD_eq_getElem?_getD, tab3, ty3, tab111, ty111, tab113, ty113, ntmps24, q3, q4, hxl]; (repeat' apply And.intro); all_goals first | exact hK | omega)))
    rw [run_back]
    refine ⟨j + 1, by omega, by omega, ?_⟩
    simp [Ent2, entSl, entM, belSl, belV, belA, belS, belR, belM, look_hit, look_miss, one, -List.getD_eq_getElem?_getD, iniS, rkmem]
  · intro h
    simp at h
    obtain rfl : j = 16 := by omega
    apply run_exit2 rfl
    repeat (first
    | rw [run_ops0]
    | rw [run_seq]
    | rw [run_region]
    | rw [run_block]
    | rw [run_blk]
    | rw [run_skip]
    | (apply run_go rfl; focus (intro L K hK; simp [step1, evS, est, St.ev, St.put, St.add, St.upd, look_hit, look_miss, okd, stBin, bin, binS, binB, binI, shS, shB, S.num, constS, one, inI, stUn, stNil, stLoad, stAt, stField, stIndexAddr, stStore, wrAt, stAlloc, stBox, stIndex, stPart, stPartRow, stFieldV, stConv, cvS, cvB, cvI, stSlice, optN, SV.num, noMax, stArrPtr, stExtract, stLen, stBuild, A.isRow, A.isAgg, A.noRec, A.len, A.get, A.sub, A.set, A.over, Ent.bound, Kind.isStruct, Kind.isAgg, S.known, A.solid, segAt, segPut, segLen, R.a, R.len, A.r, stMake, stBuildSlice, litA, repA, rep1, fillA, putP, sing, stMin, stEqA, rowEq, Kind.isScal, -List.reduceReplicate, -List.getD_eq_getElem?_getD, tab3, ty3, tab111, ty111, tab113, ty113, ntmps24]; (repeat' apply And.intro); all_goals first | exact hK | omega)))
    rw [run_loop]
    refine ok_loop (X := Nat) (fun q => ⟨[(8, one (.i (q + 1))), (0, one (.ptr 0 0 0)), (3, one (.ptr 2 0 0)), (4, one (.ptr 3 0 0)), (5, one (.ptr 4 0 0)), (7, one (.ptr 5 0 0))], rkmem nw cap n sb W ++ [.ent ⟨true, 23, some 16, .a8 b⟩, .ent ⟨true, 23, some 16, .a8 zero16⟩, .ent ⟨true, 113, some 16, .ai (rRounds sb W n (iniS b W 16) q)⟩, .ent ⟨true, 113, some 16, .ai matL⟩]⟩) (fun q => q ≤ n + 6) (fun q => n + 6 - q) (fun j i L h => by have := hB.anc i L h; simp [rkmem] at this ⊢; omega) ⟨0, by omega, by simp [Ent2, entSl, entM, belSl, belV, belA, belS, belR, belM, look_hit, look_miss, one, -List.getD_eq_getElem?_getD, rRounds, rkmem, zero16, matL]⟩ ?_
    have hib := iniS_byt b hWb 16
    have hil0 := iniS_len b W 16
    intro q hq
    refine ok_run hB tabOK pureB_ok 100 ?_
    have hsl : (rRounds sb W n (iniS b W 16) q).length = 16 := by rw [rRounds_len, hil0]
    have hsb2 := rRounds_byt hsbb hWb n hib q
    have hml : matL.length = 16 := rfl
    have hrr : rRounds sb W n (iniS b W 16) (q + 1) = outM (decide (q + 1 < n + 6)) (outT sb (rRounds sb W n (iniS b W 16) q) 4) W (q + 1) (rRounds sb W n (iniS b W 16) q) 4 := rfl
    simp only [rkmem, List.cons_append, List.nil_append]
    generalize hs0 : rRounds sb W n (iniS b W 16) q = s at hsl hsb2 hrr ⊢
    obtain ⟨mx, hmx⟩ : ∃ mx, mx = decide (q + 1 < n + 6) := ⟨_, rfl⟩
    rw [← hmx] at hrr
    repeat (first
    | rw [run_ops0]
    | rw [run_seq]
    | rw [run_region]
    | rw [run_block]
    | rw [run_blk]
    | rw [run_skip]
    | (apply run_go rfl; focus (intro L K hK; simp [step1, evS, est, St.ev, St.put, St.add, St.upd, look_hit, look_miss, okd, stBin, bin, binS, binB, binI, shS, shB, S.num, constS, one, inI, stUn, stNil, stLoad, stAt, stField, stIndexAddr, stStore, wrAt, stAlloc, stBox, stIndex, stPart, stPartRow, stFieldV, stConv, cvS, cvB, cvI, stSlice, optN, SV.num, noMax, stArrPtr, stExtract, stLen, stBuild, A.isRow, A.isAgg, A.noRec, A.len, A.get, A.sub, A.set, A.over, Ent.bound, Kind.isStruct, Kind.isAgg, S.known, A.solid, segAt, segPut, segLen, R.a, R.len, A.r, stMake, stBuildSlice, litA, repA, rep1, fillA, putP, sing, stMin, stEqA, rowEq, Kind.isScal, -List.reduceReplicate, -List.getD_eq_getElem?_getD, tab3, ty3, tab29, ty29, tab110, ty110, ntmps24]; (repeat' apply And.intro); all_goals first | exact hK | omega)))
    apply run_cond2 rfl
    · intro h
      simp at h
      have hq6 : q < n + 6 := by omega
      repeat (first
    | rw [run_ops0]
    | rw [run_seq]
    | rw [run_region]
    | rw [run_block]
    | rw [run_blk]
    | rw [run_skip]
    | (apply run_go rfl; focus (intro L K hK; simp [step1, evS, est, St.ev, St.put, St.add, St.upd, look_hit, look_miss, okd, stBin, bin, binS, binB, binI, shS, shB, S.num, constS, one, inI, stUn, stNil, stLoad, stAt, stField, stIndexAddr, stStore, wrAt, stAlloc, stBox, stIndex, stPart, stPartRow, stFieldV, stConv, cvS, cvB, cvI, stSlice, optN, SV.num, noMax, stArrPtr, stExtract, stLen, stBuild, A.isRow, A.isAgg, A.noRec, A.len, A.get, A.sub, A.set, A.over, Ent.bound, Kind.isStruct, Kind.isAgg, S.known, A.solid, segAt, segPut, segLen, R.a, R.len, A.r, stMake, stBuildSlice, litA, repA, rep1, fillA, putP, sing, stMin, stEqA, rowEq, Kind.isScal, -List.reduceReplicate, -List.getD_eq_getElem?_getD, tab3, ty3, tab113, ty113, ntmps24]; (repeat' apply And.intro); all_goals first | exact hK | omega)))
      rw [run_loop]
      refine ok_loop (X := Nat) (fun c => ⟨[(10, one (.i c)), (9, one (.ptr 6 0 0)), (8, one (.i (q + 1))), (0, one (.ptr 0 0 0)), (3, one (.ptr 2 0 0)), (4, one (.ptr 3 0 0)), (5, one (.ptr 4 0 0)), (7, one (.ptr 5 0 0))], rkmem nw cap n sb W ++ [.ent ⟨true, 23, some 16, .a8 b⟩, .ent ⟨true, 23, some 16, .a8 zero16⟩, .ent ⟨true, 113, some 16, .ai (s)⟩, .ent ⟨true, 113, some 16, .ai matL⟩, .ent ⟨true, 113, some 16, .ai (outT sb s c)⟩]⟩) (fun c => c ≤ 4) (fun c => 4 - c) (fun j i L h => by have := hB.anc i L h; simp [rkmem] at this ⊢; omega) ⟨0, by omega, by simp [Ent2, entSl, entM, belSl, belV, belA, belS, belR, belM, look_hit, look_miss, one, -List.getD_eq_getElem?_getD, outT, rkmem, zero16I]⟩ ?_
      intro c hc
      refine ok_run hB tabOK pureB_ok 100 ?_
      simp only [rkmem, List.cons_append, List.nil_append]
      repeat (first
    | rw [run_ops0]
    | rw [run_seq]
    | rw [run_region]
    | rw [run_block]
    | rw [run_blk]
    | rw [run_skip]
    | (apply run_go rfl; focus (intro L K hK; simp [step1, evS, est, St.ev, St.put, St.add, St.upd, look_hit, look_miss, okd, stBin, bin, binS, binB, binI, shS, shB, S.num, constS, one, inI, stUn, stNil, stLoad, stAt, stField, stIndexAddr, stStore, wrAt, stAlloc, stBox, stIndex, stPart, stPartRow, stFieldV, stConv, cvS, cvB, cvI, stSlice, optN, SV.num, noMax, stArrPtr, stExtract, stLen, stBuild, A.isRow, A.isAgg, A.noRec, A.len, A.get, A.sub, A.set, A.over, Ent.bound, Kind.isStruct, Kind.isAgg, S.known, A.solid, segAt, segPut, segLen, R.a, R.len, A.r, stMake, stBuildSlice, litA, repA, rep1, fillA, putP, sing, stMin, stEqA, rowEq, Kind.isScal, -List.reduceReplicate, -List.getD_eq_getElem?_getD, tab3, ty3, ntmps24]; (repeat' apply And.intro); all_goals first | exact hK | omega)))
      apply run_cond2 rfl
      · intro h
        simp at h
        repeat (first
    | rw [run_ops0]
    | rw [run_seq]
    | rw [run_region]
    | rw [run_block]
    | rw [run_blk]
    | rw [run_skip]
    | (apply run_go rfl; focus (intro L K hK; simp [step1, evS, est, St.ev, St.put, St.add, St.upd, look_hit, look_miss, okd, stBin, bin, binS, binB, binI, shS, shB, S.num, constS, one, inI, stUn, stNil, stLoad, stAt, stField, stIndexAddr, stStore, wrAt, stAlloc, stBox, stIndex, stPart, stPartRow, stFieldV, stConv, cvS, cvB, cvI, stSlice, optN, SV.num, noMax, stArrPtr, stExtract, stLen, stBuild, A.isRow, A.isAgg, A.noRec, A.len, A.get, A.sub, A.set, A.over, Ent.bound, Kind.isStruct, Kind.isAgg, S.known, A.solid, segAt, segPut, segLen, R.a, R.len, A.r, stMake, stBuildSlice, litA, repA, rep1, fillA, putP, sing, stMin, stEqA, rowEq, Kind.isScal, -List.reduceReplicate, -List.getD_eq_getElem?_getD, tab3, ty3, ntmps24]; (repeat' apply And.intro); all_goals first | exact hK | omega)))
        rw [run_loop]
        refine ok_loop (X := Nat) (fun i => ⟨[(11, one (.i i)), (10, one (.i c)), (9, one (.ptr 6 0 0)), (8, one (.i (q + 1))), (0, one (.ptr 0 0 0)), (3, one (.ptr 2 0 0)), (4, one (.ptr 3 0 0)), (5, one (.ptr 4 0 0)), (7, one (.ptr 5 0 0))], rkmem nw cap n sb W ++ [.ent ⟨true, 23, some 16, .a8 b⟩, .ent ⟨true, 23, some 16, .a8 zero16⟩, .ent ⟨true, 113, some 16, .ai (s)⟩, .ent ⟨true, 113, some 16, .ai matL⟩, .ent ⟨true, 113, some 16, .ai (innT sb s c (outT sb s c) i)⟩]⟩) (fun i => i ≤ 4) (fun i => 4 - i) (fun j i L h => by have := hB.anc i L h; simp [rkmem] at this ⊢; omega) ⟨0, by omega, by simp [Ent2, entSl, entM, belSl, belV, belA, belS, belR, belM, look_hit, look_miss, one, -List.getD_eq_getElem?_getD, innT, rkmem]⟩ ?_
        intro i hi
        refine ok_run hB tabOK pureB_ok 100 ?_
        simp only [rkmem, List.cons_append, List.nil_append]
        have htl : (innT sb s c (outT sb s c) i).length = 16 := by rw [innT_len, outT_len]
        repeat (first
    | rw [run_ops0]
    | rw [run_seq]
    | rw [run_region]
    | rw [run_block]
    | rw [run_blk]
    | rw [run_skip]
    | (apply run_go rfl; focus (intro L K hK; simp [step1, evS, est, St.ev, St.put, St.add, St.upd, look_hit, look_miss, okd, stBin, bin, binS, binB, binI, shS, shB, S.num, constS, one, inI, stUn, stNil, stLoad, stAt, stField, stIndexAddr, stStore, wrAt, stAlloc, stBox, stIndex, stPart, stPartRow, stFieldV, stConv, cvS, cvB, cvI, stSlice, optN, SV.num, noMax, stArrPtr, stExtract, stLen, stBuild, A.isRow, A.isAgg, A.noRec, A.len, A.get, A.sub, A.set, A.over, Ent.bound, Kind.isStruct, Kind.isAgg, S.known, A.solid, segAt, segPut, segLen, R.a, R.len, A.r, stMake, stBuildSlice, litA, repA, rep1, fillA, putP, sing, stMin, stEqA, rowEq, Kind.isScal, -List.reduceReplicate, -List.getD_eq_getElem?_getD, tab3, ty3, ntmps24]; (repeat' apply And.intro); all_goals first | exact hK | omega)))
        apply run_cond2 rfl
        · intro h
          simp at h
          repeat (first
    | rw [run_ops0]
    | rw [run_seq]
    | rw [run_region]
    | rw [run_block]
    | rw [run_blk]
    | rw [run_skip]
    | (apply run_go rfl; focus (intro L K hK; simp [step1, evS, est, St.ev, St.put, St.add, St.upd, look_hit, look_miss, okd, stBin, bin, binS, binB, binI, shS, shB, S.num, constS, one, inI, stUn, stNil, stLoad, stAt, stField, stIndexAddr, stStore, wrAt, stAlloc, stBox, stIndex, stPart, stPartRow, stFieldV, stConv, cvS, cvB, cvI, stSlice, optN, SV.num, noMax, stArrPtr, stExtract, stLen, stBuild, A.isRow, A.isAgg, A.noRec, A.len, A.get, A.sub, A.set, A.over, Ent.bound, Kind.isStruct, Kind.isAgg, S.known, A.solid, segAt, segPut, segLen, R.a, R.len, A.r, stMake, stBuildSlice, litA, repA, rep1, fillA, putP, sing, stMin, stEqA, rowEq, Kind.isScal, -List.reduceReplicate, -List.getD_eq_getElem?_getD, tab3, ty3, ntmps24]; (repeat' apply And.intro); all_goals first | exact hK | omega)))
          rw [run_draw]
          refine ok_draw2 16 tabOK pureB_ok (pureOf_mono _) mixed (by decide +kernel) rfl rfl ?_
          have q2 : ((c : Int) + i).tmod 4 = ((c : Int) + i) % 4 := Int.tmod_eq_emod_of_nonneg (by omega)
          have q4 : (((c : Int) + i) % 4).toNat = (c + i) % 4 := by omega
          have hv := hsb2 ((c + i) % 4 * 4 + i)
          repeat (first
    | (apply hd_go rfl rfl rfl rfl (Nat.le_of_ble_eq_true rfl); focus (intro K' hK; simp [step1, evS, est, St.ev, St.put, St.add, St.upd, look_hit, look_miss, okd, stBin, bin, binS, binB, binI, shS, shB, S.num, constS, one, inI, stUn, stNil, stLoad, stAt, stField, stIndexAddr, stStore, wrAt, stAlloc, stBox, stIndex, stPart, stPartRow, stFieldV, stConv, cvS, cvB, cvI, stSlice, optN, SV.num, noMax, stArrPtr, stExtract, stLen, stBuild, A.isRow, A.isAgg, A.noRec, A.len, A.get, A.sub, A.set, A.over, Ent.bound, Kind.isStruct, Kind.isAgg, S.known, A.solid, segAt, segPut, segLen, R.a, R.len, A.r, stMake, stBuildSlice, litA, repA, rep1, fillA, putP, sing, stMin, stEqA, rowEq, Kind.isScal, -List.reduceReplicate, -List.getD_eq_getElem?_getD, tab3, ty3, tab29, ty29, tab110, ty110, tab106, ty106, tab111, ty111, tab113, ty113, q2, q4, hsl, hv, hsb]; (repeat' apply And.intro); all_goals first | exact hK | omega))
    | (apply hd_new rfl rfl rfl rfl (Nat.le_of_ble_eq_true rfl); focus (intro K' hK; simp [step1, evS, est, St.ev, St.put, St.add, St.upd, look_hit, look_miss, okd, stBin, bin, binS, binB, binI, shS, shB, S.num, constS, one, inI, stUn, stNil, stLoad, stAt, stField, stIndexAddr, stStore, wrAt, stAlloc, stBox, stIndex, stPart, stPartRow, stFieldV, stConv, cvS, cvB, cvI, stSlice, optN, SV.num, noMax, stArrPtr, stExtract, stLen, stBuild, A.isRow, A.isAgg, A.noRec, A.len, A.get, A.sub, A.set, A.over, Ent.bound, Kind.isStruct, Kind.isAgg, S.known, A.solid, segAt, segPut, segLen, R.a, R.len, A.r, stMake, stBuildSlice, litA, repA, rep1, fillA, putP, sing, stMin, stEqA, rowEq, Kind.isScal, -List.reduceReplicate, -List.getD_eq_getElem?_getD, tab3, ty3, tab29, ty29, tab110, ty110, tab106, ty106, tab111, ty111, tab113, ty113, q2, q4, hsl, hv, hsb]; (repeat' apply And.intro); all_goals first | exact hK | omega)))
          refine hd_nil ?_
          simp only [List.map_nil, List.append_nil]
          refine ok_run hB tabOK pureB_ok 100 ?_
          repeat (first
    | rw [run_ops0]
    | rw [run_seq]
    | rw [run_region]
    | rw [run_block]
    | rw [run_blk]
    | rw [run_skip]
    | (apply run_go rfl; focus (intro L K hK; simp [step1, evS, est, St.ev, St.put, St.add, St.upd, look_hit, look_miss, okd, stBin, bin, binS, binB, binI, shS, shB, S.num, constS, one, inI, stUn, stNil, stLoad, stAt, stField, stIndexAddr, stStore, wrAt, stAlloc, stBox, stIndex, stPart, stPartRow, stFieldV, stConv, cvS, cvB, cvI, stSlice, optN, SV.num, noMax, stArrPtr, stExtract, stLen, stBuild, A.isRow, A.isAgg, A.noRec, A.len, A.get, A.sub, A.set, A.over, Ent.bound, Kind.isStruct, Kind.isAgg, S.known, A.solid, segAt, segPut, segLen, R.a, R.len, A.r, stMake, stBuildSlice, litA, repA, rep1, fillA, putP, sing, stMin, stEqA, rowEq, Kind.isScal, -List.reduceReplicate, -List.getD_eq_getElem?_getD, tab3, ty3, tab111, ty111, tab113, ty113, ntmps24, htl]; (repeat' apply And.intro); all_goals first | exact hK | omega)))
          rw [run_back]
          refine ⟨i + 1, by omega, by omega, ?_⟩
          simp [Ent2, entSl, entM, belSl, belV, belA, belS, belR, belM, look_hit, look_miss, one, -List.getD_eq_getElem?_getD, innT, rkmem]
        · intro h
          simp at h
          obtain rfl : i = 4 := by omega
          apply run_exit2 rfl
          repeat (first
    | rw [run_ops0]
    | rw [run_seq]
    | rw [run_region]
    | rw [run_block]
    | rw [run_blk]
    | rw [run_skip]
    | (apply run_go rfl; focus (intro L K hK; simp [step1, evS, est, St.ev, St.put, St.add, St.upd, look_hit, look_miss, okd, stBin, bin, binS, binB, binI, shS, shB, S.num, constS, one, inI, stUn, stNil, stLoad, stAt, stField, stIndexAddr, stStore, wrAt, stAlloc, stBox, stIndex, stPart, stPartRow, stFieldV, stConv, cvS, cvB, cvI, stSlice, optN, SV.num, noMax, stArrPtr, stExtract, stLen, stBuild, A.isRow, A.isAgg, A.noRec, A.len, A.get, A.sub, A.set, A.over, Ent.bound, Kind.isStruct, Kind.isAgg, S.known, A.solid, segAt, segPut, segLen, R.a, R.len, A.r, stMake, stBuildSlice, litA, repA, rep1, fillA, putP, sing, stMin, stEqA, rowEq, Kind.isScal, -List.reduceReplicate, -List.getD_eq_getElem?_getD, tab3, ty3, ntmps24]; (repeat' apply And.intro); all_goals first | exact hK | omega)))
          rw [run_back]
          refine ⟨c + 1, by omega, by omega, ?_⟩
          simp [Ent2, entSl, entM, belSl, belV, belA, belS, belR, belM, look_hit, look_miss, one, -List.getD_eq_getElem?_getD, outT, rkmem]
      · intro h
        simp at h
        obtain rfl : c = 4 := by omega
        apply run_exit2 rfl
        have htl := outT_len sb s 4
        have htb := outT_byt hsbb s 4
        generalize outT sb s 4 = t at htl htb hrr ⊢
        repeat (first
    | rw [run_ops0]
    | rw [run_seq]
    | rw [run_region]
    | rw [run_block]
    | rw [run_blk]
    | rw [run_skip]
    | (apply run_go rfl; focus (intro L K hK; simp [step1, evS, est, St.ev, St.put, St.add, St.upd, look_hit, look_miss, okd, stBin, bin, binS, binB, binI, shS, shB, S.num, constS, one, inI, stUn, stNil, stLoad, stAt, stField, stIndexAddr, stStore, wrAt, stAlloc, stBox, stIndex, stPart, stPartRow, stFieldV, stConv, cvS, cvB, cvI, stSlice, optN, SV.num, noMax, stArrPtr, stExtract, stLen, stBuild, A.isRow, A.isAgg, A.noRec, A.len, A.get, A.sub, A.set, A.over, Ent.bound, Kind.isStruct, Kind.isAgg, S.known, A.solid, segAt, segPut, segLen, R.a, R.len, A.r, stMake, stBuildSlice, litA, repA, rep1, fillA, putP, sing, stMin, stEqA, rowEq, Kind.isScal, -List.reduceReplicate, -List.getD_eq_getElem?_getD, tab3, ty3, ntmps24]; (repeat' apply And.intro); all_goals first | exact hK | omega)))
        rw [run_loop]
        refine ok_loop (X := Nat) (fun c => ⟨[(12, one (.i c)), (9, one (.ptr 6 0 0)), (8, one (.i (q + 1))), (0, one (.ptr 0 0 0)), (3, one (.ptr 2 0 0)), (4, one (.ptr 3 0 0)), (5, one (.ptr 4 0 0)), (7, one (.ptr 5 0 0))], rkmem nw cap n sb W ++ [.ent ⟨true, 23, some 16, .a8 b⟩, .ent ⟨true, 23, some 16, .a8 zero16⟩, .ent ⟨true, 113, some 16, .ai (outM mx t W (q + 1) s c)⟩, .ent ⟨true, 113, some 16, .ai matL⟩, .ent ⟨true, 113, some 16, .ai t⟩]⟩) (fun c => c ≤ 4) (fun c => 4 - c) (fun j i L h => by have := hB.anc i L h; simp [rkmem] at this ⊢; omega) ⟨0, by omega, by simp [Ent2, entSl, entM, belSl, belV, belA, belS, belR, belM, look_hit, look_miss, one, -List.getD_eq_getElem?_getD, outM, rkmem]⟩ ?_
        intro c hc
        refine ok_run hB tabOK pureB_ok 100 ?_
        simp only [rkmem, List.cons_append, List.nil_append]
        repeat (first
    | rw [run_ops0]
    | rw [run_seq]
    | rw [run_region]
    | rw [run_block]
    | rw [run_blk]
    | rw [run_skip]
    | (apply run_go rfl; focus (intro L K hK; simp [step1, evS, est, St.ev, St.put, St.add, St.upd, look_hit, look_miss, okd, stBin, bin, binS, binB, binI, shS, shB, S.num, constS, one, inI, stUn, stNil, stLoad, stAt, stField, stIndexAddr, stStore, wrAt, stAlloc, stBox, stIndex, stPart, stPartRow, stFieldV, stConv, cvS, cvB, cvI, stSlice, optN, SV.num, noMax, stArrPtr, stExtract, stLen, stBuild, A.isRow, A.isAgg, A.noRec, A.len, A.get, A.sub, A.set, A.over, Ent.bound, Kind.isStruct, Kind.isAgg, S.known, A.solid, segAt, segPut, segLen, R.a, R.len, A.r, stMake, stBuildSlice, litA, repA, rep1, fillA, putP, sing, stMin, stEqA, rowEq, Kind.isScal, -List.reduceReplicate, -List.getD_eq_getElem?_getD, tab3, ty3, ntmps24]; (repeat' apply And.intro); all_goals first | exact hK | omega)))
        apply run_cond2 rfl
        · intro h
          simp at h
          repeat (first
    | rw [run_ops0]
    | rw [run_seq]
    | rw [run_region]
    | rw [run_block]
    | rw [run_blk]
    | rw [run_skip]
    | (apply run_go rfl; focus (intro L K hK; simp [step1, evS, est, St.ev, St.put, St.add, St.upd, look_hit, look_miss, okd, stBin, bin, binS, binB, binI, shS, shB, S.num, constS, one, inI, stUn, stNil, stLoad, stAt, stField, stIndexAddr, stStore, wrAt, stAlloc, stBox, stIndex, stPart, stPartRow, stFieldV, stConv, cvS, cvB, cvI, stSlice, optN, SV.num, noMax, stArrPtr, stExtract, stLen, stBuild, A.isRow, A.isAgg, A.noRec, A.len, A.get, A.sub, A.set, A.over, Ent.bound, Kind.isStruct, Kind.isAgg, S.known, A.solid, segAt, segPut, segLen, R.a, R.len, A.r, stMake, stBuildSlice, litA, repA, rep1, fillA, putP, sing, stMin, stEqA, rowEq, Kind.isScal, -List.reduceReplicate, -List.getD_eq_getElem?_getD, tab3, ty3, ntmps24]; (repeat' apply And.intro); all_goals first | exact hK | omega)))
          rw [run_loop]
          refine ok_loop (X := Nat) (fun i => ⟨[(13, one (.i i)), (12, one (.i c)), (9, one (.ptr 6 0 0)), (8, one (.i (q + 1))), (0, one (.ptr 0 0 0)), (3, one (.ptr 2 0 0)), (4, one (.ptr 3 0 0)), (5, one (.ptr 4 0 0)), (7, one (.ptr 5 0 0))], rkmem nw cap n sb W ++ [.ent ⟨true, 23, some 16, .a8 b⟩, .ent ⟨true, 23, some 16, .a8 zero16⟩, .ent ⟨true, 113, some 16, .ai (innM mx t W (q + 1) c (outM mx t W (q + 1) s c) i)⟩, .ent ⟨true, 113, some 16, .ai matL⟩, .ent ⟨true, 113, some 16, .ai t⟩]⟩) (fun i => i ≤ 4) (fun i => 4 - i) (fun j i L h => by have := hB.anc i L h; simp [rkmem] at this ⊢; omega) ⟨0, by omega, by simp [Ent2, entSl, entM, belSl, belV, belA, belS, belR, belM, look_hit, look_miss, one, -List.getD_eq_getElem?_getD, innM, rkmem]⟩ ?_
          intro i hi
          refine ok_run hB tabOK pureB_ok 30 ?_
          simp only [rkmem, List.cons_append, List.nil_append]
          repeat (first
    | rw [run_ops0]
    | rw [run_seq]
    | rw [run_region]
    | rw [run_block]
    | rw [run_blk]
    | rw [run_skip]
    | (apply run_go rfl; focus (intro L K hK; simp [step1, evS, est, St.ev, St.put, St.add, St.upd, look_hit, look_miss, okd, stBin, bin, binS, binB, binI, shS, shB, S.num, constS, one, inI, stUn, stNil, stLoad, stAt, stField, stIndexAddr, stStore, wrAt, stAlloc, stBox, stIndex, stPart, stPartRow, stFieldV, stConv, cvS, cvB, cvI, stSlice, optN, SV.num, noMax, stArrPtr, stExtract, stLen, stBuild, A.isRow, A.isAgg, A.noRec, A.len, A.get, A.sub, A.set, A.over, Ent.bound, Kind.isStruct, Kind.isAgg, S.known, A.solid, segAt, segPut, segLen, R.a, R.len, A.r, stMake, stBuildSlice, litA, repA, rep1, fillA, putP, sing, stMin, stEqA, rowEq, Kind.isScal, -List.reduceReplicate, -List.getD_eq_getElem?_getD, tab3, ty3, ntmps24]; (repeat' apply And.intro); all_goals first | exact hK | omega)))
          apply run_cond2 rfl
          · intro h
            simp at h
            repeat (first
    | rw [run_ops0]
    | rw [run_seq]
    | rw [run_region]
    | rw [run_block]
    | rw [run_blk]
    | rw [run_skip]
    | (apply run_go rfl; focus (intro L K hK; simp [step1, evS, est, St.ev, St.put, St.add, St.upd, look_hit, look_miss, okd, stBin, bin, binS, binB, binI, shS, shB, S.num, constS, one, inI, stUn, stNil, stLoad, stAt, stField, stIndexAddr, stStore, wrAt, stAlloc, stBox, stIndex, stPart, stPartRow, stFieldV, stConv, cvS, cvB, cvI, stSlice, optN, SV.num, noMax, stArrPtr, stExtract, stLen, stBuild, A.isRow, A.isAgg, A.noRec, A.len, A.get, A.sub, A.set, A.over, Ent.bound, Kind.isStruct, Kind.isAgg, S.known, A.solid, segAt, segPut, segLen, R.a, R.len, A.r, stMake, stBuildSlice, litA, repA, rep1, fillA, putP, sing, stMin, stEqA, rowEq, Kind.isScal, -List.reduceReplicate, -List.getD_eq_getElem?_getD, tab3, ty3, tab29, ty29, tab110, ty110, tab111, ty111, tab113, ty113, ntmps24, htl]; (repeat' apply And.intro); all_goals first | exact hK | omega)))
            rw [run_zero]
            have hnl : (innM mx t W (q + 1) c (outM mx t W (q + 1) s c) i).length = 16 := by rw [innM_len, outM_len, hsl]
            refine ok_join (X := Int) (fun x => ⟨[(14, one (.i x)), (13, one (.i i)), (12, one (.i c)), (9, one (.ptr 6 0 0)), (8, one (.i (q + 1))), (0, one (.ptr 0 0 0)), (3, one (.ptr 2 0 0)), (4, one (.ptr 3 0 0)), (5, one (.ptr 4 0 0)), (7, one (.ptr 5 0 0))], rkmem nw cap n sb W ++ [.ent ⟨true, 23, some 16, .a8 b⟩, .ent ⟨true, 23, some 16, .a8 zero16⟩, .ent ⟨true, 113, some 16, .ai (innM mx t W (q + 1) c (outM mx t W (q + 1) s c) i)⟩, .ent ⟨true, 113, some 16, .ai matL⟩, .ent ⟨true, 113, some 16, .ai t⟩]⟩) (fun x => x = cellX mx t c i) (fun j i L h => by have := hB.anc i L h; simp [rkmem] at this ⊢; omega) ?_ ?_
            · refine ok_run hB tabOK pureB_ok 100 ?_
              apply run_cond2 rfl
              · intro h2
                have hmt : mx = true := by rw [hmx]; simp at h2 ⊢; omega
                rw [run_draw]
                refine ok_draw2 39 tabOK pureB_ok (pureOf_mono _) mixed (by decide +kernel) rfl rfl ?_
                have a0 := matL_byt (i * 4)
                have a1 := matL_byt (i * 4 + 1)
                have a2 := matL_byt (i * 4 + 2)
                have a3 := matL_byt (i * 4 + 3)
                have b0 := htb (c * 4)
                have b1 := htb (c * 4 + 1)
                have b2 := htb (c * 4 + 2)
                have b3 := htb (c * 4 + 3)
                have T0 := timesR_lt a0 (b := t.getD (c * 4) 0) 8
                have T1 := timesR_lt a1 (b := t.getD (c * 4 + 1) 0) 8
                have T2 := timesR_lt a2 (b := t.getD (c * 4 + 2) 0) 8
                have T3 := timesR_lt a3 (b := t.getD (c * 4 + 3) 0) 8
                have x1 := nat_xor_lt (a := (timesR (matL.getD (i * 4) 0) (t.getD (c * 4) 0) 8).toNat) (b := (timesR (matL.getD (i * 4 + 1) 0) (t.getD (c * 4 + 1) 0) 8).toNat) (by omega) (by omega)
                have x2 := nat_xor_lt (b := (timesR (matL.getD (i * 4 + 2) 0) (t.getD (c * 4 + 2) 0) 8).toNat) x1 (by omega)
                have x3 := nat_xor_lt (b := (timesR (matL.getD (i * 4 + 3) 0) (t.getD (c * 4 + 3) 0) 8).toNat) x2 (by omega)
                repeat (first
    | (apply hd_go rfl rfl rfl rfl (Nat.le_of_ble_eq_true rfl); focus (intro K' hK; simp [step1, evS, est, St.ev, St.put, St.add, St.upd, look_hit, look_miss, okd, stBin, bin, binS, binB, binI, shS, shB, S.num, constS, one, inI, stUn, stNil, stLoad, stAt, stField, stIndexAddr, stStore, wrAt, stAlloc, stBox, stIndex, stPart, stPartRow, stFieldV, stConv, cvS, cvB, cvI, stSlice, optN, SV.num, noMax, stArrPtr, stExtract, stLen, stBuild, A.isRow, A.isAgg, A.noRec, A.len, A.get, A.sub, A.set, A.over, Ent.bound, Kind.isStruct, Kind.isAgg, S.known, A.solid, segAt, segPut, segLen, R.a, R.len, A.r, stMake, stBuildSlice, litA, repA, rep1, fillA, putP, sing, stMin, stEqA, rowEq, Kind.isScal, -List.reduceReplicate, -List.getD_eq_getElem?_getD, tab3, ty3, tab111, ty111, tab113, ty113, hml, htl, pureOf, pureB, a0, a1, a2, a3, b0, b1, b2, b3]; (repeat' apply And.intro); all_goals first | exact hK | omega))
    | (apply hd_new rfl rfl rfl rfl (Nat.le_of_ble_eq_true rfl); focus (intro K' hK; simp [step1, evS, est, St.ev, St.put, St.add, St.upd, look_hit, look_miss, okd, stBin, bin, binS, binB, binI, shS, shB, S.num, constS, one, inI, stUn, stNil, stLoad, stAt, stField, stIndexAddr, stStore, wrAt, stAlloc, stBox, stIndex, stPart, stPartRow, stFieldV, stConv, cvS, cvB, cvI, stSlice, optN, SV.num, noMax, stArrPtr, stExtract, stLen, stBuild, A.isRow, A.isAgg, A.noRec, A.len, A.get, A.sub, A.set, A.over, Ent.bound, Kind.isStruct, Kind.isAgg, S.known, A.solid, segAt, segPut, segLen, R.a, R.len, A.r, stMake, stBuildSlice, litA, repA, rep1, fillA, putP, sing, stMin, stEqA, rowEq, Kind.isScal, -List.reduceReplicate, -List.getD_eq_getElem?_getD, tab3, ty3, tab111, ty111, tab113, ty113, hml, htl, pureOf, pureB, a0, a1, a2, a3, b0, b1, b2, b3]; (repeat' apply And.intro); all_goals first | exact hK | omega)))
                refine hd_nil ?_
                simp only [List.map_nil, List.append_nil]
                refine ok_run hB tabOK pureB_ok 100 ?_
                repeat (first
    | rw [run_ops0]
    | rw [run_seq]
    | rw [run_region]
    | rw [run_block]
    | rw [run_blk]
    | rw [run_skip]
    | (apply run_go rfl; focus (intro L K hK; simp [step1, evS, est, St.ev, St.put, St.add, St.upd, look_hit, look_miss, okd, stBin, bin, binS, binB, binI, shS, shB, S.num, constS, one, inI, stUn, stNil, stLoad, stAt, stField, stIndexAddr, stStore, wrAt, stAlloc, stBox, stIndex, stPart, stPartRow, stFieldV, stConv, cvS, cvB, cvI, stSlice, optN, SV.num, noMax, stArrPtr, stExtract, stLen, stBuild, A.isRow, A.isAgg, A.noRec, A.len, A.get, A.sub, A.set, A.over, Ent.bound, Kind.isStruct, Kind.isAgg, S.known, A.solid, segAt, segPut, segLen, R.a, R.len, A.r, stMake, stBuildSlice, litA, repA, rep1, fillA, putP, sing, stMin, stEqA, rowEq, Kind.isScal, -List.reduceReplicate, -List.getD_eq_getElem?_getD, tab3, ty3, ntmps24]; (repeat' apply And.intro); all_goals first | exact hK | omega)))
                rw [run_back]
                refine ⟨_, rfl, ?_⟩
                simp [Ent2, entSl, entM, belSl, belV, belA, belS, belR, belM, look_hit, look_miss, one, -List.getD_eq_getElem?_getD, rkmem, cellX, hmt, xorI]
              · intro h2
                have hmt : mx = false := by rw [hmx]; simp at h2 ⊢; omega
                repeat (first
    | rw [run_ops0]
    | rw [run_seq]
    | rw [run_region]
    | rw [run_block]
    | rw [run_blk]
    | rw [run_skip]
    | (apply run_go rfl; focus (intro L K hK; simp [step1, evS, est, St.ev, St.put, St.add, St.upd, look_hit, look_miss, okd, stBin, bin, binS, binB, binI, shS, shB, S.num, constS, one, inI, stUn, stNil, stLoad, stAt, stField, stIndexAddr, stStore, wrAt, stAlloc, stBox, stIndex, stPart, stPartRow, stFieldV, stConv, cvS, cvB, cvI, stSlice, optN, SV.num, noMax, stArrPtr, stExtract, stLen, stBuild, A.isRow, A.isAgg, A.noRec, A.len, A.get, A.sub, A.set, A.over, Ent.bound, Kind.isStruct, Kind.isAgg, S.known, A.solid, segAt, segPut, segLen, R.a, R.len, A.r, stMake, stBuildSlice, litA, repA, rep1, fillA, putP, sing, stMin, stEqA, rowEq, Kind.isScal, -List.reduceReplicate, -List.getD_eq_getElem?_getD, tab3, ty3, ntmps24]; (repeat' apply And.intro); all_goals first | exact hK | omega)))
                rw [run_back]
                refine ⟨_, rfl, ?_⟩
                simp [Ent2, entSl, entM, belSl, belV, belA, belS, belR, belM, look_hit, look_miss, one, -List.getD_eq_getElem?_getD, rkmem, cellX, hmt]
            · intro x hx
              have hxl := cellX_lt htb mx c i
              rw [← hx] at hxl
              refine ok_run hB tabOK pureB_ok 100 ?_
              simp only [rkmem, List.cons_append, List.nil_append]
              repeat (first
    | rw [run_ops0]
    | rw [run_seq]
    | rw [run_region]
    | rw [run_block]
    | rw [run_blk]
    | rw [run_skip]
    | (apply run_go rfl; focus (intro L K hK; simp [step1, evS, est, St.ev, St.put, St.add, St.upd, look_hit, look_miss, okd, stBin, bin, binS, binB, binI, shS, shB, S.num, constS, one, inI, stUn, stNil, stLoad, stAt, stField, stIndexAddr, stStore, wrAt, stAlloc, stBox, stIndex, stPart, stPartRow, stFieldV, stConv, cvS, cvB, cvI, stSlice, optN, SV.num, noMax, stArrPtr, stExtract, stLen, stBuild, A.isRow, A.isAgg, A.noRec, A.len, A.get, A.sub, A.set, A.over, Ent.bound, Kind.isStruct, Kind.isAgg, S.known, A.solid, segAt, segPut, segLen, R.a, R.len, A.r, stMake, stBuildSlice, litA, repA, rep1, fillA, putP, sing, stMin, stEqA, rowEq, Kind.isScal, -List.reduceReplicate, -List.getD_eq_getElem?_getD, tab3, ty3, ntmps24]; (repeat' apply And.intro); all_goals first | exact hK | omega)))
              rw [run_draw]
              refine ok_draw2 17 tabOK pureB_ok (pureOf_mono _) mixed (by decide +kernel) rfl rfl ?_
              have q5 : (4 * ((q : Int) + 1) + c).toNat = 4 * (q + 1) + c := by omega
              have hw := hWb ((4 * (q + 1) + c) * 4 + i)
              have hxx := nat_xor_lt (a := x.toNat) (b := (W.getD ((4 * (q + 1) + c) * 4 + i) 0).toNat) (by omega) (by omega)
              repeat (first
    | (apply hd_go rfl rfl rfl rfl (Nat.le_of_ble_eq_true rfl); focus (intro K' hK; simp [step1, evS, est, St.ev, St.put, St.add, St.upd, look_hit, look_miss, okd, stBin, bin, binS, binB, binI, shS, shB, S.num, constS, one, inI, stUn, stNil, stLoad, stAt, stField, stIndexAddr, stStore, wrAt, stAlloc, stBox, stIndex, stPart, stPartRow, stFieldV, stConv, cvS, cvB, cvI, stSlice, optN, SV.num, noMax, stArrPtr, stExtract, stLen, stBuild, A.isRow, A.isAgg, A.noRec, A.len, A.get, A.sub, A.set, A.over, Ent.bound, Kind.isStruct, Kind.isAgg, S.known, A.solid, segAt, segPut, segLen, R.a, R.len, A.r, stMake, stBuildSlice, litA, repA, rep1, fillA, putP, sing, stMin, stEqA, rowEq, Kind.isScal, -List.reduceReplicate, -List.getD_eq_getElem?_getD, tab3, ty3, tab29, ty29, tab110, ty110, tab108, ty108, tab111, ty111, tab113, ty113, q5, hsl, hw]; (repeat' apply And.intro); all_goals first | exact hK | omega))
    | (apply hd_new rfl rfl rfl rfl (Nat.le_of_ble_eq_true rfl); focus (intro K' hK; simp [step1, evS, est, St.ev, St.put, St.add, St.upd, look_hit, look_miss, okd, stBin, bin, binS, binB, binI, shS, shB, S.num, constS, one, inI, stUn, stNil, stLoad, stAt, stField, stIndexAddr, stStore, wrAt, stAlloc, stBox, stIndex, stPart, stPartRow, stFieldV, stConv, cvS, cvB, cvI, stSlice, optN, SV.num, noMax, stArrPtr, stExtract, stLen, stBuild, A.isRow, A.isAgg, A.noRec, A.len, A.get, A.sub, A.set, A.over, Ent.bound, Kind.isStruct, Kind.isAgg, S.known, A.solid, segAt, segPut, segLen, R.a, R.len, A.r, stMake, stBuildSlice, litA, repA, rep1, fillA, putP, sing, stMin, stEqA, rowEq, Kind.isScal, -List.reduceReplicate, -List.getD_eq_getElem?_getD, tab3, ty3, tab29, ty29, tab110, ty110, tab108, ty108, tab111, ty111, tab113, ty113, q5, hsl, hw]; (repeat' apply And.intro); all_goals first | exact hK | omega)))
              refine hd_nil ?_
              simp only [List.map_nil, List.append_nil]
              refine ok_run hB tabOK pureB_ok 100 ?_
              repeat (first
    | rw [run_ops0]
    | rw [run_seq]
    | rw [run_region]
    | rw [run_block]
    | rw [run_blk]
    | rw [run_skip]
    | (apply run_go rfl; focus (intro L K hK; simp [step1, evS, est, St.ev, St.put, St.add, St.upd, look_hit, look_miss, okd, stBin, bin, binS, binB, binI, shS, shB, S.num, constS, one, inI, stUn, stNil, stLoad, stAt, stField, stIndexAddr, stStore, wrAt, stAlloc, stBox, stIndex, stPart, stPartRow, stFieldV, stConv, cvS, cvB, cvI, stSlice, optN, SV.num, noMax, stArrPtr, stExtract, stLen, stBuild, A.isRow, A.isAgg, A.noRec, A.len, A.get, A.sub, A.set, A.over, Ent.bound, Kind.isStruct, Kind.isAgg, S.known, A.solid, segAt, segPut, segLen, R.a, R.len, A.r, stMake, stBuildSlice, litA, repA, rep1, fillA, putP, sing, stMin, stEqA, rowEq, Kind.isScal, -List.reduceReplicate, -List.getD_eq_getElem?_getD, tab3, ty3, tab111, ty111, tab113, ty113, ntmps24, hnl]; (repeat' apply And.intro); all_goals first | exact hK | omega)))
              rw [run_back]
              refine ⟨i + 1, by omega, by omega, ?_⟩
              simp [Ent2, entSl, entM, belSl, belV, belA, belS, belR, belM, look_hit, look_miss, one, -List.getD_eq_getElem?_getD, innM, rkmem, xorI, hx]
          · intro h
            simp at h
            obtain rfl : i = 4 := by omega
            apply run_exit2 rfl
            repeat (first
    | rw [run_ops0]
    | rw [run_seq]
    | rw [run_region]
    | rw [run_block]
    | rw [run_blk]
    | rw [run_skip]
    | (apply run_go rfl; focus (intro L K hK; simp [step1, evS, est, St.ev, St.put, St.add, St.upd, look_hit, look_miss, okd, stBin, bin, binS, binB, binI, shS, shB, S.num, constS, one, inI, stUn, stNil, stLoad, stAt, stField, stIndexAddr, stStore, wrAt, stAlloc, stBox, stIndex, stPart, stPartRow, stFieldV, stConv, cvS, cvB, cvI, stSlice, optN, SV.num, noMax, stArrPtr, stExtract, stLen, stBuild, A.isRow, A.isAgg, A.noRec, A.len, A.get, A.sub, A.set, A.over, Ent.bound, Kind.isStruct, Kind.isAgg, S.known, A.solid, segAt, segPut, segLen, R.a, R.len, A.r, stMake, stBuildSlice, litA, repA, rep1, fillA, putP, sing, stMin, stEqA, rowEq, Kind.isScal, -List.reduceReplicate, -List.getD_eq_getElem?_getD, tab3, ty3, ntmps24]; (repeat' apply And.intro); all_goals first | exact hK | omega)))
            rw [run_back]
            refine ⟨c + 1, by omega, by omega, ?_⟩
            simp [Ent2, entSl, entM, belSl, belV, belA, belS, belR, belM, look_hit, look_miss, one, -List.getD_eq_getElem?_getD, outM, rkmem]
        · intro h
          simp at h
          obtain rfl : c = 4 := by omega
          apply run_exit2 rfl
          repeat (first
    | rw [run_ops0]
    | rw [run_seq]
    | rw [run_region]
    | rw [run_block]
    | rw [run_blk]
    | rw [run_skip]
    | (apply run_go rfl; focus (intro L K hK; simp [step1, evS, est, St.ev, St.put, St.add, St.upd, look_hit, look_miss, okd, stBin, bin, binS, binB, binI, shS, shB, S.num, constS, one, inI, stUn, stNil, stLoad, stAt, stField, stIndexAddr, stStore, wrAt, stAlloc, stBox, stIndex, stPart, stPartRow, stFieldV, stConv, cvS, cvB, cvI, stSlice, optN, SV.num, noMax, stArrPtr, stExtract, stLen, stBuild, A.isRow, A.isAgg, A.noRec, A.len, A.get, A.sub, A.set, A.over, Ent.bound, Kind.isStruct, Kind.isAgg, S.known, A.solid, segAt, segPut, segLen, R.a, R.len, A.r, stMake, stBuildSlice, litA, repA, rep1, fillA, putP, sing, stMin, stEqA, rowEq, Kind.isScal, -List.reduceReplicate, -List.getD_eq_getElem?_getD, tab3, ty3, ntmps24]; (repeat' apply And.intro); all_goals first | exact hK | omega)))
          rw [run_back]
          refine ⟨q + 1, by omega, by omega, ?_⟩
          rw [hrr]
          simp [Ent2, entSl, entM, belSl, belV, belA, belS, belR, belM, look_hit, look_miss, one, -List.getD_eq_getElem?_getD, rkmem]
    · intro h
      simp at h
      obtain rfl : q = n + 6 := by omega
      apply run_exit2 rfl
      repeat (first
    | rw [run_ops0]
    | rw [run_seq]
    | rw [run_region]
    | rw [run_block]
    | rw [run_blk]
    | rw [run_skip]
    | (apply run_go rfl; focus (intro L K hK; simp [step1, evS, est, St.ev, St.put, St.add, St.upd, look_hit, look_miss, okd, stBin, bin, binS, binB, binI, shS, shB, S.num, constS, one, inI, stUn, stNil, stLoad, stAt, stField, stIndexAddr, stStore, wrAt, stAlloc, stBox, stIndex, stPart, stPartRow, stFieldV, stConv, cvS, cvB, cvI, stSlice, optN, SV.num, noMax, stArrPtr, stExtract, stLen, stBuild, A.isRow, A.isAgg, A.noRec, A.len, A.get, A.sub, A.set, A.over, Ent.bound, Kind.isStruct, Kind.isAgg, S.known, A.solid, segAt, segPut, segLen, R.a, R.len, A.r, stMake, stBuildSlice, litA, repA, rep1, fillA, putP, sing, stMin, stEqA, rowEq, Kind.isScal, -List.reduceReplicate, -List.getD_eq_getElem?_getD, tab3, ty3, tab23, ty23, ntmps24]; (repeat' apply And.intro); all_goals first | exact hK | omega)))
      rw [run_loop]
      refine ok_loop (X := Nat) (fun j => ⟨[(16, one (.i j)), (15, one (.ptr 6 0 0)), (5, one (.ptr 4 0 0)), (4, one (.ptr 3 0 0))], rkmem nw cap n sb W ++ [.ent ⟨true, 23, some 16, .a8 b⟩, .ent ⟨true, 23, some 16, .a8 zero16⟩, .ent ⟨true, 113, some 16, .ai (s)⟩, .ent ⟨true, 113, some 16, .ai matL⟩, .ent ⟨true, 23, some 16, .a8 (outB s j)⟩]⟩) (fun j => j ≤ 16) (fun j => 16 - j) (fun j i L h => by have := hB.anc i L h; simp [rkmem] at this ⊢; omega) ⟨0, by omega, by simp [Ent2, entSl, entM, belSl, belV, belA, belS, belR, belM, look_hit, look_miss, one, -List.getD_eq_getElem?_getD, outB, rkmem, zero16]⟩ ?_
      intro j hj
      refine ok_run hB tabOK pureB_ok 100 ?_
      simp only [rkmem, List.cons_append, List.nil_append]
      have hol := outB_len s j
      repeat (first
    | rw [run_ops0]
    | rw [run_seq]
    | rw [run_region]
    | rw [run_block]
    | rw [run_blk]
    | rw [run_skip]
    | (apply run_go rfl; focus (intro L K hK; simp [step1, evS, est, St.ev, St.put, St.add, St.upd, look_hit, look_miss, okd, stBin, bin, binS, binB, binI, shS, shB, S.num, constS, one, inI, stUn, stNil, stLoad, stAt, stField, stIndexAddr, stStore, wrAt, stAlloc, stBox, stIndex, stPart, stPartRow, stFieldV, stConv, cvS, cvB, cvI, stSlice, optN, SV.num, noMax, stArrPtr, stExtract, stLen, stBuild, A.isRow, A.isAgg, A.noRec, A.len, A.get, A.sub, A.set, A.over, Ent.bound, Kind.isStruct, Kind.isAgg, S.known, A.solid, segAt, segPut, segLen, R.a, R.len, A.r, stMake, stBuildSlice, litA, repA, rep1, fillA, putP, sing, stMin, stEqA, rowEq, Kind.isScal, -List.reduceReplicate, -List.getD_eq_getElem?_getD, tab3, ty3, ntmps24]; (repeat' apply And.intro); all_goals first | exact hK | omega)))
      apply run_cond2 rfl
      · intro h
        simp at h
        have q1 : (j : Int).tdiv 4 = (j : Int) / 4 := Int.tdiv_eq_ediv_of_nonneg (by omega)
        have q2 : (j : Int).tmod 4 = (j : Int) % 4 := Int.tmod_eq_emod_of_nonneg (by omega)
        have q3 : ((j : Int) / 4).toNat = j / 4 := by omega
        have q4 : ((j : Int) % 4).toNat = j % 4 := by omega
        repeat (first
    | rw [run_ops0]
    | rw [run_seq]
    | rw [run_region]
    | rw [run_block]
    | rw [run_blk]
    | rw [run_skip]
    | (apply run_go rfl; focus (intro L K hK; simp [step1, evS, est, St.ev, St.put, St.add, St.upd, look_hit, look_miss, okd, stBin, bin, binS, binB, binI, shS, shB, S.num, constS, one, inI, stUn, stNil, stLoad, stAt, stField, stIndexAddr, stStore, wrAt, stAlloc, stBox, stIndex, stPart, stPartRow, stFieldV, stConv, cvS, cvB, cvI, stSlice, optN, SV.num, noMax, stArrPtr, stExtract, stLen, stBuild, A.isRow, A.isAgg, A.noRec, A.len, A.get, A.sub, A.set, A.over, Ent.bound, Kind.isStruct, Kind.isAgg, S.known, A.solid, segAt, segPut, segLen, R.a, R.len, A.r, stMake, stBuildSlice, litA, repA, rep1, fillA, putP, sing, stMin, stEqA, rowEq, Kind.isScal, -List.reduceReplicate, -List.getD_eq_getElem?_getD, tab3, ty3, tab5, ty5, tab23, ty23, tab111, ty111, tab113, ty113, ntmps24, q1, q2, q3, q4, hol, hsl]; (repeat' apply And.intro); all_goals first | exact hK | omega)))
        rw [run_back]
        refine ⟨j + 1, by omega, by omega, ?_⟩
        simp [Ent2, entSl, entM, belSl, belV, belA, belS, belR, belM, look_hit, look_miss, one, -List.getD_eq_getElem?_getD, outB, rkmem]
      · intro h
        simp at h
        obtain rfl : j = 16 := by omega
        apply run_exit2 rfl
        have hz : zero16.length = 16 := rfl
        repeat (first
    | rw [run_ops0]
    | rw [run_seq]
    | rw [run_region]
    | rw [run_block]
    | rw [run_blk]
    | rw [run_skip]
    | (apply run_go rfl; focus (intro L K hK; simp [step1, evS, est, St.ev, St.put, St.add, St.upd, look_hit, look_miss, okd, stBin, bin, binS, binB, binI, shS, shB, S.num, constS, one, inI, stUn, stNil, stLoad, stAt, stField, stIndexAddr, stStore, wrAt, stAlloc, stBox, stIndex, stPart, stPartRow, stFieldV, stConv, cvS, cvB, cvI, stSlice, optN, SV.num, noMax, stArrPtr, stExtract, stLen, stBuild, A.isRow, A.isAgg, A.noRec, A.len, A.get, A.sub, A.set, A.over, Ent.bound, Kind.isStruct, Kind.isAgg, S.known, A.solid, segAt, segPut, segLen, R.a, R.len, A.r, stMake, stBuildSlice, litA, repA, rep1, fillA, putP, sing, stMin, stEqA, rowEq, Kind.isScal, -List.reduceReplicate, -List.getD_eq_getElem?_getD, tab3, ty3, tab23, ty23, ntmps24, hol, hz]; (repeat' apply And.intro); all_goals first | exact hK | omega)))
        rw [run_ret]
        subst hs0
        simp [finOf, resP, resV, extraOwn, look_hit, look_miss, one, -List.reduceReplicate, -List.getD_eq_getElem?_getD, stLoad, stAt, Ent.bound, A.len, A.isRow, A.isAgg, results24, f24, tab23, ty23]
end Go.V
end
