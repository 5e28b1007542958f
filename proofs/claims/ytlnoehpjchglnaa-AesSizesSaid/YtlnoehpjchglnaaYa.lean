/- A small verifier of our own: the rules of regions whose order is open, once more. No condition. -/
import Derived.Test.YtlnoehpjchglnaaVz
import Derived.Test.YtlnoehpjchglnaaVu
set_option linter.unusedSimpArgs false
set_option linter.unusedVariables false
namespace Go.V
open Go
theorem ok_draw5 {P : Program} {E : Env} {N : Nat} {l hd tl : List Oper} {T : Tab} {pu : Pure} {nu : New} (n : Nat) (vis : List (Nat × List Nat)) (ss : List (Nat × Nat)) (hT : TabOK P T) (hpu : PureOK P pu) (hnu : NewOK P nu) (hmono : PureSub pu) (hnmono : NewSub nu) (hmix : P.follows .mixedOrders = true) {Q0 : Exit → Act → World → Prop} {id : Nat} {k : List Item} {sl : Slots} {m : Mem} (hB : drawB3 l n vis ss = true)
    (h1 : l.take n = hd) (h2 : l.drop n = tl)
    (h : hd3 T pu nu m l vis ss N 0 hd sl [] (fun sl al => Ok P E N Q0 (.ops l tl :: k) ⟨sl, m ++ (finL ss al).flatten.map .ent⟩)) : Ok P E N Q0 (.code (.region id l.toArray true) :: k) ⟨sl, m⟩ := by
  subst h1 h2
  exact ok_draw4 hT hpu hnu hmono hnmono hmix hB h
def newNone : New := fun _ _ _ _ => none
theorem newNone_ok {P : Program} : NewOK P newNone := fun m f svs nid sv es h => by cases h
theorem newNone_sub : NewSub newNone := fun m m' f l nid r _ h => by cases h
section
variable {T : Tab} {pu : Pure} {nu : New} {m0 : Mem} {l r : List Oper} {vis : List (Nat × List Nat)} {ss : List (Nat × Nat)} {N i : Nat} {o : Oper} {sl : Slots} {al : List (List Ent × Option Ent)} {K : Slots → List (List Ent × Option Ent) → Prop} {d : Nat} {v : SV} {e : Ent} {es : List Ent}
theorem h3_nil (h : K sl al) : hd3 T pu nu m0 l vis ss N i [] sl al K := h
theorem h3_op (hs : stOf ss i = none) (hg : o.guard = none) (hc : noCap T o = true) (hN : okd N o.dst)
    (h : hop T pu nu (viewM m0 vis i (al.map (·.1))) (m0.length + (al.map (·.1)).flatten.length) (evS sl) o (fun v es => hd3 T pu nu m0 l vis ss N (i + 1) r (pushD o.dst v sl) (al ++ [(es, none)]) K)) : hd3 T pu nu m0 l vis ss N i (o :: r) sl al K := by
  have hgt : guardTmp l o = none := by simp [guardTmp, hg]
  unfold hd3
  simp only [hs]
  rw [hgt, hg]
  exact ⟨⟨hc, hN⟩, h⟩
theorem h3_go (hs : stOf ss i = none) (hg : o.guard = none) (hd : o.dst = some d) (ha : allocs o = false) (hc : noCap T o = true) (hN : d < N) (hn : newOf nu (viewM m0 vis i (al.map (·.1))) (m0.length + (al.map (·.1)).flatten.length) (evS sl) o = none)
    (h1 : ∀ K' : SV → Option Ent → Prop, K' v none → est T pu (viewM m0 vis i (al.map (·.1))) (m0.length + (al.map (·.1)).flatten.length) (evS sl) o K')
    (h3 : hd3 T pu nu m0 l vis ss N (i + 1) r ((d, v) :: sl) (al ++ [([], none)]) K) : hd3 T pu nu m0 l vis ss N i (o :: r) sl al K := by
  refine h3_op hs hg hc (by rw [hd]; exact hN) ?_
  unfold hop
  rw [hn]
  exact h1 _ ⟨by rw [ha]; rfl, by rw [hd]; exact h3⟩
theorem h3_new (hs : stOf ss i = none) (hg : o.guard = none) (hd : o.dst = some d) (ha : allocs o = true) (hc : noCap T o = true) (hN : d < N) (hn : newOf nu (viewM m0 vis i (al.map (·.1))) (m0.length + (al.map (·.1)).flatten.length) (evS sl) o = none)
    (h1 : ∀ K' : SV → Option Ent → Prop, K' v (some e) → est T pu (viewM m0 vis i (al.map (·.1))) (m0.length + (al.map (·.1)).flatten.length) (evS sl) o K')
    (h3 : hd3 T pu nu m0 l vis ss N (i + 1) r ((d, v) :: sl) (al ++ [([e], none)]) K) : hd3 T pu nu m0 l vis ss N i (o :: r) sl al K := by
  refine h3_op hs hg hc (by rw [hd]; exact hN) ?_
  unfold hop
  rw [hn]
  exact h1 _ ⟨by rw [ha]; rfl, by rw [hd]; exact h3⟩
theorem h3_call (hs : stOf ss i = none) (hg : o.guard = none) (hd : o.dst = some d) (hc : noCap T o = true) (hN : d < N) (hn : newOf nu (viewM m0 vis i (al.map (·.1))) (m0.length + (al.map (·.1)).flatten.length) (evS sl) o = some (v, es))
    (h3 : hd3 T pu nu m0 l vis ss N (i + 1) r ((d, v) :: sl) (al ++ [(es, none)]) K) : hd3 T pu nu m0 l vis ss N i (o :: r) sl al K := by
  refine h3_op hs hg hc (by rw [hd]; exact hN) ?_
  unfold hop
  rw [hn]
  rw [hd]
  exact h3
theorem h3_sto {j : Nat} (hs : stOf ss i = some j) (h1 : ∀ K' : Ent → Prop, K' e → stoP T m0 al j (evS sl) o K') (h3 : hd3 T pu nu m0 l vis ss N (i + 1) r sl (al ++ [([], some e)]) K) : hd3 T pu nu m0 l vis ss N i (o :: r) sl al K := by
  unfold hd3
  simp only [hs]
  exact h1 _ h3
theorem h3_guard {g : Nat} {b c : Bool} {t : Nat} (hs : stOf ss i = none) (hg : o.guard = some (g, b)) (hgt : guardTmp l o = some t) (hd : o.dst = some d) (hc : noCap T o = true) (hN : d < N) (hl : look sl t = one (.b c))
    (h1 : c = b → ∃ v es, (∀ K' : SV → List Ent → Prop, K' v es → hop T pu nu (viewM m0 vis i (al.map (·.1))) (m0.length + (al.map (·.1)).flatten.length) (evS sl) o K') ∧ hd3 T pu nu m0 l vis ss N (i + 1) r ((d, v) :: sl) (al ++ [(es, none)]) K)
    (h2 : c = (!b) → hd3 T pu nu m0 l vis ss N (i + 1) r ((d, .tup []) :: sl) (al ++ [([], none)]) K) : hd3 T pu nu m0 l vis ss N i (o :: r) sl al K := by
  unfold hd3
  simp only [hs]
  rw [hgt, hg]
  refine ⟨⟨hc, by rw [hd]; exact hN⟩, ?_⟩
  simp only [hl, one]
  refine ⟨fun h => ?_, fun h => by simpa [pushD, hd] using h2 h⟩
  obtain ⟨v, es, a, b⟩ := h1 h
  exact a _ (by simpa [pushD, hd] using b)
theorem h3_past {g : Nat} {b : Bool} {t : Nat} (hs : stOf ss i = none) (hg : o.guard = some (g, b)) (hgt : guardTmp l o = some t) (hd : o.dst = some d) (hc : noCap T o = true) (hN : d < N) (hl : look sl t = .tup [])
    (h2 : hd3 T pu nu m0 l vis ss N (i + 1) r ((d, .tup []) :: sl) (al ++ [([], none)]) K) : hd3 T pu nu m0 l vis ss N i (o :: r) sl al K := by
  unfold hd3
  simp only [hs]
  rw [hgt, hg]
  refine ⟨⟨hc, by rw [hd]; exact hN⟩, ?_⟩
  simp only [hl]
  simpa [pushD, hd] using h2
variable {m : Mem} {nid : Nat} {g : Operand → SV} {K2 : SV → List Ent → Prop}
theorem hop_go (hn : newOf nu m nid g o = none) (ha : allocs o = false) (h1 : ∀ K' : SV → Option Ent → Prop, K' v none → est T pu m nid g o K') : ∀ K' : SV → List Ent → Prop, K' v [] → hop T pu nu m nid g o K' := by
  intro K' h
  unfold hop
  rw [hn]
  exact h1 _ ⟨by rw [ha]; rfl, h⟩
theorem hop_new (hn : newOf nu m nid g o = none) (ha : allocs o = true) (h1 : ∀ K' : SV → Option Ent → Prop, K' v (some e) → est T pu m nid g o K') : ∀ K' : SV → List Ent → Prop, K' v [e] → hop T pu nu m nid g o K' := by
  intro K' h
  unfold hop
  rw [hn]
  exact h1 _ ⟨by rw [ha]; rfl, h⟩
theorem hop_call (hn : newOf nu m nid g o = some (v, es)) : ∀ K' : SV → List Ent → Prop, K' v es → hop T pu nu m nid g o K' := by
  intro K' h
  unfold hop
  rw [hn]
  exact h
end
end Go.V
