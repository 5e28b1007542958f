/- A small verifier of our own: one operation at a time. No condition. -/
import Derived.Test.YtlnoehpjchglnaaVt
set_option linter.unusedSimpArgs false
set_option linter.unusedVariables false
namespace Go.V
open Go

section
variable {T : Tab} {pu : Pure} {fr : Nat → Bool} {N : Nat} {fin : St → Prop} {leaf : List Item → St → Prop} {n : Nat} {k : List Item} {st st' : St} {all r : List Oper} {o : Oper}
theorem run_go (hg : o.guard = none) (h1 : ∀ (L K : St → Prop), K st' → step1 T pu fr N o st L K) (h2 : run T pu fr N fin leaf n (.ops all r :: k) st') : run T pu fr N fin leaf (n + 1) (.ops all (o :: r) :: k) st := by
  rw [run_ops]
  unfold guardOf
  rw [hg]
  exact h1 _ _ h2
/-- An append: the room of the result is open. -/
theorem run_app {nn : Nat} {st' : Nat → St} (hg : o.guard = none) (h1 : ∀ (L K : St → Prop), (∀ cap, nn ≤ cap → K (st' cap)) → step1 T pu fr N o st L K) (h2 : ∀ cap, nn ≤ cap → run T pu fr N fin leaf n (.ops all r :: k) (st' cap)) : run T pu fr N fin leaf (n + 1) (.ops all (o :: r) :: k) st := by
  rw [run_ops]
  unfold guardOf
  rw [hg]
  exact h1 _ _ h2
theorem run_guard {g : Nat} {b c : Bool} {og : Oper} {d : Nat} (hg : o.guard = some (g, b)) (h1 : all[g]? = some og) (h2 : og.dst = some d) (h3 : look st.sl d = one (.b c))
    (h4 : c = b → ∃ st', (∀ (L K : St → Prop), K st' → step1 T pu fr N o (st.put (some d) (one (.b b))) L K) ∧ run T pu fr N fin leaf n (.ops all r :: k) st')
    (h5 : c = (!b) → okd N o.dst ∧ run T pu fr N fin leaf n (.ops all r :: k) ((st.put (some d) (one (.b (!b)))).put o.dst (.tup []))) : run T pu fr N fin leaf (n + 1) (.ops all (o :: r) :: k) st := by
  rw [run_ops]
  unfold guardOf
  simp only [hg, h1, h2, h3, one]
  exact ⟨fun h => let ⟨st', a, b⟩ := h4 h; a _ _ b, fun h => h5 h⟩
theorem run_cond2 {c : Operand} {a b : Code} {x : Bool} (h : st.ev c = one (.b x)) (h1 : x = true → run T pu fr N fin leaf n (.code a :: k) st) (h2 : x = false → run T pu fr N fin leaf n (.code b :: k) st) : run T pu fr N fin leaf (n + 1) (.code (.cond c a b) :: k) st := by
  rw [run_cond, h]
  exact ⟨h1, h2⟩
theorem run_exit2 {id : Nat} {k' : List Item} (h : popTo id k = some k') (h2 : run T pu fr N fin leaf n k' st) : run T pu fr N fin leaf (n + 1) (.code (.exit id) :: k) st := by
  rw [run_exit h]; exact h2
theorem look_hit {t : Nat} {v : SV} {r : Slots} : look ((t, v) :: r) t = v := by simp [look]
theorem look_miss {t u : Nat} {v : SV} {r : Slots} (h : (t == u) = false) : look ((u, v) :: r) t = look r t := by
  simp only [look]; rw [if_neg (by simpa using h)]
end
section
variable {P : Program} {E : Env} {N : Nat}
theorem ok_run {T : Tab} {pu : Pure} {fr : Nat → Bool} {fin : St → Prop} {Q0 : Exit → Act → World → Prop} {n0 : Nat} (hb : Body P E N Q0 fin fr n0) (hT : TabOK P T) (hpu : PureOK P pu) (n : Nat) {k : List Item} {st : St}
    (h : run T pu fr N fin (fun k st => Ok P E N Q0 k st) n k st) : Ok P E N Q0 k st :=
  run_ok hT hpu hb.fr hb.fin (fun _ _ h => h) n k st h
end
section
variable {P : Program}
theorem pureOf_ok {g : FuncId → List SV → Option SV} (h : ∀ f svs sv, g f svs = some sv → Callable P f ∧ Spec P f svs [] [] (fun r _ => r = sv) ∧ svs.all (belV 0) = true ∧ belV 0 sv = true) : PureOK P (pureOf g) := by
  intro m f svs sv hg E w ℓ vs hm hd
  obtain ⟨h1, h2, h3, h4⟩ := h f svs sv hg
  exact ⟨h1, pure_spec h2 h3 h4 w ℓ vs hd⟩
end
section
variable {T : Tab} {pu : Pure} {m0 : Mem} {l r : List Oper} {N : Nat} {o : Oper} {sl : Slots} {al : List Ent} {K : Slots → List Ent → Prop} {d : Nat} {v : SV} {e : Ent}
theorem hd_nil (h : K sl al) : hdRun T pu m0 l N [] sl al K := h
theorem hd_go (hg : o.guard = none) (hd : o.dst = some d) (ha : allocs o = false) (hc : noCap T o = true) (hN : d < N) (h1 : ∀ K' : SV → Option Ent → Prop, K' v none → est T pu m0 (m0.length + al.length) (evS sl) o K')
    (h3 : hdRun T pu m0 l N r ((d, v) :: sl) al K) : hdRun T pu m0 l N (o :: r) sl al K := by
  have hgt : guardTmp l o = none := by simp [guardTmp, hg]
  unfold hdRun
  rw [hgt, hg, hd]
  exact ⟨⟨hc, hN⟩, h1 _ ⟨by rw [ha]; rfl, by simpa [pushD] using h3⟩⟩
theorem hd_new (hg : o.guard = none) (hd : o.dst = some d) (ha : allocs o = true) (hc : noCap T o = true) (hN : d < N) (h1 : ∀ K' : SV → Option Ent → Prop, K' v (some e) → est T pu m0 (m0.length + al.length) (evS sl) o K')
    (h3 : hdRun T pu m0 l N r ((d, v) :: sl) (al ++ [e]) K) : hdRun T pu m0 l N (o :: r) sl al K := by
  have hgt : guardTmp l o = none := by simp [guardTmp, hg]
  unfold hdRun
  rw [hgt, hg, hd]
  exact ⟨⟨hc, hN⟩, h1 _ ⟨by rw [ha]; rfl, by simpa [pushD] using h3⟩⟩
theorem hd_guard {g : Nat} {b c : Bool} {t : Nat} (hg : o.guard = some (g, b)) (hgt : guardTmp l o = some t) (hd : o.dst = some d) (ha : allocs o = false) (hc : noCap T o = true) (hN : d < N) (hl : look sl t = one (.b c))
    (h1 : c = b → ∃ v, (∀ K' : SV → Option Ent → Prop, K' v none → est T pu m0 (m0.length + al.length) (evS sl) o K') ∧ hdRun T pu m0 l N r ((d, v) :: sl) al K)
    (h2 : c = (!b) → hdRun T pu m0 l N r ((d, .tup []) :: sl) al K) : hdRun T pu m0 l N (o :: r) sl al K := by
  unfold hdRun
  rw [hgt, hg, hd]
  refine ⟨⟨hc, hN⟩, ?_⟩
  simp only [hl, one]
  refine ⟨fun h => ?_, fun h => by simpa [pushD] using h2 h⟩
  obtain ⟨v, a, b⟩ := h1 h
  exact a _ ⟨by rw [ha]; rfl, by simpa [pushD] using b⟩
theorem hd_past {g : Nat} {b : Bool} {t : Nat} (hg : o.guard = some (g, b)) (hgt : guardTmp l o = some t) (hd : o.dst = some d) (hc : noCap T o = true) (hN : d < N) (hl : look sl t = .tup [])
    (h2 : hdRun T pu m0 l N r ((d, .tup []) :: sl) al K) : hdRun T pu m0 l N (o :: r) sl al K := by
  unfold hdRun
  rw [hgt, hg, hd]
  refine ⟨⟨hc, hN⟩, ?_⟩
  simp only [hl]
  simpa [pushD] using h2
end
theorem ok_draw2 {P : Program} {E : Env} {N : Nat} {l hd tl : List Oper} {T : Tab} {pu : Pure} (n : Nat) (hT : TabOK P T) (hpu : PureOK P pu) (hmono : PureMono pu) (hmix : P.follows .mixedOrders = true) {Q0 : Exit → Act → World → Prop} {id : Nat} {k : List Item} {sl : Slots} {m : Mem} (hB : drawB l n = true)
    (h1 : l.take n = hd) (h2 : l.drop n = tl)
    (h : hdRun T pu m l N hd sl [] (fun sl al => Ok P E N Q0 (.ops l tl :: k) ⟨sl, m ++ al.map .ent⟩)) : Ok P E N Q0 (.code (.region id l.toArray true) :: k) ⟨sl, m⟩ := by
  subst h1 h2
  exact ok_draw hT hpu hmono hmix hB h
end Go.V
