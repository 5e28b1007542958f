/- A small verifier of our own, part 18: a call in a body; plain calls out of contracts. No condition. -/
import Derived.Test.YtlnoehpjchglnaaVq
set_option linter.unusedSimpArgs false
set_option linter.unusedVariables false
namespace Go.V
open Go

section
variable {P : Program} {E : Env} {N : Nat}
theorem ok_call {all r : List Oper} {o : Oper} {k : List Item} {st : St} {Q0 : Exit → Act → World → Prop} {c : Call} {f : FuncId} {args : List SV} {pre : Mem} {post : SV → Mem → Prop} (σ : List Nat)
    (hop : o.op = .call c) (hcal : c.callee = .value (.func f)) (hc : Callable P f) (hS : Spec P f args pre [] post)
    (hg : guardOf st all o (fun _ => True) (fun _ => False))
    (hσ : σ.Nodup) (hpre : matchM (ix σ st.m.length) pre.length st.m pre σ) (hbel : args.all (belV pre.length) = true) (hargs : c.args.toList.map st.ev = args.map (renV (ix σ st.m.length)))
    (hod : okd N o.dst)
    (hpost : ∀ sv m', post sv m' → pre.length ≤ m'.length → Ok P E N Q0 (.ops all r :: k) ((St.mk st.sl (afterM (ix σ st.m.length) st.m pre σ m')).put o.dst (renV (ix σ st.m.length) sv))) :
    Ok P E N Q0 (.ops all (o :: r) :: k) st := by
  intro a w hh
  rcases guard_ok hg hh with ⟨hw, _⟩ | ⟨_, st', hf, _⟩
  · show wpList P all.toArray (semK P E N Q0 k) (o :: r) a w
    refine wpList_do hw ?_
    obtain ⟨ℓ, h1, h2, h3, h4⟩ := hh
    have hev := fun x => ev_den (ℓ := ℓ) (st := st) (a := a) h1 x
    have hvs : DenVs ℓ (args.map (renV (ix σ st.m.length))) (c.args.toList.map a.eval) := by
      rw [← hargs]; exact denVs_map hev _
    have hcall := hS.use h2 σ hσ hpre hbel hvs
    obtain ⟨dst, op, type, pos, after, guard⟩ := o
    simp only at hop; subst hop
    obtain ⟨callee, cargs, cts⟩ := c
    simp only at hcal; subst hcal
    unfold Oper.wp
    rw [enter_run hc]
    simp only [Oper.upon]
    refine hcall.mono ?_
    rintro e w' ⟨sv, m', ℓ', v, rfl, g1, g2, g3, g4, g5⟩
    obtain ⟨p1, p2, p3⟩ := put_den (st := ⟨st.sl, afterM (ix σ st.m.length) st.m pre σ m'⟩) (d := dst) (fun t => (h1 t).mono g3) (by rw [h4]; exact hod) g4
    exact hpost sv m' g1 g2 _ w' ⟨ℓ', p1, by cases dst <;> exact g5, p2.trans h3, p3.trans h4⟩
  · exact hf.elim

/-! plain calls -/
def pureNone : Pure := fun _ _ _ => none
def pureOr (p q : Pure) : Pure := fun m f l => match p m f l with | some v => some v | none => q m f l
theorem pureNone_ok : PureOK P pureNone := fun m f svs sv h => by cases h
theorem pureNone_mono : PureMono pureNone := fun m x f l v h => by cases h
theorem pureOr_ok {p q : Pure} (hp : PureOK P p) (hq : PureOK P q) : PureOK P (pureOr p q) := by
  intro m f svs sv h
  unfold pureOr at h
  split at h
  · rename_i v hv; cases h; exact hp m f svs sv hv
  · exact hq m f svs sv h
theorem pureOr_mono {p q : Pure} (hp : PureMono p) (hq : PureMono q) (hx : ∀ m f l, p m f l = none → ∀ x v, q m f l = some v → p (m ++ x) f l = none) : PureMono (pureOr p q) := by
  intro m x f l v h
  unfold pureOr at h ⊢
  split at h
  · rename_i u hu; cases h; rw [hp m x f l _ hu]
  · rename_i hn
    rw [hx m f l hn x v h]
    exact hq m x f l v h
/-- Plain calls that read no memory: of their arguments alone. -/
def pureOf (g : FuncId → List SV → Option SV) : Pure := fun _ f l => g f l
theorem pureOf_mono (g : FuncId → List SV → Option SV) : PureMono (pureOf g) := fun m x f l v h => h
theorem no_own {pre : Mem} (h : ∀ x ∈ pre, ∀ e, x = .ent e → e.own = false) {ℓ : Nat → Option Loc} {k : Nat} : ¬ ownBlk pre ℓ k := by
  rintro ⟨id, e, L, h1, h2, _⟩
  rw [h _ (List.mem_of_getElem? h1) e rfl] at h2
  cases h2
theorem ext_of {w w' : World} {ℓ an ℓ' : Nat → Option Loc} {pre m' : Mem} (hro : ∀ x ∈ pre, ∀ e, x = .ent e → e.own = false) (h : MH ⟨w, ownBlk pre ℓ, an⟩ ℓ' m' w') : Ext w w' :=
  ⟨h.os, h.tape, h.output, h.size, fun k hk => h.keep k hk (no_own hro)⟩
/-- A contract without memory. -/
theorem pure_spec {f : FuncId} {svs : List SV} {sv : SV} (hS : Spec P f svs [] [] (fun r _ => r = sv)) (hb : svs.all (belV 0) = true) (hv : belV 0 sv = true) (w : World) (ℓ : Nat → Option Loc) (vs : List Value) (hd : DenVs ℓ svs vs) :
    Calls P f vs.toArray w (fun e w' => ∃ v, e = .returned v ∧ DenV ℓ sv v ∧ Ext w w') := by
  have hd0 : DenVs (fun _ => none) svs vs := by
    clear hS
    induction svs generalizing vs with
    | nil => cases vs with
      | nil => trivial
      | cons => exact hd.elim
    | cons x xs ih => cases vs with
      | nil => exact hd.elim
      | cons v vs =>
        simp only [List.all_cons, Bool.and_eq_true] at hb
        exact ⟨belV_den (n := 0) (fun i hi => by omega) hb.1 hd.1, ih hb.2 _ hd.2⟩
  refine (hS w (fun _ => none) vs hd0 (fun an han => ?_)).mono ?_
  · refine ⟨rfl, rfl, rfl, Nat.le_refl _, fun _ _ _ => rfl, han, fun _ _ => rfl, fun id e h => ?_, fun i j ei ej Li Lj h => ?_⟩
    · simp at h
    · simp at h
  · rintro e w' ⟨r, m', ℓ', v, rfl, rfl, _, _, h5, h6⟩
    exact ⟨v, rfl, belV_den (n := 0) (fun i hi => by omega) hv h5, ext_of (by simp) h6⟩
/-- A contract over memory that is only read. -/
theorem pure_use {f : FuncId} {args : List SV} {pre : Mem} {sv : SV} (hS : Spec P f args pre [] (fun r _ => r = sv)) (hro : ∀ x ∈ pre, ∀ e, x = .ent e → e.own = false) (hv : belV 0 sv = true)
    {ℓ : Nat → Option Loc} {m : Mem} {w : World} (hm : MH E ℓ m w) (σ : List Nat) (hσ : σ.Nodup) (hpre : matchM (ix σ m.length) pre.length m pre σ) (hbel : args.all (belV pre.length) = true) {vs : List Value} (hvs : DenVs ℓ (args.map (renV (ix σ m.length))) vs) :
    Calls P f vs.toArray w (fun e w' => ∃ v, e = .returned v ∧ DenV ℓ sv v ∧ Ext w w') := by
  obtain ⟨hl, hg⟩ := matchM_get hpre
  have hback : ∀ i, i < pre.length → cutC σ ℓ i = ℓ (ix σ m.length i) := fun i hi => by
    have hi' : i < σ.length := by omega
    simp [cutC, ix, hi', List.getD_eq_getElem?_getD]
  refine (hS w (cutC σ ℓ) vs (renVs_back hback hbel hvs) (fun an han => call_pre hm hσ hpre an han)).mono ?_
  rintro e w' ⟨r, m', ℓ', v, rfl, rfl, _, _, h5, h6⟩
  exact ⟨v, rfl, belV_den (n := 0) (fun i hi => by omega) hv h5, ext_of hro h6⟩
end
end Go.V
