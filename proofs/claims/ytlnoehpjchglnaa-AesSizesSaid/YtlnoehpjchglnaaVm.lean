/- A small verifier of our own, part 13: contracts of functions and their use at a call. No condition. -/
import Derived.Test.YtlnoehpjchglnaaVl
set_option linter.unusedSimpArgs false
set_option linter.unusedVariables false
namespace Go.V
open Go

/-! ids put otherwise -/
def renS (ρ : Nat → Nat) : S → S
  | .ptr i b o => .ptr (ρ i) b o
  | .sl i o l c e => .sl (ρ i) o l c e
  | .slq i o l e => .slq (ρ i) o l e
  | .fn f caps => .fn f (caps.map ρ)
  | .ifc t x => .ifc t (renS ρ x)
  | .ifa t x => .ifa t (renS ρ x)
  | x => x
def renR (ρ : Nat → Nat) : R → R
  | .s x => .s (renS ρ x)
  | .agg l => .agg (l.map (renS ρ))
  | r => r
def renSeg (ρ : Nat → Nat) (g : Seg) : Seg := ⟨g.n, renR ρ g.r⟩
def renA (ρ : Nat → Nat) : A → A
  | .s x => .s (renS ρ x)
  | .agg l => .agg (l.map (renS ρ))
  | .st l => .st (l.map (renSeg ρ))
  | a => a
def renV (ρ : Nat → Nat) : SV → SV
  | .one a => .one (renA ρ a)
  | .tup l => .tup (l.map (renA ρ))
def renMk (ρ : Nat → Nat) : Mk → Mk
  | .ent e => .ent { e with c := renA ρ e.c }
  | x => x
section
variable {ℓ ℓ' : Nat → Option Loc} {ρ : Nat → Nat}
/-- Places carried over. -/
def Via (ρ : Nat → Nat) (ℓ ℓ' : Nat → Option Loc) : Prop := ∀ (i : Nat) (L : Loc), ℓ i = some L → ℓ' (ρ i) = some L
theorem renS_den (h : Via ρ ℓ ℓ') : ∀ {x : S} {v : Value}, DenS ℓ x v → DenS ℓ' (renS ρ x) v := by
  intro x
  induction x with
  | ptr i b o => rintro v ⟨L, h1, h2⟩; exact ⟨L, h i L h1, h2⟩
  | sl i o l c e => rintro v ⟨L, h1, h2⟩; exact ⟨L, h i L h1, h2⟩
  | slq i o l e => rintro v ⟨L, h1, h2⟩; exact ⟨L, h i L h1, h2⟩
  | fn f caps =>
    rintro v ⟨Ls, h1, h2⟩
    refine ⟨Ls, ?_, h2⟩
    clear h2
    induction caps generalizing Ls with
    | nil => simpa using h1
    | cons c cs ih =>
      cases Ls with
      | nil => simp at h1
      | cons L Ls =>
        simp only [List.map_cons, List.cons.injEq] at h1 ⊢
        exact ⟨(h _ _ h1.1.symm).symm, ih Ls h1.2⟩
  | ifc t x ih => rintro v ⟨u, h1, h2⟩; exact ⟨u, h1, ih h2⟩
  | ifa t x ih => rintro v ⟨u, h1, h2⟩; exact ⟨u, h1, ih h2⟩
  | any => intro v h; trivial
  | _ => intro v h; exact h
/-- The way back: ids below k lie where they were sent. -/
theorem renS_back {k : Nat} (h : ∀ i, i < k → ℓ i = ℓ' (ρ i)) : ∀ {x : S} {v : Value}, belS k x = true → DenS ℓ' (renS ρ x) v → DenS ℓ x v := by
  intro x
  induction x with
  | ptr i b o => rintro v hb ⟨L, h1, h2⟩; exact ⟨L, by rw [h i (by simpa [belS] using hb)]; exact h1, h2⟩
  | sl i o l c e => rintro v hb ⟨L, h1, h2⟩; exact ⟨L, by rw [h i (by simpa [belS] using hb)]; exact h1, h2⟩
  | slq i o l e => rintro v hb ⟨L, h1, h2⟩; exact ⟨L, by rw [h i (by simpa [belS] using hb)]; exact h1, h2⟩
  | fn f caps =>
    rintro v hb ⟨Ls, h1, h2⟩
    refine ⟨Ls, ?_, h2⟩
    rw [h1, List.map_map]
    apply List.map_congr_left
    intro i hi
    simp only [belS, List.all_eq_true, decide_eq_true_eq] at hb
    exact (h i (hb i hi)).symm
  | ifc t x ih => rintro v hb ⟨u, h1, h2⟩; exact ⟨u, h1, ih hb h2⟩
  | ifa t x ih => rintro v hb ⟨u, h1, h2⟩; exact ⟨u, h1, ih hb h2⟩
  | any => intro v _ _; trivial
  | _ => intro v _ h; exact h
theorem renL_den (h : Via ρ ℓ ℓ') : ∀ {xs : List S} {vs : List Value}, DenL ℓ xs vs → DenL ℓ' (xs.map (renS ρ)) vs
  | [], [], _ => trivial
  | _ :: _, _ :: _, ⟨h1, h2⟩ => ⟨renS_den h h1, renL_den h h2⟩
theorem renL_back {k : Nat} (h : ∀ i, i < k → ℓ i = ℓ' (ρ i)) : ∀ {xs : List S} {vs : List Value}, (∀ x ∈ xs, belS k x = true) → DenL ℓ' (xs.map (renS ρ)) vs → DenL ℓ xs vs
  | [], [], _, _ => trivial
  | x :: xs, v :: vs, hb, ⟨h1, h2⟩ => ⟨renS_back h (hb x (by simp)) h1, renL_back h (fun y hy => hb y (by simp [hy])) h2⟩
theorem renR_cells (ρ : Nat → Nat) (r : R) : (renR ρ r).cells = r.cells.map (renS ρ) ∧ (renR ρ r).len = r.len := by
  cases r with
  | s x => exact ⟨rfl, rfl⟩
  | agg l => exact ⟨rfl, by simp [renR, R.len]⟩
  | _ => exact ⟨by simp only [renR, R.cells]; rw [List.map_map]; rfl, rfl⟩
theorem renSeg_cells (ρ : Nat → Nat) : ∀ (l : List Seg), segCells (l.map (renSeg ρ)) = (segCells l).map (renS ρ) ∧ segLen (l.map (renSeg ρ)) = segLen l ∧ (SegOK (l.map (renSeg ρ)) ↔ SegOK l)
  | [] => ⟨rfl, rfl, Iff.rfl⟩
  | g :: l => by
    obtain ⟨h1, h2, h3⟩ := renSeg_cells ρ l
    refine ⟨?_, ?_, ?_⟩
    · simp [segCells, h1, renSeg, (renR_cells ρ g.r).1]
    · simp [segLen, h2, renSeg]
    · simp only [List.map_cons, SegOK, h3, renSeg, (renR_cells ρ g.r).2]
theorem renA_cells (ρ : Nat → Nat) (a : A) : (renA ρ a).cells = a.cells.map (renS ρ) ∧ (renA ρ a).len = a.len ∧ ((renA ρ a).OK ↔ a.OK) := by
  cases a with
  | st l => exact renSeg_cells ρ l
  | s x => exact ⟨rfl, rfl, Iff.rfl⟩
  | agg l => exact ⟨rfl, by simp [renA, A.len], Iff.rfl⟩
  | _ => exact ⟨by simp only [renA, A.cells]; rw [List.map_map]; rfl, rfl, Iff.rfl⟩
theorem renA_den (h : Via ρ ℓ ℓ') {a : A} {v : Value} (hd : DenA ℓ a v) : DenA ℓ' (renA ρ a) v := by
  cases a with
  | s x => exact renS_den h hd
  | _ =>
    obtain ⟨hok, vs, h1, h2⟩ := hd
    exact ⟨(renA_cells ρ _).2.2.2 hok, vs, h1, by rw [(renA_cells ρ _).1]; exact renL_den h h2⟩
theorem renA_back {k : Nat} (h : ∀ i, i < k → ℓ i = ℓ' (ρ i)) {a : A} {v : Value} (hb : belA k a = true) (hd : DenA ℓ' (renA ρ a) v) : DenA ℓ a v := by
  cases a with
  | s x => exact renS_back h hb hd
  | _ =>
    obtain ⟨hok, vs, h1, h2⟩ := hd
    refine ⟨(renA_cells ρ _).2.2.1 hok, vs, h1, renL_back h (belA_cells hb) ?_⟩
    rw [← (renA_cells ρ _).1]; exact h2
theorem renT_den (h : Via ρ ℓ ℓ') : ∀ {xs : List A} {vs : List Value}, DenT ℓ xs vs → DenT ℓ' (xs.map (renA ρ)) vs
  | [], [], _ => trivial
  | _ :: _, _ :: _, ⟨h1, h2⟩ => ⟨renA_den h h1, renT_den h h2⟩
theorem renT_back {k : Nat} (h : ∀ i, i < k → ℓ i = ℓ' (ρ i)) : ∀ {xs : List A} {vs : List Value}, xs.all (belA k) = true → DenT ℓ' (xs.map (renA ρ)) vs → DenT ℓ xs vs
  | [], [], _, _ => trivial
  | x :: xs, v :: vs, hb, ⟨h1, h2⟩ => by
    simp only [List.all_cons, Bool.and_eq_true] at hb
    exact ⟨renA_back h hb.1 h1, renT_back h hb.2 h2⟩
theorem renV_den (h : Via ρ ℓ ℓ') {x : SV} {v : Value} (hd : DenV ℓ x v) : DenV ℓ' (renV ρ x) v := by
  cases x with
  | one a => exact renA_den h hd
  | tup l => obtain ⟨vs, h1, h2⟩ := hd; exact ⟨vs, h1, renT_den h h2⟩
theorem renV_back {k : Nat} (h : ∀ i, i < k → ℓ i = ℓ' (ρ i)) {x : SV} {v : Value} (hb : belV k x = true) (hd : DenV ℓ' (renV ρ x) v) : DenV ℓ x v := by
  cases x with
  | one a => exact renA_back h hb hd
  | tup l => obtain ⟨vs, h1, h2⟩ := hd; exact ⟨vs, h1, renT_back h hb h2⟩
theorem renVs_back {k : Nat} (h : ∀ i, i < k → ℓ i = ℓ' (ρ i)) : ∀ {xs : List SV} {vs : List Value}, xs.all (belV k) = true → DenVs ℓ' (xs.map (renV ρ)) vs → DenVs ℓ xs vs
  | [], [], _, _ => trivial
  | x :: xs, v :: vs, hb, ⟨h1, h2⟩ => by
    simp only [List.all_cons, Bool.and_eq_true] at hb
    exact ⟨renV_back h hb.1 h1, renVs_back h hb.2 h2⟩
theorem renE_ok (h : Via ρ ℓ ℓ') {w : World} {L : Loc} {e : Ent} (hE : EntOK ℓ w L e) : EntOK ℓ' w L { e with c := renA ρ e.c } := by
  obtain ⟨⟨hf, hok⟩, hE⟩ := hE
  obtain ⟨k1, k2, k3⟩ := renA_cells ρ e.c
  refine ⟨⟨fun n hn => k2.trans (hf n hn), k3.2 hok⟩, ?_⟩
  split at hE
  · rename_i ho
    rw [if_pos ho]
    obtain ⟨a, b, c⟩ := hE
    refine ⟨a, by show (renA ρ e.c).len ≤ L.lim; rw [k2]; exact b, fun h0 => ?_⟩
    obtain ⟨cs, fr, vs, rest, c1, c2, c3, c4, c5⟩ := c h0
    exact ⟨cs, fr, vs, rest, c1, c2, c3, c4, by show DenL ℓ' (renA ρ e.c).cells vs; rw [k1]; exact renL_den h c5⟩
  · rename_i ho
    rw [if_neg ho]
    obtain ⟨vs, a, b⟩ := hE
    exact ⟨vs, by show DenL ℓ' (renA ρ e.c).cells vs; rw [k1]; exact renL_den h a, b⟩
end

/-! contracts -/
def ownBlk (pre : Mem) (ℓ : Nat → Option Loc) (k : Nat) : Prop := ∃ id e L, pre[id]? = some (.ent e) ∧ e.own = true ∧ ℓ id = some L ∧ L.blk = k
def ancOf (n : Nat) (chg : List Nat) (ℓ : Nat → Option Loc) : Nat → Option Loc := fun i => if i < n ∧ i ∉ chg then ℓ i else none
/-- Beyond the first so many, all that is known is our own. -/
def extraOwn (n : Nat) (m : Mem) : Bool := (m.drop n).all fun x => match x with | .ent e => e.own | .gone => true | .hole => false
/-- What a call of a function does: handed such arguments, over such memory, it hands back such a value and leaves such memory. -/
def Spec (P : Program) (f : FuncId) (args : List SV) (pre : Mem) (chg : List Nat) (post : SV → Mem → Prop) : Prop :=
  ∀ (w : World) (ℓ : Nat → Option Loc) (vs : List Value), DenVs ℓ args vs → (∀ an, Le an ℓ → MH ⟨w, ownBlk pre ℓ, an⟩ ℓ pre w) →
    Calls P f vs.toArray w (fun e w' => ∃ sv m' ℓ' v, e = .returned v ∧ post sv m' ∧ pre.length ≤ m'.length ∧ extraOwn pre.length m' = true ∧ DenV ℓ' sv v ∧ MH ⟨w, ownBlk pre ℓ, ancOf pre.length chg ℓ⟩ ℓ' m' w')

section
variable {P : Program}
def argSl : Nat → List SV → Slots
  | _, [] => []
  | i, x :: r => (i, x) :: argSl (i + 1) r
theorem argSl_den {ℓ : Nat → Option Loc} : ∀ (i : Nat) (args : List SV) (vs : List Value) (t : Nat), DenVs ℓ args vs → (∀ j u, vs[j]? = some u → i + j = t → DenV ℓ (look (argSl i args) t) u) ∧ ((t < i ∨ i + vs.length ≤ t) → look (argSl i args) t = one .any)
  | i, [], [], t, _ => ⟨fun j u h => by simp at h, fun _ => rfl⟩
  | i, x :: args, v :: vs, t, ⟨h1, h2⟩ => by
    obtain ⟨g1, g2⟩ := argSl_den (i + 1) args vs t h2
    simp only [argSl, look]
    refine ⟨fun j u hj ht => ?_, fun h => ?_⟩
    · cases j with
      | zero => simp at hj; subst hj; rw [if_pos (by omega)]; exact h1
      | succ j => rw [if_neg (by omega)]; exact g1 j u (by simpa using hj) (by omega)
    · simp only [List.length_cons] at h
      rw [if_neg (by omega)]
      exact g2 (by omega)
/-- A body's results. -/
def resP (T : Tab) (st : St) : List ResultVar → (List A → Prop) → Prop
  | [], K => K []
  | .tmp t :: r, K => match look st.sl t with
    | .one a => resP T st r (fun l => K (a :: l))
    | _ => False
  | .cell p ty :: r, K => stLoad T st.m ty (look st.sl p) (fun v => match v with
    | .one a => resP T st r (fun l => K (a :: l))
    | _ => False)
def resV : List A → SV
  | [a] => .one a
  | l => .tup l
def resOne (tmps : Array Value) : ResultVar → Sem Value
  | .tmp t => pure (tmps.getD t undef)
  | .cell a t => do loadVar t (← asAddr (tmps.getD a undef))
theorem results_eq (fn : Func) (tmps : Array Value) : results fn tmps = (do let vs ← fn.results.mapM (resOne tmps); pure (if h : vs.size = 1 then vs[0] else .tuple vs)) := rfl
def finOf (T : Tab) (res : List ResultVar) (n0 : Nat) (post : SV → Mem → Prop) (st : St) : Prop :=
  resP T st res (fun l => post (resV l) st.m ∧ n0 ≤ st.m.length ∧ extraOwn n0 st.m = true)
/-- What is known in a body's run. -/
structure Body (P : Program) (E : Env) (N : Nat) (Q0 : Exit → Act → World → Prop) (fin : St → Prop) (fr : Nat → Bool) (n0 : Nat) : Prop where
  fin : ∀ st a w, fin st → Holds E N st a w → Q0 .normal a w ∧ Q0 .ret a w
  fr : ∀ id, fr id = true → E.anc id = none
  anc : ∀ i L, E.anc i = some L → i < n0
  pan : ∀ c a w, ¬ Q0 (.panic c) a w
theorem resP_run {T : Tab} (hT : TabOK P T) {E : Env} {ℓ : Nat → Option Loc} {st : St} {a : Act} {w : World} (h1 : ∀ t, DenV ℓ (look st.sl t) (a.tmps.getD t undef)) (h2 : MH E ℓ st.m w) :
    ∀ (res : List ResultVar) (K : List A → Prop), resP T st res K → ∃ l vs, (res.mapM (m := Sem) (resOne a.tmps)).run P w = .ok vs w ∧ DenT ℓ l vs ∧ K l
  | [], K, h => ⟨[], [], by simp, trivial, h⟩
  | .tmp t :: r, K, h => by
    unfold resP at h
    split at h
    · rename_i x hx
      obtain ⟨l, vs, e1, e2, e3⟩ := resP_run hT h1 h2 r _ h
      refine ⟨x :: l, a.tmps.getD t undef :: vs, ?_, ⟨by have := h1 t; rw [hx] at this; exact this, e2⟩, e3⟩
      simp only [List.mapM_cons, Sem.run_bind, resOne, Sem.run_pure, Result.andThen_ok, e1]
    · exact h.elim
  | .cell p ty :: r, K, h => by
    unfold resP at h
    obtain ⟨sv, u, hr, hd, hk⟩ := stLoad_run hT h2 (h1 p) h
    split at hk
    · rename_i x
      obtain ⟨l, vs, e1, e2, e3⟩ := resP_run hT h1 h2 r _ hk
      refine ⟨x :: l, u :: vs, ?_, ⟨hd, e2⟩, e3⟩
      have hr' : (do loadVar ty (← asAddr (a.tmps.getD p undef)) : Sem Value).run P w = .ok u w := by
        unfold Instr.loadAt Instr.sureAddr at hr
        unfold asAddr
        generalize a.tmps.getD p undef = x at hr ⊢
        cases x with
        | pointer o => cases o with
          | none => simp at hr
          | some ad => simpa using hr
        | _ => simp at hr
      have hr2 : (resOne a.tmps (.cell p ty)).run P w = .ok u w := hr'
      simp only [List.mapM_cons, Sem.run_bind, hr2, Result.andThen_ok, e1, Sem.run_pure]
    · exact hk.elim
theorem spec_of_body {T : Tab} (hT : TabOK P T) {f : FuncId} {fn : Func} {c : Code} {args : List SV} {pre : Mem} {chg : List Nat} {post : SV → Mem → Prop} (hf : P.funcs[f]? = some fn) (hb : fn.body = some c) (hn : args.length ≤ fn.ntmps)
    (h : ∀ (E : Env) (Q0 : Exit → Act → World → Prop), Body P E fn.ntmps Q0 (finOf T fn.results.toList pre.length post) (fun id => decide (pre.length ≤ id) || chg.contains id) pre.length → Ok P E fn.ntmps Q0 [.code c] ⟨argSl 0 args, pre⟩) :
    Spec P f args pre chg post := by
  intro w ℓ vs hvs hmh
  have hlen : vs.length = args.length := by
    clear h hn hmh
    induction args generalizing vs with
    | nil => cases vs with
      | nil => rfl
      | cons => exact hvs.elim
    | cons x args ih => cases vs with
      | nil => exact hvs.elim
      | cons v vs => simp [ih vs hvs.2]
  have hle : Le (ancOf pre.length chg ℓ) ℓ := fun i L hL => by
    unfold ancOf at hL
    split at hL
    · exact hL
    · cases hL
  have hm0 := hmh _ hle
  refine calls_of_wp hf hb ?_
  have hbody : Body P ⟨w, ownBlk pre ℓ, ancOf pre.length chg ℓ⟩ fn.ntmps (bodyPost P fn (fun e w' => ∃ sv m' ℓ' v, e = .returned v ∧ post sv m' ∧ pre.length ≤ m'.length ∧ extraOwn pre.length m' = true ∧ DenV ℓ' sv v ∧ MH ⟨w, ownBlk pre ℓ, ancOf pre.length chg ℓ⟩ ℓ' m' w'))
      (finOf T fn.results.toList pre.length post) (fun id => decide (pre.length ≤ id) || chg.contains id) pre.length := by
    refine ⟨?_, ?_, ?_, ?_⟩
    · rintro st a w' hfin ⟨ℓ', h1, h2, h3, h4⟩
      obtain ⟨l, us, e1, e2, e3, e4, e5⟩ := resP_run hT h1 h2 _ _ hfin
      have hres : ∃ v, (results fn a.tmps).run P w' = .ok v w' ∧ DenV ℓ' (resV l) v := by
        rw [results_eq, Sem.run_bind]
        have hmm : (fn.results.mapM (m := Sem) (resOne a.tmps)).run P w' = .ok us.toArray w' := by
          rw [Array.mapM_eq_mapM_toList, Sem.run_map, e1]; rfl
        rw [hmm]
        simp only [Result.andThen_ok]
        clear e1 e3 hmm
        match l, us, e2 with
        | [], [], _ => exact ⟨.tuple #[], by simp, [], rfl, trivial⟩
        | [x], [u], ⟨hx, _⟩ => exact ⟨u, by simp, hx⟩
        | x :: y :: l, u :: u2 :: us, hx => exact ⟨.tuple (u :: u2 :: us).toArray, by simp, _, rfl, hx⟩
        | [_], _ :: _ :: _, hx => exact hx.2.elim
        | _ :: _ :: _, [_], hx => exact hx.2.elim
      obtain ⟨v, hv1, hv2⟩ := hres
      have hp : bodyPost P fn (fun e w' => ∃ sv m' ℓ' v, e = .returned v ∧ post sv m' ∧ pre.length ≤ m'.length ∧ extraOwn pre.length m' = true ∧ DenV ℓ' sv v ∧ MH ⟨w, ownBlk pre ℓ, ancOf pre.length chg ℓ⟩ ℓ' m' w') .ret a w' :=
        ⟨h3, v, hv1, _, st.m, ℓ', v, rfl, e3, e4, e5, hv2, h2⟩
      exact ⟨hp, hp⟩
    · intro id hid
      simp only [ancOf]
      rw [if_neg]
      rintro ⟨h1, h2⟩
      simp only [Bool.or_eq_true, decide_eq_true_eq, List.contains_iff_mem] at hid
      rcases hid with hid | hid
      · omega
      · exact h2 hid
    · intro i L hL
      simp only [ancOf] at hL
      split at hL
      · rename_i hh; exact hh.1
      · cases hL
    · rintro c a w' ⟨_, sv, m', ℓ', v, h1, _⟩
      cases h1
  have hok := h _ _ hbody
  refine hok _ w ⟨ℓ, fun t => ?_, hm0, rfl, ?_⟩
  · obtain ⟨g1, g2⟩ := argSl_den (ℓ := ℓ) 0 args vs t hvs
    by_cases ht : t < vs.length
    · have : ((vs.toArray ++ Array.replicate (fn.ntmps - vs.toArray.size) undef).getD t undef) = vs[t] := by
        rw [Array.getD_eq_getD_getElem?, Array.getElem?_append_left (by simpa using ht)]
        simp [ht]
      show DenV ℓ (look (argSl 0 args) t) _
      rw [this]
      exact g1 t _ (List.getElem?_eq_getElem ht) (by omega)
    · show DenV ℓ (look (argSl 0 args) t) _
      rw [g2 (.inr (by omega))]
      trivial
  · simp; omega
end
end Go.V
