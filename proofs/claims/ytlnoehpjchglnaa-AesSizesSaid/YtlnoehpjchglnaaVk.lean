/- A small verifier of our own, part 11: the machine that runs a body; loops; calls; a function's contract. No condition. -/
import Derived.Test.YtlnoehpjchglnaaVj
import Derived.LoopN
set_option linter.unusedSimpArgs false
set_option linter.unusedVariables false
namespace Go.V
open Go

abbrev Slots := List (Nat × SV)
def look : Slots → Nat → SV
  | [], _ => one .any
  | (k, v) :: r, n => if n = k then v else look r n
structure St where
  sl : Slots
  m : Mem
def St.ev (s : St) : Operand → SV
  | .tmp t => look s.sl t
  | .const v => constS v
  | .global _ => one .any
  | .func f => one (.fn f [])
def St.put (s : St) (d : Option Tmp) (v : SV) : St :=
  match d with
  | none => s
  | some d => ⟨(d, v) :: s.sl, s.m⟩
def St.add (s : St) : Option Ent → St
  | none => s
  | some e => ⟨s.sl, s.m ++ [.ent e]⟩
def killSl (id : Nat) : Slots → Slots
  | [] => []
  | (k, v) :: r => (k, killV id v) :: killSl id r
def St.upd (s : St) (ko : Option Nat) (m' : Mem) : St :=
  match ko with
  | none => ⟨s.sl, m'⟩
  | some id => ⟨killSl id s.sl, m'⟩
def okd (N : Nat) : Option Tmp → Prop
  | none => True
  | some d => d < N

/-- The state of a body's run, abstractly. -/
def Holds (E : Env) (N : Nat) (st : St) (a : Act) (w : World) : Prop :=
  ∃ ℓ, (∀ t, DenV ℓ (look st.sl t) (a.tmps.getD t undef)) ∧ MH E ℓ st.m w ∧ a.defers = [] ∧ a.tmps.size = N

section
variable {P : Program} {E : Env} {N : Nat}
theorem ev_den {ℓ : Nat → Option Loc} {st : St} {a : Act} (h : ∀ t, DenV ℓ (look st.sl t) (a.tmps.getD t undef)) (x : Operand) : DenV ℓ (st.ev x) (a.eval x) := by
  cases x with
  | tmp t => exact h t
  | const v => exact constS_den ℓ v
  | global g => trivial
  | func f => exact ⟨[], rfl, rfl⟩
theorem put_den {ℓ : Nat → Option Loc} {st : St} {a : Act} {d : Option Tmp} {sv : SV} {v : Value} (h : ∀ t, DenV ℓ (look st.sl t) (a.tmps.getD t undef)) (hd : okd a.tmps.size d) (hv : DenV ℓ sv v) :
    (∀ t, DenV ℓ (look (st.put d sv).sl t) ((a.put d v).tmps.getD t undef)) ∧ (a.put d v).defers = a.defers ∧ (a.put d v).tmps.size = a.tmps.size := by
  cases d with
  | none => exact ⟨h, rfl, rfl⟩
  | some d =>
    refine ⟨fun t => ?_, rfl, by simp [Act.put]⟩
    have hd' : d < a.tmps.size := hd
    show DenV ℓ (if t = d then sv else look st.sl t) _
    simp only [Act.put]
    by_cases ht : t = d
    · subst ht
      rw [if_pos rfl]
      have : (a.tmps.setIfInBounds t v).getD t undef = v := by simp [hd']
      rw [this]; exact hv
    · rw [if_neg ht]
      have : (a.tmps.setIfInBounds d v).getD t undef = a.tmps.getD t undef := by simp [Array.getElem?_setIfInBounds_ne (Ne.symm ht)]
      rw [this]; exact h t
theorem look_kill {id : Nat} : ∀ (sl : Slots) (t : Nat), look (killSl id sl) t = killV id (look sl t)
  | [], t => rfl
  | (k, v) :: r, t => by
    simp only [killSl, look]
    split
    · rfl
    · exact look_kill r t

/-- What is left to be done: code, a region's operations, the end of a block, the end of a loop's round. -/
inductive Item where
  | code (c : Code) | ops (all l : List Oper) | blk (id : Nat) | back (I : St → Prop)
def semK (P : Program) (E : Env) (N : Nat) (Q0 : Exit → Act → World → Prop) : List Item → Exit → Act → World → Prop
  | [] => Q0
  | .code c :: k => Exit.then (c.wp P (semK P E N Q0 k)) (semK P E N Q0 k)
  | .ops all l :: k => Exit.then (wpList P all.toArray (semK P E N Q0 k) l) (semK P E N Q0 k)
  | .blk id :: k => Exit.inBlock id (semK P E N Q0 k)
  | .back I :: k => Exit.then (fun a w => ∃ st, I st ∧ Holds E N st a w) (semK P E N Q0 k)
def Ok (P : Program) (E : Env) (N : Nat) (Q0 : Exit → Act → World → Prop) (k : List Item) (st : St) : Prop :=
  ∀ a w, Holds E N st a w → semK P E N Q0 k .normal a w
def popTo (id : Nat) : List Item → Option (List Item)
  | [] => none
  | .blk j :: k => if j = id then some k else popTo id k
  | _ :: k => popTo id k
theorem semK_ret {Q0 : Exit → Act → World → Prop} : ∀ (k : List Item) (a : Act) (w : World), semK P E N Q0 k .ret a w = Q0 .ret a w
  | [], a, w => rfl
  | .code c :: k, a, w => semK_ret k a w
  | .ops all l :: k, a, w => semK_ret k a w
  | .blk id :: k, a, w => semK_ret k a w
  | .back I :: k, a, w => semK_ret k a w
theorem semK_exit {Q0 : Exit → Act → World → Prop} {id : Nat} : ∀ (k k' : List Item) (a : Act) (w : World), popTo id k = some k' → semK P E N Q0 k' .normal a w → semK P E N Q0 k (.exit id) a w
  | [], k', a, w, h, _ => by cases h
  | .code c :: k, k', a, w, h, hq => semK_exit k k' a w h hq
  | .ops all l :: k, k', a, w, h, hq => semK_exit k k' a w h hq
  | .back I :: k, k', a, w, h, hq => semK_exit k k' a w h hq
  | .blk j :: k, k', a, w, h, hq => by
    simp only [popTo] at h
    show (if id = j then semK P E N Q0 k .normal a w else semK P E N Q0 k (.exit id) a w)
    split at h
    · rename_i hj; cases h; rw [if_pos hj.symm]; exact hq
    · rename_i hj; rw [if_neg (Ne.symm hj)]; exact semK_exit k k' a w h hq

/-- A guard: is the operation carried out, and what is then known. -/
def guardOf (st : St) (all : List Oper) (o : Oper) (go : St → Prop) (skip : St → Prop) : Prop :=
  match o.guard with
  | none => go st
  | some (g, b) => match all[g]? with
    | none => False
    | some og => match og.dst with
      | none => False
      | some d => match look st.sl d with
        | .one (.s (.b c)) => (c = b → go (st.put (some d) (one (.b b)))) ∧ (c = (!b) → skip (st.put (some d) (one (.b (!b)))))
        | .tup [] => skip st
        | _ => False
/-- One operation. -/
def step1 (T : Tab) (pu : Pure) (fr : Nat → Bool) (N : Nat) (o : Oper) (st : St) (leaf : St → Prop) (K : St → Prop) : Prop :=
  match o.op with
  | .store t x y => stStore T st.m t (st.ev x) (st.ev y) (fun m' => okd N o.dst ∧ K ((St.mk st.sl m').put o.dst (.tup [])))
  | .call c => (match c.callee with
    | .builtin .append => (match c.args.toList, c.argTypes.toList with
      | [s, x], [ts, tx] => stAppend T fr st.m st.m.length ts tx (st.ev s) (st.ev x) (fun v ko m' => okd N o.dst ∧ K ((st.upd ko m').put o.dst v))
      | _, _ => False)
    | .builtin .copy => (match c.args.toList, c.argTypes.toList with
      | [d, s], [td, _] => stCopy T st.m td (st.ev d) (st.ev s) (fun v m' => okd N o.dst ∧ K ((St.mk st.sl m').put o.dst v))
      | _, _ => False)
    | .value (.func f) => (match pu st.m f (c.args.toList.map st.ev) with
      | some v => okd N o.dst ∧ K (st.put o.dst v)
      | none => leaf st)
    | .value _ => leaf st
    | .invoke _ _ => leaf st
    | _ => est T pu st.m st.m.length st.ev o (fun v eo => okd N o.dst ∧ K ((st.add eo).put o.dst v)))
  | _ => est T pu st.m st.m.length st.ev o (fun v eo => okd N o.dst ∧ K ((st.add eo).put o.dst v))
/-- The machine: it runs as far as it can; at a loop, at a call that is no plain one and at a region that draws its order it stands still ('leaf'). -/
def run (T : Tab) (pu : Pure) (fr : Nat → Bool) (N : Nat) (fin : St → Prop) (leaf : List Item → St → Prop) : Nat → List Item → St → Prop
  | 0, k, st => leaf k st
  | _ + 1, [], st => fin st
  | n + 1, .blk _ :: k, st => run T pu fr N fin leaf n k st
  | _ + 1, .back I :: _, st => I st
  | n + 1, .ops _ [] :: k, st => run T pu fr N fin leaf n k st
  | n + 1, .ops all (o :: r) :: k, st => guardOf st all o
      (fun st => step1 T pu fr N o st (leaf (.ops all (o :: r) :: k)) (fun st' => run T pu fr N fin leaf n (.ops all r :: k) st'))
      (fun st => okd N o.dst ∧ run T pu fr N fin leaf n (.ops all r :: k) (st.put o.dst (.tup [])))
  | n + 1, .code c :: k, st => match c with
    | .skip => run T pu fr N fin leaf n k st
    | .seq a b => run T pu fr N fin leaf n (.code a :: .code b :: k) st
    | .region _ ops false => run T pu fr N fin leaf n (.ops ops.toList ops.toList :: k) st
    | .region id ops true => leaf (.code (.region id ops true) :: k) st
    | .cond c a b => (match st.ev c with
      | .one (.s (.b x)) => (x = true → run T pu fr N fin leaf n (.code a :: k) st) ∧ (x = false → run T pu fr N fin leaf n (.code b :: k) st)
      | _ => False)
    | .block id c => run T pu fr N fin leaf n (.code c :: .blk id :: k) st
    | .loop c => leaf (.code (.loop c) :: k) st
    | .exit id => (match popTo id k with
      | some k' => run T pu fr N fin leaf n k' st
      | none => False)
    | .ret => fin st
    | _ => False

theorem wpList_do {all : Array Oper} {Q : Exit → Act → World → Prop} {o : Oper} {r : List Oper} {a : Act} {w : World} (hw : Region.wanted o (yielded all a.tmps) = true) (h : o.wp P a w (wpList P all Q r) Q) : wpList P all Q (o :: r) a w := by
  unfold wpList
  rw [if_pos hw]
  exact .inl h
theorem wpList_skip {all : Array Oper} {Q : Exit → Act → World → Prop} {o : Oper} {r : List Oper} {a : Act} {w : World} (hw : Region.wanted o (yielded all a.tmps) = false) (h : wpList P all Q r (a.put o.dst undef) w) : wpList P all Q (o :: r) a w := by
  unfold wpList
  rw [if_neg (by rw [hw]; simp)]
  exact h
theorem guard_ok {st : St} {all : List Oper} {o : Oper} {go skip : St → Prop} {a : Act} {w : World} (h : guardOf st all o go skip) (hh : Holds E N st a w) :
    (Region.wanted o (yielded all.toArray a.tmps) = true ∧ ∃ st', go st' ∧ Holds E N st' a w) ∨ (Region.wanted o (yielded all.toArray a.tmps) = false ∧ ∃ st', skip st' ∧ Holds E N st' a w) := by
  unfold guardOf at h
  split at h
  · rename_i hg
    exact .inl ⟨by simp [Region.wanted, hg], st, h, hh⟩
  · rename_i g b hg
    split at h
    · exact h.elim
    · rename_i og hog
      split at h
      · exact h.elim
      · rename_i d hd
        obtain ⟨ℓ, h1, h2, h3, h4⟩ := hh
        have hy : yielded all.toArray a.tmps g = match a.tmps[d]? with | some (.bool b) => some b | _ => none := by
          unfold yielded
          rw [show (all.toArray[g]?).bind (·.dst) = some d by simp [hog, hd]]
          rfl
        split at h
        · rename_i c hc
          have hv := h1 d
          rw [hc] at hv
          have hv' : a.tmps.getD d undef = .bool c := hv
          have hlt : d < a.tmps.size := by
            rcases Nat.lt_or_ge d a.tmps.size with hx | hx
            · exact hx
            · rw [Array.getD_eq_getD_getElem?, Array.getElem?_eq_none hx] at hv'; simp [undef] at hv'
          have hq : a.tmps[d]? = some (.bool c) := by
            rw [Array.getD_eq_getD_getElem?, Array.getElem?_eq_getElem hlt] at hv'
            rw [Array.getElem?_eq_getElem hlt]
            simpa using hv'
          rw [hq] at hy
          have same : ∀ (b' : Bool), c = b' → Holds E N (st.put (some d) (one (.b b'))) a w := by
            rintro b' rfl
            refine ⟨ℓ, fun t => ?_, h2, h3, h4⟩
            show DenV ℓ (if t = d then one (.b c) else look st.sl t) _
            split
            · rename_i ht; subst ht; exact hv'
            · exact h1 t
          by_cases hcb : c = b
          · exact .inl ⟨by simp [Region.wanted, hg, hy, hcb], _, h.1 hcb, same b hcb⟩
          · have hcb' : c = !b := by cases c <;> cases b <;> simp_all
            exact .inr ⟨by simp [Region.wanted, hg, hy, hcb'], _, h.2 hcb', same _ hcb'⟩
        · rename_i hc
          have hv := h1 d
          rw [hc] at hv
          obtain ⟨vs, hv, hvs⟩ := hv
          refine .inr ⟨?_, st, h, ⟨ℓ, h1, h2, h3, h4⟩⟩
          cases vs with
          | cons => exact hvs.elim
          | nil =>
            have : yielded all.toArray a.tmps g = none := by
              rw [hy]
              rw [Array.getD_eq_getD_getElem?] at hv
              cases hq : a.tmps[d]? with
              | none => rfl
              | some x => rw [hq] at hv; simp at hv; subst hv; rfl
            simp [Region.wanted, hg, this]
        · exact h.elim
theorem addE_len (m : Mem) (eo : Option Ent) : addE m m.length eo = match eo with | none => m | some e => m ++ [.ent e] := by
  cases eo with
  | none => rfl
  | some e => exact fill_len m e
theorem step1_ok {T : Tab} {pu : Pure} {fr : Nat → Bool} (hT : TabOK P T) (hpu : PureOK P pu) (hfr : ∀ id, fr id = true → E.anc id = none) {o : Oper} {st : St} {leaf K : St → Prop} {a : Act} {w : World} {next : Act → World → Prop} {Q : Exit → Act → World → Prop} {Z : Prop}
    (hh : Holds E N st a w) (hdo : o.wp P a w next Q → Z) (hleaf : ∀ st, leaf st → Holds E N st a w → Z) (hK : ∀ st' a' w', K st' → Holds E N st' a' w' → next a' w') (h : step1 T pu fr N o st leaf K) : Z := by
  obtain ⟨ℓ, h1, h2, h3, h4⟩ := hh
  have hev := fun x => ev_den (ℓ := ℓ) (st := st) (a := a) h1 x
  have fin : ∀ {ℓ' : Nat → Option Loc} {sv : SV} {v : Value} {st1 : St} {w' : World}, (∀ t, DenV ℓ' (look st1.sl t) (a.tmps.getD t undef)) → MH E ℓ' st1.m w' → DenV ℓ' sv v → okd N o.dst → K (st1.put o.dst sv) → next (a.put o.dst v) w' := by
    intro ℓ' sv v st1 w' g1 g2 g3 g4 g5
    obtain ⟨p1, p2, p3⟩ := put_den g1 (by rw [h4]; exact g4) g3
    refine hK _ _ _ g5 ⟨ℓ', p1, ?_, p2.trans h3, p3.trans h4⟩
    cases hd : o.dst <;> exact g2
  have gen : est T pu st.m st.m.length st.ev o (fun v eo => okd N o.dst ∧ K ((st.add eo).put o.dst v)) → Z := by
    intro h
    refine hdo ?_
    refine est_ok hT hpu h2 (.inl rfl) hev h next Q ?_
    rintro v w' ⟨sv, eo, ℓ', ⟨hod, hK'⟩, hle, hm', hd⟩
    rw [addE_len] at hm'
    refine fin (st1 := st.add eo) (fun t => ?_) ?_ hd hod hK'
    · have : (st.add eo).sl = st.sl := by cases eo <;> rfl
      rw [this]; exact (h1 t).mono hle
    · cases eo <;> exact hm'
  unfold step1 at h
  split at h
  · rename_i t x y hop
    obtain ⟨m', w', hr, hm', hod, hK'⟩ := stStore_ok hT h2 (hev x) (hev y) h
    refine hdo ?_
    unfold Oper.wp
    have : (execOp a.eval o).run P w = .ok .skip w' := by
      simp only [execOp, hop, Sem.run_bind, hr, Result.andThen_ok, Sem.run_pure]
    rw [this]
    exact fin (st1 := ⟨st.sl, m'⟩) (sv := .tup []) (v := undef) h1 hm' ⟨[], rfl, trivial⟩ hod hK'
  · rename_i c hop
    split at h
    · rename_i hcal
      split at h
      · rename_i s x ts tx hargs htys
        obtain ⟨sv, ko, m', v, w', ℓ', hr, ⟨hod, hK'⟩, hm', hd, hko⟩ := stAppend_ok (ty0 := o.type) hT hfr h2 (.inl rfl) (hev s) (hev x) h
        refine hdo ?_
        have ha : c.args = #[s, x] := by apply Array.ext'; simpa using hargs
        have ht : c.argTypes = #[ts, tx] := by apply Array.ext'; simpa using htys
        unfold Oper.wp
        have : (execOp a.eval o).run P w = .ok (.value v) w' := by
          simp [execOp, hop, resolve, hcal, ha, ht, invoke, builtin, hr]
        rw [this]
        refine fin (st1 := st.upd ko m') ?_ ?_ hd hod hK'
        · cases ko with
          | none => exact fun t => (h1 t).mono hko
          | some id =>
            intro t
            show DenV ℓ' (look (killSl id st.sl) t) _
            rw [look_kill]
            exact killV_den hko (h1 t)
        · cases ko <;> exact hm'
      · exact h.elim
    · rename_i hcal
      split at h
      · rename_i d s td ts hargs htys
        obtain ⟨sv, m', v, w', hr, ⟨hod, hK'⟩, hm', hd⟩ := stCopy_ok (ts := ts) (ty0 := o.type) hT h2 (hev d) (hev s) h
        refine hdo ?_
        have ha : c.args = #[d, s] := by apply Array.ext'; simpa using hargs
        have ht : c.argTypes = #[td, ts] := by apply Array.ext'; simpa using htys
        unfold Oper.wp
        have : (execOp a.eval o).run P w = .ok (.value v) w' := by
          simp [execOp, hop, resolve, hcal, ha, ht, invoke, builtin, hr]
        rw [this]
        exact fin (st1 := ⟨st.sl, m'⟩) h1 hm' hd hod hK'
      · exact h.elim
    · rename_i f hcal
      split at h
      · rename_i v hpv
        refine gen ?_
        unfold est
        simp only [hop, hcal, hpv]
        exact h
      · exact hleaf st h ⟨ℓ, h1, h2, h3, h4⟩
    · exact hleaf st h ⟨ℓ, h1, h2, h3, h4⟩
    · exact hleaf st h ⟨ℓ, h1, h2, h3, h4⟩
    · exact gen h
  · exact gen h

theorem run_ok {T : Tab} {pu : Pure} {fr : Nat → Bool} (hT : TabOK P T) (hpu : PureOK P pu) (hfr : ∀ id, fr id = true → E.anc id = none) {fin : St → Prop} {leaf : List Item → St → Prop} {Q0 : Exit → Act → World → Prop}
    (hfin : ∀ st a w, fin st → Holds E N st a w → Q0 .normal a w ∧ Q0 .ret a w) (hleaf : ∀ k st, leaf k st → Ok P E N Q0 k st) :
    ∀ (n : Nat) (k : List Item) (st : St), run T pu fr N fin leaf n k st → Ok P E N Q0 k st := by
  intro n
  induction n with
  | zero => intro k st h; exact hleaf k st h
  | succ n ih =>
    intro k st h a w hh
    match k, h with
    | [], h => exact (hfin st a w h hh).1
    | .blk id :: k, h => exact ih k st h a w hh
    | .back I :: k, h => exact ⟨st, h, hh⟩
    | .ops all [] :: k, h => exact ih k st h a w hh
    | .ops all (o :: r) :: k, h =>
      show wpList P all.toArray (semK P E N Q0 k) (o :: r) a w
      rcases guard_ok h hh with ⟨hw, st', hgo, hh'⟩ | ⟨hw, st', ⟨hod, hsk⟩, hh'⟩
      · exact step1_ok (next := wpList P all.toArray (semK P E N Q0 k) r) (Q := semK P E N Q0 k) hT hpu hfr hh' (fun hx => wpList_do hw hx) (fun st2 hl hh2 => hleaf (.ops all (o :: r) :: k) st2 hl a w hh2) (fun st2 a' w' hK hh2 => ih (.ops all r :: k) st2 hK a' w' hh2) hgo
      · obtain ⟨ℓ, h1, h2, h3, h4⟩ := hh'
        obtain ⟨p1, p2, p3⟩ := put_den (d := o.dst) (sv := .tup []) (v := undef) h1 (by rw [h4]; exact hod) ⟨[], rfl, trivial⟩
        refine wpList_skip hw (ih _ _ hsk _ w ⟨ℓ, p1, ?_, p2.trans h3, p3.trans h4⟩)
        cases hd : o.dst <;> exact h2
    | .code c :: k, h =>
      show c.wp P (semK P E N Q0 k) a w
      cases c with
      | skip => exact wp_skip (ih k st h a w hh)
      | seq x y => exact wp_seq (ih _ st h a w hh)
      | region id ops d =>
        cases d with
        | false =>
          have := ih _ st h a w hh
          exact wp_region_list (by simpa [semK, Exit.then] using this)
        | true => exact hleaf _ st h a w hh
      | cond c x y =>
        simp only [run] at h
        split at h
        · rename_i b hb
          obtain ⟨ℓ, h1, h2, h3, h4⟩ := hh
          have hv := ev_den (ℓ := ℓ) (st := st) (a := a) h1 c
          rw [hb] at hv
          refine wp_cond_split (t := b) hv (fun hbt => ih _ st (h.1 hbt) a w ⟨ℓ, h1, h2, h3, h4⟩) (fun hbf => ih _ st (h.2 hbf) a w ⟨ℓ, h1, h2, h3, h4⟩)
        · exact h.elim
      | block id c => exact wp_block (ih _ st h a w hh)
      | loop c => exact hleaf _ st h a w hh
      | exit id =>
        simp only [run] at h
        split at h
        · rename_i k' hk'
          exact wp_exit (semK_exit k k' a w hk' (ih k' st h a w hh))
        · exact h.elim
      | ret => exact wp_ret (by rw [semK_ret]; exact (hfin st a w h hh).2)
      | _ => exact h.elim
end
end Go.V
