/- Texts of the walks, put together: Vk Vl Vm Br Bj Bs Vn Vo Vp Vq Vr Vw Vx Vy. No condition. -/
import Derived.Test.YtlnoehpjchglnaaMja
import Derived.LoopN
import Derived.WalkKit
import Derived.ProofKit
import Derived.OpenShut
import Derived.ShutString
import Derived.ChangeOld
import Derived.Below
import Derived.SizedLaws
import Derived.StillTail
section
set_option linter.unusedSimpArgs false
set_option linter.unusedVariables false
namespace Go.V
open Go

abbrev Slots := List (Nat × SV)
def look : Slots → Nat → SV
  | [], _ => one .any
  | (k, v) :: r, n => if n = k then v else look r n
structure St where
  sl : Slots
  m : Mem
def St.ev (s : St) : Operand → SV
  | .tmp t => look s.sl t
  | .const v => constS v
  | .global _ => one .any
  | .func f => one (.fn f [])
def St.put (s : St) (d : Option Tmp) (v : SV) : St :=
  match d with
  | none => s
  | some d => ⟨(d, v) :: s.sl, s.m⟩
def St.add (s : St) : Option Ent → St
  | none => s
  | some e => ⟨s.sl, s.m ++ [.ent e]⟩
def killSl (id : Nat) : Slots → Slots
  | [] => []
  | (k, v) :: r => (k, killV id v) :: killSl id r
def St.upd (s : St) (ko : Option Nat) (m' : Mem) : St :=
  match ko with
  | none => ⟨s.sl, m'⟩
  | some id => ⟨killSl id s.sl, m'⟩
def okd (N : Nat) : Option Tmp → Prop
  | none => True
  | some d => d < N

/-- The state of a body's run, abstractly. -/
def Holds (E : Env) (N : Nat) (st : St) (a : Act) (w : World) : Prop :=
  ∃ ℓ, (∀ t, DenV ℓ (look st.sl t) (a.tmps.getD t undef)) ∧ MH E ℓ st.m w ∧ a.defers = [] ∧ a.tmps.size = N

section
variable {P : Program} {E : Env} {N : Nat}
theorem ev_den {ℓ : Nat → Option Loc} {st : St} {a : Act} (h : ∀ t, DenV ℓ (look st.sl t) (a.tmps.getD t undef)) (x : Operand) : DenV ℓ (st.ev x) (a.eval x) := by
  cases x with
  | tmp t => exact h t
  | const v => exact constS_den ℓ v
  | global g => trivial
  | func f => exact ⟨[], rfl, rfl⟩
theorem put_den {ℓ : Nat → Option Loc} {st : St} {a : Act} {d : Option Tmp} {sv : SV} {v : Value} (h : ∀ t, DenV ℓ (look st.sl t) (a.tmps.getD t undef)) (hd : okd a.tmps.size d) (hv : DenV ℓ sv v) :
    (∀ t, DenV ℓ (look (st.put d sv).sl t) ((a.put d v).tmps.getD t undef)) ∧ (a.put d v).defers = a.defers ∧ (a.put d v).tmps.size = a.tmps.size := by
  cases d with
  | none => exact ⟨h, rfl, rfl⟩
  | some d =>
    refine ⟨fun t => ?_, rfl, by simp [Act.put]⟩
    have hd' : d < a.tmps.size := hd
    show DenV ℓ (if t = d then sv else look st.sl t) _
    simp only [Act.put]
    by_cases ht : t = d
    · subst ht
      rw [if_pos rfl]
      have : (a.tmps.setIfInBounds t v).getD t undef = v := by simp [hd']
      rw [this]; exact hv
    · rw [if_neg ht]
      have : (a.tmps.setIfInBounds d v).getD t undef = a.tmps.getD t undef := by simp [Array.getElem?_setIfInBounds_ne (Ne.symm ht)]
      rw [this]; exact h t
theorem look_kill {id : Nat} : ∀ (sl : Slots) (t : Nat), look (killSl id sl) t = killV id (look sl t)
  | [], t => rfl
  | (k, v) :: r, t => by
    simp only [killSl, look]
    split
    · rfl
    · exact look_kill r t

/-- What is left to be done: code, a region's operations, the end of a block, the end of a loop's round. -/
inductive Item where
  | code (c : Code) | ops (all l : List Oper) | blk (id : Nat) | back (I : St → Prop)
def semK (P : Program) (E : Env) (N : Nat) (Q0 : Exit → Act → World → Prop) : List Item → Exit → Act → World → Prop
  | [] => Q0
  | .code c :: k => Exit.then (c.wp P (semK P E N Q0 k)) (semK P E N Q0 k)
  | .ops all l :: k => Exit.then (wpList P all.toArray (semK P E N Q0 k) l) (semK P E N Q0 k)
  | .blk id :: k => Exit.inBlock id (semK P E N Q0 k)
  | .back I :: k => Exit.then (fun a w => ∃ st, I st ∧ Holds E N st a w) (semK P E N Q0 k)
def Ok (P : Program) (E : Env) (N : Nat) (Q0 : Exit → Act → World → Prop) (k : List Item) (st : St) : Prop :=
  ∀ a w, Holds E N st a w → semK P E N Q0 k .normal a w
def popTo (id : Nat) : List Item → Option (List Item)
  | [] => none
  | .blk j :: k => if j = id then some k else popTo id k
  | _ :: k => popTo id k
theorem semK_ret {Q0 : Exit → Act → World → Prop} : ∀ (k : List Item) (a : Act) (w : World), semK P E N Q0 k .ret a w = Q0 .ret a w
  | [], a, w => rfl
  | .code c :: k, a, w => semK_ret k a w
  | .ops all l :: k, a, w => semK_ret k a w
  | .blk id :: k, a, w => semK_ret k a w
  | .back I :: k, a, w => semK_ret k a w
theorem semK_exit {Q0 : Exit → Act → World → Prop} {id : Nat} : ∀ (k k' : List Item) (a : Act) (w : World), popTo id k = some k' → semK P E N Q0 k' .normal a w → semK P E N Q0 k (.exit id) a w
  | [], k', a, w, h, _ => by cases h
  | .code c :: k, k', a, w, h, hq => semK_exit k k' a w h hq
  | .ops all l :: k, k', a, w, h, hq => semK_exit k k' a w h hq
  | .back I :: k, k', a, w, h, hq => semK_exit k k' a w h hq
  | .blk j :: k, k', a, w, h, hq => by
    simp only [popTo] at h
    show (if id = j then semK P E N Q0 k .normal a w else semK P E N Q0 k (.exit id) a w)
    split at h
    · rename_i hj; cases h; rw [if_pos hj.symm]; exact hq
    · rename_i hj; rw [if_neg (Ne.symm hj)]; exact semK_exit k k' a w h hq

/-- A guard: is the operation carried out, and what is then known. -/
def guardOf (st : St) (all : List Oper) (o : Oper) (go : St → Prop) (skip : St → Prop) : Prop :=
  match o.guard with
  | none => go st
  | some (g, b) => match all[g]? with
    | none => False
    | some og => match og.dst with
      | none => False
      | some d => match look st.sl d with
        | .one (.s (.b c)) => (c = b → go (st.put (some d) (one (.b b)))) ∧ (c = (!b) → skip (st.put (some d) (one (.b (!b)))))
        | .tup [] => skip st
        | _ => False
/-- One operation. -/
def step1 (T : Tab) (pu : Pure) (fr : Nat → Bool) (N : Nat) (o : Oper) (st : St) (leaf : St → Prop) (K : St → Prop) : Prop :=
  match o.op with
  | .store t x y => stStore T st.m t (st.ev x) (st.ev y) (fun m' => okd N o.dst ∧ K ((St.mk st.sl m').put o.dst (.tup [])))
  | .call c => (match c.callee with
    | .builtin .append => (match c.args.toList, c.argTypes.toList with
      | [s, x], [ts, tx] => stAppend T fr st.m st.m.length ts tx (st.ev s) (st.ev x) (fun v ko m' => okd N o.dst ∧ K ((st.upd ko m').put o.dst v))
      | _, _ => False)
    | .builtin .copy => (match c.args.toList, c.argTypes.toList with
      | [d, s], [td, _] => stCopy T st.m td (st.ev d) (st.ev s) (fun v m' => okd N o.dst ∧ K ((St.mk st.sl m').put o.dst v))
      | _, _ => False)
    | .value (.func f) => (match pu st.m f (c.args.toList.map st.ev) with
      | some v => okd N o.dst ∧ K (st.put o.dst v)
      | none => leaf st)
    | .value _ => leaf st
    | .invoke _ _ => leaf st
    | _ => est T pu st.m st.m.length st.ev o (fun v eo => okd N o.dst ∧ K ((st.add eo).put o.dst v)))
  | _ => est T pu st.m st.m.length st.ev o (fun v eo => okd N o.dst ∧ K ((st.add eo).put o.dst v))
/-- The machine: it runs as far as it can; at a loop, at a call that is no plain one and at a region that draws its order it stands still ('leaf'). -/
def run (T : Tab) (pu : Pure) (fr : Nat → Bool) (N : Nat) (fin : St → Prop) (leaf : List Item → St → Prop) : Nat → List Item → St → Prop
  | 0, k, st => leaf k st
  | _ + 1, [], st => fin st
  | n + 1, .blk _ :: k, st => run T pu fr N fin leaf n k st
  | _ + 1, .back I :: _, st => I st
  | n + 1, .ops _ [] :: k, st => run T pu fr N fin leaf n k st
  | n + 1, .ops all (o :: r) :: k, st => guardOf st all o
      (fun st => step1 T pu fr N o st (leaf (.ops all (o :: r) :: k)) (fun st' => run T pu fr N fin leaf n (.ops all r :: k) st'))
      (fun st => okd N o.dst ∧ run T pu fr N fin leaf n (.ops all r :: k) (st.put o.dst (.tup [])))
  | n + 1, .code c :: k, st => match c with
    | .skip => run T pu fr N fin leaf n k st
    | .seq a b => run T pu fr N fin leaf n (.code a :: .code b :: k) st
    | .region _ ops false => run T pu fr N fin leaf n (.ops ops.toList ops.toList :: k) st
    | .region id ops true => leaf (.code (.region id ops true) :: k) st
    | .cond c a b => (match st.ev c with
      | .one (.s (.b x)) => (x = true → run T pu fr N fin leaf n (.code a :: k) st) ∧ (x = false → run T pu fr N fin leaf n (.code b :: k) st)
      | _ => False)
    | .block id c => run T pu fr N fin leaf n (.code c :: .blk id :: k) st
    | .loop c => leaf (.code (.loop c) :: k) st
    | .exit id => (match popTo id k with
      | some k' => run T pu fr N fin leaf n k' st
      | none => False)
    | .ret => fin st
    | _ => False

theorem wpList_do {all : Array Oper} {Q : Exit → Act → World → Prop} {o : Oper} {r : List Oper} {a : Act} {w : World} (hw : Region.wanted o (yielded all a.tmps) = true) (h : o.wp P a w (wpList P all Q r) Q) : wpList P all Q (o :: r) a w := by
  unfold wpList
  rw [if_pos hw]
  exact .inl h
theorem wpList_skip {all : Array Oper} {Q : Exit → Act → World → Prop} {o : Oper} {r : List Oper} {a : Act} {w : World} (hw : Region.wanted o (yielded all a.tmps) = false) (h : wpList P all Q r (a.put o.dst undef) w) : wpList P all Q (o :: r) a w := by
  unfold wpList
  rw [if_neg (by rw [hw]; simp)]
  exact h
theorem guard_ok {st : St} {all : List Oper} {o : Oper} {go skip : St → Prop} {a : Act} {w : World} (h : guardOf st all o go skip) (hh : Holds E N st a w) :
    (Region.wanted o (yielded all.toArray a.tmps) = true ∧ ∃ st', go st' ∧ Holds E N st' a w) ∨ (Region.wanted o (yielded all.toArray a.tmps) = false ∧ ∃ st', skip st' ∧ Holds E N st' a w) := by
  unfold guardOf at h
  split at h
  · rename_i hg
    exact .inl ⟨by simp [Region.wanted, hg], st, h, hh⟩
  · rename_i g b hg
    split at h
    · exact h.elim
    · rename_i og hog
      split at h
      · exact h.elim
      · rename_i d hd
        obtain ⟨ℓ, h1, h2, h3, h4⟩ := hh
        have hy : yielded all.toArray a.tmps g = match a.tmps[d]? with | some (.bool b) => some b | _ => none := by
          unfold yielded
          rw [show (all.toArray[g]?).bind (·.dst) = some d by simp [hog, hd]]
          rfl
        split at h
        · rename_i c hc
          have hv := h1 d
          rw [hc] at hv
          have hv' : a.tmps.getD d undef = .bool c := hv
          have hlt : d < a.tmps.size := by
            rcases Nat.lt_or_ge d a.tmps.size with hx | hx
            · exact hx
            · rw [Array.getD_eq_getD_getElem?, Array.getElem?_eq_none hx] at hv'; simp [undef] at hv'
          have hq : a.tmps[d]? = some (.bool c) := by
            rw [Array.getD_eq_getD_getElem?, Array.getElem?_eq_getElem hlt] at hv'
            rw [Array.getElem?_eq_getElem hlt]
            simpa using hv'
          rw [hq] at hy
          have same : ∀ (b' : Bool), c = b' → Holds E N (st.put (some d) (one (.b b'))) a w := by
            rintro b' rfl
            refine ⟨ℓ, fun t => ?_, h2, h3, h4⟩
            show DenV ℓ (if t = d then one (.b c) else look st.sl t) _
            split
            · rename_i ht; subst ht; exact hv'
            · exact h1 t
          by_cases hcb : c = b
          · exact .inl ⟨by simp [Region.wanted, hg, hy, hcb], _, h.1 hcb, same b hcb⟩
          · have hcb' : c = !b := by cases c <;> cases b <;> simp_all
            exact .inr ⟨by simp [Region.wanted, hg, hy, hcb'], _, h.2 hcb', same _ hcb'⟩
        · rename_i hc
          have hv := h1 d
          rw [hc] at hv
          obtain ⟨vs, hv, hvs⟩ := hv
          refine .inr ⟨?_, st, h, ⟨ℓ, h1, h2, h3, h4⟩⟩
          cases vs with
          | cons => exact hvs.elim
          | nil =>
            have : yielded all.toArray a.tmps g = none := by
              rw [hy]
              rw [Array.getD_eq_getD_getElem?] at hv
              cases hq : a.tmps[d]? with
              | none => rfl
              | some x => rw [hq] at hv; simp at hv; subst hv; rfl
            simp [Region.wanted, hg, this]
        · exact h.elim
theorem addE_len (m : Mem) (eo : Option Ent) : addE m m.length eo = match eo with | none => m | some e => m ++ [.ent e] := by
  cases eo with
  | none => rfl
  | some e => exact fill_len m e
theorem step1_ok {T : Tab} {pu : Pure} {fr : Nat → Bool} (hT : TabOK P T) (hpu : PureOK P pu) (hfr : ∀ id, fr id = true → E.anc id = none) {o : Oper} {st : St} {leaf K : St → Prop} {a : Act} {w : World} {next : Act → World → Prop} {Q : Exit → Act → World → Prop} {Z : Prop}
    (hh : Holds E N st a w) (hdo : o.wp P a w next Q → Z) (hleaf : ∀ st, leaf st → Holds E N st a w → Z) (hK : ∀ st' a' w', K st' → Holds E N st' a' w' → next a' w') (h : step1 T pu fr N o st leaf K) : Z := by
  obtain ⟨ℓ, h1, h2, h3, h4⟩ := hh
  have hev := fun x => ev_den (ℓ := ℓ) (st := st) (a := a) h1 x
  have fin : ∀ {ℓ' : Nat → Option Loc} {sv : SV} {v : Value} {st1 : St} {w' : World}, (∀ t, DenV ℓ' (look st1.sl t) (a.tmps.getD t undef)) → MH E ℓ' st1.m w' → DenV ℓ' sv v → okd N o.dst → K (st1.put o.dst sv) → next (a.put o.dst v) w' := by
    intro ℓ' sv v st1 w' g1 g2 g3 g4 g5
    obtain ⟨p1, p2, p3⟩ := put_den g1 (by rw [h4]; exact g4) g3
    refine hK _ _ _ g5 ⟨ℓ', p1, ?_, p2.trans h3, p3.trans h4⟩
    cases hd : o.dst <;> exact g2
  have gen : est T pu st.m st.m.length st.ev o (fun v eo => okd N o.dst ∧ K ((st.add eo).put o.dst v)) → Z := by
    intro h
    refine hdo ?_
    refine est_ok hT hpu h2 (.inl rfl) hev h next Q ?_
    rintro v w' ⟨sv, eo, ℓ', ⟨hod, hK'⟩, hle, hm', hd⟩
    rw [addE_len] at hm'
    refine fin (st1 := st.add eo) (fun t => ?_) ?_ hd hod hK'
    · have : (st.add eo).sl = st.sl := by cases eo <;> rfl
      rw [this]; exact (h1 t).mono hle
    · cases eo <;> exact hm'
  unfold step1 at h
  split at h
  · rename_i t x y hop
    obtain ⟨m', w', hr, hm', hod, hK'⟩ := stStore_ok hT h2 (hev x) (hev y) h
    refine hdo ?_
    unfold Oper.wp
    have : (execOp a.eval o).run P w = .ok .skip w' := by
      simp only [execOp, hop, Sem.run_bind, hr, Result.andThen_ok, Sem.run_pure]
    rw [this]
    exact fin (st1 := ⟨st.sl, m'⟩) (sv := .tup []) (v := undef) h1 hm' ⟨[], rfl, trivial⟩ hod hK'
  · rename_i c hop
    split at h
    · rename_i hcal
      split at h
      · rename_i s x ts tx hargs htys
        obtain ⟨sv, ko, m', v, w', ℓ', hr, ⟨hod, hK'⟩, hm', hd, hko⟩ := stAppend_ok (ty0 := o.type) hT hfr h2 (.inl rfl) (hev s) (hev x) h
        refine hdo ?_
        have ha : c.args = #[s, x] := by apply Array.ext'; simpa using hargs
        have ht : c.argTypes = #[ts, tx] := by apply Array.ext'; simpa using htys
        unfold Oper.wp
        have : (execOp a.eval o).run P w = .ok (.value v) w' := by
          simp [execOp, hop, resolve, hcal, ha, ht, invoke, builtin, hr]
        rw [this]
        refine fin (st1 := st.upd ko m') ?_ ?_ hd hod hK'
        · cases ko with
          | none => exact fun t => (h1 t).mono hko
          | some id =>
            intro t
            show DenV ℓ' (look (killSl id st.sl) t) _
            rw [look_kill]
            exact killV_den hko (h1 t)
        · cases ko <;> exact hm'
      · exact h.elim
    · rename_i hcal
      split at h
      · rename_i d s td ts hargs htys
        obtain ⟨sv, m', v, w', hr, ⟨hod, hK'⟩, hm', hd⟩ := stCopy_ok (ts := ts) (ty0 := o.type) hT h2 (hev d) (hev s) h
        refine hdo ?_
        have ha : c.args = #[d, s] := by apply Array.ext'; simpa using hargs
        have ht : c.argTypes = #[td, ts] := by apply Array.ext'; simpa using htys
        unfold Oper.wp
        have : (execOp a.eval o).run P w = .ok (.value v) w' := by
          simp [execOp, hop, resolve, hcal, ha, ht, invoke, builtin, hr]
        rw [this]
        exact fin (st1 := ⟨st.sl, m'⟩) h1 hm' hd hod hK'
      · exact h.elim
    · rename_i f hcal
      split at h
      · rename_i v hpv
        refine gen ?_
        unfold est
        simp only [hop, hcal, hpv]
        exact h
      · exact hleaf st h ⟨ℓ, h1, h2, h3, h4⟩
    · exact hleaf st h ⟨ℓ, h1, h2, h3, h4⟩
    · exact hleaf st h ⟨ℓ, h1, h2, h3, h4⟩
    · exact gen h
  · exact gen h

theorem run_ok {T : Tab} {pu : Pure} {fr : Nat → Bool} (hT : TabOK P T) (hpu : PureOK P pu) (hfr : ∀ id, fr id = true → E.anc id = none) {fin : St → Prop} {leaf : List Item → St → Prop} {Q0 : Exit → Act → World → Prop}
    (hfin : ∀ st a w, fin st → Holds E N st a w → Q0 .normal a w ∧ Q0 .ret a w) (hleaf : ∀ k st, leaf k st → Ok P E N Q0 k st) :
    ∀ (n : Nat) (k : List Item) (st : St), run T pu fr N fin leaf n k st → Ok P E N Q0 k st := by
  intro n
  induction n with
  | zero => intro k st h; exact hleaf k st h
  | succ n ih =>
    intro k st h a w hh
    match k, h with
    | [], h => exact (hfin st a w h hh).1
    | .blk id :: k, h => exact ih k st h a w hh
    | .back I :: k, h => exact ⟨st, h, hh⟩
    | .ops all [] :: k, h => exact ih k st h a w hh
    | .ops all (o :: r) :: k, h =>
      show wpList P all.toArray (semK P E N Q0 k) (o :: r) a w
      rcases guard_ok h hh with ⟨hw, st', hgo, hh'⟩ | ⟨hw, st', ⟨hod, hsk⟩, hh'⟩
      · exact step1_ok (next := wpList P all.toArray (semK P E N Q0 k) r) (Q := semK P E N Q0 k) hT hpu hfr hh' (fun hx => wpList_do hw hx) (fun st2 hl hh2 => hleaf (.ops all (o :: r) :: k) st2 hl a w hh2) (fun st2 a' w' hK hh2 => ih (.ops all r :: k) st2 hK a' w' hh2) hgo
      · obtain ⟨ℓ, h1, h2, h3, h4⟩ := hh'
        obtain ⟨p1, p2, p3⟩ := put_den (d := o.dst) (sv := .tup []) (v := undef) h1 (by rw [h4]; exact hod) ⟨[], rfl, trivial⟩
        refine wpList_skip hw (ih _ _ hsk _ w ⟨ℓ, p1, ?_, p2.trans h3, p3.trans h4⟩)
        cases hd : o.dst <;> exact h2
    | .code c :: k, h =>
      show c.wp P (semK P E N Q0 k) a w
      cases c with
      | skip => exact wp_skip (ih k st h a w hh)
      | seq x y => exact wp_seq (ih _ st h a w hh)
      | region id ops d =>
        cases d with
        | false =>
          have := ih _ st h a w hh
          exact wp_region_list (by simpa [semK, Exit.then] using this)
        | true => exact hleaf _ st h a w hh
      | cond c x y =>
        simp only [run] at h
        split at h
        · rename_i b hb
          obtain ⟨ℓ, h1, h2, h3, h4⟩ := hh
          have hv := ev_den (ℓ := ℓ) (st := st) (a := a) h1 c
          rw [hb] at hv
          refine wp_cond_split (t := b) hv (fun hbt => ih _ st (h.1 hbt) a w ⟨ℓ, h1, h2, h3, h4⟩) (fun hbf => ih _ st (h.2 hbf) a w ⟨ℓ, h1, h2, h3, h4⟩)
        · exact h.elim
      | block id c => exact wp_block (ih _ st h a w hh)
      | loop c => exact hleaf _ st h a w hh
      | exit id =>
        simp only [run] at h
        split at h
        · rename_i k' hk'
          exact wp_exit (semK_exit k k' a w hk' (ih k' st h a w hh))
        · exact h.elim
      | ret => exact wp_ret (by rw [semK_ret]; exact (hfin st a w h hh).2)
      | _ => exact h.elim
end
end Go.V
end
section
set_option linter.unusedSimpArgs false
set_option linter.unusedVariables false
namespace Go.V
open Go

/-! what a state entails -/
def belS (n : Nat) : S → Bool
  | .ptr i _ _ => i < n
  | .sl i _ _ _ _ => i < n
  | .slq i _ _ _ => i < n
  | .fn _ caps => caps.all (fun i => decide (i < n))
  | .ifc _ x => belS n x
  | .ifa _ x => belS n x
  | _ => true
def belR (n : Nat) : R → Bool
  | .s x => belS n x
  | .agg l => l.all (belS n)
  | _ => true
def belA (n : Nat) : A → Bool
  | .s x => belS n x
  | .agg l => l.all (belS n)
  | .st l => l.all (fun g => belR n g.r)
  | _ => true
def belV (n : Nat) : SV → Bool
  | .one a => belA n a
  | .tup l => l.all (belA n)
def belSl (n : Nat) : Slots → Bool
  | [] => true
  | (_, v) :: r => belV n v && belSl n r
def belM (n : Nat) : Mem → Bool
  | [] => true
  | .ent e :: r => belA n e.c && belM n r
  | _ :: r => belM n r
def entSl : Slots → St → Prop
  | [], _ => True
  | (t, v) :: r, s => look s.sl t = v ∧ entSl r s
def entM : Mem → Mem → Prop
  | [], _ => True
  | .gone :: r, _ :: s => entM r s
  | .ent e :: r, .ent e' :: s => (e'.own = e.own ∧ e'.ty = e.ty ∧ e'.fix = e.fix ∧ e'.c = e.c) ∧ entM r s
  | _, _ => False
/-- Whatever runs as 's' says runs as 't' says. -/
def Ent2 (s t : St) : Prop := entSl t.sl s ∧ entM t.m s.m ∧ belSl t.m.length t.sl = true ∧ belM t.m.length t.m = true

section
variable {P : Program} {E : Env} {N : Nat}
def cutL (n : Nat) (ℓ : Nat → Option Loc) : Nat → Option Loc := fun i => if i < n then ℓ i else none
section
variable {ℓ ℓ' : Nat → Option Loc} {n : Nat}
def Agree (n : Nat) (ℓ ℓ' : Nat → Option Loc) : Prop := ∀ i, i < n → ℓ' i = ℓ i
theorem belS_den (hb : Agree n ℓ ℓ') : ∀ {x : S} {v : Value}, belS n x = true → DenS ℓ x v → DenS ℓ' x v := by
  intro x
  induction x with
  | ptr i b o => rintro v h ⟨L, h1, h2⟩; exact ⟨L, by rw [hb i (by simpa [belS] using h)]; exact h1, h2⟩
  | sl i o l c e => rintro v h ⟨L, h1, h2⟩; exact ⟨L, by rw [hb i (by simpa [belS] using h)]; exact h1, h2⟩
  | slq i o l e => rintro v h ⟨L, h1, h2⟩; exact ⟨L, by rw [hb i (by simpa [belS] using h)]; exact h1, h2⟩
  | fn f caps =>
    rintro v h ⟨Ls, h1, h2⟩
    refine ⟨Ls, ?_, h2⟩
    rw [h1]
    apply List.map_congr_left
    intro i hi
    simp only [belS, List.all_eq_true, decide_eq_true_eq] at h
    exact (hb i (h i hi)).symm
  | ifc t x ih => rintro v h ⟨u, h1, h2⟩; exact ⟨u, h1, ih h h2⟩
  | ifa t x ih => rintro v h ⟨u, h1, h2⟩; exact ⟨u, h1, ih h h2⟩
  | any => intro v _ _; trivial
  | _ => intro v _ h; exact h
theorem belL_den (hb : Agree n ℓ ℓ') : ∀ {xs : List S} {vs : List Value}, (∀ x ∈ xs, belS n x = true) → DenL ℓ xs vs → DenL ℓ' xs vs
  | [], [], _, _ => trivial
  | x :: xs, v :: vs, h, ⟨h1, h2⟩ => ⟨belS_den hb (h x (by simp)) h1, belL_den hb (fun y hy => h y (by simp [hy])) h2⟩
theorem belR_cells {r : R} (h : belR n r = true) : ∀ x ∈ r.cells, belS n x = true := by
  cases r with
  | s x => intro y hy; simp [R.cells] at hy; subst hy; exact h
  | agg l => simpa [belR, R.cells] using h
  | _ => intro y hy; simp only [R.cells, List.mem_map] at hy; obtain ⟨z, _, rfl⟩ := hy; rfl
theorem belSeg_cells : ∀ {l : List Seg}, l.all (fun g => belR n g.r) = true → ∀ x ∈ segCells l, belS n x = true
  | [], _, x, hx => by cases hx
  | g :: l, h, x, hx => by
    simp only [List.all_cons, Bool.and_eq_true] at h
    simp only [segCells, List.mem_append] at hx
    exact hx.elim (belR_cells h.1 x) (belSeg_cells h.2 x)
theorem belA_cells {a : A} (h : belA n a = true) : ∀ x ∈ a.cells, belS n x = true := by
  cases a with
  | s x => intro y hy; simp [A.cells] at hy; subst hy; exact h
  | agg l => simpa [belA, A.cells] using h
  | st l => exact belSeg_cells h
  | _ => intro y hy; simp only [A.cells, List.mem_map] at hy; obtain ⟨z, _, rfl⟩ := hy; rfl
theorem belA_den (hb : Agree n ℓ ℓ') {a : A} {v : Value} (h : belA n a = true) (hd : DenA ℓ a v) : DenA ℓ' a v := by
  cases a with
  | s x => exact belS_den hb h hd
  | _ => obtain ⟨h0, vs, h1, h2⟩ := hd; exact ⟨h0, vs, h1, belL_den hb (belA_cells h) h2⟩
theorem belT_den (hb : Agree n ℓ ℓ') : ∀ {xs : List A} {vs : List Value}, xs.all (belA n) = true → DenT ℓ xs vs → DenT ℓ' xs vs
  | [], [], _, _ => trivial
  | x :: xs, v :: vs, h, ⟨h1, h2⟩ => by
    simp only [List.all_cons, Bool.and_eq_true] at h
    exact ⟨belA_den hb h.1 h1, belT_den hb h.2 h2⟩
theorem belV_den (hb : Agree n ℓ ℓ') {x : SV} {v : Value} (h : belV n x = true) (hd : DenV ℓ x v) : DenV ℓ' x v := by
  cases x with
  | one a => exact belA_den hb h hd
  | tup l => obtain ⟨vs, h1, h2⟩ := hd; exact ⟨vs, h1, belT_den hb h h2⟩
theorem belE_ok (hb : Agree n ℓ ℓ') {w : World} {L : Loc} {e : Ent} (h : belA n e.c = true) (hE : EntOK ℓ w L e) : EntOK ℓ' w L e := by
  obtain ⟨h0, hE⟩ := hE
  refine ⟨h0, ?_⟩
  split at hE
  · rename_i ho
    rw [if_pos ho]
    obtain ⟨a, b, c⟩ := hE
    refine ⟨a, b, fun h1 => ?_⟩
    obtain ⟨cs, fr, vs, rest, c1, c2, c3, c4, c5⟩ := c h1
    exact ⟨cs, fr, vs, rest, c1, c2, c3, c4, belL_den hb (belA_cells h) c5⟩
  · rename_i ho
    rw [if_neg ho]
    obtain ⟨vs, a, b⟩ := hE
    exact ⟨vs, belL_den hb (belA_cells h) a, b⟩
end
theorem look_bel {n : Nat} : ∀ {sl : Slots}, belSl n sl = true → ∀ t, belV n (look sl t) = true
  | [], _, t => rfl
  | (k, v) :: r, h, t => by
    simp only [belSl, Bool.and_eq_true] at h
    simp only [look]
    split
    · exact h.1
    · exact look_bel h.2 t
theorem belM_get {n : Nat} : ∀ {m : Mem}, belM n m = true → ∀ {i : Nat} {e : Ent}, m[i]? = some (.ent e) → belA n e.c = true
  | [], _, i, e, h => by simp at h
  | x :: m, hb, 0, e, h => by
    simp at h; subst h
    simp only [belM, Bool.and_eq_true] at hb
    exact hb.1
  | x :: m, hb, i + 1, e, h => by
    have : belM n m = true := by
      cases x <;> simp only [belM, Bool.and_eq_true] at hb <;> first | exact hb | exact hb.2
    exact belM_get this (by simpa using h)
theorem entSl_look {s : St} : ∀ {sl : Slots}, entSl sl s → ∀ t, (∃ v, (t, v) ∈ sl) → look sl t = look s.sl t ∨ False := by
  intro sl
  induction sl with
  | nil => rintro _ t ⟨v, h⟩; cases h
  | cons p r ih =>
    obtain ⟨k, v⟩ := p
    rintro ⟨h1, h2⟩ t ⟨u, hu⟩
    simp only [look]
    split
    · rename_i ht; subst ht; exact .inl h1.symm
    · rename_i ht
      refine ih h2 t ⟨u, ?_⟩
      cases hu with
      | head => exact absurd rfl ht
      | tail _ h => exact h
theorem look_none : ∀ {sl : Slots} {t : Nat}, (¬ ∃ v, (t, v) ∈ sl) → look sl t = one .any
  | [], t, _ => rfl
  | (k, v) :: r, t, h => by
    simp only [look]
    rw [if_neg (fun e => h ⟨v, by rw [e]; simp⟩)]
    exact look_none (fun ⟨u, hu⟩ => h ⟨u, by simp [hu]⟩)
theorem entM_get : ∀ {m m' : Mem}, entM m m' → m.length ≤ m'.length ∧ ∀ (i : Nat) (x : Mk), m[i]? = some x → x = .gone ∨ m'[i]? = some x
  | [], m', _ => ⟨by simp, fun i x h => by simp at h⟩
  | .gone :: r, y :: s, h => by
    obtain ⟨h1, h2⟩ := entM_get (m := r) (m' := s) h
    refine ⟨by simpa using h1, fun i x hx => ?_⟩
    cases i with
    | zero => simp at hx; exact .inl hx.symm
    | succ i => simpa using h2 i x (by simpa using hx)
  | .ent e :: r, .ent e' :: s, ⟨h0, h⟩ => by
    obtain ⟨h1, h2⟩ := entM_get (m := r) (m' := s) h
    refine ⟨by simpa using h1, fun i x hx => ?_⟩
    cases i with
    | zero =>
      simp at hx; subst hx
      refine .inr ?_
      obtain ⟨a, b, c, d⟩ := h0
      cases e; cases e'
      simp at a b c d
      subst a b c d; rfl
    | succ i => simpa using h2 i x (by simpa using hx)
  | .gone :: _, [], h => h.elim
  | .hole :: _, _, h => by cases ‹Mem› <;> exact h.elim
  | .ent _ :: _, [], h => h.elim
  | .ent _ :: _, .gone :: _, h => h.elim
  | .ent _ :: _, .hole :: _, h => h.elim
theorem holds_ent {s t : St} {a : Act} {w : World} (hanc : ∀ i L, E.anc i = some L → i < t.m.length) (hh : Holds E N s a w) (h : Ent2 s t) : Holds E N t a w := by
  obtain ⟨ℓ, h1, h2, h3, h4⟩ := hh
  obtain ⟨e1, e2, e3, e4⟩ := h
  obtain ⟨hl, hm⟩ := entM_get e2
  have hag : Agree t.m.length ℓ (cutL t.m.length ℓ) := fun i hi => by simp [cutL, hi]
  have he : ∀ {i : Nat} {e : Ent}, t.m[i]? = some (.ent e) → s.m[i]? = some (.ent e) := fun hi => (hm _ _ hi).resolve_left (by simp)
  have hlt : ∀ {i : Nat} {x : Mk}, t.m[i]? = some x → i < t.m.length := fun hi => (List.getElem?_eq_some_iff.1 hi).1
  refine ⟨cutL t.m.length ℓ, fun u => ?_, ?_, h3, h4⟩
  · by_cases hu : ∃ v, (u, v) ∈ t.sl
    · have hq := (entSl_look e1 u hu).resolve_right id
      refine belV_den hag (look_bel e3 u) ?_
      rw [hq]; exact h1 u
    · rw [look_none hu]; trivial
  · refine ⟨h2.os, h2.tape, h2.output, h2.size, h2.keep, fun i L hL => ?_, ?_, ?_, ?_⟩
    · rw [hag i (hanc i L hL)]; exact h2.anch i L hL
    · intro i hi
      unfold cutL
      split
      · rename_i hlt
        rcases hi with hi | hi
        · omega
        · exact h2.dom i (.inr ((hm _ _ hi).resolve_left (by simp)))
      · rfl
    · intro id e hid
      obtain ⟨L, g1, g2, g3⟩ := h2.ent id e (he hid)
      exact ⟨L, by rw [hag id (hlt hid)]; exact g1, belE_ok hag (belM_get e4 hid) g2, g3⟩
    · intro i j ei ej Li Lj hi hj hLi hLj
      rw [hag i (hlt hi)] at hLi
      rw [hag j (hlt hj)] at hLj
      exact h2.apart i j ei ej Li Lj (he hi) (he hj) hLi hLj

/-! loops -/
theorem ok_loop {Q0 : Exit → Act → World → Prop} {X : Type} (S : X → St) (G : X → Prop) (μ : X → Nat) {c : Code} {k : List Item} {st : St}
    (hanc : ∀ x i L, E.anc i = some L → i < (S x).m.length)
    (h0 : ∃ x, G x ∧ Ent2 st (S x))
    (hr : ∀ x, G x → Ok P E N Q0 (.code c :: .back (fun s => ∃ x', G x' ∧ μ x' < μ x ∧ Ent2 s (S x')) :: k) (S x)) : Ok P E N Q0 (.code (.loop c) :: k) st := by
  intro a w hh
  obtain ⟨x0, hG0, hE0⟩ := h0
  have key : ∀ (n : Nat) (x : X) (a : Act) (w : World), μ x < n → G x → Holds E N (S x) a w → Code.rounds P c (semK P E N Q0 k) n a w := by
    intro n
    induction n with
    | zero => intro x a w h; omega
    | succ n ih =>
      intro x a w hlt hG hh
      refine wp_mono (hr x hG a w hh) ?_
      intro e a' w' hq
      cases e with
      | normal =>
        obtain ⟨s, ⟨x', g1, g2, g3⟩, hh'⟩ := hq
        exact ih x' a' w' (by omega) g1 (holds_ent (hanc x') hh' g3)
      | _ => exact hq
  exact wp_loop_rounds (μ x0 + 1) (key _ x0 a w (Nat.lt_succ_self _) hG0 (holds_ent (hanc x0) hh hE0))
/-- Two ways that meet again. -/
theorem ok_join {Q0 : Exit → Act → World → Prop} {X : Type} (S : X → St) (G : X → Prop) {c : Code} {k : List Item} {st : St}
    (hanc : ∀ x i L, E.anc i = some L → i < (S x).m.length)
    (h : Ok P E N Q0 (.code c :: .back (fun s => ∃ x, G x ∧ Ent2 s (S x)) :: k) st) (h2 : ∀ x, G x → Ok P E N Q0 k (S x)) : Ok P E N Q0 (.code c :: k) st := by
  intro a w hh
  refine wp_mono (h a w hh) ?_
  intro e a' w' hq
  cases e with
  | normal =>
    obtain ⟨s, ⟨x, g1, g2⟩, hh'⟩ := hq
    exact h2 x g1 a' w' (holds_ent (hanc x) hh' g2)
  | _ => exact hq
/-- One may forget, and cut back what is known. -/
theorem ok_weaken {Q0 : Exit → Act → World → Prop} {k : List Item} {st t : St} (hanc : ∀ i L, E.anc i = some L → i < t.m.length) (h : Ent2 st t) (ht : Ok P E N Q0 k t) : Ok P E N Q0 k st :=
  fun a w hh => ht a w (holds_ent hanc hh h)
/-- A nil slice in a slot may be taken for an empty one of our own. -/
theorem ok_blank {Q0 : Exit → Act → World → Prop} {k : List Item} {st : St} (t : Nat) (ty : TypeId) (es : Nat) (a : A) (hl : a.len = 0) (hok : a.OK) (hs : look st.sl t = one .snil)
    (h : Ok P E N Q0 k ⟨(t, one (.sl st.m.length 0 0 0 es)) :: st.sl, st.m ++ [.ent ⟨true, ty, none, a⟩]⟩) : Ok P E N Q0 k st := by
  intro b w hh
  obtain ⟨ℓ, h1, h2, h3, h4⟩ := hh
  have hf : Fresh st.m st.m.length := .inl rfl
  have hle := h2.le_upd hf ⟨E.w0.heap.size, 0, 0⟩
  have hb := h2.blank hf (ty := ty) hl hok
  rw [fill_len] at hb
  refine h b w ⟨upd ℓ st.m.length ⟨E.w0.heap.size, 0, 0⟩, fun u => ?_, hb, h3, h4⟩
  show DenV _ (if u = t then _ else look st.sl u) _
  split
  · rename_i hu; subst hu
    have hv := h1 u
    rw [hs] at hv
    have hv' : b.tmps.getD u undef = .slice none 0 0 := hv
    rw [hv']
    exact ⟨⟨E.w0.heap.size, 0, 0⟩, by simp [upd], Nat.le_refl _, .inl ⟨rfl, none, rfl⟩⟩
  · exact (h1 u).mono hle
end
end Go.V
end
section
set_option linter.unusedSimpArgs false
set_option linter.unusedVariables false
namespace Go.V
open Go

/-! ids put otherwise -/
def renS (ρ : Nat → Nat) : S → S
  | .ptr i b o => .ptr (ρ i) b o
  | .sl i o l c e => .sl (ρ i) o l c e
  | .slq i o l e => .slq (ρ i) o l e
  | .fn f caps => .fn f (caps.map ρ)
  | .ifc t x => .ifc t (renS ρ x)
  | .ifa t x => .ifa t (renS ρ x)
  | x => x
def renR (ρ : Nat → Nat) : R → R
  | .s x => .s (renS ρ x)
  | .agg l => .agg (l.map (renS ρ))
  | r => r
def renSeg (ρ : Nat → Nat) (g : Seg) : Seg := ⟨g.n, renR ρ g.r⟩
def renA (ρ : Nat → Nat) : A → A
  | .s x => .s (renS ρ x)
  | .agg l => .agg (l.map (renS ρ))
  | .st l => .st (l.map (renSeg ρ))
  | a => a
def renV (ρ : Nat → Nat) : SV → SV
  | .one a => .one (renA ρ a)
  | .tup l => .tup (l.map (renA ρ))
def renMk (ρ : Nat → Nat) : Mk → Mk
  | .ent e => .ent { e with c := renA ρ e.c }
  | x => x
section
variable {ℓ ℓ' : Nat → Option Loc} {ρ : Nat → Nat}
/-- Places carried over. -/
def Via (ρ : Nat → Nat) (ℓ ℓ' : Nat → Option Loc) : Prop := ∀ (i : Nat) (L : Loc), ℓ i = some L → ℓ' (ρ i) = some L
theorem renS_den (h : Via ρ ℓ ℓ') : ∀ {x : S} {v : Value}, DenS ℓ x v → DenS ℓ' (renS ρ x) v := by
  intro x
  induction x with
  | ptr i b o => rintro v ⟨L, h1, h2⟩; exact ⟨L, h i L h1, h2⟩
  | sl i o l c e => rintro v ⟨L, h1, h2⟩; exact ⟨L, h i L h1, h2⟩
  | slq i o l e => rintro v ⟨L, h1, h2⟩; exact ⟨L, h i L h1, h2⟩
  | fn f caps =>
    rintro v ⟨Ls, h1, h2⟩
    refine ⟨Ls, ?_, h2⟩
    clear h2
    induction caps generalizing Ls with
    | nil => simpa using h1
    | cons c cs ih =>
      cases Ls with
      | nil => simp at h1
      | cons L Ls =>
        simp only [List.map_cons, List.cons.injEq] at h1 ⊢
        exact ⟨(h _ _ h1.1.symm).symm, ih Ls h1.2⟩
  | ifc t x ih => rintro v ⟨u, h1, h2⟩; exact ⟨u, h1, ih h2⟩
  | ifa t x ih => rintro v ⟨u, h1, h2⟩; exact ⟨u, h1, ih h2⟩
  | any => intro v h; trivial
  | _ => intro v h; exact h
/-- The way back: ids below k lie where they were sent. -/
theorem renS_back {k : Nat} (h : ∀ i, i < k → ℓ i = ℓ' (ρ i)) : ∀ {x : S} {v : Value}, belS k x = true → DenS ℓ' (renS ρ x) v → DenS ℓ x v := by
  intro x
  induction x with
  | ptr i b o => rintro v hb ⟨L, h1, h2⟩; exact ⟨L, by rw [h i (by simpa [belS] using hb)]; exact h1, h2⟩
  | sl i o l c e => rintro v hb ⟨L, h1, h2⟩; exact ⟨L, by rw [h i (by simpa [belS] using hb)]; exact h1, h2⟩
  | slq i o l e => rintro v hb ⟨L, h1, h2⟩; exact ⟨L, by rw [h i (by simpa [belS] using hb)]; exact h1, h2⟩
  | fn f caps =>
    rintro v hb ⟨Ls, h1, h2⟩
    refine ⟨Ls, ?_, h2⟩
    rw [h1, List.map_map]
    apply List.map_congr_left
    intro i hi
    simp only [belS, List.all_eq_true, decide_eq_true_eq] at hb
    exact (h i (hb i hi)).symm
  | ifc t x ih => rintro v hb ⟨u, h1, h2⟩; exact ⟨u, h1, ih hb h2⟩
  | ifa t x ih => rintro v hb ⟨u, h1, h2⟩; exact ⟨u, h1, ih hb h2⟩
  | any => intro v _ _; trivial
  | _ => intro v _ h; exact h
theorem renL_den (h : Via ρ ℓ ℓ') : ∀ {xs : List S} {vs : List Value}, DenL ℓ xs vs → DenL ℓ' (xs.map (renS ρ)) vs
  | [], [], _ => trivial
  | _ :: _, _ :: _, ⟨h1, h2⟩ => ⟨renS_den h h1, renL_den h h2⟩
theorem renL_back {k : Nat} (h : ∀ i, i < k → ℓ i = ℓ' (ρ i)) : ∀ {xs : List S} {vs : List Value}, (∀ x ∈ xs, belS k x = true) → DenL ℓ' (xs.map (renS ρ)) vs → DenL ℓ xs vs
  | [], [], _, _ => trivial
  | x :: xs, v :: vs, hb, ⟨h1, h2⟩ => ⟨renS_back h (hb x (by simp)) h1, renL_back h (fun y hy => hb y (by simp [hy])) h2⟩
theorem renR_cells (ρ : Nat → Nat) (r : R) : (renR ρ r).cells = r.cells.map (renS ρ) ∧ (renR ρ r).len = r.len := by
  cases r with
  | s x => exact ⟨rfl, rfl⟩
  | agg l => exact ⟨rfl, by simp [renR, R.len]⟩
  | _ => exact ⟨by simp only [renR, R.cells]; rw [List.map_map]; rfl, rfl⟩
theorem renSeg_cells (ρ : Nat → Nat) : ∀ (l : List Seg), segCells (l.map (renSeg ρ)) = (segCells l).map (renS ρ) ∧ segLen (l.map (renSeg ρ)) = segLen l ∧ (SegOK (l.map (renSeg ρ)) ↔ SegOK l)
  | [] => ⟨rfl, rfl, Iff.rfl⟩
  | g :: l => by
    obtain ⟨h1, h2, h3⟩ := renSeg_cells ρ l
    refine ⟨?_, ?_, ?_⟩
    · simp [segCells, h1, renSeg, (renR_cells ρ g.r).1]
    · simp [segLen, h2, renSeg]
    · simp only [List.map_cons, SegOK, h3, renSeg, (renR_cells ρ g.r).2]
theorem renA_cells (ρ : Nat → Nat) (a : A) : (renA ρ a).cells = a.cells.map (renS ρ) ∧ (renA ρ a).len = a.len ∧ ((renA ρ a).OK ↔ a.OK) := by
  cases a with
  | st l => exact renSeg_cells ρ l
  | s x => exact ⟨rfl, rfl, Iff.rfl⟩
  | agg l => exact ⟨rfl, by simp [renA, A.len], Iff.rfl⟩
  | _ => exact ⟨by simp only [renA, A.cells]; rw [List.map_map]; rfl, rfl, Iff.rfl⟩
theorem renA_den (h : Via ρ ℓ ℓ') {a : A} {v : Value} (hd : DenA ℓ a v) : DenA ℓ' (renA ρ a) v := by
  cases a with
  | s x => exact renS_den h hd
  | _ =>
    obtain ⟨hok, vs, h1, h2⟩ := hd
    exact ⟨(renA_cells ρ _).2.2.2 hok, vs, h1, by rw [(renA_cells ρ _).1]; exact renL_den h h2⟩
theorem renA_back {k : Nat} (h : ∀ i, i < k → ℓ i = ℓ' (ρ i)) {a : A} {v : Value} (hb : belA k a = true) (hd : DenA ℓ' (renA ρ a) v) : DenA ℓ a v := by
  cases a with
  | s x => exact renS_back h hb hd
  | _ =>
    obtain ⟨hok, vs, h1, h2⟩ := hd
    refine ⟨(renA_cells ρ _).2.2.1 hok, vs, h1, renL_back h (belA_cells hb) ?_⟩
    rw [← (renA_cells ρ _).1]; exact h2
theorem renT_den (h : Via ρ ℓ ℓ') : ∀ {xs : List A} {vs : List Value}, DenT ℓ xs vs → DenT ℓ' (xs.map (renA ρ)) vs
  | [], [], _ => trivial
  | _ :: _, _ :: _, ⟨h1, h2⟩ => ⟨renA_den h h1, renT_den h h2⟩
theorem renT_back {k : Nat} (h : ∀ i, i < k → ℓ i = ℓ' (ρ i)) : ∀ {xs : List A} {vs : List Value}, xs.all (belA k) = true → DenT ℓ' (xs.map (renA ρ)) vs → DenT ℓ xs vs
  | [], [], _, _ => trivial
  | x :: xs, v :: vs, hb, ⟨h1, h2⟩ => by
    simp only [List.all_cons, Bool.and_eq_true] at hb
    exact ⟨renA_back h hb.1 h1, renT_back h hb.2 h2⟩
theorem renV_den (h : Via ρ ℓ ℓ') {x : SV} {v : Value} (hd : DenV ℓ x v) : DenV ℓ' (renV ρ x) v := by
  cases x with
  | one a => exact renA_den h hd
  | tup l => obtain ⟨vs, h1, h2⟩ := hd; exact ⟨vs, h1, renT_den h h2⟩
theorem renV_back {k : Nat} (h : ∀ i, i < k → ℓ i = ℓ' (ρ i)) {x : SV} {v : Value} (hb : belV k x = true) (hd : DenV ℓ' (renV ρ x) v) : DenV ℓ x v := by
  cases x with
  | one a => exact renA_back h hb hd
  | tup l => obtain ⟨vs, h1, h2⟩ := hd; exact ⟨vs, h1, renT_back h hb h2⟩
theorem renVs_back {k : Nat} (h : ∀ i, i < k → ℓ i = ℓ' (ρ i)) : ∀ {xs : List SV} {vs : List Value}, xs.all (belV k) = true → DenVs ℓ' (xs.map (renV ρ)) vs → DenVs ℓ xs vs
  | [], [], _, _ => trivial
  | x :: xs, v :: vs, hb, ⟨h1, h2⟩ => by
    simp only [List.all_cons, Bool.and_eq_true] at hb
    exact ⟨renV_back h hb.1 h1, renVs_back h hb.2 h2⟩
theorem renE_ok (h : Via ρ ℓ ℓ') {w : World} {L : Loc} {e : Ent} (hE : EntOK ℓ w L e) : EntOK ℓ' w L { e with c := renA ρ e.c } := by
  obtain ⟨⟨hf, hok⟩, hE⟩ := hE
  obtain ⟨k1, k2, k3⟩ := renA_cells ρ e.c
  refine ⟨⟨fun n hn => k2.trans (hf n hn), k3.2 hok⟩, ?_⟩
  split at hE
  · rename_i ho
    rw [if_pos ho]
    obtain ⟨a, b, c⟩ := hE
    refine ⟨a, by show (renA ρ e.c).len ≤ L.lim; rw [k2]; exact b, fun h0 => ?_⟩
    obtain ⟨cs, fr, vs, rest, c1, c2, c3, c4, c5⟩ := c h0
    exact ⟨cs, fr, vs, rest, c1, c2, c3, c4, by show DenL ℓ' (renA ρ e.c).cells vs; rw [k1]; exact renL_den h c5⟩
  · rename_i ho
    rw [if_neg ho]
    obtain ⟨vs, a, b⟩ := hE
    exact ⟨vs, by show DenL ℓ' (renA ρ e.c).cells vs; rw [k1]; exact renL_den h a, b⟩
end

/-! contracts -/
def ownBlk (pre : Mem) (ℓ : Nat → Option Loc) (k : Nat) : Prop := ∃ id e L, pre[id]? = some (.ent e) ∧ e.own = true ∧ ℓ id = some L ∧ L.blk = k
def ancOf (n : Nat) (chg : List Nat) (ℓ : Nat → Option Loc) : Nat → Option Loc := fun i => if i < n ∧ i ∉ chg then ℓ i else none
/-- Beyond the first so many, all that is known is our own. -/
def extraOwn (n : Nat) (m : Mem) : Bool := (m.drop n).all fun x => match x with | .ent e => e.own | .gone => true | .hole => false
/-- What a call of a function does: handed such arguments, over such memory, it hands back such a value and leaves such memory. -/
def Spec (P : Program) (f : FuncId) (args : List SV) (pre : Mem) (chg : List Nat) (post : SV → Mem → Prop) : Prop :=
  ∀ (w : World) (ℓ : Nat → Option Loc) (vs : List Value), DenVs ℓ args vs → (∀ an, Le an ℓ → MH ⟨w, ownBlk pre ℓ, an⟩ ℓ pre w) →
    Calls P f vs.toArray w (fun e w' => ∃ sv m' ℓ' v, e = .returned v ∧ post sv m' ∧ pre.length ≤ m'.length ∧ extraOwn pre.length m' = true ∧ DenV ℓ' sv v ∧ MH ⟨w, ownBlk pre ℓ, ancOf pre.length chg ℓ⟩ ℓ' m' w')

section
variable {P : Program}
def argSl : Nat → List SV → Slots
  | _, [] => []
  | i, x :: r => (i, x) :: argSl (i + 1) r
theorem argSl_den {ℓ : Nat → Option Loc} : ∀ (i : Nat) (args : List SV) (vs : List Value) (t : Nat), DenVs ℓ args vs → (∀ j u, vs[j]? = some u → i + j = t → DenV ℓ (look (argSl i args) t) u) ∧ ((t < i ∨ i + vs.length ≤ t) → look (argSl i args) t = one .any)
  | i, [], [], t, _ => ⟨fun j u h => by simp at h, fun _ => rfl⟩
  | i, x :: args, v :: vs, t, ⟨h1, h2⟩ => by
    obtain ⟨g1, g2⟩ := argSl_den (i + 1) args vs t h2
    simp only [argSl, look]
    refine ⟨fun j u hj ht => ?_, fun h => ?_⟩
    · cases j with
      | zero => simp at hj; subst hj; rw [if_pos (by omega)]; exact h1
      | succ j => rw [if_neg (by omega)]; exact g1 j u (by simpa using hj) (by omega)
    · simp only [List.length_cons] at h
      rw [if_neg (by omega)]
      exact g2 (by omega)
/-- A body's results. -/
def resP (T : Tab) (st : St) : List ResultVar → (List A → Prop) → Prop
  | [], K => K []
  | .tmp t :: r, K => match look st.sl t with
    | .one a => resP T st r (fun l => K (a :: l))
    | _ => False
  | .cell p ty :: r, K => stLoad T st.m ty (look st.sl p) (fun v => match v with
    | .one a => resP T st r (fun l => K (a :: l))
    | _ => False)
def resV : List A → SV
  | [a] => .one a
  | l => .tup l
def resOne (tmps : Array Value) : ResultVar → Sem Value
  | .tmp t => pure (tmps.getD t undef)
  | .cell a t => do loadVar t (← asAddr (tmps.getD a undef))
theorem results_eq (fn : Func) (tmps : Array Value) : results fn tmps = (do let vs ← fn.results.mapM (resOne tmps); pure (if h : vs.size = 1 then vs[0] else .tuple vs)) := rfl
def finOf (T : Tab) (res : List ResultVar) (n0 : Nat) (post : SV → Mem → Prop) (st : St) : Prop :=
  resP T st res (fun l => post (resV l) st.m ∧ n0 ≤ st.m.length ∧ extraOwn n0 st.m = true)
/-- What is known in a body's run. -/
structure Body (P : Program) (E : Env) (N : Nat) (Q0 : Exit → Act → World → Prop) (fin : St → Prop) (fr : Nat → Bool) (n0 : Nat) : Prop where
  fin : ∀ st a w, fin st → Holds E N st a w → Q0 .normal a w ∧ Q0 .ret a w
  fr : ∀ id, fr id = true → E.anc id = none
  anc : ∀ i L, E.anc i = some L → i < n0
  pan : ∀ c a w, ¬ Q0 (.panic c) a w
theorem resP_run {T : Tab} (hT : TabOK P T) {E : Env} {ℓ : Nat → Option Loc} {st : St} {a : Act} {w : World} (h1 : ∀ t, DenV ℓ (look st.sl t) (a.tmps.getD t undef)) (h2 : MH E ℓ st.m w) :
    ∀ (res : List ResultVar) (K : List A → Prop), resP T st res K → ∃ l vs, (res.mapM (m := Sem) (resOne a.tmps)).run P w = .ok vs w ∧ DenT ℓ l vs ∧ K l
  | [], K, h => ⟨[], [], by simp, trivial, h⟩
  | .tmp t :: r, K, h => by
    unfold resP at h
    split at h
    · rename_i x hx
      obtain ⟨l, vs, e1, e2, e3⟩ := resP_run hT h1 h2 r _ h
      refine ⟨x :: l, a.tmps.getD t undef :: vs, ?_, ⟨by have := h1 t; rw [hx] at this; exact this, e2⟩, e3⟩
      simp only [List.mapM_cons, Sem.run_bind, resOne, Sem.run_pure, Result.andThen_ok, e1]
    · exact h.elim
  | .cell p ty :: r, K, h => by
    unfold resP at h
    obtain ⟨sv, u, hr, hd, hk⟩ := stLoad_run hT h2 (h1 p) h
    split at hk
    · rename_i x
      obtain ⟨l, vs, e1, e2, e3⟩ := resP_run hT h1 h2 r _ hk
      refine ⟨x :: l, u :: vs, ?_, ⟨hd, e2⟩, e3⟩
      have hr' : (do loadVar ty (← asAddr (a.tmps.getD p undef)) : Sem Value).run P w = .ok u w := by
        unfold Instr.loadAt Instr.sureAddr at hr
        unfold asAddr
        generalize a.tmps.getD p undef = x at hr ⊢
        cases x with
        | pointer o => cases o with
          | none => simp at hr
          | some ad => simpa using hr
        | _ => simp at hr
      have hr2 : (resOne a.tmps (.cell p ty)).run P w = .ok u w := hr'
      simp only [List.mapM_cons, Sem.run_bind, hr2, Result.andThen_ok, e1, Sem.run_pure]
    · exact hk.elim
theorem spec_of_body {T : Tab} (hT : TabOK P T) {f : FuncId} {fn : Func} {c : Code} {args : List SV} {pre : Mem} {chg : List Nat} {post : SV → Mem → Prop} (hf : P.funcs[f]? = some fn) (hb : fn.body = some c) (hn : args.length ≤ fn.ntmps)
    (h : ∀ (E : Env) (Q0 : Exit → Act → World → Prop), Body P E fn.ntmps Q0 (finOf T fn.results.toList pre.length post) (fun id => decide (pre.length ≤ id) || chg.contains id) pre.length → Ok P E fn.ntmps Q0 [.code c] ⟨argSl 0 args, pre⟩) :
    Spec P f args pre chg post := by
  intro w ℓ vs hvs hmh
  have hlen : vs.length = args.length := by
    clear h hn hmh
    induction args generalizing vs with
    | nil => cases vs with
      | nil => rfl
      | cons => exact hvs.elim
    | cons x args ih => cases vs with
      | nil => exact hvs.elim
      | cons v vs => simp [ih vs hvs.2]
  have hle : Le (ancOf pre.length chg ℓ) ℓ := fun i L hL => by
    unfold ancOf at hL
    split at hL
    · exact hL
    · cases hL
  have hm0 := hmh _ hle
  refine calls_of_wp hf hb ?_
  have hbody : Body P ⟨w, ownBlk pre ℓ, ancOf pre.length chg ℓ⟩ fn.ntmps (bodyPost P fn (fun e w' => ∃ sv m' ℓ' v, e = .returned v ∧ post sv m' ∧ pre.length ≤ m'.length ∧ extraOwn pre.length m' = true ∧ DenV ℓ' sv v ∧ MH ⟨w, ownBlk pre ℓ, ancOf pre.length chg ℓ⟩ ℓ' m' w'))
      (finOf T fn.results.toList pre.length post) (fun id => decide (pre.length ≤ id) || chg.contains id) pre.length := by
    refine ⟨?_, ?_, ?_, ?_⟩
    · rintro st a w' hfin ⟨ℓ', h1, h2, h3, h4⟩
      obtain ⟨l, us, e1, e2, e3, e4, e5⟩ := resP_run hT h1 h2 _ _ hfin
      have hres : ∃ v, (results fn a.tmps).run P w' = .ok v w' ∧ DenV ℓ' (resV l) v := by
        rw [results_eq, Sem.run_bind]
        have hmm : (fn.results.mapM (m := Sem) (resOne a.tmps)).run P w' = .ok us.toArray w' := by
          rw [Array.mapM_eq_mapM_toList, Sem.run_map, e1]; rfl
        rw [hmm]
        simp only [Result.andThen_ok]
        clear e1 e3 hmm
        match l, us, e2 with
        | [], [], _ => exact ⟨.tuple #[], by simp, [], rfl, trivial⟩
        | [x], [u], ⟨hx, _⟩ => exact ⟨u, by simp, hx⟩
        | x :: y :: l, u :: u2 :: us, hx => exact ⟨.tuple (u :: u2 :: us).toArray, by simp, _, rfl, hx⟩
        | [_], _ :: _ :: _, hx => exact hx.2.elim
        | _ :: _ :: _, [_], hx => exact hx.2.elim
      obtain ⟨v, hv1, hv2⟩ := hres
      have hp : bodyPost P fn (fun e w' => ∃ sv m' ℓ' v, e = .returned v ∧ post sv m' ∧ pre.length ≤ m'.length ∧ extraOwn pre.length m' = true ∧ DenV ℓ' sv v ∧ MH ⟨w, ownBlk pre ℓ, ancOf pre.length chg ℓ⟩ ℓ' m' w') .ret a w' :=
        ⟨h3, v, hv1, _, st.m, ℓ', v, rfl, e3, e4, e5, hv2, h2⟩
      exact ⟨hp, hp⟩
    · intro id hid
      simp only [ancOf]
      rw [if_neg]
      rintro ⟨h1, h2⟩
      simp only [Bool.or_eq_true, decide_eq_true_eq, List.contains_iff_mem] at hid
      rcases hid with hid | hid
      · omega
      · exact h2 hid
    · intro i L hL
      simp only [ancOf] at hL
      split at hL
      · rename_i hh; exact hh.1
      · cases hL
    · rintro c a w' ⟨_, sv, m', ℓ', v, h1, _⟩
      cases h1
  have hok := h _ _ hbody
  refine hok _ w ⟨ℓ, fun t => ?_, hm0, rfl, ?_⟩
  · obtain ⟨g1, g2⟩ := argSl_den (ℓ := ℓ) 0 args vs t hvs
    by_cases ht : t < vs.length
    · have : ((vs.toArray ++ Array.replicate (fn.ntmps - vs.toArray.size) undef).getD t undef) = vs[t] := by
        rw [Array.getD_eq_getD_getElem?, Array.getElem?_append_left (by simpa using ht)]
        simp [ht]
      show DenV ℓ (look (argSl 0 args) t) _
      rw [this]
      exact g1 t _ (List.getElem?_eq_getElem ht) (by omega)
    · show DenV ℓ (look (argSl 0 args) t) _
      rw [g2 (.inr (by omega))]
      trivial
  · simp; omega
end
end Go.V
end
section
set_option linter.unusedSimpArgs false
set_option linter.unusedVariables false
namespace Go.V
open Go Go.RowKit Go.ChangeShapes Go.WideShapes
/-- Memory that is only read is memory as we know it. -/
def ROK (pre : Mem) (ℓ : Nat → Option Loc) (w : World) : Prop := (∀ (id : Nat) (x : Mk), pre[id]? = some x → ∃ e L, x = .ent e ∧ e.own = false ∧ ℓ id = some L ∧ EntOK ℓ w L e) ∧ ∀ i, pre.length ≤ i → ℓ i = none
theorem mh_ro {w : World} {pre : Mem} {ℓ : Nat → Option Loc} (h : ROK pre ℓ w) : ∀ an, Le an ℓ → MH ⟨w, ownBlk pre ℓ, an⟩ ℓ pre w := by
  obtain ⟨hro, hdom⟩ := h
  intro an han
  refine ⟨rfl, rfl, rfl, Nat.le_refl _, fun _ _ _ => rfl, han, ?_, ?_, ?_⟩
  · rintro i (h | h)
    · exact hdom i h
    · obtain ⟨e, L, h1, _⟩ := hro i _ h; cases h1
  · intro id e h
    obtain ⟨e', L, h1, h2, h3, h4⟩ := hro id _ h
    cases h1
    exact ⟨L, h3, h4, fun h => by rw [h2] at h; cases h⟩
  · intro i j ei ej Li Lj hi hj _ _ ho
    obtain ⟨e', L, h1, h2, h3, h4⟩ := hro i _ hi
    cases h1
    rw [h2] at ho
    cases ho
/-- A law that answers true by contract, over memory that it only reads, answers true and writes nothing that was there. -/
theorem calls_of_spec {P : Program} {f : FuncId} {args : List SV} {pre : Mem} (h : Spec P f args pre [] (fun r _ => r = .one (.s (.b true)))) {w : World} {ℓ : Nat → Option Loc} {vs : List Value} (hd : DenVs ℓ args vs) (hro : ROK pre ℓ w) :
    Calls P f vs.toArray w (fun e w' => e = .returned (.bool true) ∧ Below w.heap.size w w') := by
  refine (h w ℓ vs hd (mh_ro hro)).mono ?_
  rintro e w' ⟨sv, m', ℓ', v, rfl, rfl, _, _, hv, hm⟩
  refine ⟨?_, ⟨hm.os, hm.tape, hm.output, hm.size, fun k hk => hm.keep k hk ?_⟩⟩
  · have : v = .bool true := hv
    rw [this]
  · rintro ⟨id, e, L, h1, h2, _⟩
    obtain ⟨e', L', h3, h4, _⟩ := hro.1 id _ h1
    cases h3
    rw [h4] at h2
    cases h2
/-- A slice of integers that came in: nil, or a row of cells. -/
def IsRow (k : IntKind) (w : World) (a : Option Addr) (len cap : Nat) (zs : List Int) : Prop :=
  (a = none ∧ len = 0 ∧ cap = 0 ∧ zs = []) ∨
  ∃ x, a = some x ∧ len ≤ cap ∧ cap ≤ maxLen ∧ zs.length = cap ∧ (∀ i, i < zs.length → w.cell? (x.add i) = some (.int k (zs.getD i 0))) ∧ ∀ n ∈ zs, (Lit.int k n).wf = true
theorem byte_of {n : Int} (h : (Lit.int .u8 n).wf = true) : ∃ x : BitVec 8, n = (x.toNat : Int) := by
  have := bounds_u8 h
  refine ⟨BitVec.ofInt 8 n, ?_⟩
  rw [BitVec.toNat_ofInt]
  omega
theorem bytes_of : ∀ (zs : List Int), (∀ n ∈ zs, (Lit.int .u8 n).wf = true) → ∃ b : List (BitVec 8), zs = b.map (fun x => (x.toNat : Int))
  | [], _ => ⟨[], rfl⟩
  | n :: zs, h => by
    obtain ⟨x, hx⟩ := byte_of (h n (by simp))
    obtain ⟨b, hb⟩ := bytes_of zs (fun m hm => h m (by simp [hm]))
    exact ⟨x :: b, by rw [hx, hb]; rfl⟩
theorem denL_bytes (ℓ : Nat → Option Loc) : ∀ b : List (BitVec 8), DenL ℓ (b.map S.u8) (b.map (fun x => Value.int .u8 x.toNat))
  | [] => trivial
  | _ :: b => ⟨rfl, denL_bytes ℓ b⟩
/-- A slice of bytes that came in, as the contracts have it. -/
theorem row_bytes {w : World} {a : Option Addr} {len cap : Nat} {zs : List Int} (h : IsRow .u8 w a len cap zs) :
    ∃ (key : List (BitVec 8)) (L : Loc), key.length = len ∧ len ≤ cap ∧ cap ≤ maxLen ∧ (∀ ℓ i, ℓ i = some L → DenV ℓ (.one (.s (.sl i 0 len cap 1))) (.slice a len cap)) ∧ (∀ ℓ t, EntOK ℓ w L ⟨false, t, none, .a8 key⟩) := by
  rcases h with ⟨rfl, rfl, rfl, rfl⟩ | ⟨x, rfl, hl, hm, hz, hcell, hwf⟩
  · refine ⟨[], ⟨0, 0, 0⟩, rfl, Nat.le_refl _, Nat.zero_le _, fun ℓ i hi => ⟨_, hi, Nat.le_refl _, .inl ⟨rfl, none, rfl⟩⟩, fun ℓ t => ⟨⟨by simp, trivial⟩, ?_⟩⟩
    rw [if_neg (by simp)]
    exact ⟨[], trivial, by simp⟩
  · obtain ⟨b, hb⟩ := bytes_of zs hwf
    have hbl : b.length = cap := by rw [← hz, hb]; simp
    obtain ⟨blk, off, spot⟩ := x
    by_cases hc : cap = 0
    · subst hc
      obtain rfl : len = 0 := by omega
      refine ⟨[], ⟨0, 0, 0⟩, rfl, Nat.le_refl _, Nat.zero_le _, fun ℓ i hi => ⟨_, hi, Nat.le_refl _, .inl ⟨rfl, _, rfl⟩⟩, fun ℓ t => ⟨⟨by simp, trivial⟩, ?_⟩⟩
      rw [if_neg (by simp)]
      exact ⟨[], trivial, by simp⟩
    · have h0 := hcell 0 (by omega)
      obtain rfl : spot = none := by simpa [Addr.add] using World.cell?_spot h0
      refine ⟨b.take len, ⟨blk, off, cap⟩, by simp; omega, hl, hm, fun ℓ i hi => ⟨_, hi, hl, .inr ⟨by simp, by simp⟩⟩, fun ℓ t => ⟨⟨by simp, trivial⟩, ?_⟩⟩
      rw [if_neg (by simp)]
      refine ⟨(b.take len).map (fun x => Value.int .u8 x.toNat), by simpa [A.cells] using denL_bytes ℓ (b.take len), ?_⟩
      intro i v hv
      have hi : i < len := by
        have := (List.getElem?_eq_some_iff.mp hv).1
        simp at this
        omega
      have := hcell i (by omega)
      have e : (Addr.add ⟨blk, off, none⟩ i) = ⟨blk, off + i, none⟩ := by
        simp only [Addr.add]
        split
        · rename_i h; subst h; rfl
        · rfl
      rw [e] at this
      show w.cell? ⟨blk, off + i, none⟩ = some v
      rw [this]
      rw [List.getElem?_map, List.getElem?_take_of_lt hi, List.getElem?_eq_getElem (by omega)] at hv
      simp only [Option.map_some, Option.some.injEq] at hv
      have hib : i < b.length := by omega
      have hg : zs.getD i 0 = ((b[i].toNat : Nat) : Int) := by
        subst hb
        rw [List.getD_eq_getElem?_getD, List.getElem?_map, List.getElem?_eq_getElem hib]
        rfl
      rw [← hv, hg]
theorem vals_of : ∀ cs : List Value, (∀ v ∈ cs, ∃ x : BitVec 8, v = .int .u8 x.toNat) → ∃ b : List (BitVec 8), cs = b.map (fun x => Value.int .u8 x.toNat)
  | [], _ => ⟨[], rfl⟩
  | v :: cs, h => by
    obtain ⟨x, hx⟩ := h v (by simp)
    obtain ⟨b, hb⟩ := vals_of cs (fun m hm => h m (by simp [hm]))
    exact ⟨x :: b, by rw [hx, hb]; rfl⟩
/-- An array of bytes that came in. -/
theorem open_arr8 {H : Type} {enc : TypeId × Value → H} {P : Program} {w : World} {base base' : Nat} {spare : Nat → Bool} {held : Bool} {r : Reach} {t e : TypeId} {n : Nat} {v : Value} {d : DataW H} {ps : List MemPlace} (ht : P.underlying t = some (.array n e)) (he : P.underlying e = some (.int .u8)) (hce : P.cellsOf e = 1) (hct : P.cellsOf t = n)
    (hval : Value.okWide P w r base' t v) (h : DataW.Trod enc P w base spare held t v d ps) : ∃ b : List (BitVec 8), b.length = n ∧ v = .agg (b.map (fun x => Value.int .u8 x.toNat)).toArray := by
  simp only [Value.okWide, ht] at hval
  obtain ⟨cs, rfl, hsz, _⟩ := hval
  obtain ⟨fuel, hf⟩ := h
  obtain ⟨xs, m, _, _, hl, hxl, hx⟩ := DataW.trod_array ht hf
  simp only [Value.cells] at hl hx
  obtain ⟨b, hb⟩ := vals_of cs.toList (by
    intro v hv
    obtain ⟨i, hi, hvi⟩ := List.getElem_of_mem hv
    have hi' : i < n := by simp at hi; omega
    have := hx i hi'
    rw [hce, List.getElem?_eq_getElem (by omega)] at this
    obtain ⟨k, hk, _, hw⟩ := DataW.trod_int he this
    obtain ⟨x, rfl⟩ := byte_of hw
    refine ⟨x, ?_⟩
    rw [Nat.mul_one, List.drop_eq_getElem_cons hi] at hk
    simp only [List.take_succ_cons, List.take_zero, List.cons.injEq, and_true] at hk
    rw [← hvi]
    exact hk)
  refine ⟨b, ?_, ?_⟩
  · have := congrArg List.length hb
    simp at this
    omega
  · rw [← hb]
theorem den_arr8 (ℓ : Nat → Option Loc) (b : List (BitVec 8)) : DenV ℓ (.one (.a8 b)) (.agg (b.map (fun x => Value.int .u8 x.toNat)).toArray) := ⟨trivial, _, rfl, denL_bytes ℓ b⟩
/-- A slice of bytes that came in, opened. -/
theorem open_row8 {H : Type} {enc : TypeId × Value → H} {P : Program} {w : World} {base : Nat} {held : Bool} {t e : TypeId} {a : Option Addr} {len cap : Nat} {d : DataW H} {ps : List MemPlace} (ht : P.underlying t = some (.slice e)) (he : P.underlying e = some (.int .u8)) (hce : P.cellsOf e = 1)
    (h : DataW.Trod enc P w base (fun _ => true) held t (.slice a len cap) d ps) : ∃ zs, IsRow .u8 w a len cap zs := by
  obtain ⟨fuel, hf⟩ := h
  rcases open_ints ht he hce hf with ⟨hcs, _⟩ | ⟨x, l, c, zs, hcs, _, hl, hm, hz, _, hcell, hwz⟩
  · simp [Value.cells] at hcs
    obtain ⟨rfl, rfl, rfl⟩ := hcs
    exact ⟨[], .inl ⟨rfl, rfl, rfl, rfl⟩⟩
  · simp [Value.cells] at hcs
    obtain ⟨rfl, rfl, rfl⟩ := hcs
    exact ⟨zs, .inr ⟨_, rfl, hl, hm, by simpa using hz, hcell, hwz⟩⟩
end Go.V
end
section
set_option linter.unusedSimpArgs false
set_option linter.unusedVariables false
namespace Go.V
open Go Go.RowKit Go.ChangeShapes Go.WideShapes
theorem field_row {H : Type} {enc : TypeId × Value → H} {P : Program} {w : World} {base : Nat} {held : Bool} {t e : TypeId} {n : Nat} {cs : List Value} {y : DataW H × List MemPlace} (ht : P.underlying t = some (.slice e)) (he : P.underlying e = some (.int .u8)) (hce : P.cellsOf e = 1)
    (hf : DataW.trod enc P w base (fun _ => true) held n t cs = some y) : ∃ a len cap zs, cs = [.slice a len cap] ∧ IsRow .u8 w a len cap zs := by
  rcases open_ints ht he hce hf with ⟨rfl, _⟩ | ⟨x, l, c, zs, rfl, _, hl, hm, hz, _, hcell, hwz⟩
  · exact ⟨none, 0, 0, [], rfl, .inl ⟨rfl, rfl, rfl, rfl⟩⟩
  · exact ⟨some x, l, c, zs, rfl, .inr ⟨_, rfl, hl, hm, by simpa using hz, hcell, hwz⟩⟩
theorem open_job {H : Type} {enc : TypeId × Value → H} {P : Program} {w : World} {base base' : Nat} {held : Bool} {r : Reach} {t ts e : TypeId} {fs : Array Field} {v : Value} {d : DataW H} {ps : List MemPlace}
    (ht : P.underlying t = some (.struct fs)) (hs : P.underlying ts = some (.slice e)) (he : P.underlying e = some (.int .u8)) (hce : P.cellsOf e = 1) (hcs : P.cellsOf ts = 1) (hct : P.cellsOf t = 4)
    (hfs : fs.toList.map (fun f => (f.type, f.offset)) = [(ts, 0), (ts, 1), (ts, 2), (ts, 3)])
    (hval : Value.okWide P w r base' t v) (h : DataW.Trod enc P w base (fun _ => true) held t v d ps) :
    ∃ a0 l0 c0 z0 a1 l1 c1 z1 a2 l2 c2 z2 a3 l3 c3 z3, v = .agg #[.slice a0 l0 c0, .slice a1 l1 c1, .slice a2 l2 c2, .slice a3 l3 c3] ∧ IsRow .u8 w a0 l0 c0 z0 ∧ IsRow .u8 w a1 l1 c1 z1 ∧ IsRow .u8 w a2 l2 c2 z2 ∧ IsRow .u8 w a3 l3 c3 z3 := by
  simp only [Value.okWide, ht] at hval
  obtain ⟨cs, rfl, hsz, _⟩ := hval
  obtain ⟨fuel, hf⟩ := h
  obtain ⟨xs, m, _, _, hl, hxl, hx⟩ := DataW.trod_struct ht hf
  simp only [Value.cells] at hl hx
  obtain ⟨fl⟩ := fs
  obtain ⟨cl⟩ := cs
  simp only at hl hx hfs hxl
  have hfl : fl.length = 4 := by have := congrArg List.length hfs; simpa using this
  match fl, hfl, hfs with
  | [f0, f1, f2, f3], _, hfs =>
    simp only [List.map_cons, List.map_nil, List.cons.injEq, Prod.mk.injEq, and_true] at hfs
    obtain ⟨⟨t0, o0⟩, ⟨t1, o1⟩, ⟨t2, o2⟩, t3, o3⟩ := hfs
    have hxl4 : xs.length = 4 := hxl
    have hcl : cl.length = 4 := by rw [← hct]; exact hl
    match xs, hxl4, cl, hcl with
    | [x0, x1, x2, x3], _, [v0, v1, v2, v3], _ =>
      have g0 := hx 0 f0 rfl
      have g1 := hx 1 f1 rfl
      have g2 := hx 2 f2 rfl
      have g3 := hx 3 f3 rfl
      rw [t0, o0, hcs] at g0
      rw [t1, o1, hcs] at g1
      rw [t2, o2, hcs] at g2
      rw [t3, o3, hcs] at g3
      obtain ⟨a0, l0, c0, z0, e0, r0⟩ := field_row hs he hce g0
      obtain ⟨a1, l1, c1, z1, e1, r1⟩ := field_row hs he hce g1
      obtain ⟨a2, l2, c2, z2, e2, r2⟩ := field_row hs he hce g2
      obtain ⟨a3, l3, c3, z3, e3, r3⟩ := field_row hs he hce g3
      simp at e0 e1 e2 e3
      subst e0 e1 e2 e3
      exact ⟨a0, l0, c0, z0, a1, l1, c1, z1, a2, l2, c2, z2, a3, l3, c3, z3, rfl, r0, r1, r2, r3⟩
theorem den_job {ℓ : Nat → Option Loc} {a0 a1 a2 a3 : Option Addr} {l0 c0 l1 c1 l2 c2 l3 c3 i0 i1 i2 i3 : Nat} (h0 : DenV ℓ (.one (.s (.sl i0 0 l0 c0 1))) (.slice a0 l0 c0)) (h1 : DenV ℓ (.one (.s (.sl i1 0 l1 c1 1))) (.slice a1 l1 c1)) (h2 : DenV ℓ (.one (.s (.sl i2 0 l2 c2 1))) (.slice a2 l2 c2)) (h3 : DenV ℓ (.one (.s (.sl i3 0 l3 c3 1))) (.slice a3 l3 c3)) :
    DenV ℓ (.one (.st [⟨1, .s (.sl i0 0 l0 c0 1)⟩, ⟨1, .s (.sl i1 0 l1 c1 1)⟩, ⟨1, .s (.sl i2 0 l2 c2 1)⟩, ⟨1, .s (.sl i3 0 l3 c3 1)⟩])) (.agg #[.slice a0 l0 c0, .slice a1 l1 c1, .slice a2 l2 c2, .slice a3 l3 c3]) := by
  refine ⟨⟨rfl, rfl, rfl, rfl, trivial⟩, [.slice a0 l0 c0, .slice a1 l1 c1, .slice a2 l2 c2, .slice a3 l3 c3], rfl, ?_⟩
  exact ⟨h0, h1, h2, h3, trivial⟩
end Go.V
end
section
set_option linter.unusedSimpArgs false
set_option linter.unusedVariables false
namespace Go.V
open Go Go.RowKit Go.ChangeShapes Go.WideShapes
/-- All that a reading holds is small enough for a machine. -/
def Fits {H : Type} (P : Program) (t : TypeId) (d : DataW H) : Prop := ∀ n ∈ d.weights P t, n ≤ reachBytes
theorem fits_of {H : Type} {P : Program} {ts : List TypeId} {ds : List (DataW H)} (h : (DataW.weightsEach P ts ds).all (· ≤ reachBytes) = true) {j : Nat} {t : TypeId} {d : DataW H} (ht : ts[j]? = some t) (hd : ds[j]? = some d) : Fits P t d := fun n hn => by
  simpa using List.all_eq_true.1 h n (DataW.weights_mem_each ht hd n hn)
theorem row_fits {H : Type} {P : Program} {t e : TypeId} {elems spare : List (DataW H)} (ht : P.underlying t = some (.slice e)) (hb : P.bytesOf e = 1) (h : Fits P t (.slice elems spare)) : elems.length + spare.length ≤ reachBytes := by
  have := h ((elems.length + spare.length) * P.bytesOf e) (by simp [DataW.weights, ht])
  rw [hb, Nat.mul_one] at this
  exact this
theorem lits_len {H : Type} (k : IntKind) (zs : List Int) : (lits (H := H) k zs).length = zs.length := by simp [lits]
theorem open_row8S {H : Type} {enc : TypeId × Value → H} {P : Program} {w : World} {base : Nat} {held : Bool} {t e : TypeId} {a : Option Addr} {len cap : Nat} {d : DataW H} {ps : List MemPlace} (ht : P.underlying t = some (.slice e)) (he : P.underlying e = some (.int .u8)) (hce : P.cellsOf e = 1) (hb : P.bytesOf e = 1)
    (h : DataW.Trod enc P w base (fun _ => true) held t (.slice a len cap) d ps) (hf : Fits P t d) : ∃ zs, IsRow .u8 w a len cap zs ∧ cap ≤ reachBytes := by
  obtain ⟨fuel, hf2⟩ := h
  rcases open_ints ht he hce hf2 with ⟨hcs, _⟩ | ⟨x, l, c, zs, hcs, _, hl, hm, hz, hx, hcell, hwz⟩
  · simp [Value.cells] at hcs
    obtain ⟨rfl, rfl, rfl⟩ := hcs
    exact ⟨[], .inl ⟨rfl, rfl, rfl, rfl⟩, Nat.zero_le _⟩
  · simp [Value.cells] at hcs
    obtain ⟨rfl, rfl, rfl⟩ := hcs
    have hz2 : zs.length = cap := by simpa using hz
    refine ⟨zs, .inr ⟨_, rfl, hl, hm, hz2, hcell, hwz⟩, ?_⟩
    have hd : d = .slice (lits .u8 (zs.take len)) (lits .u8 (zs.drop len)) := (Prod.mk.inj hx).1
    rw [hd] at hf
    have := row_fits ht hb hf
    simp only [lits_len, List.length_take, List.length_drop] at this
    omega
theorem field_rowS {H : Type} {enc : TypeId × Value → H} {P : Program} {w : World} {base : Nat} {held : Bool} {t e : TypeId} {n : Nat} {cs : List Value} {y : DataW H × List MemPlace} (ht : P.underlying t = some (.slice e)) (he : P.underlying e = some (.int .u8)) (hce : P.cellsOf e = 1) (hb : P.bytesOf e = 1)
    (hf : DataW.trod enc P w base (fun _ => true) held n t cs = some y) (hs : Fits P t y.1) : ∃ a len cap zs, cs = [.slice a len cap] ∧ IsRow .u8 w a len cap zs ∧ cap ≤ reachBytes := by
  rcases open_ints ht he hce hf with ⟨rfl, _⟩ | ⟨x, l, c, zs, rfl, _, hl, hm, hz, rfl, hcell, hwz⟩
  · exact ⟨none, 0, 0, [], rfl, .inl ⟨rfl, rfl, rfl, rfl⟩, Nat.zero_le _⟩
  · have hz2 : zs.length = c := by simpa using hz
    refine ⟨some x, l, c, zs, rfl, .inr ⟨_, rfl, hl, hm, hz2, hcell, hwz⟩, ?_⟩
    have := row_fits ht hb hs
    simp only [lits_len, List.length_take, List.length_drop] at this
    omega
theorem int_inS {n : Int} (h : (Lit.int .i64 n).wf = true) : -9223372036854775808 ≤ n ∧ n ≤ 9223372036854775807 := by
  simp [Lit.wf, IntKind.min, IntKind.max, IntKind.signed, IntKind.bits] at h
  omega
/-- A struct that came in, field by field: each field of one cell. -/
theorem open_structS {H : Type} {enc : TypeId × Value → H} {P : Program} {w : World} {base base' : Nat} {held : Bool} {r : Reach} {t : TypeId} {fs : Array Field} {v : Value} {d : DataW H} {ps : List MemPlace} {ts : List TypeId}
    (ht : P.underlying t = some (.struct fs)) (hct : P.cellsOf t = ts.length) (hfs : fs.toList.map (fun f => (f.type, f.offset)) = ts.zipIdx) (hcs : ∀ u ∈ ts, P.cellsOf u = 1)
    (hval : Value.okWide P w r base' t v) (h : DataW.Trod enc P w base (fun _ => true) held t v d ps) (hf : Fits P t d) :
    ∃ (n : Nat) (cl : List Value) (ys : List (DataW H × List MemPlace)), v = .agg cl.toArray ∧ cl.length = ts.length ∧ ys.length = ts.length ∧
      ∀ (j : Nat) (u : TypeId) (c : Value) (y : DataW H × List MemPlace), ts[j]? = some u → cl[j]? = some c → ys[j]? = some y → DataW.trod enc P w base (fun _ => true) held n u [c] = some y ∧ Fits P u y.1 := by
  simp only [Value.okWide, ht] at hval
  obtain ⟨cs, rfl, hsz, _⟩ := hval
  obtain ⟨fuel, hf2⟩ := h
  obtain ⟨xs, m, _, hx0, hl, hxl, hx⟩ := DataW.trod_struct ht hf2
  simp only [Value.cells] at hl hx
  obtain ⟨cl⟩ := cs
  simp only [List.size_toArray] at hsz
  have hfl : fs.toList.length = ts.length := by have := congrArg List.length hfs; simpa using this
  have hd : d = .agg (xs.map (·.1)) := (Prod.mk.inj hx0).1
  refine ⟨m, cl, xs, rfl, by rw [← hct]; exact hsz, by rw [hxl, ← hfl]; simp, ?_⟩
  intro j u c y h1 h2 h3
  have hjt : j < ts.length := (List.getElem?_eq_some_iff.1 h1).1
  have hz : (ts.zipIdx)[j]? = some (u, j) := by rw [List.getElem?_zipIdx, h1]; simp
  rw [← hfs, List.getElem?_map] at hz
  cases hfj : fs.toList[j]? with
  | none => rw [hfj] at hz; cases hz
  | some f =>
    rw [hfj] at hz
    simp only [Option.map_some, Option.some.injEq, Prod.mk.injEq] at hz
    obtain ⟨rfl, hof⟩ := hz
    have hfa : fs[j]? = some f := by rw [← hfj, Array.getElem?_toList]
    have g := hx j f hfa
    rw [hcs f.type (List.mem_of_getElem? h1), hof, h3] at g
    have hc : (cl.drop j).take 1 = [c] := by
      obtain ⟨q1, q2⟩ := List.getElem?_eq_some_iff.1 h2
      rw [List.drop_eq_getElem_cons q1, q2]; rfl
    refine ⟨by rw [← hc]; exact g, fun n hn => hf n ?_⟩
    rw [hd]
    simp only [DataW.weights, ht]
    exact DataW.weights_mem_each (j := j) (by rw [List.getElem?_map, hfj]; rfl) (by rw [List.getElem?_map, h3]; rfl) n hn
theorem open_jobS {H : Type} {enc : TypeId × Value → H} {P : Program} {w : World} {base base' : Nat} {held : Bool} {r : Reach} {t ts e : TypeId} {fs : Array Field} {v : Value} {d : DataW H} {ps : List MemPlace}
    (ht : P.underlying t = some (.struct fs)) (hs : P.underlying ts = some (.slice e)) (he : P.underlying e = some (.int .u8)) (hce : P.cellsOf e = 1) (hb : P.bytesOf e = 1) (hcs : P.cellsOf ts = 1) (hct : P.cellsOf t = 4)
    (hfs : fs.toList.map (fun f => (f.type, f.offset)) = [(ts, 0), (ts, 1), (ts, 2), (ts, 3)])
    (hval : Value.okWide P w r base' t v) (h : DataW.Trod enc P w base (fun _ => true) held t v d ps) (hf : Fits P t d) :
    ∃ a0 l0 c0 z0 a1 l1 c1 z1 a2 l2 c2 z2 a3 l3 c3 z3, v = .agg #[.slice a0 l0 c0, .slice a1 l1 c1, .slice a2 l2 c2, .slice a3 l3 c3] ∧ (IsRow .u8 w a0 l0 c0 z0 ∧ c0 ≤ reachBytes) ∧ (IsRow .u8 w a1 l1 c1 z1 ∧ c1 ≤ reachBytes) ∧ (IsRow .u8 w a2 l2 c2 z2 ∧ c2 ≤ reachBytes) ∧ IsRow .u8 w a3 l3 c3 z3 ∧ c3 ≤ reachBytes := by
  obtain ⟨n, cl, ys, rfl, hcl, hyl, hk⟩ := open_structS (ts := [ts, ts, ts, ts]) ht hct hfs (by simp [hcs]) hval h hf
  match cl, hcl, ys, hyl with
  | [v0, v1, v2, v3], _, [y0, y1, y2, y3], _ =>
    obtain ⟨g0, f0⟩ := hk 0 ts v0 y0 rfl rfl rfl
    obtain ⟨g1, f1⟩ := hk 1 ts v1 y1 rfl rfl rfl
    obtain ⟨g2, f2⟩ := hk 2 ts v2 y2 rfl rfl rfl
    obtain ⟨g3, f3⟩ := hk 3 ts v3 y3 rfl rfl rfl
    obtain ⟨a0, l0, c0, z0, e0, r0⟩ := field_rowS hs he hce hb g0 f0
    obtain ⟨a1, l1, c1, z1, e1, r1⟩ := field_rowS hs he hce hb g1 f1
    obtain ⟨a2, l2, c2, z2, e2, r2⟩ := field_rowS hs he hce hb g2 f2
    obtain ⟨a3, l3, c3, z3, e3, r3⟩ := field_rowS hs he hce hb g3 f3
    simp at e0 e1 e2 e3
    subst e0 e1 e2 e3
    exact ⟨a0, l0, c0, z0, a1, l1, c1, z1, a2, l2, c2, z2, a3, l3, c3, z3, rfl, r0, r1, r2, r3⟩
end Go.V
end
section
set_option linter.unusedSimpArgs false
set_option linter.unusedVariables false
namespace Go.V
open Go

/-- Ids of a callee in the caller's count: the first ones lie as the list says, the others behind. -/
def ix (σ : List Nat) (n : Nat) (i : Nat) : Nat := if i < σ.length then σ.getD i 0 else n + (i - σ.length)
/-- The caller's memory is such as the contract asks for. -/
def matchM (ρ : Nat → Nat) (k : Nat) (m : Mem) : Mem → List Nat → Prop
  | [], [] => True
  | .ent e :: r, j :: σ => (match m[j]? with
    | some (.ent e') => (e.own = true → e'.own = true ∧ e'.ty = e.ty ∧ 0 < e.c.len) ∧ (∀ n, e.fix = some n → e.c.len = n) ∧ e'.c = renA ρ e.c ∧ belA k e.c = true
    | _ => False) ∧ matchM ρ k m r σ
  | _, _ => False
/-- The caller's memory after the call. -/
def putM (ρ : Nat → Nat) (m : Mem) : Mem → List Nat → Mem → Mem
  | .ent e :: r, j :: σ, x :: m' => putM ρ (if e.own = true then m.set j (renMk ρ x) else m) r σ m'
  | _, _, _ => m
def afterM (ρ : Nat → Nat) (m pre : Mem) (σ : List Nat) (m' : Mem) : Mem := putM ρ m pre σ m' ++ (m'.drop pre.length).map (renMk ρ)

theorem matchM_get {ρ : Nat → Nat} {k : Nat} {m : Mem} : ∀ {pre : Mem} {σ : List Nat}, matchM ρ k m pre σ → σ.length = pre.length ∧ (∀ (t : Nat) (x : Mk), pre[t]? = some x → ∃ (e : Ent) (j : Nat) (e' : Ent), x = .ent e ∧ σ[t]? = some j ∧ m[j]? = some (.ent e') ∧ (e.own = true → e'.own = true ∧ e'.ty = e.ty ∧ 0 < e.c.len) ∧ (∀ n, e.fix = some n → e.c.len = n) ∧ e'.c = renA ρ e.c ∧ belA k e.c = true)
  | [], [], _ => ⟨rfl, fun t x h => by simp at h⟩
  | .ent e :: r, j :: σ, ⟨h1, h2⟩ => by
    obtain ⟨g1, g2⟩ := matchM_get h2
    refine ⟨by simp [g1], fun t x h => ?_⟩
    cases t with
    | zero =>
      simp at h; subst h
      split at h1
      · rename_i e' he'
        exact ⟨e, j, e', rfl, by simp, he', h1⟩
      · exact h1.elim
    | succ t => simpa using g2 t x (by simpa using h)
  | .gone :: _, _, h => by cases ‹List Nat› <;> exact h.elim
  | .hole :: _, _, h => by cases ‹List Nat› <;> exact h.elim
  | .ent _ :: _, [], h => h.elim
  | [], _ :: _, h => h.elim
theorem putM_get {ρ : Nat → Nat} : ∀ {pre : Mem} {σ : List Nat} {m' m : Mem}, (∀ x ∈ pre, ∃ e, x = Mk.ent e) → σ.length = pre.length → pre.length ≤ m'.length → σ.Nodup → (∀ j ∈ σ, j < m.length) → (putM ρ m pre σ m').length = m.length ∧
    ∀ j, (∃ (t : Nat) (e : Ent) (x : Mk), pre[t]? = some (.ent e) ∧ e.own = true ∧ σ[t]? = some j ∧ m'[t]? = some x ∧ (putM ρ m pre σ m')[j]? = some (renMk ρ x)) ∨ ((∀ (t : Nat) (e : Ent), pre[t]? = some (.ent e) → e.own = true → σ[t]? = some j → False) ∧ (putM ρ m pre σ m')[j]? = m[j]?)
  | [], σ, m', m, _, _, _, _, _ => by
    refine ⟨by simp [putM], fun j => .inr ⟨fun t e h => by simp at h, ?_⟩⟩
    simp [putM]
  | y :: r, [], m', m, _, h, _, _, _ => by simp at h
  | y :: r, i :: σ, [], m, _, _, h, _, _ => by simp at h
  | y :: r, i :: σ, x :: m', m, h0, h1, h2, h3, h4 => by
    obtain ⟨e0, rfl⟩ := h0 y (by simp)
    simp only [List.nodup_cons] at h3
    have hm : (if e0.own = true then m.set i (renMk ρ x) else m).length = m.length := by split <;> simp
    obtain ⟨g1, g2⟩ := putM_get (ρ := ρ) (pre := r) (σ := σ) (m' := m') (m := if e0.own = true then m.set i (renMk ρ x) else m) (fun z hz => h0 z (by simp [hz])) (by simpa using h1) (by simpa using h2) h3.2 (fun j hj => by rw [hm]; exact h4 j (by simp [hj]))
    refine ⟨by simp only [putM]; rw [g1, hm], fun j => ?_⟩
    simp only [putM]
    rcases g2 j with ⟨t, e, z, a1, a2, a3, a4, a5⟩ | ⟨a1, a2⟩
    · exact .inl ⟨t + 1, e, z, by simpa using a1, a2, by simpa using a3, by simpa using a4, a5⟩
    · by_cases hj : e0.own = true ∧ i = j
      · obtain ⟨ho, rfl⟩ := hj
        refine .inl ⟨0, e0, x, by simp, ho, by simp, by simp, ?_⟩
        rw [a2, if_pos ho, List.getElem?_set_self (h4 i (by simp))]
      · refine .inr ⟨fun t e b1 b2 b3 => ?_, a2.trans ?_⟩
        · cases t with
          | zero => simp at b1 b3; subst b1; exact hj ⟨b2, b3⟩
          | succ t => exact a1 t e (by simpa using b1) b2 (by simpa using b3)
        · split
          · rename_i ho
            rw [List.getElem?_set_ne (fun h => hj ⟨ho, h⟩)]
          · rfl

theorem extraOwn_get {n : Nat} {m : Mem} (h : extraOwn n m = true) {i : Nat} (hi : n ≤ i) : m[i]? ≠ some .hole ∧ ∀ e, m[i]? = some (.ent e) → e.own = true := by
  simp only [extraOwn, List.all_eq_true] at h
  have key : ∀ x, m[i]? = some x → x ∈ m.drop n := fun x hx => List.mem_of_getElem? (i := i - n) (by rw [List.getElem?_drop, Nat.add_sub_cancel' hi]; exact hx)
  refine ⟨fun hx => ?_, fun e hx => ?_⟩
  · simpa using h _ (key _ hx)
  · simpa using h _ (key _ hx)

section
variable {P : Program} {E : Env} {ℓ : Nat → Option Loc} {m : Mem} {w : World}
def cutC (σ : List Nat) (ℓ : Nat → Option Loc) : Nat → Option Loc := fun i => match σ[i]? with | some j => ℓ j | none => none
def joinC (n k : Nat) (ℓ ℓ' : Nat → Option Loc) : Nat → Option Loc := fun j => if j < n then ℓ j else ℓ' (k + (j - n))

/-- What the caller hands over, as the callee sees it. -/
theorem call_pre (hm : MH E ℓ m w) {pre : Mem} {σ : List Nat} (hσ : σ.Nodup) (hpre : matchM (ix σ m.length) pre.length m pre σ) (an : Nat → Option Loc) (han : Le an (cutC σ ℓ)) :
    MH ⟨w, ownBlk pre (cutC σ ℓ), an⟩ (cutC σ ℓ) pre w := by
  obtain ⟨hl, hg⟩ := matchM_get hpre
  have hback : ∀ i, i < pre.length → cutC σ ℓ i = ℓ (ix σ m.length i) := fun i hi => by
    have hi' : i < σ.length := by omega
    simp [cutC, ix, hi', List.getD_eq_getElem?_getD]
  have loc : ∀ {t : Nat} {e : Ent}, pre[t]? = some (.ent e) → ∃ j e' L, σ[t]? = some j ∧ m[j]? = some (.ent e') ∧ ℓ j = some L ∧ cutC σ ℓ t = some L ∧ EntOK ℓ w L e' ∧ (e.own = true → e'.own = true ∧ e'.ty = e.ty ∧ 0 < e.c.len) ∧ (∀ n, e.fix = some n → e.c.len = n) ∧ e'.c = renA (ix σ m.length) e.c ∧ belA pre.length e.c = true := by
    intro t e ht
    obtain ⟨e1, j, e', h0, h1, h2, h3, h4, h5, h6⟩ := hg t _ ht
    cases h0
    obtain ⟨L, g1, g2, _⟩ := hm.ent j e' h2
    exact ⟨j, e', L, h1, h2, g1, by simp [cutC, h1, g1], g2, h3, h4, h5, h6⟩
  refine ⟨rfl, rfl, rfl, Nat.le_refl _, fun _ _ _ => rfl, han, ?_, ?_, ?_⟩
  · rintro i (hi | hi)
    · have hi' : σ.length ≤ i := by omega
      simp [cutC, List.getElem?_eq_none hi']
    · obtain ⟨e1, _, _, h0, _⟩ := hg i _ hi
      cases h0
  · intro t e ht
    obtain ⟨j, e', L, h1, h2, h3, h4, h5, h6, h7, h8, h9⟩ := loc ht
    obtain ⟨k1, k2, k3⟩ := renA_cells (ix σ m.length) e.c
    refine ⟨L, h4, ⟨⟨h7, k3.1 (by rw [← h8]; exact h5.ok)⟩, ?_⟩, fun ho => .inl ⟨t, e, L, ht, ho, h4, rfl⟩⟩
    split
    · rename_i ho
      obtain ⟨o1, o2, o3⟩ := h6 ho
      obtain ⟨_, h5'⟩ := h5
      rw [if_pos o1] at h5'
      obtain ⟨a, b, c⟩ := h5'
      refine ⟨a, by rw [h8, k2] at b; exact b, fun h0 => ?_⟩
      obtain ⟨cs, fr, vs, rest, c1, c2, c3, c4, c5⟩ := c h0
      rw [h8, k1] at c5
      exact ⟨cs, fr, vs, rest, by rw [← o2]; exact c1, c2, c3, c4, renL_back hback (belA_cells h9) c5⟩
    · obtain ⟨vs, hd, hc⟩ := h5.row
      rw [h8, k1] at hd
      exact ⟨vs, renL_back hback (belA_cells h9) hd, hc⟩
  · intro t u et eu Lt Lu ht hu hLt hLu ho hlim hne hreal
    obtain ⟨j, e', L, h1, h2, h3, h4, h5, h6, h7, h8, h9⟩ := loc ht
    obtain ⟨j2, e2', L2, p1, p2, p3, p4, p5, p6, p7, p8, p9⟩ := loc hu
    obtain rfl := Option.some.inj (h4.symm.trans hLt)
    obtain rfl := Option.some.inj (p4.symm.trans hLu)
    refine hm.apart j j2 e' e2' L L2 h2 p2 h3 p3 (h6 ho).1 hlim ?_ ?_
    · intro hj
      subst hj
      obtain ⟨q1, q2⟩ := List.getElem?_eq_some_iff.1 h1
      obtain ⟨r1, r2⟩ := List.getElem?_eq_some_iff.1 p1
      exact hne ((List.getElem_inj hσ).1 (q2.trans r2.symm))
    · obtain ⟨k1, k2, k3⟩ := renA_cells (ix σ m.length) eu.c
      have hlen : e2'.c.len = eu.c.len := by rw [p8, k2]
      unfold Real at hreal ⊢
      split at hreal
      · rename_i hou
        rw [if_pos (p6 hou).1]; exact hreal
      · split
        · rename_i ho2
          obtain ⟨_, p5'⟩ := p5
          rw [if_pos ho2] at p5'
          have := p5'.2.1
          omega
        · omega
/-- What the callee leaves, as the caller sees it. -/
theorem call_post (hm : MH E ℓ m w) {pre : Mem} {σ : List Nat} (hσ : σ.Nodup) (hpre : matchM (ix σ m.length) pre.length m pre σ) {ℓ' : Nat → Option Loc} {m' : Mem} {w' : World}
    (h1 : pre.length ≤ m'.length) (h2 : extraOwn pre.length m' = true) (h3 : MH ⟨w, ownBlk pre (cutC σ ℓ), ancOf pre.length [] (cutC σ ℓ)⟩ ℓ' m' w') :
    Le ℓ (joinC m.length pre.length ℓ ℓ') ∧ Via (ix σ m.length) ℓ' (joinC m.length pre.length ℓ ℓ') ∧ MH E (joinC m.length pre.length ℓ ℓ') (afterM (ix σ m.length) m pre σ m') w' := by
  obtain ⟨hl, hg⟩ := matchM_get hpre
  have hlt : ∀ {j x}, m[j]? = some x → j < m.length := fun h => (List.getElem?_eq_some_iff.1 h).1
  have hσlt : ∀ j ∈ σ, j < m.length := by
    intro j hj
    obtain ⟨t, ht⟩ := List.getElem?_of_mem hj
    have htl : t < pre.length := by rw [← hl]; exact (List.getElem?_eq_some_iff.1 ht).1
    obtain ⟨e, j', e', _, a1, a2, _⟩ := hg t _ (List.getElem?_eq_getElem htl)
    obtain rfl := Option.some.inj (ht.symm.trans a1)
    exact hlt a2
  have hent : ∀ x ∈ pre, ∃ e, x = Mk.ent e := by
    intro x hx
    obtain ⟨t, ht⟩ := List.getElem?_of_mem hx
    obtain ⟨e, _, _, a, _⟩ := hg t x ht
    exact ⟨e, a⟩
  have hlow : ∀ {j}, j < m.length → joinC m.length pre.length ℓ ℓ' j = ℓ j := fun h => by simp [joinC, h]
  have hLe : Le ℓ (joinC m.length pre.length ℓ ℓ') := fun j L hL => by
    rw [hlow, hL]
    rcases Nat.lt_or_ge j m.length with h | h
    · exact h
    · rw [hm.dom j (.inl h)] at hL; cases hL
  have hloc : ∀ {t : Nat} {j : Nat} {L : Loc}, σ[t]? = some j → ℓ j = some L → ℓ' t = some L := by
    intro t j L ht hL
    have htl : t < σ.length := (List.getElem?_eq_some_iff.1 ht).1
    refine h3.anch t L ?_
    have : t < pre.length := by omega
    simp [ancOf, this, cutC, ht, hL]
  have hVia : Via (ix σ m.length) ℓ' (joinC m.length pre.length ℓ ℓ') := by
    intro i L hL
    by_cases hi : i < σ.length
    · have hs : σ[i]? = some σ[i] := List.getElem?_eq_getElem hi
      have hx : ix σ m.length i = σ[i] := by simp [ix, hi, List.getD_eq_getElem?_getD]
      rw [hx, hlow (hσlt _ (List.getElem_mem hi))]
      obtain ⟨e, j, e', _, a1, a2, _⟩ := hg i _ (List.getElem?_eq_getElem (by omega))
      obtain rfl := Option.some.inj (hs.symm.trans a1)
      obtain ⟨L2, b1, _⟩ := hm.ent _ _ a2
      rw [b1]
      have := hloc a1 b1
      rw [this] at hL; exact hL
    · have hx : ix σ m.length i = m.length + (i - σ.length) := by simp [ix, hi]
      rw [hx]
      simp only [joinC]
      rw [if_neg (by omega), show pre.length + (m.length + (i - σ.length) - m.length) = i by omega]
      exact hL
  -- what lies at an id after the call
  obtain ⟨pl, pg⟩ := putM_get (ρ := ix σ m.length) (m := m) hent hl h1 hσ hσlt
  have split_ : ∀ {j : Nat} {e : Ent}, (afterM (ix σ m.length) m pre σ m')[j]? = some (.ent e) →
      (∃ (t : Nat) (e0 : Ent), m'[t]? = some (.ent e0) ∧ e = { e0 with c := renA (ix σ m.length) e0.c } ∧ joinC m.length pre.length ℓ ℓ' j = ℓ' t ∧ j = ix σ m.length t ∧ ((∃ ep, pre[t]? = some (.ent ep) ∧ ep.own = true ∧ σ[t]? = some j) ∨ (pre.length ≤ t ∧ e0.own = true))) ∨
      (m[j]? = some (.ent e) ∧ joinC m.length pre.length ℓ ℓ' j = ℓ j ∧ ∀ (t : Nat) (ep : Ent), pre[t]? = some (.ent ep) → ep.own = true → σ[t]? = some j → False) := by
    intro j e hj
    unfold afterM at hj
    rcases Nat.lt_or_ge j m.length with hjl | hjl
    · rw [List.getElem?_append_left (by rw [pl]; exact hjl)] at hj
      rcases pg j with ⟨t, ep, x, a1, a2, a3, a4, a5⟩ | ⟨a1, a2⟩
      · rw [a5] at hj
        cases x with
        | ent e0 =>
          simp only [renMk, Option.some.injEq, Mk.ent.injEq] at hj
          have htl : t < σ.length := (List.getElem?_eq_some_iff.1 a3).1
          refine .inl ⟨t, e0, a4, hj.symm, ?_, by rw [List.getElem?_eq_getElem htl] at a3; simp [ix, htl, List.getD_eq_getElem?_getD]; exact (Option.some.inj a3).symm, .inl ⟨ep, a1, a2, a3⟩⟩
          rw [hlow hjl]
          obtain ⟨_, j', e', _, b1, b2, _⟩ := hg t _ a1
          obtain rfl := Option.some.inj (a3.symm.trans b1)
          obtain ⟨L2, c1, _⟩ := hm.ent _ _ b2
          rw [c1, hloc a3 c1]
        | gone => simp [renMk] at hj
        | hole => simp [renMk] at hj
      · rw [a2] at hj
        exact .inr ⟨hj, hlow hjl, a1⟩
    · rw [List.getElem?_append_right (by rw [pl]; exact hjl), pl, List.getElem?_map, List.getElem?_drop] at hj
      cases hx : m'[pre.length + (j - m.length)]? with
      | none => rw [hx] at hj; simp at hj
      | some x =>
        rw [hx] at hj
        cases x with
        | ent e0 =>
          simp only [Option.map_some, renMk, Option.some.injEq, Mk.ent.injEq] at hj
          refine .inl ⟨pre.length + (j - m.length), e0, hx, hj.symm, ?_, ?_, .inr ⟨by omega, (extraOwn_get h2 (by omega)).2 e0 hx⟩⟩
          · simp [joinC, Nat.not_lt.2 hjl]
          · simp only [ix]; rw [if_neg (by omega)]; omega
        | gone => simp [renMk] at hj
        | hole => simp [renMk] at hj
  have alen : (afterM (ix σ m.length) m pre σ m').length = m.length + (m'.length - pre.length) := by simp [afterM, pl]
  -- blocks that the callee may write to
  have own_ : ∀ {b : Nat}, ownBlk pre (cutC σ ℓ) b → ∃ (t : Nat) (ep : Ent) (j : Nat) (e' : Ent) (L : Loc), pre[t]? = some (.ent ep) ∧ ep.own = true ∧ σ[t]? = some j ∧ m[j]? = some (.ent e') ∧ e'.own = true ∧ ℓ j = some L ∧ L.blk = b ∧ 0 < L.lim := by
    rintro b ⟨t, ep, L, a1, a2, a3, a4⟩
    obtain ⟨_, j, e', hh, b1, b2, b3, b4, b5, b6⟩ := hg t _ a1
    cases hh
    have hcc : ℓ j = some L := by simpa [cutC, b1] using a3
    obtain ⟨L2, c1, c2, c3⟩ := hm.ent _ _ b2
    obtain rfl := Option.some.inj (c1.symm.trans hcc)
    obtain ⟨q1, q2, q3⟩ := b3 a2
    obtain ⟨_, c2'⟩ := c2
    rw [if_pos q1] at c2'
    have := c2'.2.1
    rw [b5, (renA_cells _ _).2.1] at this
    exact ⟨t, ep, j, e', L2, a1, a2, b1, b2, q1, c1, a4, by omega⟩
  have may_ : ∀ {b : Nat}, ownBlk pre (cutC σ ℓ) b → E.may b ∨ E.w0.heap.size ≤ b := by
    intro b hb
    obtain ⟨t, ep, j, e', L, a1, a2, a3, a4, a5, a6, rfl, a8⟩ := own_ hb
    obtain ⟨L2, c1, c2, c3⟩ := hm.ent _ _ a4
    obtain rfl := Option.some.inj (c1.symm.trans a6)
    exact c3 a5
  -- what the callee did not touch
  have stay : ∀ {j : Nat} {e : Ent} {L : Loc}, m[j]? = some (.ent e) → ℓ j = some L → (∀ (t : Nat) (ep : Ent), pre[t]? = some (.ent ep) → ep.own = true → σ[t]? = some j → False) → Real e L → L.blk < w.heap.size ∧ ¬ ownBlk pre (cutC σ ℓ) L.blk := by
    intro j e L hj hL hno hreal
    obtain ⟨L2, c1, c2, c3⟩ := hm.ent _ _ hj
    obtain rfl := Option.some.inj (c1.symm.trans hL)
    refine ⟨c2.lt hreal, fun hb => ?_⟩
    obtain ⟨t, ep, j2, e2, L3, a1, a2, a3, a4, a5, a6, a7, a8⟩ := own_ hb
    by_cases hjj : j2 = j
    · subst hjj; exact hno t ep a1 a2 a3
    · exact hm.apart j2 j e2 e L3 L2 a4 hj a6 hL a5 a8 hjj hreal a7
  -- what the callee made or may have written to
  have where_ : ∀ {t : Nat} {e0 : Ent} {L : Loc} {j : Nat}, m'[t]? = some (.ent e0) → ℓ' t = some L → ((∃ ep, pre[t]? = some (.ent ep) ∧ ep.own = true ∧ σ[t]? = some j) ∨ (pre.length ≤ t ∧ e0.own = true)) → ownBlk pre (cutC σ ℓ) L.blk ∨ w.heap.size ≤ L.blk := by
    intro t e0 L j ht hL h
    rcases h with ⟨ep, a1, a2, a3⟩ | ⟨a1, a2⟩
    · obtain ⟨_, j', e', _, b1, b2, _⟩ := hg t _ a1
      obtain rfl := Option.some.inj (a3.symm.trans b1)
      obtain ⟨L2, c1, _⟩ := hm.ent _ _ b2
      obtain rfl := Option.some.inj ((hloc a3 c1).symm.trans hL)
      exact .inl ⟨t, ep, L2, a1, a2, by simp [cutC, a3, c1], rfl⟩
    · obtain ⟨L2, c1, _, c3⟩ := h3.ent _ _ ht
      obtain rfl := Option.some.inj (c1.symm.trans hL)
      exact c3 a2
  refine ⟨hLe, hVia, ⟨h3.os.trans hm.os, h3.tape.trans hm.tape, h3.output.trans hm.output, Nat.le_trans hm.size h3.size, ?_, hm.anch.trans hLe, ?_, ?_, ?_⟩⟩
  · intro b hb hnm
    refine (h3.keep b (Nat.lt_of_lt_of_le hb hm.size) (fun ho => ?_)).trans (hm.keep b hb hnm)
    rcases may_ ho with h | h
    · exact hnm h
    · omega
  · intro i hi
    rw [alen] at hi
    rcases Nat.lt_or_ge i m.length with hil | hil
    · rw [hlow hil]
      rcases hi with hi | hi
      · omega
      · unfold afterM at hi
        rw [List.getElem?_append_left (by rw [pl]; exact hil)] at hi
        rcases pg i with ⟨t, ep, x, a1, a2, a3, a4, a5⟩ | ⟨a1, a2⟩
        · exfalso
          rw [a5] at hi
          cases x with
          | hole =>
            have := h3.dom t (.inr a4)
            obtain ⟨_, j', e', _, b1, b2, _⟩ := hg t _ a1
            obtain ⟨L2, c1, _⟩ := hm.ent _ _ b2
            rw [hloc b1 c1] at this
            cases this
          | gone => simp [renMk] at hi
          | ent => simp [renMk] at hi
        · rw [a2] at hi
          exact hm.dom i (.inr hi)
    · simp only [joinC]
      rw [if_neg (by omega)]
      rcases hi with hi | hi
      · exact h3.dom _ (.inl (by omega))
      · exfalso
        unfold afterM at hi
        rw [List.getElem?_append_right (by rw [pl]; exact hil), pl, List.getElem?_map, List.getElem?_drop] at hi
        cases hx : m'[pre.length + (i - m.length)]? with
        | none => rw [hx] at hi; simp at hi
        | some x =>
          rw [hx] at hi
          cases x with
          | hole => exact (extraOwn_get h2 (by omega)).1 hx
          | gone => simp [renMk] at hi
          | ent => simp [renMk] at hi
  · intro j e hj
    rcases split_ hj with ⟨t, e0, a1, rfl, a3, a4, a5⟩ | ⟨a1, a2, a3⟩
    · obtain ⟨L, b1, b2, b3⟩ := h3.ent _ _ a1
      refine ⟨L, a3.trans b1, renE_ok hVia b2, fun ho => ?_⟩
      rcases b3 ho with h | h
      · exact may_ h
      · exact .inr (Nat.le_trans hm.size h)
    · obtain ⟨L, b1, b2, b3⟩ := hm.ent _ _ a1
      refine ⟨L, a2.trans b1, (b2.of_block fun hr => ?_).mono hLe, b3⟩
      obtain ⟨c1, c2⟩ := stay a1 b1 a3 hr
      exact h3.keep _ c1 c2
  · intro i j ei ej Li Lj hi hj hLi hLj ho hlim hne hreal
    rcases split_ hi with ⟨t, e0, a1, rfl, a3, a4, a5⟩ | ⟨a1, a2, a3⟩
    · rcases split_ hj with ⟨u, e1, b1, rfl, b3, b4, b5⟩ | ⟨b1, b2, b3⟩
      · refine h3.apart t u e0 e1 Li Lj a1 b1 (a3.symm.trans hLi) (b3.symm.trans hLj) ho hlim (fun h => ?_) ?_
        · subst h; exact hne (a4.trans b4.symm)
        · unfold Real at hreal ⊢
          rw [show ({ e1 with c := renA (ix σ m.length) e1.c } : Ent).c.len = e1.c.len from (renA_cells _ _).2.1] at hreal
          exact hreal
      · have hw := where_ a1 (a3.symm.trans hLi) a5
        obtain ⟨c1, c2⟩ := stay b1 (b2.symm.trans hLj) b3 hreal
        intro hb
        rcases hw with hw | hw
        · exact c2 (hb ▸ hw)
        · omega
    · have hri : Real ei Li := by unfold Real; rw [if_pos ho]; exact hlim
      obtain ⟨c1, c2⟩ := stay a1 (a2.symm.trans hLi) a3 hri
      rcases split_ hj with ⟨u, e1, b1, rfl, b3, b4, b5⟩ | ⟨b1, b2, b3⟩
      · have hw := where_ b1 (b3.symm.trans hLj) b5
        intro hb
        rcases hw with hw | hw
        · exact c2 (hb ▸ hw)
        · omega
      · exact hm.apart i j ei ej Li Lj a1 b1 (a2.symm.trans hLi) (b2.symm.trans hLj) ho hlim hne hreal

/-- A contract put to use. -/
theorem Spec.use {f : FuncId} {args : List SV} {pre : Mem} {post : SV → Mem → Prop} (hS : Spec P f args pre [] post) (hm : MH E ℓ m w) (σ : List Nat) (hσ : σ.Nodup) (hpre : matchM (ix σ m.length) pre.length m pre σ)
    (hbel : args.all (belV pre.length) = true) {vs : List Value} (hvs : DenVs ℓ (args.map (renV (ix σ m.length))) vs) :
    Calls P f vs.toArray w (fun e w' => ∃ sv m' ℓ' v, e = .returned v ∧ post sv m' ∧ pre.length ≤ m'.length ∧ Le ℓ ℓ' ∧ DenV ℓ' (renV (ix σ m.length) sv) v ∧ MH E ℓ' (afterM (ix σ m.length) m pre σ m') w') := by
  obtain ⟨hl, hg⟩ := matchM_get hpre
  have hback : ∀ i, i < pre.length → cutC σ ℓ i = ℓ (ix σ m.length i) := fun i hi => by
    have hi' : i < σ.length := by omega
    simp [cutC, ix, hi', List.getD_eq_getElem?_getD]
  have h := hS w (cutC σ ℓ) vs (renVs_back hback hbel hvs) (fun an han => call_pre hm hσ hpre an han)
  refine h.mono ?_
  rintro e w' ⟨sv, m', ℓ', v, h1, h2, h3, h4, h5, h6⟩
  obtain ⟨g1, g2, g3⟩ := call_post hm hσ hpre h3 h4 h6
  exact ⟨sv, m', _, v, h1, h2, h3, g1, renV_den g2 h5, g3⟩
end
end Go.V
end
section
set_option linter.unusedSimpArgs false
set_option linter.unusedVariables false
namespace Go.V
open Go
def Det {α : Type} (F : (α → Prop) → Prop) : Prop := ∀ K, F K → ∃ r, K r ∧ ∀ K' : α → Prop, K' r → F K'
theorem Det.ret {α : Type} (r : α) : Det (fun K => K r) := fun K h => ⟨r, h, fun _ h => h⟩
theorem Det.none {α : Type} : Det (fun (_ : α → Prop) => False) := fun K h => h.elim
theorem Det.and {α : Type} {c : Prop} {F : (α → Prop) → Prop} (h : Det F) : Det (fun K => c ∧ F K) := fun K ⟨hc, hF⟩ => let ⟨r, h1, h2⟩ := h K hF; ⟨r, h1, fun K' k => ⟨hc, h2 K' k⟩⟩
theorem Det.bind {α β : Type} {F : (α → Prop) → Prop} {G : α → (β → Prop) → Prop} (h : Det F) (g : ∀ a, Det (G a)) : Det (fun K => F (fun a => G a K)) := fun K hF =>
  let ⟨r, h1, h2⟩ := h _ hF
  let ⟨s, g1, g2⟩ := g r K h1
  ⟨s, g1, fun K' k => h2 _ (g2 K' k)⟩
theorem det_stAt (ty : Ty) (c : A) (off n : Nat) : Det (stAt ty c off n) := by
  unfold stAt
  repeat' split
  all_goals first | exact Det.none | exact Det.ret _ | exact Det.and (Det.ret _) | exact Det.and (Det.and (Det.ret _))
theorem det_stLoad (T : Tab) (m : Mem) (t : TypeId) (x : SV) : Det (stLoad T m t x) := by
  unfold stLoad
  repeat' split
  all_goals first | exact Det.none | exact Det.ret _ | exact Det.and (Det.ret _) | exact Det.and (Det.and (Det.ret _)) | exact det_stAt _ _ _ _
theorem det_stField (T : Tab) (t : TypeId) (x : SV) (f : Nat) : Det (stField T t x f) := by
  unfold stField
  repeat' split
  all_goals first | exact Det.none | exact Det.ret _ | exact Det.and (Det.ret _) | exact Det.and (Det.and (Det.ret _))
theorem det_stIndexAddr (T : Tab) (t : TypeId) (x i : SV) : Det (stIndexAddr T t x i) := by
  unfold stIndexAddr
  repeat' split
  all_goals first | exact Det.none | exact Det.ret _ | exact Det.and (Det.ret _) | exact Det.and (Det.and (Det.ret _))
theorem det_stPart (T : Tab) (t : TypeId) (a : A) (off : Nat) : Det (stPart T t a off) := by
  unfold stPart stPartRow
  repeat' split
  all_goals first | exact Det.none | exact Det.ret _ | exact Det.and (Det.ret _) | exact Det.and (Det.and (Det.ret _))
theorem det_stIndex (T : Tab) (t : TypeId) (x i : SV) : Det (stIndex T t x i) := by
  unfold stIndex
  repeat' split
  all_goals first | exact Det.none | exact Det.ret _ | exact Det.and (Det.ret _) | exact Det.and (Det.and (Det.ret _)) | exact Det.and (Det.and (det_stPart _ _ _ _))
theorem det_stFieldV (T : Tab) (t : TypeId) (x : SV) (f : Nat) : Det (stFieldV T t x f) := by
  unfold stFieldV
  repeat' split
  all_goals first | exact Det.none | exact Det.and (det_stPart _ _ _ _)
theorem det_stUn (op : UnOp) (x : SV) : Det (stUn op x) := by
  unfold stUn
  repeat' split
  all_goals first | exact Det.none | exact Det.ret _ | exact Det.and (Det.ret _)
theorem det_stArrPtr (T : Tab) (t : TypeId) (x : SV) : Det (stArrPtr T t x) := by
  unfold stArrPtr
  repeat' split
  all_goals first | exact Det.none | exact Det.ret _ | exact Det.and (Det.ret _)
theorem det_stExtract (x : SV) (i : Nat) : Det (stExtract x i) := by
  unfold stExtract
  repeat' split
  all_goals first | exact Det.none | exact Det.ret _ | exact Det.and (Det.ret _)
theorem det_stIface (T : Tab) (t : TypeId) (x : SV) : Det (stIface T t x) := by
  unfold stIface
  repeat' split
  all_goals first | exact Det.none | exact Det.ret _ | exact Det.and (Det.ret _)
theorem det_stFunc (fn : Fn) (a b : List SV) : Det (stFunc fn a b) := by
  unfold stFunc
  repeat' split
  all_goals first | exact Det.none | exact Det.ret _ | exact Det.and (Det.ret _)
theorem det_stLen (T : Tab) (t : TypeId) (x : SV) : Det (stLen T t x) := by
  unfold stLen
  repeat' split
  all_goals first | exact Det.none | exact Det.ret _ | exact Det.and (Det.ret _)
theorem det_stMin (mx : Bool) (l : List SV) : Det (stMin mx l) := by
  unfold stMin
  repeat' split
  all_goals first | exact Det.none | exact Det.ret _ | exact Det.and (Det.ret _)
theorem det_stNil (x : SV) : Det (stNil x) := by
  unfold stNil
  repeat' split
  all_goals first | exact Det.none | exact Det.ret _ | exact Det.and (Det.ret _)
theorem det_stSlice (T : Tab) (m : Mem) (t : TypeId) (x : SV) (lo hi mx : Option SV) : Det (stSlice T m t x lo hi mx) := by
  unfold stSlice
  repeat' split
  all_goals first | exact Det.none | exact Det.ret _ | exact Det.and (Det.ret _) | exact Det.and (Det.and (Det.ret _))
theorem det_stEqA (T : Tab) (op : BinOp) (t : TypeId) (a b : A) : Det (stEqA T op t a b) := by
  unfold stEqA
  repeat' split
  all_goals first | exact Det.none | exact Det.ret _ | exact Det.and (Det.ret _) | exact Det.and (Det.and (Det.ret _)) | exact Det.and (Det.and Det.none)
theorem det_binI (op : BinOp) (a b : Int) : Det (binI op a b) := by
  unfold binI
  repeat' split
  all_goals first | exact Det.none | exact Det.ret _ | exact Det.and (Det.ret _) | exact Det.and (Det.and (Det.ret _))
theorem det_binB {n : Nat} (mk : BitVec n → S) (op : BinOp) (a b : BitVec n) : Det (binB mk op a b) := by
  unfold binB
  repeat' split
  all_goals first | exact Det.none | exact Det.ret _ | exact Det.and (Det.ret _) | exact Det.and (Det.and (Det.ret _))
theorem det_shB {n : Nat} (mk : BitVec n → S) (left : Bool) (a : BitVec n) (s : Int) : Det (shB mk left a s) := by
  unfold shB
  cases left
  all_goals exact Det.and (Det.ret _)
theorem det_bin (op : BinOp) (k : Kind) (x y : S) : Det (bin op k x y) := by
  unfold bin
  repeat' split
  · unfold shS
    repeat' split
    all_goals first | exact Det.none | exact det_shB _ _ _ _ | exact Det.and (Det.and (Det.ret _)) | exact Det.and (Det.ret _)
  · exact Det.none
  · unfold shS
    repeat' split
    all_goals first | exact Det.none | exact det_shB _ _ _ _ | exact Det.and (Det.ret _) | exact Det.and (Det.and (Det.ret _))
  · exact Det.none
  · unfold binS
    repeat' split
    all_goals first | exact Det.none | exact Det.ret _ | exact det_binI _ _ _ | exact det_binB _ _ _ _
theorem det_cv (k : IntKind) (x : S) : Det (cvS k x) := by
  unfold cvS cvB cvI
  repeat' split
  all_goals first | exact Det.none | exact Det.ret _ | exact Det.and (Det.ret _) | exact Det.and (Det.and (Det.ret _))
theorem det_putP (a : A) (sz i : Nat) (x : SV) : Det (putP a sz i x) := by
  unfold putP
  repeat' split
  all_goals first | exact Det.none | exact Det.ret _ | exact Det.and (Det.ret _) | exact Det.and (Det.and (Det.ret _)) | exact Det.and Det.none
theorem det_fillA : ∀ (ps : List (Nat × SV)) (a : A) (sz : Nat), Det (fillA a sz ps)
  | [], a, sz => Det.ret (α := A) a
  | (i, x) :: r, a, sz => Det.bind (F := putP a sz i x) (G := fun a' => fillA a' sz r) (det_putP a sz i x) (fun a' => det_fillA r a' sz)
theorem det_putS (T : Tab) (fs : List (Nat × TypeId)) (l : List Seg) (i : Nat) (x : SV) : Det (putS T fs l i x) := by
  unfold putS
  repeat' split
  all_goals first | exact Det.none | exact Det.ret _ | exact Det.and (Det.ret _) | exact Det.and (Det.and (Det.ret _)) | exact Det.and Det.none
theorem det_fillS (T : Tab) (fs : List (Nat × TypeId)) : ∀ (ps : List (Nat × SV)) (l : List Seg), Det (fillS T fs l ps)
  | [], l => Det.ret (α := List Seg) l
  | (i, x) :: r, l => Det.bind (F := putS T fs l i x) (G := fun l' => fillS T fs l' r) (det_putS T fs l i x) (fun l' => det_fillS T fs r l')
theorem Det.comp {α β : Type} {F : (α → Prop) → Prop} (h : Det F) (f : α → β) : Det (fun K : β → Prop => F (fun a => K (f a))) := Det.bind h (fun a => Det.ret (f a))
theorem det_stBuild (T : Tab) (t : TypeId) (ps : List (Nat × SV)) : Det (stBuild T t ps) := by
  unfold stBuild
  repeat' split
  all_goals first | exact Det.none | exact Det.comp (det_fillS _ _ _ _) _ | exact Det.and (Det.comp (det_fillA _ _ _) _)
theorem det_litA (z : A) (len sz : Nat) (ps : List (Nat × SV)) : Det (litA z len sz ps) := by
  unfold litA
  repeat' split
  all_goals first | exact Det.none | exact Det.and (Det.ret _) | exact det_fillA _ _ _
/-- The same for what puts a value and may put a block. -/
def Det2 (F : (SV → Option Ent → Prop) → Prop) : Prop := Det (fun K : SV × Option Ent → Prop => F (fun v e => K (v, e)))
theorem Det2.of1 {F : (SV → Prop) → Prop} (h : Det F) : Det2 (fun K => F (fun r => K r none)) := Det.comp h (fun r => (r, none))
theorem det_stBox (T : Tab) (nid : Nat) (t : TypeId) (x : SV) : Det2 (stBox T nid t x) := by
  unfold stBox Det2
  repeat' split
  all_goals first | exact Det.none | exact Det.and (Det.ret (α := SV × Option Ent) _)
theorem det_stAlloc (T : Tab) (nid : Nat) (t : TypeId) : Det2 (stAlloc T nid t) := by
  unfold stAlloc Det2
  repeat' split
  all_goals first | exact Det.none | exact Det.and (Det.ret (α := SV × Option Ent) _)
theorem det_stMake (T : Tab) (nid : Nat) (t : TypeId) (l c : SV) : Det2 (stMake T nid t l c) := by
  unfold stMake Det2
  repeat' split
  all_goals first | exact Det.none | exact Det.and (Det.and (Det.ret (α := SV × Option Ent) _))
theorem det_stBuildSlice (T : Tab) (nid : Nat) (t : TypeId) (n : Nat) (ps : List (Nat × SV)) : Det2 (stBuildSlice T nid t n ps) := by
  unfold stBuildSlice Det2
  repeat' split
  all_goals first | exact Det.none | exact Det.and (Det.and (Det.comp (det_litA _ _ _ _) (fun a => (_, _))))
/-- No conversion of a string to a slice (there the room is open). -/
def noCap (T : Tab) (o : Oper) : Bool :=
  match o.op with
  | .convert s d x => (match T d with
    | some ty => (match ty.kind with | .sl _ => false | _ => true)
    | none => true)
  | _ => true
theorem det_stConv (T : Tab) (m : Mem) (nid : Nat) (s d : TypeId) (x : SV) (h : ∀ ty e, T d = some ty → ty.kind ≠ .sl e) : Det2 (stConv T m nid s d x) := by
  unfold stConv Det2
  repeat' split
  all_goals first
    | exact Det.none
    | exact Det.ret (α := SV × Option Ent) _
    | exact Det.and (Det.ret (α := SV × Option Ent) _)
    | exact Det.comp (det_cv _ _) (fun r => (r, none))
    | (exfalso; exact h _ _ (by assumption) (by assumption))
theorem det_stBin (T : Tab) (op : BinOp) (t : TypeId) (x y : SV) : Det (stBin T op t x y) := by
  unfold stBin
  repeat' split
  all_goals first | exact Det.none | exact Det.comp (det_bin _ _ _ _) one | exact det_stEqA _ _ _ _ _
theorem det_est (T : Tab) (pu : Pure) (m : Mem) (nid : Nat) (g : Operand → SV) (o : Oper) (h : noCap T o = true) : Det2 (est T pu m nid g o) := by
  unfold est
  cases hop : o.op <;> simp only
  case pick c a b =>
    split
    · rename_i c _
      cases c
      · intro K hK
        simp only [reduceCtorEq, false_implies, true_and, true_implies] at hK
        exact ⟨_, hK, fun K' hK' => by simpa using hK'⟩
      · intro K hK
        simp only [reduceCtorEq, false_implies, and_true, true_implies] at hK
        exact ⟨_, hK, fun K' hK' => by simpa using hK'⟩
    · exact Det.none
  case convert s d x =>
    refine det_stConv T m nid s d (g x) ?_
    intro ty e hty hk
    unfold noCap at h
    rw [hop] at h
    simp only [hty, hk] at h
    cases h
  case call c =>
    repeat' split
    all_goals first
      | exact Det.none
      | exact Det2.of1 (det_stLen _ _ _)
      | exact Det2.of1 (det_stMin _ _)
      | exact Det.ret (α := SV × Option Ent) _
  all_goals first
    | exact Det.none
    | exact Det.ret (α := SV × Option Ent) _
    | exact det_stAlloc _ _ _
    | exact det_stBox _ _ _ _
    | exact det_stMake _ _ _ _ _
    | exact det_stBuildSlice _ _ _ _ _
    | exact Det2.of1 (det_stBuild _ _ _)
    | exact Det2.of1 (det_stLoad _ _ _ _)
    | exact Det2.of1 (det_stNil _)
    | exact Det2.of1 (det_stBin _ _ _ _ _)
    | exact Det2.of1 (det_stUn _ _)
    | exact Det2.of1 (det_stArrPtr _ _ _)
    | exact Det2.of1 (det_stIface _ _ _)
    | exact Det2.of1 (det_stFunc _ _ _)
    | exact Det2.of1 (det_stSlice _ _ _ _ _ _ _)
    | exact Det2.of1 (det_stField _ _ _ _)
    | exact Det2.of1 (det_stFieldV _ _ _ _)
    | exact Det2.of1 (det_stIndexAddr _ _ _ _)
    | exact Det2.of1 (det_stIndex _ _ _ _)
    | exact Det2.of1 (det_stExtract _ _)

/-! what an operation depends on -/
theorem est_congr {T : Tab} {pu : Pure} {m : Mem} {nid : Nat} {g g' : Operand → SV} {o : Oper} {K : SV → Option Ent → Prop} (h : ∀ x ∈ o.op.operands.toList, g x = g' x) : est T pu m nid g o K = est T pu m nid g' o K := by
  have hl : ∀ l : List Operand, (∀ x ∈ l, g x = g' x) → l.map g = l.map g' := fun l hl => List.map_congr_left hl
  have hp : ∀ l : List (Nat × Operand), (∀ p ∈ l, g p.2 = g' p.2) → l.map (fun p => (p.1, g p.2)) = l.map (fun p => (p.1, g' p.2)) := fun l hl => List.map_congr_left (fun p hp => by rw [hl p hp])
  have ho : ∀ l : Option Operand, (∀ p ∈ l.toList, g p = g' p) → l.map g = l.map g' := fun l hl => by cases l <;> simp_all
  unfold est
  cases hop : o.op <;> simp only <;> rw [hop] at h <;> simp only [Op.operands] at h
  case call c =>
    have h2 := hl c.args.toList (fun x hx => h x (by simp only [Call.operands, Array.toList_append, List.mem_append]; exact .inr hx))
    rw [h2]
    split
    · split
      · rename_i x t hx ht
        rw [h x (by simp only [Call.operands, Array.toList_append, List.mem_append, hx]; exact .inr (by simp))]
      · rfl
    all_goals rfl
  case build t ps => rw [hp ps.toList (fun p hp => h p.2 (by simp only [List.mem_map]; exact ⟨p, hp, rfl⟩))]
  case buildSlice t n ps => rw [hp ps.toList (fun p hp => h p.2 (by simp only [List.mem_map]; exact ⟨p, hp, rfl⟩))]
  case makeFunc fn a b =>
    simp only [Array.toList_append, List.mem_append] at h
    rw [hl _ (fun x hx => h x (.inl hx)), hl _ (fun x hx => h x (.inr hx))]
  case slice t x lo hi mx =>
    simp only [Array.toList_append, List.mem_append] at h
    rw [h x (by simp), ho lo (fun p hp => h p (by cases lo <;> simp_all)), ho hi (fun p hp => h p (by cases hi <;> simp_all)), ho mx (fun p hp => h p (by cases mx <;> simp_all))]
  all_goals first
    | rfl
    | (simp only [List.mem_cons, List.not_mem_nil, or_false, forall_eq_or_imp, forall_eq] at h; simp only [h])
    | skip

/-- More memory behind does no harm. -/
def PureMono (pu : Pure) : Prop := ∀ m x f l v, pu m f l = some v → pu (m ++ x) f l = some v
theorem get_app {m x : Mem} {id : Nat} {e : Mk} (h : m[id]? = some e) : (m ++ x)[id]? = some e := by
  rw [List.getElem?_append_left (List.getElem?_eq_some_iff.1 h).1]; exact h
theorem stLoad_app {T : Tab} {m : Mem} (x : Mem) {t : TypeId} {y : SV} {K : SV → Prop} (h : stLoad T m t y K) : stLoad T (m ++ x) t y K := by
  unfold stLoad at h ⊢
  split at h
  · split at h
    · rename_i hm
      simp only [get_app (x := x) hm]
      exact h
    · exact h.elim
  · exact h.elim
theorem stSlice_app {T : Tab} {m : Mem} (x : Mem) {t : TypeId} {y : SV} {lo hi mx : Option SV} {K : SV → Prop} (h : stSlice T m t y lo hi mx K) : stSlice T (m ++ x) t y lo hi mx K := by
  unfold stSlice at h ⊢
  split at h
  · exact h.elim
  · rename_i ty hty
    split at h
    · exact h
    · exact h
    · split at h
      · rename_i h1 h2 h3 h4 hm
        simp only [h1, h2, h3, h4, get_app (x := x) hm]
        exact h
      · exact h.elim
    · exact h
    · exact h.elim
theorem stConv_app {T : Tab} {m : Mem} (x : Mem) {nid : Nat} {s d : TypeId} {y : SV} {K : SV → Option Ent → Prop} (h : stConv T m nid s d y K) : stConv T (m ++ x) nid s d y K := by
  unfold stConv at h ⊢
  split at h
  · split at h
    · exact h
    · exact h
    · exact h
    · split at h
      · split at h
        · rename_i hk hm
          simp only [hk, get_app (x := x) hm]
          exact h
        · exact h.elim
      · split at h
        · rename_i hk hm
          simp only [hk, get_app (x := x) hm]
          exact h
        · exact h.elim
      · exact h
      · exact h.elim
    · exact h.elim
  · exact h.elim
theorem est_app {T : Tab} {pu : Pure} {m : Mem} (hpu : PureMono pu) (x : Mem) {nid : Nat} {g : Operand → SV} {o : Oper} {K : SV → Option Ent → Prop} (h : est T pu m nid g o K) : est T pu (m ++ x) nid g o K := by
  unfold est at h ⊢
  cases hop : o.op <;> simp only [hop] at h ⊢
  case load => exact stLoad_app x h
  case slice => exact stSlice_app x h
  case convert => exact stConv_app x h
  case call c =>
    split at h
    · exact h
    · exact h
    · exact h
    · rename_i f hf
      split at h
      · rename_i v hv
        simp only [hpu _ x _ _ _ hv]
        exact h
      · exact h.elim
    · exact h.elim
  all_goals exact h
end Go.V
end
section
set_option linter.unusedSimpArgs false
set_option linter.unusedVariables false
namespace Go.V
open Go

/-! what is checked of a region by looking at it -/
def tmpsOf (o : Oper) : List Nat := o.op.operands.toList.filterMap (fun x => match x with | .tmp t => some t | _ => none)
def guardTmp (l : List Oper) (o : Oper) : Option Nat := o.guard.bind (fun p => (l[p.1]?).bind (·.dst))
def readsOf (l : List Oper) (o : Oper) : List Nat := tmpsOf o ++ (guardTmp l o).toList
def dstOf (l : List Oper) (i : Nat) : Option Nat := (l[i]?).bind (·.dst)
def allocs (o : Oper) : Bool := match o.op with | .alloc _ => true | .box _ _ => true | .makeSlice _ _ _ => true | .buildSlice _ _ _ => true | _ => false
def headB (l : List Oper) (n : Nat) : Bool := (List.range n).all fun i => match l[i]? with
  | none => false
  | some o => (dstOf l i).isSome && ((List.range n).all fun j => i == j || dstOf l j != dstOf l i) &&
    ((List.range n).all fun j => match dstOf l j with | none => true | some d => !(readsOf l o).contains d || (decide (j < i) && Region.waitsFor .any l.toArray i j)) &&
    (o.after.toList.all fun e => !Region.binds .any e || decide (e.on < i))
def firstN (n g : Nat) : Array Bool := (List.replicate n true ++ List.replicate g false).toArray
def drawB (l : List Oper) (n : Nat) : Bool :=
  decide (n < l.length) && Region.sinkB .any l.toArray n && Region.chainB .any l.toArray n && Region.seqB .any l.toArray (l.length - n) n (firstN n (l.length - n)) && headB l n

/-! the run of a region's head in the text's order -/
def evS (sl : Slots) : Operand → SV
  | .tmp t => look sl t
  | .const v => constS v
  | .global _ => one .any
  | .func f => one (.fn f [])
theorem evS_eq (st : St) : st.ev = evS st.sl := by funext x; cases x <;> rfl
def pushD (d : Option Nat) (v : SV) (sl : Slots) : Slots := match d with | some d => (d, v) :: sl | none => sl
def hdRun (T : Tab) (pu : Pure) (m0 : Mem) (l : List Oper) (N : Nat) : List Oper → Slots → List Ent → (Slots → List Ent → Prop) → Prop
  | [], sl, al, K => K sl al
  | o :: r, sl, al, K =>
    (noCap T o = true ∧ okd N o.dst) ∧ match guardTmp l o, o.guard with
    | none, none => est T pu m0 (m0.length + al.length) (evS sl) o (fun v eo => eo.isSome = allocs o ∧ hdRun T pu m0 l N r (pushD o.dst v sl) (al ++ eo.toList) K)
    | some d, some (_, b) => (match look sl d with
      | .one (.s (.b c)) => (c = b → est T pu m0 (m0.length + al.length) (evS sl) o (fun v eo => eo.isSome = allocs o ∧ hdRun T pu m0 l N r (pushD o.dst v sl) (al ++ eo.toList) K)) ∧ (c = (!b) → hdRun T pu m0 l N r (pushD o.dst (.tup []) sl) al K)
      | .tup [] => hdRun T pu m0 l N r (pushD o.dst (.tup []) sl) al K
      | _ => False)
    | _, _ => False
def says (l : List Oper) (o : Oper) (look : Nat → SV) (t : Bool) : Prop :=
  match guardTmp l o, o.guard with
  | none, none => t = true
  | some d, some (_, b) => (∃ c, look d = .one (.s (.b c)) ∧ t = (c == b)) ∨ (look d = .tup [] ∧ t = false)
  | _, _ => False
/-- What the run came to, operation by operation. -/
def Trace (T : Tab) (pu : Pure) (m0 : Mem) (l : List Oper) (N : Nat) : List Oper → Slots → Nat → List (SV × Option Ent) → Prop
  | [], _, _, [] => True
  | o :: r, sl, q, (v, eo) :: vs => (noCap T o = true ∧ okd N o.dst) ∧ ((says l o (look sl) true ∧ eo.isSome = allocs o ∧ ∀ K', K' v eo → est T pu m0 (m0.length + q) (evS sl) o K') ∨ (says l o (look sl) false ∧ v = .tup [] ∧ eo = none)) ∧ Trace T pu m0 l N r (pushD o.dst v sl) (q + eo.toList.length) vs
  | _, _, _, _ => False
def pushAll : List Oper → List (SV × Option Ent) → Slots → Slots
  | o :: r, (v, _) :: vs, sl => pushAll r vs (pushD o.dst v sl)
  | _, _, sl => sl
def entsOf (vs : List (SV × Option Ent)) : List Ent := vs.filterMap (·.2)
theorem hdRun_trace {T : Tab} {pu : Pure} {m0 : Mem} {l : List Oper} {N : Nat} : ∀ (r : List Oper) (sl : Slots) (al : List Ent) (K : Slots → List Ent → Prop), hdRun T pu m0 l N r sl al K →
    ∃ vs, Trace T pu m0 l N r sl al.length vs ∧ K (pushAll r vs sl) (al ++ entsOf vs)
  | [], sl, al, K, h => ⟨[], trivial, by have h' : K sl al := h; simpa [entsOf, pushAll] using h'⟩
  | o :: r, sl, al, K, h => by
    obtain ⟨⟨hc, hd⟩, h⟩ := h
    have go : says l o (look sl) true → est T pu m0 (m0.length + al.length) (evS sl) o (fun v eo => eo.isSome = allocs o ∧ hdRun T pu m0 l N r (pushD o.dst v sl) (al ++ eo.toList) K) → ∃ vs, Trace T pu m0 l N (o :: r) sl al.length vs ∧ K (pushAll (o :: r) vs sl) (al ++ entsOf vs) := by
      intro hs h
      obtain ⟨⟨v, eo⟩, ⟨h1, h2⟩, h3⟩ := det_est T pu m0 (m0.length + al.length) (evS sl) o hc (fun p => p.2.isSome = allocs o ∧ hdRun T pu m0 l N r (pushD o.dst p.1 sl) (al ++ p.2.toList) K) h
      obtain ⟨vs, g1, g2⟩ := hdRun_trace r _ _ _ h2
      refine ⟨(v, eo) :: vs, ⟨⟨hc, hd⟩, .inl ⟨hs, h1, fun K' hK' => h3 (fun p => K' p.1 p.2) hK'⟩, by simpa using g1⟩, ?_⟩
      simp only [pushAll]
      cases eo <;> simpa [entsOf] using g2
    have sk : says l o (look sl) false → hdRun T pu m0 l N r (pushD o.dst (.tup []) sl) al K → ∃ vs, Trace T pu m0 l N (o :: r) sl al.length vs ∧ K (pushAll (o :: r) vs sl) (al ++ entsOf vs) := by
      intro hs h
      obtain ⟨vs, g1, g2⟩ := hdRun_trace r _ _ _ h
      exact ⟨(.tup [], none) :: vs, ⟨⟨hc, hd⟩, .inr ⟨hs, rfl, rfl⟩, by simpa using g1⟩, by simpa [entsOf, pushAll] using g2⟩
    split at h
    · rename_i h1 h2
      exact go (by simp [says, h1, h2]) h
    · rename_i d b h1 h2
      split at h
      · rename_i c hlk
        by_cases hcb : c = b
        · exact go (by simp only [says, h1, h2]; exact .inl ⟨c, hlk, by simp [hcb]⟩) (h.1 hcb)
        · exact sk (by simp only [says, h1, h2]; exact .inl ⟨c, hlk, by simp [hcb]⟩) (h.2 (by cases c <;> cases b <;> simp_all))
      · rename_i hlk
        exact sk (by simp only [says, h1, h2]; exact .inr ⟨hlk, trivial⟩) h
      · exact h.elim
    · exact h.elim

theorem find_congr {p q : Nat → Bool} : ∀ {l : List Nat}, (∀ x ∈ l, p x = q x) → l.find? p = l.find? q
  | [], _ => rfl
  | a :: l, h => by
    simp only [List.find?_cons, h a (by simp)]
    rw [find_congr (fun x hx => h x (by simp [hx]))]

/-! the state in which some of the operations have been carried out -/
section
variable (l : List Oper) (n : Nat) (vs : List (SV × Option Ent)) (sl : Slots)
def valAt (i : Nat) : SV := match vs[i]? with | some p => p.1 | none => one .any
def view (L : Nat → Bool) (t : Nat) : SV :=
  match (List.range n).find? (fun j => L j && dstOf l j == some t) with
  | some j => valAt vs j
  | none => look sl t
variable {l n vs sl}
theorem view_congr {L L' : Nat → Bool} {t : Nat} (h : ∀ j, j < n → dstOf l j = some t → L j = L' j) : view l n vs sl L t = view l n vs sl L' t := by
  unfold view
  have : (List.range n).find? (fun j => L j && dstOf l j == some t) = (List.range n).find? (fun j => L' j && dstOf l j == some t) := by
    refine find_congr ?_
    intro j hj
    by_cases hd : dstOf l j = some t
    · rw [h j (List.mem_range.1 hj) hd]
    · have : (dstOf l j == some t) = false := by simpa using hd
      rw [this]; simp
  rw [this]
theorem view_at {L : Nat → Bool} {t i : Nat} (hu : ∀ a b, a < n → b < n → dstOf l a = some t → dstOf l b = some t → a = b) (hi : i < n) (hd : dstOf l i = some t) (hL : L i = true) : view l n vs sl L t = valAt vs i := by
  unfold view
  cases hf : (List.range n).find? (fun j => L j && dstOf l j == some t) with
  | none =>
    have := List.find?_eq_none.1 hf i (List.mem_range.2 hi)
    simp [hL, hd] at this
  | some j =>
    have h1 := List.find?_some hf
    have h2 := List.mem_range.1 (List.mem_of_find?_eq_some hf)
    simp only [Bool.and_eq_true, beq_iff_eq] at h1
    rw [hu j i h2 hi h1.2 hd]
theorem view_none {L : Nat → Bool} {t : Nat} (h : ∀ j, j < n → dstOf l j = some t → L j = false) : view l n vs sl L t = look sl t := by
  unfold view
  have : (List.range n).find? (fun j => L j && dstOf l j == some t) = none := by
    rw [List.find?_eq_none]
    intro j hj hh
    simp only [Bool.and_eq_true, beq_iff_eq] at hh
    rw [h j (List.mem_range.1 hj) hh.2] at hh
    cases hh.1
  rw [this]
end
def memF : List (Option Ent) → (Nat → Bool) → Nat → Mem
  | [], _, _ => []
  | none :: r, L, i => memF r L (i + 1)
  | some e :: r, L, i => (if L i = true then .ent e else .hole) :: memF r L (i + 1)
def updB (L : Nat → Bool) (i : Nat) : Nat → Bool := fun j => if j = i then true else L j
theorem memF_congr : ∀ {eos : List (Option Ent)} {L L' : Nat → Bool} {i : Nat}, (∀ k e, eos[k]? = some (some e) → L (i + k) = L' (i + k)) → memF eos L i = memF eos L' i
  | [], _, _, _, _ => rfl
  | none :: r, L, L', i, h => memF_congr (eos := r) (i := i + 1) (fun k e hk => by have := h (k + 1) e (by simpa using hk); rw [show i + 1 + k = i + (k + 1) by omega]; exact this)
  | some e :: r, L, L', i, h => by
    have h0 := h 0 e (by simp)
    have h1 := memF_congr (eos := r) (L := L) (L' := L') (i := i + 1) (fun k e hk => by have := h (k + 1) e (by simpa using hk); rw [show i + 1 + k = i + (k + 1) by omega]; exact this)
    simp only [memF, h1]
    rw [show L i = L' i from h0]
theorem memF_set : ∀ {eos : List (Option Ent)} {L : Nat → Bool} {i k : Nat} {e : Ent}, eos[k]? = some (some e) → L (i + k) = false →
    ∃ A B, memF eos L i = A ++ .hole :: B ∧ memF eos (updB L (i + k)) i = A ++ .ent e :: B ∧ A.length = ((eos.take k).filterMap id).length
  | [], L, i, k, e, h, _ => by simp at h
  | x :: r, L, i, 0, e, h, hL => by
    simp at h; subst h
    refine ⟨[], memF r L (i + 1), ?_, ?_, rfl⟩
    · simp only [memF]; rw [show L i = false from hL]; rfl
    · simp only [memF, updB]
      simp only [Nat.add_zero, if_true, List.nil_append, List.cons.injEq, true_and]
      exact memF_congr (fun k' e' _ => by simp only [updB]; rw [if_neg (by omega)])
  | x :: r, L, i, k + 1, e, h, hL => by
    obtain ⟨A, B, h1, h2, h3⟩ := memF_set (eos := r) (L := L) (i := i + 1) (k := k) (e := e) (by simpa using h) (by rw [show i + 1 + k = i + (k + 1) by omega]; exact hL)
    rw [show i + 1 + k = i + (k + 1) by omega] at h2
    cases x with
    | none => exact ⟨A, B, by simpa [memF] using h1, by simpa [memF] using h2, by simpa using h3⟩
    | some e0 =>
      refine ⟨(if L i = true then .ent e0 else .hole) :: A, B, ?_, ?_, by simpa using h3⟩
      · simp only [memF, h1]; rfl
      · have hu : updB L (i + (k + 1)) i = L i := by simp only [updB]; rw [if_neg (by omega)]
        simp only [memF, h2, hu]; rfl
theorem memF_all : ∀ {eos : List (Option Ent)} {L : Nat → Bool} {i : Nat}, (∀ k, k < eos.length → L (i + k) = true) → memF eos L i = (eos.filterMap id).map .ent
  | [], _, _, _ => rfl
  | none :: r, L, i, h => by
    simpa [memF] using memF_all (eos := r) (L := L) (i := i + 1) (fun k hk => by rw [show i + 1 + k = i + (k + 1) by omega]; exact h (k + 1) (by simp; omega))
  | some e :: r, L, i, h => by
    have := memF_all (eos := r) (L := L) (i := i + 1) (fun k hk => by rw [show i + 1 + k = i + (k + 1) by omega]; exact h (k + 1) (by simp; omega))
    simp only [memF, this]
    rw [show L i = true from h 0 (by simp)]
    simp
theorem memF_holes : ∀ {eos : List (Option Ent)} {L : Nat → Bool} {i : Nat}, (∀ k, L k = false) → ∀ x ∈ memF eos L i, x = .hole
  | [], _, _, _, x, hx => by cases hx
  | none :: r, L, i, h, x, hx => memF_holes (eos := r) h x (by simpa [memF] using hx)
  | some e :: r, L, i, h, x, hx => by
    simp only [memF, h i, List.mem_cons] at hx
    rcases hx with hx | hx
    · simpa using hx
    · exact memF_holes (eos := r) h x hx
section
variable {P : Program} {E : Env} {N : Nat} {ℓ : Nat → Option Loc} {m : Mem} {w : World}
theorem MH.holes (h : MH E ℓ m w) {x : Mem} (hx : ∀ y ∈ x, y = .hole) : MH E ℓ (m ++ x) w := by
  have get : ∀ {i : Nat} {e : Ent}, (m ++ x)[i]? = some (.ent e) → m[i]? = some (.ent e) := by
    intro i e hi
    rcases Nat.lt_or_ge i m.length with hl | hl
    · rwa [List.getElem?_append_left hl] at hi
    · rw [List.getElem?_append_right hl] at hi
      have := hx _ (List.mem_of_getElem? hi)
      cases this
  exact { os := h.os, tape := h.tape, output := h.output, size := h.size, keep := h.keep, anch := h.anch
          dom := fun i hi => by
            rcases Nat.lt_or_ge i m.length with hl | hl
            · rcases hi with hi | hi
              · simp at hi; omega
              · rw [List.getElem?_append_left hl] at hi
                exact h.dom i (.inr hi)
            · exact h.dom i (.inl hl)
          ent := fun id e hid => h.ent id e (get hid)
          apart := fun i j ei ej Li Lj hi hj => h.apart i j ei ej Li Lj (get hi) (get hj) }
def cntF (L : Nat → Bool) : Nat → Nat
  | 0 => 0
  | n + 1 => cntF L n + (if L n = true then 0 else 1)
theorem cntF_congr {L L' : Nat → Bool} : ∀ {n : Nat}, (∀ j, j < n → L j = L' j) → cntF L n = cntF L' n
  | 0, _ => rfl
  | n + 1, h => by simp only [cntF]; rw [cntF_congr (fun j hj => h j (by omega)), h n (by omega)]
theorem cntF_set {L : Nat → Bool} {i : Nat} : ∀ {n : Nat}, i < n → L i = false → cntF L n = cntF (updB L i) n + 1
  | 0, h, _ => by omega
  | n + 1, h, hL => by
    simp only [cntF]
    by_cases hi : i = n
    · subst hi
      rw [cntF_congr (L := L) (L' := updB L i) (fun j hj => by simp [updB]; omega), hL]
      simp [updB]
    · rw [cntF_set (n := n) (by omega) hL]
      have : updB L i n = L n := by simp [updB]; omega
      rw [this]; omega
theorem cntF_zero {L : Nat → Bool} : ∀ {n : Nat}, cntF L n = 0 → ∀ j, j < n → L j = true
  | 0, _, j, hj => by omega
  | n + 1, h, j, hj => by
    simp only [cntF] at h
    by_cases hjn : j = n
    · subst hjn; cases hx : L j <;> simp_all
    · exact cntF_zero (n := n) (by omega) j (by omega)
theorem cntF_least {L : Nat → Bool} : ∀ {n : Nat}, cntF L n ≠ 0 → ∃ i, i < n ∧ L i = false ∧ ∀ j, j < i → L j = true
  | 0, h => absurd rfl h
  | n + 1, h => by
    by_cases h0 : cntF L n = 0
    · refine ⟨n, by omega, ?_, cntF_zero h0⟩
      simp only [cntF, h0] at h
      cases hx : L n <;> simp_all
    · obtain ⟨i, h1, h2, h3⟩ := cntF_least h0
      exact ⟨i, by omega, h2, h3⟩
end
end Go.V
end
section
set_option linter.unusedSimpArgs false
set_option linter.unusedVariables false
namespace Go.V
open Go

def evV (f : Nat → SV) : Operand → SV
  | .tmp t => f t
  | .const v => constS v
  | .global _ => one .any
  | .func f => one (.fn f [])
theorem evS_V (sl : Slots) : evS sl = evV (look sl) := by funext x; cases x <;> rfl
theorem est_nid {T : Tab} {pu : Pure} {m : Mem} {n n' : Nat} {g : Operand → SV} {o : Oper} {K : SV → Option Ent → Prop} (h : allocs o = false) (hc : noCap T o = true) : est T pu m n g o K = est T pu m n' g o K := by
  unfold est
  unfold allocs at h
  unfold noCap at hc
  cases hop : o.op <;> simp only [hop] at h hc ⊢
  all_goals first | rfl | cases h | skip
  rename_i s d x
  unfold stConv
  split
  · rename_i s' d' x' h1 h2 h3
    split
    all_goals first | rfl | skip
    rename_i e hk1 hk2
    simp only [h2, hk2] at hc
    cases hc
  · rfl

structure HeadOK (l : List Oper) (n i : Nat) (o : Oper) : Prop where
  get : l[i]? = some o
  dst : ∃ d, o.dst = some d
  uniq : ∀ j, j < n → i ≠ j → dstOf l j ≠ dstOf l i
  reads : ∀ j d, j < n → dstOf l j = some d → d ∈ readsOf l o → j < i ∧ Region.waitsFor .any l.toArray i j = true
  back : ∀ e ∈ o.after, Region.binds .any e = true → e.on < i
theorem headB_ok {l : List Oper} {n : Nat} (h : headB l n = true) {i : Nat} (hi : i < n) : ∃ o, HeadOK l n i o := by
  have h1 := List.all_eq_true.1 h i (List.mem_range.2 hi)
  split at h1
  · cases h1
  · rename_i o ho
    simp only [Bool.and_eq_true] at h1
    obtain ⟨⟨⟨a, b⟩, c⟩, d⟩ := h1
    have hd : dstOf l i = o.dst := by simp [dstOf, ho]
    refine ⟨o, ho, Option.isSome_iff_exists.1 (hd ▸ a), fun j hj hij => ?_, fun j x hj hx hr => ?_, fun e he hb => ?_⟩
    · have := List.all_eq_true.1 b j (List.mem_range.2 hj)
      simp only [Bool.or_eq_true, beq_iff_eq, bne_iff_ne] at this
      exact this.resolve_left hij
    · have := List.all_eq_true.1 c j (List.mem_range.2 hj)
      simp only [hx, Bool.or_eq_true, Bool.not_eq_true', Bool.and_eq_true, decide_eq_true_eq] at this
      rcases this with h2 | h2
      · have h3 : (readsOf l o).contains x = true := by simpa using hr
        rw [h2] at h3; cases h3
      · exact h2
    · have := List.all_eq_true.1 d e (by simpa using he)
      simp only [Bool.or_eq_true, Bool.not_eq_true', decide_eq_true_eq, hb] at this
      simpa using this

section
variable {T : Tab} {pu : Pure} {m0 : Mem} {l : List Oper} {N : Nat}
theorem trace_len : ∀ {r : List Oper} {sl : Slots} {q : Nat} {vs : List (SV × Option Ent)}, Trace T pu m0 l N r sl q vs → vs.length = r.length
  | [], sl, q, [], _ => rfl
  | o :: r, sl, q, (v, eo) :: vs, h => by simp [trace_len h.2.2]
  | [], _, _, _ :: _, h => h.elim
  | _ :: _, _, _, [], h => h.elim
theorem trace_at : ∀ {r : List Oper} {sl : Slots} {q : Nat} {vs : List (SV × Option Ent)}, Trace T pu m0 l N r sl q vs → ∀ {i : Nat} {o : Oper}, r[i]? = some o →
    ∃ v eo, vs[i]? = some (v, eo) ∧ (noCap T o = true ∧ okd N o.dst) ∧ ((says l o (look (pushAll (r.take i) (vs.take i) sl)) true ∧ eo.isSome = allocs o ∧ ∀ K', K' v eo → est T pu m0 (m0.length + (q + (entsOf (vs.take i)).length)) (evS (pushAll (r.take i) (vs.take i) sl)) o K') ∨ (says l o (look (pushAll (r.take i) (vs.take i) sl)) false ∧ v = .tup [] ∧ eo = none))
  | [], sl, q, vs, _, i, o, hi => by simp at hi
  | o0 :: r, sl, q, [], h, _, _, _ => h.elim
  | o0 :: r, sl, q, (v, eo) :: vs, h, 0, o, hi => by
    simp at hi; subst hi
    exact ⟨v, eo, by simp, h.1, by simpa [pushAll, entsOf] using h.2.1⟩
  | o0 :: r, sl, q, (v, eo) :: vs, h, i + 1, o, hi => by
    obtain ⟨v', eo', g1, g2, g3⟩ := trace_at h.2.2 (i := i) (o := o) (by simpa using hi)
    refine ⟨v', eo', by simpa using g1, g2, ?_⟩
    simp only [List.take_succ_cons, pushAll]
    have : q + (entsOf ((v, eo) :: vs.take i)).length = q + eo.toList.length + (entsOf (vs.take i)).length := by
      cases eo <;> simp [entsOf] <;> omega
    rw [this]; exact g3
theorem pushAll_succ : ∀ {r : List Oper} {vs : List (SV × Option Ent)} {sl : Slots} {i : Nat} {o : Oper} {v : SV} {eo : Option Ent}, r[i]? = some o → vs[i]? = some (v, eo) →
    pushAll (r.take (i + 1)) (vs.take (i + 1)) sl = pushD o.dst v (pushAll (r.take i) (vs.take i) sl)
  | [], vs, sl, i, o, v, eo, h, _ => by simp at h
  | _ :: r, [], sl, i, o, v, eo, _, h => by simp at h
  | o0 :: r, (v0, e0) :: vs, sl, 0, o, v, eo, h, h2 => by
    simp at h h2; subst h; obtain ⟨rfl, rfl⟩ := h2
    simp [pushAll]
  | o0 :: r, (v0, e0) :: vs, sl, i + 1, o, v, eo, h, h2 => by
    simp only [List.take_succ_cons, pushAll]
    exact pushAll_succ (by simpa using h) (by simpa using h2)
theorem look_prefix {n : Nat} (hn : n ≤ l.length) (hB : headB l n = true) {vs : List (SV × Option Ent)} {sl : Slots} (hv : vs.length = n) : ∀ (i : Nat), i ≤ n → ∀ t, look (pushAll ((l.take n).take i) (vs.take i) sl) t = view l n vs sl (fun j => decide (j < i)) t
  | 0, _, t => by
    rw [view_none (fun j _ _ => by simp)]
    simp [pushAll]
  | i + 1, hi, t => by
    obtain ⟨o, ho⟩ := headB_ok hB (i := i) (by omega)
    have hl : (l.take n)[i]? = some o := by rw [List.getElem?_take_of_lt (by omega)]; exact ho.get
    have hvi : vs[i]? = some vs[i] := List.getElem?_eq_getElem (by omega)
    rw [pushAll_succ (v := vs[i].1) (eo := vs[i].2) hl hvi]
    obtain ⟨d, hd⟩ := ho.dst
    have hdi : dstOf l i = some d := by simp [dstOf, ho.get, hd]
    rw [hd]
    show (if t = d then vs[i].1 else look (pushAll ((l.take n).take i) (vs.take i) sl) t) = _
    have huniq : ∀ j, j < n → dstOf l j = some d → j = i := fun j hj hjd => by
      rcases Nat.decEq i j with h | h
      · exact absurd (hjd.trans hdi.symm) (ho.uniq j hj h)
      · exact h.symm
    split
    · rename_i htd
      subst htd
      rw [view_at (i := i) (fun a b ha hb h1 h2 => (huniq a ha h1).trans (huniq b hb h2).symm) (by omega) hdi (by simp)]
      simp [valAt, hvi]
    · rename_i htd
      rw [look_prefix hn hB hv i (by omega) t]
      refine view_congr (fun j hj hjd => ?_)
      have : j ≠ i := fun h => by subst h; rw [hdi] at hjd; exact htd (Option.some.inj hjd).symm
      simp only [decide_eq_decide]; omega
end

section
variable {P : Program} {E : Env} {N : Nat} {l : List Oper}
theorem says_congr {o : Oper} {f g : Nat → SV} {t : Bool} (h : ∀ d, guardTmp l o = some d → f d = g d) (hs : says l o f t) : says l o g t := by
  unfold says at hs ⊢
  split at hs
  · exact hs
  · rename_i d g b h1 h2
    rw [h d h1] at hs
    exact hs
  · exact hs.elim
theorem wanted_says {o : Oper} {f : Nat → SV} {t : Bool} {a : Act} {ℓ : Nat → Option Loc} (h : ∀ t, DenV ℓ (f t) (a.tmps.getD t undef)) (hs : says l o f t) : Region.wanted o (yielded l.toArray a.tmps) = t := by
  unfold says at hs
  split at hs
  · rename_i h1 h2
    subst hs
    simp [Region.wanted, h2]
  · rename_i d g b h1 h2
    have hgd : (l[g]?).bind (·.dst) = some d := by simpa [guardTmp, h2] using h1
    have hy : yielded l.toArray a.tmps g = match a.tmps[d]? with | some (.bool b) => some b | _ => none := by
      unfold yielded
      rw [show (l.toArray[g]?).bind (·.dst) = some d by simpa using hgd]
      rfl
    have hv := h d
    rcases hs with ⟨c, hc, rfl⟩ | ⟨hc, rfl⟩
    · rw [hc] at hv
      have hv' : a.tmps.getD d undef = .bool c := hv
      have hlt : d < a.tmps.size := by
        rcases Nat.lt_or_ge d a.tmps.size with hx | hx
        · exact hx
        · rw [Array.getD_eq_getD_getElem?, Array.getElem?_eq_none hx] at hv'; simp [undef] at hv'
      have hq : a.tmps[d]? = some (.bool c) := by
        rw [Array.getD_eq_getD_getElem?, Array.getElem?_eq_getElem hlt] at hv'
        rw [Array.getElem?_eq_getElem hlt]
        simpa using hv'
      rw [hq] at hy
      simp [Region.wanted, h2, hy]
    · rw [hc] at hv
      obtain ⟨vs, hv, hvs⟩ := hv
      cases vs with
      | cons => exact hvs.elim
      | nil =>
        have : yielded l.toArray a.tmps g = none := by
          rw [hy]
          rw [Array.getD_eq_getD_getElem?] at hv
          cases hq : a.tmps[d]? with
          | none => rfl
          | some x => rw [hq] at hv; simp at hv; subst hv; rfl
        simp [Region.wanted, h2, this]
  · exact hs.elim
theorem evV_den {ℓ : Nat → Option Loc} {f : Nat → SV} {a : Act} (h : ∀ t, DenV ℓ (f t) (a.tmps.getD t undef)) (x : Operand) : DenV ℓ (evV f x) (a.eval x) := by
  cases x with
  | tmp t => exact h t
  | const v => exact constS_den ℓ v
  | global g => trivial
  | func f => exact ⟨[], rfl, rfl⟩
theorem put_view {ℓ : Nat → Option Loc} {f : Nat → SV} {a : Act} {d : Nat} {sv : SV} {v : Value} (h : ∀ t, DenV ℓ (f t) (a.tmps.getD t undef)) (hd : d < a.tmps.size) (hv : DenV ℓ sv v) (t : Nat) :
    DenV ℓ (if t = d then sv else f t) ((a.put (some d) v).tmps.getD t undef) := by
  simp only [Act.put]
  by_cases ht : t = d
  · subst ht
    rw [if_pos rfl]
    have : (a.tmps.setIfInBounds t v).getD t undef = v := by simp [hd]
    rw [this]; exact hv
  · rw [if_neg ht]
    have : (a.tmps.setIfInBounds d v).getD t undef = a.tmps.getD t undef := by simp [Array.getElem?_setIfInBounds_ne (Ne.symm ht)]
    rw [this]; exact h t
def Lof (listed : Array Bool) : Nat → Bool := fun j => listed.getD j false
theorem Lof_set {listed : Array Bool} {i : Nat} (hi : i < listed.size) : Lof (listed.setIfInBounds i true) = updB (Lof listed) i := by
  funext j
  simp only [Lof, updB]
  by_cases h : j = i
  · subst h; simp [hi]
  · rw [if_neg h, getD_set_ne false (Ne.symm h)]

theorem entsOf_eq (vs : List (SV × Option Ent)) : entsOf vs = (vs.map (·.2)).filterMap _root_.id := by
  induction vs with
  | nil => rfl
  | cons p r ih => obtain ⟨v, eo⟩ := p; cases eo <;> simp [entsOf] at ih ⊢ <;> exact ih

theorem ok_draw {T : Tab} {pu : Pure} (hT : TabOK P T) (hpu : PureOK P pu) (hmono : PureMono pu) (hmix : P.follows .mixedOrders = true) {Q0 : Exit → Act → World → Prop} {id n : Nat} {k : List Item} {st : St} (hB : drawB l n = true)
    (h : hdRun T pu st.m l N (l.take n) st.sl [] (fun sl al => Ok P E N Q0 (.ops l (l.drop n) :: k) ⟨sl, st.m ++ al.map .ent⟩)) : Ok P E N Q0 (.code (.region id l.toArray true) :: k) st := by
  simp only [drawB, Bool.and_eq_true, decide_eq_true_eq] at hB
  obtain ⟨⟨⟨⟨hn, hs⟩, hc⟩, hseq⟩, hhead⟩ := hB
  obtain ⟨vs, htr, hfin⟩ := hdRun_trace _ _ _ _ h
  have hvl : vs.length = n := by rw [trace_len htr]; simp; omega
  simp only [List.nil_append] at hfin
  intro a0 w0 hh
  show (Code.region id l.toArray true).wp P (semK P E N Q0 k) a0 w0
  refine wp_region_any hmix ?_
  have main : ∀ (f : Nat) (listed : Array Bool) (a : Act) (w : World), HeadInv .any l.toArray n listed → cntF (Lof listed) n = f →
      (∃ ℓ, (∀ t, DenV ℓ (view l n vs st.sl (Lof listed) t) (a.tmps.getD t undef)) ∧ MH E ℓ (st.m ++ memF (vs.map (·.2)) (Lof listed) 0) w ∧ a.defers = [] ∧ a.tmps.size = N) →
      wpAny P .any l.toArray (semK P E N Q0 k) (f + (l.length - n)) listed a w := by
    intro f
    induction f with
    | zero =>
      intro listed a w inv hcnt ⟨ℓ, h1, h2, h3, h4⟩
      have hall := cntF_zero hcnt
      have hlist : listed = firstN n (l.length - n) := by
        have hsz := inv.size
        simp only [List.size_toArray] at hsz
        refine Array.ext (by simp [firstN, hsz]; omega) (fun j hj hj2 => ?_)
        rcases Nat.lt_or_ge j n with hjn | hjn
        · have := hall j hjn
          simp only [Lof] at this
          rw [Array.getD_eq_getD_getElem?, Array.getElem?_eq_getElem hj] at this
          simp only [Option.getD_some] at this
          rw [this]
          simp [firstN, List.getElem_append, hjn]
        · have := inv.tail j hjn (by simp; omega)
          rw [Array.getD_eq_getD_getElem?, Array.getElem?_eq_getElem hj] at this
          simp only [Option.getD_some] at this
          rw [this]
          simp [firstN, List.getElem_append, Nat.not_lt.2 hjn]
      have hdl : (l.drop n).length = l.length - n := by simp
      rw [Nat.zero_add, ← hdl]
      refine wpAny_of_seq (l.drop n) n listed a w (fun j => by simp) (by rw [hdl, hlist]; exact hseq) ?_
      refine hfin a w ⟨ℓ, fun t => ?_, ?_, h3, h4⟩
      · have hpf := look_prefix (Nat.le_of_lt hn) hhead (sl := st.sl) hvl n (Nat.le_refl _) t
        rw [List.take_take, Nat.min_self, List.take_of_length_le (l := vs) (by omega)] at hpf
        show DenV ℓ (look (pushAll (l.take n) vs st.sl) t) _
        rw [hpf]
        rw [view_congr (L' := Lof listed) (fun j hj _ => by rw [hall j hj]; simpa using hj)]
        exact h1 t
      · rw [memF_all (fun k hk => by rw [Nat.zero_add]; exact hall k (by simpa [hvl] using hk))] at h2
        rw [← entsOf_eq] at h2
        exact h2
    | succ f ih =>
      intro listed a w inv hcnt hD
      have hsz : listed.size = l.length := by simpa using inv.size
      obtain ⟨i0, hi0, hL0, hless⟩ := cntF_least (L := Lof listed) (n := n) (by omega)
      have hun : listed.getD i0 true = false := getD_in (by omega) hL0
      rw [show f + 1 + (l.length - n) = (f + (l.length - n)) + 1 by omega]
      refine ⟨fun hr => ?_, fun i hi => ?_⟩
      · exfalso
        obtain ⟨o, ho⟩ := headB_ok hhead hi0
        have : i0 ∈ Region.ready .any l.toArray listed := mem_ready.2 ⟨hun, o, by simpa using ho.get, fun e he hb => hless _ (ho.back e he hb)⟩
        rw [hr] at this; cases this
      · have hin : i < n := by
          rcases Nat.lt_or_ge i n with hx | hx
          · exact hx
          · exact absurd hi (tail_waits hs hc (by simpa using hn) inv _ i0 rfl hi0 hun i hx)
        obtain ⟨hiun, oi', hoi', hall⟩ := mem_ready.1 hi
        obtain ⟨o, ho⟩ := headB_ok hhead hin
        have hoi : l.toArray[i]? = some o := by simpa using ho.get
        obtain rfl : o = oi' := Option.some.inj (hoi.symm.trans hoi')
        have hLi : Lof listed i = false := getD_both hiun
        have inv' := inv.set hi hin
        have hLof := Lof_set (listed := listed) (i := i) (by omega)
        have hcnt' : cntF (Lof (listed.setIfInBounds i true)) n = f := by
          rw [hLof]
          have := cntF_set hin hLi
          omega
        obtain ⟨d, hd⟩ := ho.dst
        have hdi : dstOf l i = some d := by simp [dstOf, ho.get, hd]
        have huniq : ∀ j, j < n → dstOf l j = some d → j = i := fun j hj hjd => by
          rcases Nat.decEq i j with h | h
          · exact absurd (hjd.trans hdi.symm) (ho.uniq j hj h)
          · exact h.symm
        obtain ⟨v, eo, hvi, ⟨hcap, hok⟩, hex⟩ := trace_at htr (i := i) (o := o) (by rw [List.getElem?_take_of_lt hin]; exact ho.get)
        rw [hd] at hok
        have hok : d < N := hok
        obtain ⟨ℓ, h1, h2, h3, h4⟩ := hD
        have hread : ∀ t, t ∈ readsOf l o → look (pushAll ((l.take n).take i) (vs.take i) st.sl) t = view l n vs st.sl (Lof listed) t := by
          intro t ht
          rw [look_prefix (Nat.le_of_lt hn) hhead hvl i (by omega) t]
          refine view_congr (fun j hj hjd => ?_)
          obtain ⟨hji, hw⟩ := ho.reads j t hj hjd ht
          obtain ⟨oj, hoj, e, he, hb, hon⟩ := Region.waitsFor_spec hw
          obtain rfl : o = oj := Option.some.inj (hoi.symm.trans hoj)
          have := hall e he hb
          rw [hon] at this
          show decide (j < i) = Lof listed j
          rw [show Lof listed j = true from this]
          simpa using hji
        have hview : ∀ t, view l n vs st.sl (updB (Lof listed) i) t = if t = d then v else view l n vs st.sl (Lof listed) t := by
          intro t
          split
          · rename_i htd
            subst htd
            rw [view_at (i := i) (fun a b ha hb h1 h2 => (huniq a ha h1).trans (huniq b hb h2).symm) hin hdi (by simp [updB])]
            simp [valAt, hvi]
          · rename_i htd
            refine view_congr (fun j hj hjd => ?_)
            have : j ≠ i := fun h => by subst h; rw [hdi] at hjd; exact htd (Option.some.inj hjd).symm
            simp [updB, this]
        have hsays : ∀ {t : Bool}, says l o (look (pushAll ((l.take n).take i) (vs.take i) st.sl)) t → Region.wanted o (yielded l.toArray a.tmps) = t := fun hs =>
          wanted_says h1 (says_congr (fun d' hd' => hread d' (by simp [readsOf, hd'])) hs)
        unfold wpOp
        simp only [hoi]
        rcases hex with ⟨hsy, hal, hest⟩ | ⟨hsy, rfl, rfl⟩
        · rw [if_pos (hsays hsy)]
          refine .inl ?_
          have hcg : ∀ K', K' v eo → est T pu (st.m ++ memF (vs.map (·.2)) (Lof listed) 0) (st.m.length + (0 + (entsOf (vs.take i)).length)) (evV (view l n vs st.sl (Lof listed))) o K' := by
            intro K' hK'
            have h5 := hest K' hK'
            rw [evS_V, est_congr (g' := evV (view l n vs st.sl (Lof listed))) (fun x hx => ?_)] at h5
            · exact est_app hmono _ h5
            · cases x with
              | tmp t =>
                refine hread t ?_
                simp only [readsOf, tmpsOf, List.mem_append, List.mem_filterMap]
                exact .inl ⟨.tmp t, hx, rfl⟩
              | _ => rfl
          have next : ∀ {ℓ' : Nat → Option Loc} {v' : Value} {w' : World}, Le ℓ ℓ' → MH E ℓ' (st.m ++ memF (vs.map (·.2)) (updB (Lof listed) i) 0) w' → DenV ℓ' v v' → wpAny P .any l.toArray (semK P E N Q0 k) (f + (l.length - n)) (listed.setIfInBounds i true) (a.put o.dst v') w' := by
            intro ℓ' v' w' hle hm' hdv
            refine ih _ _ _ inv' hcnt' ⟨ℓ', fun t => ?_, by rw [hLof]; exact hm', ?_, ?_⟩
            · rw [hLof, hview, hd]
              exact put_view (fun t => (h1 t).mono hle) (by rw [h4]; exact hok) hdv t
            · rw [hd]; exact h3
            · rw [hd]; simpa [Act.put] using h4
          have hvim : (vs.map (·.2))[i]? = some eo := by simp [hvi]
          cases heo : eo with
          | none =>
            subst heo
            have hna : allocs o = false := by simpa using hal.symm
            have h6 := hcg (fun sv e => sv = v ∧ e = none) ⟨rfl, rfl⟩
            rw [est_nid (n' := (st.m ++ memF (vs.map (·.2)) (Lof listed) 0).length) hna hcap] at h6
            refine est_ok hT hpu h2 (.inl rfl) (evV_den h1) h6 _ _ ?_
            rintro v' w' ⟨sv, e, ℓ', ⟨rfl, rfl⟩, hle, hm', hdv⟩
            refine next hle ?_ hdv
            rw [memF_congr (L' := Lof listed) (fun k e hk => ?_)]
            · exact hm'
            · simp only [updB, Nat.zero_add]
              split
              · rename_i hki; subst hki; rw [hvim] at hk; cases hk
              · rfl
          | some e0 =>
            subst heo
            obtain ⟨A, B, k1, k2, k3⟩ := memF_set (eos := vs.map (·.2)) (L := Lof listed) (i := 0) (k := i) (e := e0) hvim (by rw [Nat.zero_add]; exact hLi)
            rw [Nat.zero_add] at k2
            have hA : A.length = (entsOf (vs.take i)).length := by
              rw [k3, entsOf_eq, List.map_take]
            have hget : (st.m ++ memF (vs.map (·.2)) (Lof listed) 0)[st.m.length + (0 + (entsOf (vs.take i)).length)]? = some .hole := by
              rw [k1, List.getElem?_append_right (by omega), ← hA]
              simp
            refine est_ok hT hpu h2 (.inr hget) (evV_den h1) (hcg (fun sv e => sv = v ∧ e = some e0) ⟨rfl, rfl⟩) _ _ ?_
            rintro v' w' ⟨sv, e, ℓ', ⟨rfl, rfl⟩, hle, hm', hdv⟩
            refine next hle ?_ hdv
            rw [k2]
            have hf : fill (st.m ++ memF (vs.map (·.2)) (Lof listed) 0) (st.m.length + (0 + (entsOf (vs.take i)).length)) e0 = st.m ++ (A ++ .ent e0 :: B) := by
              have hlt := (List.getElem?_eq_some_iff.1 hget).1
              unfold fill
              rw [if_pos hlt, k1, ← hA, List.set_append_right _ _ (by omega)]
              congr 1
              rw [show st.m.length + (0 + A.length) - st.m.length = A.length by omega, List.set_append_right _ _ (Nat.le_refl _)]
              simp
            rw [← hf]
            exact hm'
        · rw [if_neg (by rw [hsays hsy]; simp)]
          refine ih _ _ _ inv' hcnt' ⟨ℓ, fun t => ?_, ?_, ?_, ?_⟩
          · rw [hLof, hview, hd]
            exact put_view (sv := .tup []) (v := undef) h1 (by rw [h4]; exact hok) ⟨[], rfl, trivial⟩ t
          · rw [hLof]
            have hvim : (vs.map (·.2))[i]? = some none := by simp [hvi]
            rw [memF_congr (L' := Lof listed) (fun k e hk => ?_)]
            · exact h2
            · simp only [updB, Nat.zero_add]
              split
              · rename_i hki; subst hki; rw [hvim] at hk; cases hk
              · rfl
          · rw [hd]; exact h3
          · rw [hd]; simpa [Act.put] using h4
  obtain ⟨ℓ, h1, h2, h3, h4⟩ := hh
  have hL0 : ∀ j, Lof (Array.replicate l.toArray.size false) j = false := fun j => getD_replicate_false _ _
  have hc0 : cntF (Lof (Array.replicate l.toArray.size false)) n = n := by
    clear main htr hvl hfin hhead hseq hc hs hn h
    induction n with
    | zero => rfl
    | succ n ih => simp only [cntF, hL0, ih]; rfl
  have := main n (Array.replicate l.toArray.size false) a0 { w0 with drawn := w0.drawn + 1 }
    ⟨by simp, fun j oj _ hl => (by rw [getD_replicate_false] at hl; cases hl), fun t _ ht => getD_in (by simpa using ht) (getD_replicate_false _ _)⟩ hc0
    ⟨ℓ, fun t => by rw [view_none (fun j _ _ => hL0 j)]; exact h1 t, (h2.drew).holes (memF_holes hL0), h3, h4⟩
  rw [show n + (l.length - n) = l.toArray.size by simp; omega] at this
  exact this
end
end Go.V
end
section
set_option linter.unusedSimpArgs false
set_option linter.unusedVariables false
namespace Go.V
open Go

section
variable {P : Program} {E : Env} {N : Nat}
theorem ok_call {all r : List Oper} {o : Oper} {k : List Item} {st : St} {Q0 : Exit → Act → World → Prop} {c : Call} {f : FuncId} {args : List SV} {pre : Mem} {post : SV → Mem → Prop} (σ : List Nat)
    (hop : o.op = .call c) (hcal : c.callee = .value (.func f)) (hc : Callable P f) (hS : Spec P f args pre [] post)
    (hg : guardOf st all o (fun _ => True) (fun _ => False))
    (hσ : σ.Nodup) (hpre : matchM (ix σ st.m.length) pre.length st.m pre σ) (hbel : args.all (belV pre.length) = true) (hargs : c.args.toList.map st.ev = args.map (renV (ix σ st.m.length)))
    (hod : okd N o.dst)
    (hpost : ∀ sv m', post sv m' → pre.length ≤ m'.length → Ok P E N Q0 (.ops all r :: k) ((St.mk st.sl (afterM (ix σ st.m.length) st.m pre σ m')).put o.dst (renV (ix σ st.m.length) sv))) :
    Ok P E N Q0 (.ops all (o :: r) :: k) st := by
  intro a w hh
  rcases guard_ok hg hh with ⟨hw, _⟩ | ⟨_, st', hf, _⟩
  · show wpList P all.toArray (semK P E N Q0 k) (o :: r) a w
    refine wpList_do hw ?_
    obtain ⟨ℓ, h1, h2, h3, h4⟩ := hh
    have hev := fun x => ev_den (ℓ := ℓ) (st := st) (a := a) h1 x
    have hvs : DenVs ℓ (args.map (renV (ix σ st.m.length))) (c.args.toList.map a.eval) := by
      rw [← hargs]; exact denVs_map hev _
    have hcall := hS.use h2 σ hσ hpre hbel hvs
    obtain ⟨dst, op, type, pos, after, guard⟩ := o
    simp only at hop; subst hop
    obtain ⟨callee, cargs, cts⟩ := c
    simp only at hcal; subst hcal
    unfold Oper.wp
    rw [enter_run hc]
    simp only [Oper.upon]
    refine hcall.mono ?_
    rintro e w' ⟨sv, m', ℓ', v, rfl, g1, g2, g3, g4, g5⟩
    obtain ⟨p1, p2, p3⟩ := put_den (st := ⟨st.sl, afterM (ix σ st.m.length) st.m pre σ m'⟩) (d := dst) (fun t => (h1 t).mono g3) (by rw [h4]; exact hod) g4
    exact hpost sv m' g1 g2 _ w' ⟨ℓ', p1, by cases dst <;> exact g5, p2.trans h3, p3.trans h4⟩
  · exact hf.elim

/-! plain calls -/
def pureNone : Pure := fun _ _ _ => none
def pureOr (p q : Pure) : Pure := fun m f l => match p m f l with | some v => some v | none => q m f l
theorem pureNone_ok : PureOK P pureNone := fun m f svs sv h => by cases h
theorem pureNone_mono : PureMono pureNone := fun m x f l v h => by cases h
theorem pureOr_ok {p q : Pure} (hp : PureOK P p) (hq : PureOK P q) : PureOK P (pureOr p q) := by
  intro m f svs sv h
  unfold pureOr at h
  split at h
  · rename_i v hv; cases h; exact hp m f svs sv hv
  · exact hq m f svs sv h
theorem pureOr_mono {p q : Pure} (hp : PureMono p) (hq : PureMono q) (hx : ∀ m f l, p m f l = none → ∀ x v, q m f l = some v → p (m ++ x) f l = none) : PureMono (pureOr p q) := by
  intro m x f l v h
  unfold pureOr at h ⊢
  split at h
  · rename_i u hu; cases h; rw [hp m x f l _ hu]
  · rename_i hn
    rw [hx m f l hn x v h]
    exact hq m x f l v h
/-- Plain calls that read no memory: of their arguments alone. -/
def pureOf (g : FuncId → List SV → Option SV) : Pure := fun _ f l => g f l
theorem pureOf_mono (g : FuncId → List SV → Option SV) : PureMono (pureOf g) := fun m x f l v h => h
theorem no_own {pre : Mem} (h : ∀ x ∈ pre, ∀ e, x = .ent e → e.own = false) {ℓ : Nat → Option Loc} {k : Nat} : ¬ ownBlk pre ℓ k := by
  rintro ⟨id, e, L, h1, h2, _⟩
  rw [h _ (List.mem_of_getElem? h1) e rfl] at h2
  cases h2
theorem ext_of {w w' : World} {ℓ an ℓ' : Nat → Option Loc} {pre m' : Mem} (hro : ∀ x ∈ pre, ∀ e, x = .ent e → e.own = false) (h : MH ⟨w, ownBlk pre ℓ, an⟩ ℓ' m' w') : Ext w w' :=
  ⟨h.os, h.tape, h.output, h.size, fun k hk => h.keep k hk (no_own hro)⟩
/-- A contract without memory. -/
theorem pure_spec {f : FuncId} {svs : List SV} {sv : SV} (hS : Spec P f svs [] [] (fun r _ => r = sv)) (hb : svs.all (belV 0) = true) (hv : belV 0 sv = true) (w : World) (ℓ : Nat → Option Loc) (vs : List Value) (hd : DenVs ℓ svs vs) :
    Calls P f vs.toArray w (fun e w' => ∃ v, e = .returned v ∧ DenV ℓ sv v ∧ Ext w w') := by
  have hd0 : DenVs (fun _ => none) svs vs := by
    clear hS
    induction svs generalizing vs with
    | nil => cases vs with
      | nil => trivial
      | cons => exact hd.elim
    | cons x xs ih => cases vs with
      | nil => exact hd.elim
      | cons v vs =>
        simp only [List.all_cons, Bool.and_eq_true] at hb
        exact ⟨belV_den (n := 0) (fun i hi => by omega) hb.1 hd.1, ih hb.2 _ hd.2⟩
  refine (hS w (fun _ => none) vs hd0 (fun an han => ?_)).mono ?_
  · refine ⟨rfl, rfl, rfl, Nat.le_refl _, fun _ _ _ => rfl, han, fun _ _ => rfl, fun id e h => ?_, fun i j ei ej Li Lj h => ?_⟩
    · simp at h
    · simp at h
  · rintro e w' ⟨r, m', ℓ', v, rfl, rfl, _, _, h5, h6⟩
    exact ⟨v, rfl, belV_den (n := 0) (fun i hi => by omega) hv h5, ext_of (by simp) h6⟩
/-- A contract over memory that is only read. -/
theorem pure_use {f : FuncId} {args : List SV} {pre : Mem} {sv : SV} (hS : Spec P f args pre [] (fun r _ => r = sv)) (hro : ∀ x ∈ pre, ∀ e, x = .ent e → e.own = false) (hv : belV 0 sv = true)
    {ℓ : Nat → Option Loc} {m : Mem} {w : World} (hm : MH E ℓ m w) (σ : List Nat) (hσ : σ.Nodup) (hpre : matchM (ix σ m.length) pre.length m pre σ) (hbel : args.all (belV pre.length) = true) {vs : List Value} (hvs : DenVs ℓ (args.map (renV (ix σ m.length))) vs) :
    Calls P f vs.toArray w (fun e w' => ∃ v, e = .returned v ∧ DenV ℓ sv v ∧ Ext w w') := by
  obtain ⟨hl, hg⟩ := matchM_get hpre
  have hback : ∀ i, i < pre.length → cutC σ ℓ i = ℓ (ix σ m.length i) := fun i hi => by
    have hi' : i < σ.length := by omega
    simp [cutC, ix, hi', List.getD_eq_getElem?_getD]
  refine (hS w (cutC σ ℓ) vs (renVs_back hback hbel hvs) (fun an han => call_pre hm hσ hpre an han)).mono ?_
  rintro e w' ⟨r, m', ℓ', v, rfl, rfl, _, _, h5, h6⟩
  exact ⟨v, rfl, belV_den (n := 0) (fun i hi => by omega) hv h5, ext_of hro h6⟩
end
end Go.V
end
section
set_option linter.unusedSimpArgs false
set_option linter.unusedVariables false
namespace Go.V
open Go

/-- All that is known here is known there. -/
def Sub (m m' : Mem) : Prop := ∀ (id : Nat) (e : Ent), m[id]? = some (.ent e) → m'[id]? = some (.ent e)
theorem stLoad_sub {T : Tab} {m m' : Mem} (hs : Sub m m') {t : TypeId} {y : SV} {K : SV → Prop} (h : stLoad T m t y K) : stLoad T m' t y K := by
  unfold stLoad at h ⊢
  split at h
  · split at h
    · rename_i hm
      simp only [hs _ _ hm]
      exact h
    · exact h.elim
  · exact h.elim
theorem stSlice_sub {T : Tab} {m m' : Mem} (hs : Sub m m') {t : TypeId} {y : SV} {lo hi mx : Option SV} {K : SV → Prop} (h : stSlice T m t y lo hi mx K) : stSlice T m' t y lo hi mx K := by
  unfold stSlice at h ⊢
  split at h
  · exact h.elim
  · rename_i ty hty
    split at h
    · exact h
    · exact h
    · split at h
      · rename_i h1 h2 h3 h4 hm
        simp only [h1, h2, h3, h4, hs _ _ hm]
        exact h
      · exact h.elim
    · exact h
    · exact h.elim
theorem stConv_sub {T : Tab} {m m' : Mem} (hs : Sub m m') {nid : Nat} {s d : TypeId} {y : SV} {K : SV → Option Ent → Prop} (h : stConv T m nid s d y K) : stConv T m' nid s d y K := by
  unfold stConv at h ⊢
  split at h
  · split at h
    · exact h
    · exact h
    · exact h
    · split at h
      · split at h
        · rename_i hk hm
          simp only [hk, hs _ _ hm]
          exact h
        · exact h.elim
      · split at h
        · rename_i hk hm
          simp only [hk, hs _ _ hm]
          exact h
        · exact h.elim
      · exact h
      · exact h.elim
    · exact h.elim
  · exact h.elim
def PureSub (pu : Pure) : Prop := ∀ m m' f l v, Sub m m' → pu m f l = some v → pu m' f l = some v
theorem est_sub {T : Tab} {pu : Pure} {m m' : Mem} (hpu : PureSub pu) (hs : Sub m m') {nid : Nat} {g : Operand → SV} {o : Oper} {K : SV → Option Ent → Prop} (h : est T pu m nid g o K) : est T pu m' nid g o K := by
  unfold est at h ⊢
  cases hop : o.op <;> simp only [hop] at h ⊢
  case load => exact stLoad_sub hs h
  case slice => exact stSlice_sub hs h
  case convert => exact stConv_sub hs h
  case call c =>
    split at h
    · exact h
    · exact h
    · exact h
    · rename_i f hf
      split at h
      · rename_i v hv
        simp only [hpu _ _ _ _ _ hs hv]
        exact h
      · exact h.elim
    · exact h.elim
  all_goals exact h
theorem pureOf_sub (g : FuncId → List SV → Option SV) : PureSub (pureOf g) := fun m m' f l v _ h => h

/-! calls that hand back memory -/
/-- What such a call answers: its value, and the blocks that it makes, laid from the given id on. -/
abbrev New := Mem → FuncId → List SV → Nat → Option (SV × List Ent)
def fillL (m : Mem) (nid : Nat) : List Ent → Mem
  | [] => m
  | e :: es => fillL (m.set nid (.ent e)) (nid + 1) es
def NewOK (P : Program) (nu : New) : Prop := ∀ m f svs nid sv es, nu m f svs nid = some (sv, es) → ∀ (E : Env) (w : World) ℓ vs, MH E ℓ m w → (∀ k, k < es.length → m[nid + k]? = some .hole) → DenVs ℓ svs vs →
  Callable P f ∧ Calls P f vs.toArray w (fun e w' => ∃ v ℓ', e = .returned v ∧ Le ℓ ℓ' ∧ DenV ℓ' sv v ∧ MH E ℓ' (fillL m nid es) w')
def NewSub (nu : New) : Prop := ∀ m m' f l nid r, Sub m m' → nu m f l nid = some r → nu m' f l nid = some r
def newOf (nu : New) (m : Mem) (nid : Nat) (g : Operand → SV) (o : Oper) : Option (SV × List Ent) :=
  match o.op with
  | .call c => (match c.callee with
    | .value (.func f) => nu m f (c.args.toList.map g) nid
    | _ => none)
  | _ => none
theorem newOf_congr {nu : New} {m : Mem} {nid : Nat} {g g' : Operand → SV} {o : Oper} (h : ∀ x ∈ o.op.operands.toList, g x = g' x) : newOf nu m nid g o = newOf nu m nid g' o := by
  unfold newOf
  cases hop : o.op <;> simp only
  rename_i c
  rw [hop] at h
  simp only [Op.operands] at h
  have : c.args.toList.map g = c.args.toList.map g' := List.map_congr_left (fun x hx => h x (by simp only [Call.operands, Array.toList_append, List.mem_append]; exact .inr hx))
  rw [this]
theorem newOf_sub {nu : New} (hn : NewSub nu) {m m' : Mem} (hs : Sub m m') {nid : Nat} {g : Operand → SV} {o : Oper} {r : SV × List Ent} (h : newOf nu m nid g o = some r) : newOf nu m' nid g o = some r := by
  unfold newOf at h ⊢
  split at h
  · split at h
    · exact hn _ _ _ _ _ _ hs h
    · cases h
  · cases h
/-- One operation of a head. -/
def hop (T : Tab) (pu : Pure) (nu : New) (m : Mem) (nid : Nat) (g : Operand → SV) (o : Oper) (K : SV → List Ent → Prop) : Prop :=
  match newOf nu m nid g o with
  | some (v, es) => K v es
  | none => est T pu m nid g o (fun v eo => eo.isSome = allocs o ∧ K v eo.toList)

/-! memory in which some of the operations have been carried out -/
def memL : List (List Ent) → (Nat → Bool) → Nat → Mem
  | [], _, _ => []
  | es :: r, L, i => es.map (fun e => if L i = true then Mk.ent e else Mk.hole) ++ memL r L (i + 1)
theorem memL_app : ∀ {a b : List (List Ent)} {L : Nat → Bool} {i : Nat}, memL (a ++ b) L i = memL a L i ++ memL b L (i + a.length)
  | [], b, L, i => by simp [memL]
  | es :: a, b, L, i => by
    simp only [List.cons_append, memL, memL_app (a := a) (b := b), List.append_assoc, List.length_cons]
    rw [show i + 1 + a.length = i + (a.length + 1) by omega]
theorem memL_len : ∀ {a : List (List Ent)} {L : Nat → Bool} {i : Nat}, (memL a L i).length = a.flatten.length
  | [], L, i => rfl
  | es :: a, L, i => by simp [memL, memL_len (a := a)]
theorem memL_congr : ∀ {a : List (List Ent)} {L L' : Nat → Bool} {i : Nat}, (∀ k es, a[k]? = some es → es ≠ [] → L (i + k) = L' (i + k)) → memL a L i = memL a L' i
  | [], _, _, _, _ => rfl
  | es :: a, L, L', i, h => by
    have h1 := memL_congr (a := a) (L := L) (L' := L') (i := i + 1) (fun k e hk hne => by have := h (k + 1) e (by simpa using hk) hne; rw [show i + 1 + k = i + (k + 1) by omega]; exact this)
    simp only [memL, h1]
    cases es with
    | nil => rfl
    | cons e es => rw [show L i = L' i from h 0 _ rfl (by simp)]
theorem memL_sub : ∀ {a : List (List Ent)} {L L' : Nat → Bool} {i : Nat}, (∀ k, k < a.length → L (i + k) = true → L' (i + k) = true) → ∀ (p : Nat) (e : Ent), (memL a L i)[p]? = some (.ent e) → (memL a L' i)[p]? = some (.ent e)
  | [], _, _, _, _, p, e, hp => by simp [memL] at hp
  | es :: a, L, L', i, h, p, e, hp => by
    simp only [memL] at hp ⊢
    rcases Nat.lt_or_ge p es.length with hl | hl
    · rw [List.getElem?_append_left (by simpa using hl)] at hp ⊢
      rw [List.getElem?_map, List.getElem?_eq_getElem hl] at hp ⊢
      simp only [Option.map_some, Option.some.injEq] at hp ⊢
      split at hp
      · rename_i hL
        rw [if_pos (show L' i = true from h 0 (by simp) hL)]
        exact hp
      · cases hp
    · rw [List.getElem?_append_right (by simpa using hl)] at hp ⊢
      simp only [List.length_map] at hp ⊢
      exact memL_sub (a := a) (fun k hk hL => by rw [show i + 1 + k = i + (k + 1) by omega] at hL ⊢; exact h (k + 1) (by simp; omega) hL) _ _ hp
theorem memL_all : ∀ {a : List (List Ent)} {L : Nat → Bool} {i : Nat}, (∀ k, k < a.length → L (i + k) = true) → memL a L i = a.flatten.map .ent
  | [], _, _, _ => rfl
  | es :: a, L, i, h => by
    have := memL_all (a := a) (L := L) (i := i + 1) (fun k hk => by rw [show i + 1 + k = i + (k + 1) by omega]; exact h (k + 1) (by simp; omega))
    simp only [memL, this, List.flatten_cons, List.map_append]
    rw [show L i = true from h 0 (by simp)]
    simp
theorem memL_holes : ∀ {a : List (List Ent)} {L : Nat → Bool} {i : Nat}, (∀ k, L k = false) → ∀ x ∈ memL a L i, x = .hole
  | [], L, i, h, x, hx => by cases hx
  | es :: a, L, i, h, x, hx => by
    simp only [memL, h i, List.mem_append] at hx
    rcases hx with hx | hx
    · simp at hx
      exact hx.2.symm
    · exact memL_holes (a := a) h x hx
/-- The blocks of an operation come to their places. -/
theorem fillL_eq : ∀ {es : List Ent} {A B : Mem} {nid : Nat}, nid = A.length → fillL (A ++ es.map (fun _ => Mk.hole) ++ B) nid es = A ++ es.map .ent ++ B
  | [], A, B, nid, h => by simp [fillL]
  | e :: es, A, B, nid, h => by
    subst h
    have := fillL_eq (es := es) (A := A ++ [.ent e]) (B := B) (nid := A.length + 1) (by simp)
    simp only [List.map_cons, fillL]
    rw [show (A ++ (Mk.hole :: es.map (fun _ => Mk.hole)) ++ B).set A.length (.ent e) = A ++ [.ent e] ++ es.map (fun _ => Mk.hole) ++ B by
      rw [List.append_assoc, List.set_append_right _ _ (Nat.le_refl _)]; simp]
    rw [this]
    simp
theorem memL_set {a : List (List Ent)} {L : Nat → Bool} {k : Nat} {es : List Ent} (h : a[k]? = some es) (hL : L k = false) :
    memL a L 0 = memL (a.take k) L 0 ++ es.map (fun _ => Mk.hole) ++ memL (a.drop (k + 1)) L (k + 1) ∧ memL a (updB L k) 0 = memL (a.take k) L 0 ++ es.map .ent ++ memL (a.drop (k + 1)) L (k + 1) := by
  have hk := (List.getElem?_eq_some_iff.1 h).1
  have he : a = a.take k ++ es :: a.drop (k + 1) := by
    rw [← (List.getElem?_eq_some_iff.1 h).2, List.getElem_cons_drop, List.take_append_drop]
  have hl : (a.take k).length = k := by simp; omega
  constructor
  · conv => lhs; rw [he]
    rw [memL_app, hl]
    simp only [memL, Nat.zero_add, hL]
    simp
  · conv => lhs; rw [he]
    rw [memL_app, hl]
    simp only [memL, Nat.zero_add]
    have h1 : memL (a.take k) (updB L k) 0 = memL (a.take k) L 0 := memL_congr (fun j e hj _ => by
      have := (List.getElem?_eq_some_iff.1 hj).1
      rw [hl] at this
      simp only [updB]; rw [if_neg (by omega)])
    have h2 : memL (a.drop (k + 1)) (updB L k) (k + 1) = memL (a.drop (k + 1)) L (k + 1) := memL_congr (fun j e hj _ => by simp only [updB]; rw [if_neg (by omega)])
    rw [h1, h2]
    simp [updB]
end Go.V
end
section
set_option linter.unusedSimpArgs false
set_option linter.unusedVariables false
namespace Go.V
open Go

/-! what is checked of a region by looking at it -/
def awB (l : List Oper) : Nat → Nat → Nat → Bool
  | 0, _, _ => false
  | f + 1, i, j => Region.waitsFor .any l.toArray i j || (List.range i).any fun m => Region.waitsFor .any l.toArray i m && awB l f m j
/-- Of which operations' memory an operation may know. -/
def visOf : List (Nat × List Nat) → Nat → List Nat
  | [], _ => []
  | (k, A) :: r, i => if i = k then A else visOf r i
def headB2 (l : List Oper) (n : Nat) (vis : List (Nat × List Nat)) : Bool := (List.range n).all fun i => match l[i]? with
  | none => false
  | some o => (dstOf l i).isSome && ((List.range n).all fun j => i == j || dstOf l j != dstOf l i) &&
    ((List.range n).all fun j => match dstOf l j with | none => true | some d => !(readsOf l o).contains d || (decide (j < i) && Region.waitsFor .any l.toArray i j) || (decide (i < j) && Region.waitsFor .any l.toArray j i)) &&
    (o.after.toList.all fun e => !Region.binds .any e || decide (e.on < i)) &&
    ((visOf vis i).all fun j => decide (j < i) && awB l 3 i j)
def drawB2 (l : List Oper) (n : Nat) (vis : List (Nat × List Nat)) : Bool :=
  decide (n < l.length) && Region.sinkB .any l.toArray n && Region.chainB .any l.toArray n && Region.seqB .any l.toArray (l.length - n) n (firstN n (l.length - n)) && headB2 l n vis
def viewM (m0 : Mem) (vis : List (Nat × List Nat)) (i : Nat) (al : List (List Ent)) : Mem :=
  match visOf vis i with
  | [] => m0
  | A => m0 ++ memL al (fun j => A.contains j) 0
def hd2 (T : Tab) (pu : Pure) (nu : New) (m0 : Mem) (l : List Oper) (vis : List (Nat × List Nat)) (N : Nat) : Nat → List Oper → Slots → List (List Ent) → (Slots → List (List Ent) → Prop) → Prop
  | _, [], sl, al, K => K sl al
  | i, o :: r, sl, al, K =>
    (noCap T o = true ∧ okd N o.dst) ∧ match guardTmp l o, o.guard with
    | none, none => hop T pu nu (viewM m0 vis i al) (m0.length + al.flatten.length) (evS sl) o (fun v es => hd2 T pu nu m0 l vis N (i + 1) r (pushD o.dst v sl) (al ++ [es]) K)
    | some d, some (_, b) => (match look sl d with
      | .one (.s (.b c)) => (c = b → hop T pu nu (viewM m0 vis i al) (m0.length + al.flatten.length) (evS sl) o (fun v es => hd2 T pu nu m0 l vis N (i + 1) r (pushD o.dst v sl) (al ++ [es]) K)) ∧ (c = (!b) → hd2 T pu nu m0 l vis N (i + 1) r (pushD o.dst (.tup []) sl) (al ++ [[]]) K)
      | .tup [] => hd2 T pu nu m0 l vis N (i + 1) r (pushD o.dst (.tup []) sl) (al ++ [[]]) K
      | _ => False)
    | _, _ => False
/-- An operation comes to this value and these blocks. -/
def Doing (T : Tab) (pu : Pure) (nu : New) (m : Mem) (nid : Nat) (g : Operand → SV) (o : Oper) (v : SV) (es : List Ent) : Prop :=
  newOf nu m nid g o = some (v, es) ∨ ∃ eo : Option Ent, es = eo.toList ∧ eo.isSome = allocs o ∧ ∀ K' : SV → Option Ent → Prop, K' v eo → est T pu m nid g o K'
theorem hop_doing {T : Tab} {pu : Pure} {nu : New} {m : Mem} {nid : Nat} {g : Operand → SV} {o : Oper} {K : SV → List Ent → Prop} (hc : noCap T o = true) (h : hop T pu nu m nid g o K) : ∃ v es, Doing T pu nu m nid g o v es ∧ K v es := by
  unfold hop at h
  split at h
  · rename_i v es hn
    exact ⟨v, es, .inl hn, h⟩
  · obtain ⟨⟨v, eo⟩, ⟨h1, h2⟩, h3⟩ := det_est T pu m nid g o hc (fun p => p.2.isSome = allocs o ∧ K p.1 p.2.toList) h
    exact ⟨v, eo.toList, .inr ⟨eo, rfl, h1, fun K' hK' => h3 (fun p => K' p.1 p.2) hK'⟩, h2⟩
def Trace2 (T : Tab) (pu : Pure) (nu : New) (m0 : Mem) (l : List Oper) (vis : List (Nat × List Nat)) (N : Nat) : Nat → List Oper → Slots → List (List Ent) → List (SV × List Ent) → Prop
  | _, [], _, _, [] => True
  | i, o :: r, sl, al, (v, es) :: vs => (noCap T o = true ∧ okd N o.dst) ∧ ((says l o (look sl) true ∧ Doing T pu nu (viewM m0 vis i al) (m0.length + al.flatten.length) (evS sl) o v es) ∨ (says l o (look sl) false ∧ v = .tup [] ∧ es = [])) ∧ Trace2 T pu nu m0 l vis N (i + 1) r (pushD o.dst v sl) (al ++ [es]) vs
  | _, _, _, _, _ => False
def push2 : List Oper → List (SV × List Ent) → Slots → Slots
  | o :: r, (v, _) :: vs, sl => push2 r vs (pushD o.dst v sl)
  | _, _, sl => sl
theorem hd2_trace {T : Tab} {pu : Pure} {nu : New} {m0 : Mem} {l : List Oper} {vis : List (Nat × List Nat)} {N : Nat} : ∀ (r : List Oper) (i : Nat) (sl : Slots) (al : List (List Ent)) (K : Slots → List (List Ent) → Prop), hd2 T pu nu m0 l vis N i r sl al K →
    ∃ vs, Trace2 T pu nu m0 l vis N i r sl al vs ∧ K (push2 r vs sl) (al ++ vs.map (·.2))
  | [], i, sl, al, K, h => ⟨[], trivial, by have h' : K sl al := h; simpa [push2] using h'⟩
  | o :: r, i, sl, al, K, h => by
    obtain ⟨⟨hc, hd⟩, h⟩ := h
    have go : says l o (look sl) true → hop T pu nu (viewM m0 vis i al) (m0.length + al.flatten.length) (evS sl) o (fun v es => hd2 T pu nu m0 l vis N (i + 1) r (pushD o.dst v sl) (al ++ [es]) K) → ∃ vs, Trace2 T pu nu m0 l vis N i (o :: r) sl al vs ∧ K (push2 (o :: r) vs sl) (al ++ vs.map (·.2)) := by
      intro hs h
      obtain ⟨v, es, h1, h2⟩ := hop_doing hc h
      obtain ⟨vs, g1, g2⟩ := hd2_trace r _ _ _ _ h2
      exact ⟨(v, es) :: vs, ⟨⟨hc, hd⟩, .inl ⟨hs, h1⟩, g1⟩, by simpa [push2] using g2⟩
    have sk : says l o (look sl) false → hd2 T pu nu m0 l vis N (i + 1) r (pushD o.dst (.tup []) sl) (al ++ [[]]) K → ∃ vs, Trace2 T pu nu m0 l vis N i (o :: r) sl al vs ∧ K (push2 (o :: r) vs sl) (al ++ vs.map (·.2)) := by
      intro hs h
      obtain ⟨vs, g1, g2⟩ := hd2_trace r _ _ _ _ h
      exact ⟨(.tup [], []) :: vs, ⟨⟨hc, hd⟩, .inr ⟨hs, rfl, rfl⟩, g1⟩, by simpa [push2] using g2⟩
    split at h
    · rename_i h1 h2
      exact go (by simp [says, h1, h2]) h
    · rename_i d b h1 h2
      split at h
      · rename_i c hlk
        by_cases hcb : c = b
        · exact go (by simp only [says, h1, h2]; exact .inl ⟨c, hlk, by simp [hcb]⟩) (h.1 hcb)
        · exact sk (by simp only [says, h1, h2]; exact .inl ⟨c, hlk, by simp [hcb]⟩) (h.2 (by cases c <;> cases b <;> simp_all))
      · rename_i hlk
        exact sk (by simp only [says, h1, h2]; exact .inr ⟨hlk, trivial⟩) h
      · exact h.elim
    · exact h.elim

/-! the state in which some of the operations have been carried out -/
section
variable (l : List Oper) (n : Nat) (vs : List (SV × List Ent)) (sl : Slots)
def valAt2 (i : Nat) : SV := match vs[i]? with | some p => p.1 | none => one .any
def view2 (L : Nat → Bool) (t : Nat) : SV :=
  match (List.range n).find? (fun j => L j && dstOf l j == some t) with
  | some j => valAt2 vs j
  | none => look sl t
variable {l n vs sl}
theorem view2_congr {L L' : Nat → Bool} {t : Nat} (h : ∀ j, j < n → dstOf l j = some t → L j = L' j) : view2 l n vs sl L t = view2 l n vs sl L' t := by
  unfold view2
  have : (List.range n).find? (fun j => L j && dstOf l j == some t) = (List.range n).find? (fun j => L' j && dstOf l j == some t) := by
    refine find_congr ?_
    intro j hj
    by_cases hd : dstOf l j = some t
    · rw [h j (List.mem_range.1 hj) hd]
    · have : (dstOf l j == some t) = false := by simpa using hd
      rw [this]; simp
  rw [this]
theorem view2_at {L : Nat → Bool} {t i : Nat} (hu : ∀ a b, a < n → b < n → dstOf l a = some t → dstOf l b = some t → a = b) (hi : i < n) (hd : dstOf l i = some t) (hL : L i = true) : view2 l n vs sl L t = valAt2 vs i := by
  unfold view2
  cases hf : (List.range n).find? (fun j => L j && dstOf l j == some t) with
  | none =>
    have := List.find?_eq_none.1 hf i (List.mem_range.2 hi)
    simp [hL, hd] at this
  | some j =>
    have h1 := List.find?_some hf
    have h2 := List.mem_range.1 (List.mem_of_find?_eq_some hf)
    simp only [Bool.and_eq_true, beq_iff_eq] at h1
    rw [hu j i h2 hi h1.2 hd]
theorem view2_none {L : Nat → Bool} {t : Nat} (h : ∀ j, j < n → dstOf l j = some t → L j = false) : view2 l n vs sl L t = look sl t := by
  unfold view2
  have : (List.range n).find? (fun j => L j && dstOf l j == some t) = none := by
    rw [List.find?_eq_none]
    intro j hj hh
    simp only [Bool.and_eq_true, beq_iff_eq] at hh
    rw [h j (List.mem_range.1 hj) hh.2] at hh
    cases hh.1
  rw [this]
end
structure HeadOK2 (l : List Oper) (n : Nat) (vis : List (Nat × List Nat)) (i : Nat) (o : Oper) : Prop where
  get : l[i]? = some o
  dst : ∃ d, o.dst = some d
  uniq : ∀ j, j < n → i ≠ j → dstOf l j ≠ dstOf l i
  reads : ∀ j d, j < n → dstOf l j = some d → d ∈ readsOf l o → (j < i ∧ Region.waitsFor .any l.toArray i j = true) ∨ (i < j ∧ Region.waitsFor .any l.toArray j i = true)
  back : ∀ e ∈ o.after, Region.binds .any e = true → e.on < i
  vis : ∀ j ∈ visOf vis i, j < i ∧ awB l 3 i j = true
theorem headB2_ok {l : List Oper} {n : Nat} {vis : List (Nat × List Nat)} (h : headB2 l n vis = true) {i : Nat} (hi : i < n) : ∃ o, HeadOK2 l n vis i o := by
  have h1 := List.all_eq_true.1 h i (List.mem_range.2 hi)
  split at h1
  · cases h1
  · rename_i o ho
    simp only [Bool.and_eq_true] at h1
    obtain ⟨⟨⟨⟨a, b⟩, c⟩, d⟩, e⟩ := h1
    have hd : dstOf l i = o.dst := by simp [dstOf, ho]
    refine ⟨o, ho, Option.isSome_iff_exists.1 (hd ▸ a), fun j hj hij => ?_, fun j x hj hx hr => ?_, fun e he hb => ?_, fun j hj => ?_⟩
    · have := List.all_eq_true.1 b j (List.mem_range.2 hj)
      simp only [Bool.or_eq_true, beq_iff_eq, bne_iff_ne] at this
      exact this.resolve_left hij
    · have := List.all_eq_true.1 c j (List.mem_range.2 hj)
      simp only [hx, Bool.or_eq_true, Bool.not_eq_true', Bool.and_eq_true, decide_eq_true_eq] at this
      rcases this with (h2 | h2) | h2
      · have h3 : (readsOf l o).contains x = true := by simpa using hr
        rw [h2] at h3; cases h3
      · exact .inl h2
      · exact .inr h2
    · have := List.all_eq_true.1 d e (by simpa using he)
      simp only [Bool.or_eq_true, Bool.not_eq_true', decide_eq_true_eq, hb] at this
      simpa using this
    · have := List.all_eq_true.1 e j hj
      simpa using this
section
variable {T : Tab} {pu : Pure} {nu : New} {m0 : Mem} {l : List Oper} {vis : List (Nat × List Nat)} {N : Nat}
theorem trace2_len : ∀ {r : List Oper} {i : Nat} {sl : Slots} {al : List (List Ent)} {vs : List (SV × List Ent)}, Trace2 T pu nu m0 l vis N i r sl al vs → vs.length = r.length
  | [], i, sl, al, [], _ => rfl
  | o :: r, i, sl, al, (v, es) :: vs, h => by simp [trace2_len h.2.2]
  | [], _, _, _, _ :: _, h => h.elim
  | _ :: _, _, _, _, [], h => h.elim
theorem trace2_at : ∀ {r : List Oper} {i0 : Nat} {sl : Slots} {al : List (List Ent)} {vs : List (SV × List Ent)}, Trace2 T pu nu m0 l vis N i0 r sl al vs → ∀ {i : Nat} {o : Oper}, r[i]? = some o →
    ∃ v es, vs[i]? = some (v, es) ∧ (noCap T o = true ∧ okd N o.dst) ∧ ((says l o (look (push2 (r.take i) (vs.take i) sl)) true ∧ Doing T pu nu (viewM m0 vis (i0 + i) (al ++ (vs.take i).map (·.2))) (m0.length + (al ++ (vs.take i).map (·.2)).flatten.length) (evS (push2 (r.take i) (vs.take i) sl)) o v es) ∨ (says l o (look (push2 (r.take i) (vs.take i) sl)) false ∧ v = .tup [] ∧ es = []))
  | [], i0, sl, al, vs, _, i, o, hi => by simp at hi
  | o0 :: r, i0, sl, al, [], h, _, _, _ => h.elim
  | o0 :: r, i0, sl, al, (v, es) :: vs, h, 0, o, hi => by
    simp at hi; subst hi
    exact ⟨v, es, by simp, h.1, by simpa [push2] using h.2.1⟩
  | o0 :: r, i0, sl, al, (v, es) :: vs, h, i + 1, o, hi => by
    obtain ⟨v', es', g1, g2, g3⟩ := trace2_at h.2.2 (i := i) (o := o) (by simpa using hi)
    refine ⟨v', es', by simpa using g1, g2, ?_⟩
    simp only [List.take_succ_cons, push2, List.map_cons]
    rw [show i0 + (i + 1) = i0 + 1 + i by omega, show al ++ es :: (vs.take i).map (·.2) = al ++ [es] ++ (vs.take i).map (·.2) by simp]
    exact g3
theorem push2_succ : ∀ {r : List Oper} {vs : List (SV × List Ent)} {sl : Slots} {i : Nat} {o : Oper} {v : SV} {es : List Ent}, r[i]? = some o → vs[i]? = some (v, es) →
    push2 (r.take (i + 1)) (vs.take (i + 1)) sl = pushD o.dst v (push2 (r.take i) (vs.take i) sl)
  | [], vs, sl, i, o, v, es, h, _ => by simp at h
  | _ :: r, [], sl, i, o, v, es, _, h => by simp at h
  | o0 :: r, (v0, e0) :: vs, sl, 0, o, v, es, h, h2 => by
    simp at h h2; subst h; obtain ⟨rfl, rfl⟩ := h2
    simp [push2]
  | o0 :: r, (v0, e0) :: vs, sl, i + 1, o, v, es, h, h2 => by
    simp only [List.take_succ_cons, push2]
    exact push2_succ (by simpa using h) (by simpa using h2)
theorem look_prefix2 {n : Nat} (hn : n ≤ l.length) (hB : headB2 l n vis = true) {vs : List (SV × List Ent)} {sl : Slots} (hv : vs.length = n) : ∀ (i : Nat), i ≤ n → ∀ t, look (push2 ((l.take n).take i) (vs.take i) sl) t = view2 l n vs sl (fun j => decide (j < i)) t
  | 0, _, t => by
    rw [view2_none (fun j _ _ => by simp)]
    simp [push2]
  | i + 1, hi, t => by
    obtain ⟨o, ho⟩ := headB2_ok hB (i := i) (by omega)
    have hl : (l.take n)[i]? = some o := by rw [List.getElem?_take_of_lt (by omega)]; exact ho.get
    have hvi : vs[i]? = some vs[i] := List.getElem?_eq_getElem (by omega)
    rw [push2_succ (v := vs[i].1) (es := vs[i].2) hl hvi]
    obtain ⟨d, hd⟩ := ho.dst
    have hdi : dstOf l i = some d := by simp [dstOf, ho.get, hd]
    rw [hd]
    show (if t = d then vs[i].1 else look (push2 ((l.take n).take i) (vs.take i) sl) t) = _
    have huniq : ∀ j, j < n → dstOf l j = some d → j = i := fun j hj hjd => by
      rcases Nat.decEq i j with h | h
      · exact absurd (hjd.trans hdi.symm) (ho.uniq j hj h)
      · exact h.symm
    split
    · rename_i htd
      subst htd
      rw [view2_at (i := i) (fun a b ha hb h1 h2 => (huniq a ha h1).trans (huniq b hb h2).symm) (by omega) hdi (by simp)]
      simp [valAt2, hvi]
    · rename_i htd
      rw [look_prefix2 hn hB hv i (by omega) t]
      refine view2_congr (fun j hj hjd => ?_)
      have : j ≠ i := fun h => by subst h; rw [hdi] at hjd; exact htd (Option.some.inj hjd).symm
      simp only [decide_eq_decide]; omega
end

theorem aw_listed {l : List Oper} {n : Nat} {listed : Array Bool} (inv : HeadInv .any l.toArray n listed) : ∀ (f i : Nat), (∀ m, Region.waitsFor .any l.toArray i m = true → Lof listed m = true) → ∀ j, awB l f i j = true → Lof listed j = true
  | 0, i, _, j, h => by cases h
  | f + 1, i, hW, j, h => by
    simp only [awB, Bool.or_eq_true, List.any_eq_true, Bool.and_eq_true] at h
    rcases h with h | ⟨m, _, h1, h2⟩
    · exact hW j h
    · refine aw_listed inv f m (fun m' hm' => ?_) j h2
      obtain ⟨oj, hoj, e, he, hb, hon⟩ := Region.waitsFor_spec hm'
      have := inv.closed m oj hoj (hW m h1) e he hb
      rw [hon] at this
      exact this
section
variable {P : Program} {E : Env} {N : Nat} {l : List Oper}
theorem ok_draw3 {T : Tab} {pu : Pure} {nu : New} {vis : List (Nat × List Nat)} (hT : TabOK P T) (hpu : PureOK P pu) (hnu : NewOK P nu) (hmono : PureSub pu) (hnmono : NewSub nu) (hmix : P.follows .mixedOrders = true) {Q0 : Exit → Act → World → Prop} {id n : Nat} {k : List Item} {st : St} (hB : drawB2 l n vis = true)
    (h : hd2 T pu nu st.m l vis N 0 (l.take n) st.sl [] (fun sl al => Ok P E N Q0 (.ops l (l.drop n) :: k) ⟨sl, st.m ++ al.flatten.map .ent⟩)) : Ok P E N Q0 (.code (.region id l.toArray true) :: k) st := by
  simp only [drawB2, Bool.and_eq_true, decide_eq_true_eq] at hB
  obtain ⟨⟨⟨⟨hn, hs⟩, hc⟩, hseq⟩, hhead⟩ := hB
  obtain ⟨vs, htr, hfin⟩ := hd2_trace _ _ _ _ _ h
  have hvl : vs.length = n := by rw [trace2_len htr]; simp; omega
  simp only [List.nil_append] at hfin
  intro a0 w0 hh
  show (Code.region id l.toArray true).wp P (semK P E N Q0 k) a0 w0
  refine wp_region_any hmix ?_
  have main : ∀ (f : Nat) (listed : Array Bool) (a : Act) (w : World), HeadInv .any l.toArray n listed → cntF (Lof listed) n = f →
      (∃ ℓ, (∀ t, DenV ℓ (view2 l n vs st.sl (Lof listed) t) (a.tmps.getD t undef)) ∧ MH E ℓ (st.m ++ memL (vs.map (·.2)) (Lof listed) 0) w ∧ a.defers = [] ∧ a.tmps.size = N) →
      wpAny P .any l.toArray (semK P E N Q0 k) (f + (l.length - n)) listed a w := by
    intro f
    induction f with
    | zero =>
      intro listed a w inv hcnt ⟨ℓ, h1, h2, h3, h4⟩
      have hall := cntF_zero hcnt
      have hlist : listed = firstN n (l.length - n) := by
        have hsz := inv.size
        simp only [List.size_toArray] at hsz
        refine Array.ext (by simp [firstN, hsz]; omega) (fun j hj hj2 => ?_)
        rcases Nat.lt_or_ge j n with hjn | hjn
        · have := hall j hjn
          simp only [Lof] at this
          rw [Array.getD_eq_getD_getElem?, Array.getElem?_eq_getElem hj] at this
          simp only [Option.getD_some] at this
          rw [this]
          simp [firstN, List.getElem_append, hjn]
        · have := inv.tail j hjn (by simp; omega)
          rw [Array.getD_eq_getD_getElem?, Array.getElem?_eq_getElem hj] at this
          simp only [Option.getD_some] at this
          rw [this]
          simp [firstN, List.getElem_append, Nat.not_lt.2 hjn]
      have hdl : (l.drop n).length = l.length - n := by simp
      rw [Nat.zero_add, ← hdl]
      refine wpAny_of_seq (l.drop n) n listed a w (fun j => by simp) (by rw [hdl, hlist]; exact hseq) ?_
      refine hfin a w ⟨ℓ, fun t => ?_, ?_, h3, h4⟩
      · have hpf := look_prefix2 (Nat.le_of_lt hn) hhead (sl := st.sl) hvl n (Nat.le_refl _) t
        rw [List.take_take, Nat.min_self, List.take_of_length_le (l := vs) (by omega)] at hpf
        show DenV ℓ (look (push2 (l.take n) vs st.sl) t) _
        rw [hpf]
        rw [view2_congr (L' := Lof listed) (fun j hj _ => by rw [hall j hj]; simpa using hj)]
        exact h1 t
      · rw [memL_all (fun k hk => by rw [Nat.zero_add]; exact hall k (by simpa [hvl] using hk))] at h2
        exact h2
    | succ f ih =>
      intro listed a w inv hcnt hD
      have hsz : listed.size = l.length := by simpa using inv.size
      obtain ⟨i0, hi0, hL0, hless⟩ := cntF_least (L := Lof listed) (n := n) (by omega)
      have hun : listed.getD i0 true = false := getD_in (by omega) hL0
      rw [show f + 1 + (l.length - n) = (f + (l.length - n)) + 1 by omega]
      refine ⟨fun hr => ?_, fun i hi => ?_⟩
      · exfalso
        obtain ⟨o, ho⟩ := headB2_ok hhead hi0
        have : i0 ∈ Region.ready .any l.toArray listed := mem_ready.2 ⟨hun, o, by simpa using ho.get, fun e he hb => hless _ (ho.back e he hb)⟩
        rw [hr] at this; cases this
      · have hin : i < n := by
          rcases Nat.lt_or_ge i n with hx | hx
          · exact hx
          · exact absurd hi (tail_waits hs hc (by simpa using hn) inv _ i0 rfl hi0 hun i hx)
        obtain ⟨hiun, oi', hoi', hall⟩ := mem_ready.1 hi
        obtain ⟨o, ho⟩ := headB2_ok hhead hin
        have hoi : l.toArray[i]? = some o := by simpa using ho.get
        obtain rfl : o = oi' := Option.some.inj (hoi.symm.trans hoi')
        have hLi : Lof listed i = false := getD_both hiun
        have inv' := inv.set hi hin
        have hLof := Lof_set (listed := listed) (i := i) (by omega)
        have hcnt' : cntF (Lof (listed.setIfInBounds i true)) n = f := by
          rw [hLof]
          have := cntF_set hin hLi
          omega
        obtain ⟨d, hd⟩ := ho.dst
        have hdi : dstOf l i = some d := by simp [dstOf, ho.get, hd]
        have huniq : ∀ j, j < n → dstOf l j = some d → j = i := fun j hj hjd => by
          rcases Nat.decEq i j with h | h
          · exact absurd (hjd.trans hdi.symm) (ho.uniq j hj h)
          · exact h.symm
        obtain ⟨v, es, hvi, ⟨hcap, hok⟩, hex⟩ := trace2_at htr (i := i) (o := o) (by rw [List.getElem?_take_of_lt hin]; exact ho.get)
        simp only [Nat.zero_add, List.nil_append] at hex
        rw [hd] at hok
        have hok : d < N := hok
        obtain ⟨ℓ, h1, h2, h3, h4⟩ := hD
        have hW : ∀ m, Region.waitsFor .any l.toArray i m = true → Lof listed m = true := fun m hw => by
          obtain ⟨oj, hoj, e, he, hb, hon⟩ := Region.waitsFor_spec hw
          obtain rfl : o = oj := Option.some.inj (hoi.symm.trans hoj)
          have := hall e he hb
          rw [hon] at this
          exact this
        have hread : ∀ t, t ∈ readsOf l o → look (push2 ((l.take n).take i) (vs.take i) st.sl) t = view2 l n vs st.sl (Lof listed) t := by
          intro t ht
          rw [look_prefix2 (Nat.le_of_lt hn) hhead hvl i (by omega) t]
          refine view2_congr (fun j hj hjd => ?_)
          show decide (j < i) = Lof listed j
          rcases ho.reads j t hj hjd ht with ⟨hji, hw⟩ | ⟨hij, hw⟩
          · rw [hW j hw]
            simpa using hji
          · cases hLj : Lof listed j with
            | false => simp; omega
            | true =>
              obtain ⟨oj, hoj, e, he, hb, hon⟩ := Region.waitsFor_spec hw
              have := inv.closed j oj hoj hLj e he hb
              rw [hon] at this
              rw [show Lof listed i = true from this] at hLi
              cases hLi
        have hview : ∀ t, view2 l n vs st.sl (updB (Lof listed) i) t = if t = d then v else view2 l n vs st.sl (Lof listed) t := by
          intro t
          split
          · rename_i htd
            subst htd
            rw [view2_at (i := i) (fun a b ha hb h1 h2 => (huniq a ha h1).trans (huniq b hb h2).symm) hin hdi (by simp [updB])]
            simp [valAt2, hvi]
          · rename_i htd
            refine view2_congr (fun j hj hjd => ?_)
            have : j ≠ i := fun h => by subst h; rw [hdi] at hjd; exact htd (Option.some.inj hjd).symm
            simp [updB, this]
        have hsays : ∀ {t : Bool}, says l o (look (push2 ((l.take n).take i) (vs.take i) st.sl)) t → Region.wanted o (yielded l.toArray a.tmps) = t := fun hs =>
          wanted_says h1 (says_congr (fun d' hd' => hread d' (by simp [readsOf, hd'])) hs)
        unfold wpOp
        simp only [hoi]
        have hvim : (vs.map (·.2))[i]? = some es := by simp [hvi]
        rcases hex with ⟨hsy, hdo⟩ | ⟨hsy, rfl, rfl⟩
        · rw [if_pos (hsays hsy)]
          refine .inl ?_
          have next : ∀ {ℓ' : Nat → Option Loc} {v' : Value} {w' : World}, Le ℓ ℓ' → MH E ℓ' (st.m ++ memL (vs.map (·.2)) (updB (Lof listed) i) 0) w' → DenV ℓ' v v' → wpAny P .any l.toArray (semK P E N Q0 k) (f + (l.length - n)) (listed.setIfInBounds i true) (a.put o.dst v') w' := by
            intro ℓ' v' w' hle hm' hdv
            refine ih _ _ _ inv' hcnt' ⟨ℓ', fun t => ?_, by rw [hLof]; exact hm', ?_, ?_⟩
            · rw [hLof, hview, hd]
              exact put_view (fun t => (h1 t).mono hle) (by rw [h4]; exact hok) hdv t
            · rw [hd]; exact h3
            · rw [hd]; simpa [Act.put] using h4
          have hops : ∀ x ∈ o.op.operands.toList, evV (look (push2 ((l.take n).take i) (vs.take i) st.sl)) x = evV (view2 l n vs st.sl (Lof listed)) x := fun x hx => by
            cases x with
            | tmp t =>
              refine hread t ?_
              simp only [readsOf, tmpsOf, List.mem_append, List.mem_filterMap]
              exact .inl ⟨.tmp t, hx, rfl⟩
            | _ => rfl
          have hsub : Sub (viewM st.m vis i ((vs.take i).map (·.2))) (st.m ++ memL (vs.map (·.2)) (Lof listed) 0) := by
            unfold viewM
            split
            · intro id e hid
              rw [List.getElem?_append_left (List.getElem?_eq_some_iff.1 hid).1]; exact hid
            · intro id e hid
              rcases Nat.lt_or_ge id st.m.length with hl | hl
              · rw [List.getElem?_append_left hl] at hid ⊢; exact hid
              · rw [List.getElem?_append_right hl] at hid ⊢
                have hsplit : vs.map (·.2) = (vs.take i).map (·.2) ++ (vs.drop i).map (·.2) := by rw [← List.map_append, List.take_append_drop]
                have hp := (List.getElem?_eq_some_iff.1 hid).1
                rw [memL_len] at hp
                rw [hsplit, memL_app, List.getElem?_append_left (by rw [memL_len]; exact hp)]
                refine memL_sub (fun k hk hL => ?_) _ _ hid
                rw [Nat.zero_add] at hL ⊢
                exact aw_listed inv 3 i hW k (ho.vis k (by simpa using hL)).2
          obtain ⟨k1, k2⟩ := memL_set (L := Lof listed) hvim hLi
          have hA : (memL ((vs.map (·.2)).take i) (Lof listed) 0).length = ((vs.take i).map (·.2)).flatten.length := by
            rw [memL_len, List.map_take]
          have hholes : ∀ k, k < es.length → (st.m ++ memL (vs.map (·.2)) (Lof listed) 0)[st.m.length + ((vs.take i).map (·.2)).flatten.length + k]? = some .hole := by
            intro k hk
            rw [k1, List.getElem?_append_right (by omega), show st.m.length + ((vs.take i).map (·.2)).flatten.length + k - st.m.length = ((vs.take i).map (·.2)).flatten.length + k by omega, ← hA, List.append_assoc, List.getElem?_append_right (by omega), List.getElem?_append_left (by simp; omega)]
            simp [hk]
          have hfill : fillL (st.m ++ memL (vs.map (·.2)) (Lof listed) 0) (st.m.length + ((vs.take i).map (·.2)).flatten.length) es = st.m ++ memL (vs.map (·.2)) (updB (Lof listed) i) 0 := by
            rw [k1, k2, ← List.append_assoc, ← List.append_assoc, fillL_eq (by simp [hA]), List.append_assoc, List.append_assoc, List.append_assoc]
          rcases hdo with hnew | ⟨eo, rfl, hal, hest⟩
          · rw [evS_V, newOf_congr hops] at hnew
            have hn2 := newOf_sub hnmono hsub hnew
            clear hnew
            unfold newOf at hn2
            split at hn2
            · rename_i c hop
              split at hn2
              · rename_i fid hcal
                have hargs : DenVs ℓ (c.args.toList.map (evV (view2 l n vs st.sl (Lof listed)))) (c.args.toList.map a.eval) := denVs_map (evV_den h1) _
                obtain ⟨hcallable, hcalls⟩ := hnu _ _ _ _ _ _ hn2 E w ℓ _ h2 hholes hargs
                rw [hfill] at hcalls
                have hwp : o.wp P a w (fun a' w' => wpAny P .any l.toArray (semK P E N Q0 k) (f + (l.length - n)) (listed.setIfInBounds i true) a' w') (semK P E N Q0 k) := by
                  clear hn2 hsays hread hview hops
                  obtain ⟨dst, op, type, pos, after, guard⟩ := o
                  simp only at hop; subst hop
                  obtain ⟨callee, cargs, cts⟩ := c
                  simp only at hcal; subst hcal
                  unfold Oper.wp
                  rw [enter_run hcallable]
                  simp only [Oper.upon]
                  refine hcalls.mono ?_
                  rintro e w' ⟨v', ℓ', rfl, hle, hdv, hm'⟩
                  exact next hle hm' hdv
                exact hwp
              · cases hn2
            · cases hn2
          · have hcg : ∀ K', K' v eo → est T pu (st.m ++ memL (vs.map (·.2)) (Lof listed) 0) (st.m.length + ((vs.take i).map (·.2)).flatten.length) (evV (view2 l n vs st.sl (Lof listed))) o K' := by
              intro K' hK'
              have h5 := hest K' hK'
              rw [evS_V, est_congr hops] at h5
              exact est_sub hmono hsub h5
            cases heo : eo with
            | none =>
              subst heo
              have hna : allocs o = false := by simpa using hal.symm
              have h6 := hcg (fun sv e => sv = v ∧ e = none) ⟨rfl, rfl⟩
              rw [est_nid (n' := (st.m ++ memL (vs.map (·.2)) (Lof listed) 0).length) hna hcap] at h6
              refine est_ok hT hpu h2 (.inl rfl) (evV_den h1) h6 _ _ ?_
              rintro v' w' ⟨sv, e, ℓ', ⟨rfl, rfl⟩, hle, hm', hdv⟩
              refine next hle ?_ hdv
              rw [← hfill]
              exact hm'
            | some e0 =>
              subst heo
              have hget := hholes 0 (by simp)
              rw [Nat.add_zero] at hget
              refine est_ok hT hpu h2 (.inr hget) (evV_den h1) (hcg (fun sv e => sv = v ∧ e = some e0) ⟨rfl, rfl⟩) _ _ ?_
              rintro v' w' ⟨sv, e, ℓ', ⟨rfl, rfl⟩, hle, hm', hdv⟩
              refine next hle ?_ hdv
              rw [← hfill]
              have hlt := (List.getElem?_eq_some_iff.1 hget).1
              have hf : fill (st.m ++ memL (vs.map (·.2)) (Lof listed) 0) (st.m.length + ((vs.take i).map (·.2)).flatten.length) e0 = fillL (st.m ++ memL (vs.map (·.2)) (Lof listed) 0) (st.m.length + ((vs.take i).map (·.2)).flatten.length) [e0] := by
                unfold fill
                rw [if_pos hlt]
                rfl
              show MH E ℓ' (fillL _ _ [e0]) w'
              rw [← hf]
              exact hm'
        · rw [if_neg (by rw [hsays hsy]; simp)]
          refine ih _ _ _ inv' hcnt' ⟨ℓ, fun t => ?_, ?_, ?_, ?_⟩
          · rw [hLof, hview, hd]
            exact put_view (sv := .tup []) (v := undef) h1 (by rw [h4]; exact hok) ⟨[], rfl, trivial⟩ t
          · rw [hLof, memL_congr (L' := Lof listed) (fun k e hk hne => ?_)]
            · exact h2
            · simp only [updB, Nat.zero_add]
              split
              · rename_i hki; subst hki; rw [hvim] at hk; cases hk; exact absurd rfl hne
              · rfl
          · rw [hd]; exact h3
          · rw [hd]; simpa [Act.put] using h4
  obtain ⟨ℓ, h1, h2, h3, h4⟩ := hh
  have hL0 : ∀ j, Lof (Array.replicate l.toArray.size false) j = false := fun j => getD_replicate_false _ _
  have hc0 : cntF (Lof (Array.replicate l.toArray.size false)) n = n := by
    clear main htr hvl hfin hhead hseq hc hs hn h
    induction n with
    | zero => rfl
    | succ n ih => simp only [cntF, hL0, ih]; rfl
  have := main n (Array.replicate l.toArray.size false) a0 { w0 with drawn := w0.drawn + 1 }
    ⟨by simp, fun j oj _ hl => (by rw [getD_replicate_false] at hl; cases hl), fun t _ ht => getD_in (by simpa using ht) (getD_replicate_false _ _)⟩ hc0
    ⟨ℓ, fun t => by rw [view2_none (fun j _ _ => hL0 j)]; exact h1 t, (h2.drew).holes (memL_holes hL0), h3, h4⟩
  rw [show n + (l.length - n) = l.toArray.size by simp; omega] at this
  exact this
end
end Go.V
end
section
set_option linter.unusedSimpArgs false
set_option linter.unusedVariables false
namespace Go.V
open Go
section
variable {ℓ ℓ' : Nat → Option Loc} {τ ρ : Nat → Nat}
theorem renS_id (h : ∀ i L, ℓ i = some L → τ i = i) : ∀ {x : S} {v : Value}, DenS ℓ x v → renS τ x = x := by
  intro x
  induction x with
  | ptr i b o => rintro v ⟨L, h1, h2⟩; simp only [renS, h i L h1]
  | sl i o l c e => rintro v ⟨L, h1, h2⟩; simp only [renS, h i L h1]
  | slq i o l e => rintro v ⟨L, h1, h2⟩; simp only [renS, h i L h1]
  | fn f caps =>
    rintro v ⟨Ls, h1, h2⟩
    clear h2
    simp only [renS]
    congr 1
    induction caps generalizing Ls with
    | nil => rfl
    | cons c cs ih =>
      cases Ls with
      | nil => simp at h1
      | cons L Ls =>
        simp only [List.map_cons, List.cons.injEq] at h1 ⊢
        exact ⟨h c L h1.1.symm, ih Ls h1.2⟩
  | ifc t x ih => rintro v ⟨u, h1, h2⟩; simp only [renS, ih h2]
  | ifa t x ih => rintro v ⟨u, h1, h2⟩; simp only [renS, ih h2]
  | _ => intro v _; rfl
theorem renL_id (h : ∀ i L, ℓ i = some L → τ i = i) : ∀ {xs : List S} {vs : List Value}, DenL ℓ xs vs → ∀ x ∈ xs, renS τ x = x
  | [], [], _, x, hx => by cases hx
  | y :: xs, v :: vs, ⟨h1, h2⟩, x, hx => by
    rcases List.mem_cons.1 hx with rfl | hx
    · exact renS_id h h1
    · exact renL_id h h2 x hx
  | [], _ :: _, hd, _, _ => hd.elim
  | _ :: _, [], hd, _, _ => hd.elim
theorem map_same {l : List S} (h : ∀ x ∈ l, renS τ x = x) : l.map (renS τ) = l := by
  conv => rhs; rw [← List.map_id l]
  exact List.map_congr_left h
theorem renR_id {r : R} (h : ∀ x ∈ r.cells, renS τ x = x) : renR τ r = r := by
  cases r with
  | s x => simp only [renR]; rw [h x (by simp [R.cells])]
  | agg l => simp only [renR]; rw [map_same (fun x hx => h x (by simpa [R.cells] using hx))]
  | _ => rfl
theorem renSegs_id : ∀ {l : List Seg}, (∀ x ∈ segCells l, renS τ x = x) → l.map (renSeg τ) = l
  | [], _ => rfl
  | g :: l, h => by
    simp only [segCells, List.mem_append] at h
    rw [List.map_cons, renSegs_id (fun x hx => h x (.inr hx))]
    congr 1
    obtain ⟨n, r⟩ := g
    simp only [renSeg]
    rw [renR_id (fun x hx => h x (.inl hx))]
theorem renA_id {a : A} (h : ∀ x ∈ a.cells, renS τ x = x) : renA τ a = a := by
  cases a with
  | s x => simp only [renA]; rw [h x (by simp [A.cells])]
  | agg l => simp only [renA]; rw [map_same (fun x hx => h x (by simpa [A.cells] using hx))]
  | st l => simp only [renA]; rw [renSegs_id (fun x hx => h x (by simpa [A.cells] using hx))]
  | _ => rfl
theorem renS_comp : ∀ x : S, renS τ (renS ρ x) = renS (fun i => τ (ρ i)) x := by
  intro x
  induction x with
  | ifc t x ih => simp only [renS, ih]
  | ifa t x ih => simp only [renS, ih]
  | fn f caps => simp only [renS, List.map_map]; rfl
  | _ => rfl
theorem renR_comp : ∀ x : R, renR τ (renR ρ x) = renR (fun i => τ (ρ i)) x := by
  intro x
  cases x with
  | s x => simp only [renR, renS_comp]
  | agg l => simp only [renR, List.map_map]; congr 1; exact List.map_congr_left (fun x _ => renS_comp x)
  | _ => rfl
theorem renA_comp : ∀ x : A, renA τ (renA ρ x) = renA (fun i => τ (ρ i)) x := by
  intro x
  cases x with
  | s x => simp only [renA, renS_comp]
  | agg l => simp only [renA, List.map_map]; congr 1; exact List.map_congr_left (fun x _ => renS_comp x)
  | st l =>
    simp only [renA, List.map_map]
    congr 1
    refine List.map_congr_left (fun g _ => ?_)
    obtain ⟨n, r⟩ := g
    simp only [Function.comp, renSeg, renR_comp]
  | _ => rfl
theorem renV_comp : ∀ x : SV, renV τ (renV ρ x) = renV (fun i => τ (ρ i)) x := by
  intro x
  cases x with
  | one a => simp only [renV, renA_comp]
  | tup l => simp only [renV, List.map_map]; congr 1; exact List.map_congr_left (fun x _ => renA_comp x)
end
/-- An entry with its ids put otherwise. -/
def renE (ρ : Nat → Nat) (e : Ent) : Ent := { e with c := renA ρ e.c }
section
variable {P : Program} {E : Env} {ℓ ℓ2 : Nat → Option Loc} {m m2 : Mem} {w : World} {τ : Nat → Nat}
/-- The same memory with its entries in other places. -/
theorem MH.perm (h : MH E ℓ m w) (hvia : Via τ ℓ ℓ2) (hent : ∀ (j : Nat) (e2 : Ent), m2[j]? = some (.ent e2) → ∃ i e1, m[i]? = some (.ent e1) ∧ j = τ i ∧ e2 = renE τ e1)
    (hdom : ∀ i, (m2.length ≤ i ∨ m2[i]? = some .hole) → ℓ2 i = none) (hanch : Le E.anc ℓ2) : MH E ℓ2 m2 w := by
  refine ⟨h.os, h.tape, h.output, h.size, h.keep, hanch, hdom, ?_, ?_⟩
  · intro j e2 hj
    obtain ⟨i, e1, hi, rfl, rfl⟩ := hent j e2 hj
    obtain ⟨L, h1, h2, h3⟩ := h.ent i e1 hi
    exact ⟨L, hvia _ _ h1, renE_ok hvia h2, h3⟩
  · intro i j ei ej Li Lj hi hj hLi hLj ho h0 hne hr
    obtain ⟨i1, e1, hi1, rfl, rfl⟩ := hent i ei hi
    obtain ⟨j1, f1, hj1, rfl, rfl⟩ := hent j ej hj
    obtain ⟨L1, g1, _, _⟩ := h.ent i1 e1 hi1
    obtain ⟨L2, g2, _, _⟩ := h.ent j1 f1 hj1
    have a1 := hvia _ _ g1
    have a2 := hvia _ _ g2
    rw [a1] at hLi; cases hLi
    rw [a2] at hLj; cases hLj
    refine h.apart i1 j1 e1 f1 _ _ hi1 hj1 g1 g2 ho h0 (fun he => hne (by rw [he])) ?_
    unfold Real at hr ⊢
    have k2 := (renA_cells τ f1.c).2.1
    simp only [renE] at hr
    rw [k2] at hr
    exact hr
theorem fillL_len : ∀ {es : List Ent} {m : Mem} {nid : Nat}, (fillL m nid es).length = m.length
  | [], m, nid => rfl
  | e :: es, m, nid => by simp [fillL, fillL_len (es := es)]
theorem fillL_get : ∀ {es : List Ent} {m : Mem} {nid : Nat}, nid + es.length ≤ m.length → ∀ j, (fillL m nid es)[j]? = if nid ≤ j ∧ j < nid + es.length then (es[j - nid]?).map .ent else m[j]?
  | [], m, nid, _, j => by simp only [fillL, List.length_nil]; rw [if_neg (by omega)]
  | e :: es, m, nid, h, j => by
    simp only [List.length_cons] at h ⊢
    rw [fillL, fillL_get (by simp; omega)]
    by_cases h1 : nid + 1 ≤ j ∧ j < nid + 1 + es.length
    · rw [if_pos h1, if_pos (by omega), show j - nid = (j - (nid + 1)) + 1 by omega]
      rfl
    · rw [if_neg h1, List.getElem?_set]
      by_cases h2 : nid = j
      · subst h2
        rw [if_pos rfl, if_pos (by omega), if_pos (by omega)]
        simp
      · rw [if_neg h2, if_neg (by omega)]
/-- What a call made lies behind the memory; it may as well lie in holes that were left for it. -/
theorem MH.reloc {w₀ : World} (h0 : MH E ℓ m w₀) {ℓ' : Nat → Option Loc} {w : World} {es : List Ent} (hle : Le ℓ ℓ') (h : MH E ℓ' (m ++ es.map .ent) w) {nid : Nat} (hh : ∀ k, k < es.length → m[nid + k]? = some .hole)
    (τ : Nat → Nat) (hτ : ∀ j, τ j = if j < m.length then j else nid + (j - m.length)) :
    ∃ ℓ2, Le ℓ ℓ2 ∧ Via τ ℓ' ℓ2 ∧ MH E ℓ2 (fillL m nid (es.map (renE τ))) w := by
  have hlen : 0 < es.length → nid + es.length ≤ m.length := fun hp => by
    have := (List.getElem?_eq_some_iff.1 (hh (es.length - 1) (by omega))).1
    omega
  have hnone : ∀ k, k < es.length → ℓ (nid + k) = none := fun k hk => h0.dom _ (.inr (hh k hk))
  have hhole' : ∀ k, k < es.length → ℓ' (nid + k) = none := fun k hk => by
    refine h.dom _ (.inr ?_)
    rw [List.getElem?_append_left (List.getElem?_eq_some_iff.1 (hh k hk)).1]
    exact hh k hk
  have hbig : ∀ j, m.length + es.length ≤ j → ℓ' j = none := fun j hj => h.dom _ (.inl (by simpa using hj))
  have hvia : Via τ ℓ' (fun j => if nid ≤ j ∧ j < nid + es.length then ℓ' (m.length + (j - nid)) else if j < m.length then ℓ' j else none) := by
    intro i L hi
    rw [hτ]
    simp only
    by_cases hlt : i < m.length
    · rw [if_pos hlt]
      by_cases hr : nid ≤ i ∧ i < nid + es.length
      · have := hhole' (i - nid) (by omega)
        rw [show nid + (i - nid) = i by omega, hi] at this
        cases this
      · rw [if_neg hr, if_pos hlt]; exact hi
    · rw [if_neg hlt]
      have hlt2 : i < m.length + es.length := by
        rcases Nat.lt_or_ge i (m.length + es.length) with hx | hx
        · exact hx
        · rw [hbig i hx] at hi; cases hi
      rw [if_pos (by omega), show m.length + (nid + (i - m.length) - nid) = i by omega]
      exact hi
  have hold : ∀ i L, ℓ i = some L → (fun j => if nid ≤ j ∧ j < nid + es.length then ℓ' (m.length + (j - nid)) else if j < m.length then ℓ' j else none) i = some L := by
    intro i L hi
    have hlt : i < m.length := by
      rcases Nat.lt_or_ge i m.length with hx | hx
      · exact hx
      · rw [h0.dom i (.inl hx)] at hi; cases hi
    have := hvia i L (hle i L hi)
    rw [hτ, if_pos hlt] at this
    exact this
  have hself : ∀ i L, ℓ i = some L → τ i = i := by
    intro i L hi
    have hlt : i < m.length := by
      rcases Nat.lt_or_ge i m.length with hx | hx
      · exact hx
      · rw [h0.dom i (.inl hx)] at hi; cases hi
    rw [hτ, if_pos hlt]
  refine ⟨_, hold, hvia, h.perm hvia ?_ ?_ ?_⟩
  · intro j e2 hj
    by_cases hr : nid ≤ j ∧ j < nid + es.length
    · rw [fillL_get (by simpa using hlen (by omega)), List.length_map, if_pos hr, List.getElem?_map, List.getElem?_eq_getElem (by omega)] at hj
      simp only [Option.map_some, Option.some.injEq, Mk.ent.injEq] at hj
      refine ⟨m.length + (j - nid), es[j - nid], ?_, ?_, hj.symm⟩
      · rw [List.getElem?_append_right (by omega), List.getElem?_map, List.getElem?_eq_getElem (by omega)]
        simp
      · rw [hτ, if_neg (by omega)]; omega
    · have hj' : m[j]? = some (.ent e2) := by
        by_cases hz : es.length = 0
        · have : es = [] := List.eq_nil_of_length_eq_zero hz
          subst this
          simpa [fillL] using hj
        · rw [fillL_get (by simpa using hlen (by omega)), List.length_map, if_neg hr] at hj
          exact hj
      have hlt := (List.getElem?_eq_some_iff.1 hj').1
      refine ⟨j, e2, by rw [List.getElem?_append_left hlt]; exact hj', by rw [hτ, if_pos hlt], ?_⟩
      obtain ⟨L, h1, h2, _⟩ := h0.ent j e2 hj'
      obtain ⟨vs, hd, _⟩ := h2.row
      unfold renE
      rw [renA_id (renL_id hself hd)]
  · intro i hi
    rw [fillL_len] at hi
    by_cases hr : nid ≤ i ∧ i < nid + es.length
    · rcases hi with hi | hi
      · have := hlen (by omega); omega
      · rw [fillL_get (by simpa using hlen (by omega)), List.length_map, if_pos hr, List.getElem?_map, List.getElem?_eq_getElem (by omega)] at hi
        cases hi
    · simp only [if_neg hr]
      rcases hi with hi | hi
      · rw [if_neg (by omega)]
      · have hi' : m[i]? = some .hole := by
          by_cases hz : es.length = 0
          · have : es = [] := List.eq_nil_of_length_eq_zero hz
            subst this
            simpa [fillL] using hi
          · rw [fillL_get (by simpa using hlen (by omega)), List.length_map, if_neg hr] at hi
            exact hi
        have hlt := (List.getElem?_eq_some_iff.1 hi').1
        rw [if_pos hlt]
        exact h.dom i (.inr (by rw [List.getElem?_append_left hlt]; exact hi'))
  · intro i L hi
    exact hold i L (h0.anch i L hi)
/-- A contract that reads and hands back new memory, at a place of its own. -/
theorem new_use {f : FuncId} {args : List SV} {pre : Mem} {sv : SV} {es : List Ent} (hS : Spec P f args pre [] (fun r m' => r = sv ∧ m' = pre ++ es.map .ent)) (hro : ∀ x ∈ pre, ∀ e, x = .ent e → e.own = false)
    {ℓ : Nat → Option Loc} {m : Mem} {w : World} (hm : MH E ℓ m w) (σ : List Nat) (hσ : σ.Nodup) (hpre : matchM (ix σ m.length) pre.length m pre σ) (hbel : args.all (belV pre.length) = true) {vs : List Value} (hvs : DenVs ℓ (args.map (renV (ix σ m.length))) vs)
    {nid : Nat} (hh : ∀ k, k < es.length → m[nid + k]? = some .hole) :
    Calls P f vs.toArray w (fun e w' => ∃ v ℓ', e = .returned v ∧ Le ℓ ℓ' ∧ DenV ℓ' (renV (ix σ nid) sv) v ∧ MH E ℓ' (fillL m nid (es.map (renE (ix σ nid)))) w') := by
  obtain ⟨hl, hg⟩ := matchM_get hpre
  refine (hS.use hm σ hσ hpre hbel hvs).mono ?_
  rintro e w' ⟨r, m', ℓ', v, rfl, ⟨rfl, rfl⟩, _, hle, hdv, hm'⟩
  have hput : ∀ (pre : Mem) (σ : List Nat) (x m : Mem) (ρ : Nat → Nat), (∀ y ∈ pre, ∀ e, y = .ent e → e.own = false) → putM ρ m pre σ x = m := by
    intro pre
    induction pre with
    | nil => intro σ x m ρ _; cases σ <;> rfl
    | cons y pre ih =>
      intro σ x m ρ hp
      cases y with
      | ent e =>
        cases σ with
        | nil => rfl
        | cons j σ =>
          cases x with
          | nil => rfl
          | cons z x =>
            simp only [putM]
            rw [if_neg (by rw [hp _ (by simp) e rfl]; simp)]
            exact ih σ x m ρ (fun y hy => hp y (by simp [hy]))
      | _ => cases σ <;> rfl
  have haft : afterM (ix σ m.length) m pre σ (pre ++ es.map .ent) = m ++ (es.map (renE (ix σ m.length))).map .ent := by
    unfold afterM
    rw [hput pre σ _ m _ hro]
    simp only [List.drop_left, List.map_map]
    congr 1
  rw [haft] at hm'
  have hτ : ∀ j, (fun j => if j < m.length then j else nid + (j - m.length)) j = if j < m.length then j else nid + (j - m.length) := fun _ => rfl
  obtain ⟨ℓ2, g1, g2, g3⟩ := MH.reloc hm hle hm' (nid := nid) (by simpa using hh) _ hτ
  have hcomp : (fun i => (fun j => if j < m.length then j else nid + (j - m.length)) (ix σ m.length i)) = ix σ nid := by
    funext i
    show (if ix σ m.length i < m.length then ix σ m.length i else nid + (ix σ m.length i - m.length)) = ix σ nid i
    by_cases hi : i < σ.length
    · have h1 : ix σ m.length i = σ.getD i 0 := by simp [ix, hi]
      have h2 : ix σ nid i = σ.getD i 0 := by simp [ix, hi]
      have hj : σ.getD i 0 < m.length := by
        obtain ⟨e, j, e', _, h2, h3, _⟩ := hg i pre[i] (List.getElem?_eq_getElem (by omega))
        rw [List.getD_eq_getElem?_getD, h2]
        exact (List.getElem?_eq_some_iff.1 h3).1
      rw [h1, h2, if_pos hj]
    · have h1 : ix σ m.length i = m.length + (i - σ.length) := by simp [ix, hi]
      have h2 : ix σ nid i = nid + (i - σ.length) := by simp [ix, hi]
      rw [h1, h2, if_neg (by omega)]
      omega
  refine ⟨v, ℓ2, rfl, g1, ?_, ?_⟩
  · have := renV_den g2 hdv
    rw [renV_comp, hcomp] at this
    exact this
  · rw [List.map_map] at g3
    have : (renE (fun j => if j < m.length then j else nid + (j - m.length))) ∘ renE (ix σ m.length) = renE (ix σ nid) := by
      funext e
      simp only [Function.comp, renE, renA_comp, hcomp]
    rw [this] at g3
    exact g3
end
end Go.V
end
