/- A small verifier of our own, part 10: copy; all operations together; the machine that runs a body. No condition. -/
import Derived.Test.YtlnoehpjchglnaaVi
set_option linter.unusedSimpArgs false
set_option linter.unusedVariables false
namespace Go.V
open Go

section
variable {P : Program} {E : Env} {ℓ : Nat → Option Loc} {m : Mem} {nid : Nat} {w : World}

/-! copy -/
def stCopy (T : Tab) (m : Mem) (td : TypeId) (dst src : SV) (K : SV → Mem → Prop) : Prop :=
  match T td, dst with
  | some ty, .one (.s (.sl id off len cap es)) => match ty.kind with
    | .sl e => match T e, m[id]? with
      | some ety, some (.ent en) => (ety.size = 1 ∧ es = 1 ∧ en.own = true) ∧ (match src with
        | .one (.s .snil) => K (one (.i 0)) m
        | .one (.s (.sl id2 off2 n2 cap2 es2)) => (match m[id2]? with
          | some (.ent e2) => (es2 = 1 ∧ e2.c.isRow = true ∧ off2 + n2 ≤ e2.bound ∧ off + len ≤ en.bound ∧ (e2.c.sub off2 (min n2 len)).solid = true) ∧
            (match en.c.over off (e2.c.sub off2 (min n2 len)) with
            | some c' => K (one (.i (min n2 len : Nat))) (m.set id (.ent { en with c := c' }))
            | none => False)
          | _ => False)
        | _ => False)
      | _, _ => False
    | _ => False
  | _, _ => False
theorem stCopy_ok {T : Tab} (hT : TabOK P T) (hm : MH E ℓ m w) {td ts ty0 : TypeId} {dst src : SV} {vd vs : Value} {K : SV → Mem → Prop} (hd : DenV ℓ dst vd) (hs : DenV ℓ src vs) (h : stCopy T m td dst src K) :
    ∃ sv m' v w', (Builtin.copy_ #[td, ts] ty0 #[vd, vs]).run P w = .ok v w' ∧ K sv m' ∧ MH E ℓ m' w' ∧ DenV ℓ sv v := by
  unfold stCopy at h
  split at h
  · rename_i ty id off len cap es hty
    have hk := (hT td ty hty).kind
    split at h
    · rename_i e hkk
      rw [hkk] at hk; simp only [KindOK] at hk
      split at h
      · rename_i ety en hety hme
        obtain ⟨⟨hs1, rfl, ho⟩, h⟩ := h
        obtain ⟨i, z, hi1, hi2, _⟩ := (hT e ety hety).parts
        have hmap : (P.info? e).map (·.size) = some 1 := by rw [hi1]; simp [hi2, hs1]
        obtain ⟨L, hL, hE, hmay⟩ := hm.ent id en hme
        obtain ⟨L', hL', hlc, hv⟩ := hd
        obtain rfl := Option.some.inj (hL.symm.trans hL')
        obtain ⟨d, hvd⟩ : ∃ d, vd = .slice d len cap := by
          rcases hv with ⟨rfl, a, rfl⟩ | ⟨_, rfl⟩
          · obtain rfl : len = 0 := by omega
            exact ⟨a, rfl⟩
          · exact ⟨_, rfl⟩
        split at h
        · simp only [DenV, DenA, DenS] at hs; subst hs
          subst hvd
          refine ⟨_, m, goInt 0, w, run_copy_none w td ts ty0 e d none len cap 0 0 hk hmap (by simp), h, hm, rfl⟩
        · rename_i id2 off2 n2 cap2 es2
          split at h
          · rename_i e2 hme2
            obtain ⟨⟨rfl, hrow, hb2, hb, hsol⟩, h⟩ := h
            split at h
            · rename_i c' hc'
              obtain ⟨L2, hL2, hE2, _⟩ := hm.ent id2 e2 hme2
              obtain ⟨L2', hL2', hlc2, hv2⟩ := hs
              obtain rfl := Option.some.inj (hL2.symm.trans hL2')
              obtain ⟨vs2, hd2, hc2⟩ := hE2.row
              have hvl2 := hd2.length
              rw [A.len_cells _ hE2.ok] at hvl2
              rw [hE2.bound] at hb2
              rw [hE.bound] at hb
              have hsub : DenL ℓ (e2.c.sub off2 (min n2 len)).cells ((vs2.drop off2).take (min n2 len)) := by rw [A.sub_cells _ _ _ hrow]; exact (hd2.drop off2).take _
              have hr2 : (e2.c.sub off2 (min n2 len)).isRow = true := by rw [A.sub_row]; exact hrow
              have hone := cells_one hsol hr2 hsub
              have hul : ((vs2.drop off2).take (min n2 len)).length = min n2 len := by simp; omega
              have hrows := A.over_row hc'
              have hok1 := A.row_OK hr2
              have hsl : (e2.c.sub off2 (min n2 len)).len = min n2 len := by rw [← A.len_cells _ hok1, hsub.length, hul]
              have hcl : c'.len = en.c.len := by
                have h1 := congrArg List.length (A.over_cells hc')
                rw [A.len_cells _ (A.row_OK hrows.2.2)] at h1
                simp only [List.length_append, List.length_take, List.length_drop, A.len_cells _ hE.ok, A.len_cells _ hok1, hsl] at h1
                rw [h1]; omega
              have hwc := write_core (P := P) hm hme hL ho hone (p := off) (a := c') (by rw [hul]; omega) (A.row_OK hrows.2.2) hcl (fun us hus => by
                rw [A.over_cells hc', ← A.len_cells _ hok1]
                exact hus.over off hsub)
              have hbase : L.base = 0 := by
                have h2 := hE.2
                rw [if_pos ho] at h2
                exact h2.1
              have hmin : min n2 len = Nat.min n2 len := rfl
              by_cases hz : min n2 len = 0
              · obtain ⟨s2, hvs⟩ : ∃ s, vs = .slice s n2 cap2 := by
                  rcases hv2 with ⟨rfl, a, rfl⟩ | ⟨_, rfl⟩
                  · obtain rfl : n2 = 0 := by omega
                    exact ⟨a, rfl⟩
                  · exact ⟨_, rfl⟩
                subst hvd hvs
                have hnil : (vs2.drop off2).take (min n2 len) = [] := by rw [hz]; simp
                rw [hnil] at hwc
                refine ⟨_, _, goInt 0, w, run_copy_none w td ts ty0 e d s2 len cap n2 cap2 hk hmap hz, h, hwc.2, ?_⟩
                show Value.int .i64 0 = .int .i64 (min n2 len : Nat)
                rw [hz]; rfl
              · rcases hv with ⟨rfl, a, rfl⟩ | ⟨hlim, rfl⟩
                · exfalso; omega
                · rcases hv2 with ⟨rfl, a, rfl⟩ | ⟨hlim2, rfl⟩
                  · exfalso; omega
                  · obtain ⟨vs1, hd1, hc1⟩ := hE.row
                    have hvl1 := hd1.length
                    rw [A.len_cells _ hE.ok] at hvl1
                    have hst := hwc.1
                    have hl := run_loadCells_list (P := P) w ⟨L2.blk, L2.base + off2, none⟩ ((vs2.drop off2).take (min n2 len)) (fun j u hu => by
                      rw [Addr.add_off, Nat.add_assoc]
                      refine hc2 (off2 + j) u ?_
                      rw [List.getElem?_take] at hu
                      split at hu
                      · rwa [List.getElem?_drop] at hu
                      · cases hu)
                    rw [hul] at hl
                    refine ⟨_, _, goInt (min n2 len : Nat), _, ?_, h, hwc.2, rfl⟩
                    have hsz : (sizeOf e).run P w = .ok 1 w := by simp [sizeOf, typeInfo, hi1, hi2, hs1]
                    rw [hmin] at hl hst
                    simp [Builtin.copy_, run_underlying hk, Builtin.lenOf, hsz, Builtin.firstCells, hl, hst]
            · exact h.elim
          · exact h.elim
        · exact h.elim
      · exact h.elim
    · exact h.elim
  · exact h.elim

/-! all operations that write to nothing that was there -/
/-- What an operation does: it puts a value and goes on. -/
def Does (P : Program) (o : Oper) (a : Act) (w : World) (R : Value → World → Prop) : Prop :=
  ∀ (next : Act → World → Prop) (Q : Exit → Act → World → Prop), (∀ v w', R v w' → next (a.put o.dst v) w') → o.wp P a w next Q
theorem does_value {o : Oper} {a : Act} {R : Value → World → Prop} {v : Value} {w' : World} (hr : (execOp a.eval o).run P w = .ok (.value v) w') (h : R v w') : Does P o a w R := by
  intro next Q hn
  unfold Oper.wp
  rw [hr]
  exact hn v w' h

/-- Calls that write to no memory that we know of and hand back what a plain function says (of the arguments, and of what the memory holds). -/
abbrev Pure := Mem → FuncId → List SV → Option SV
structure Ext (w w' : World) : Prop where
  os : w'.os = w.os
  tape : w'.tape = w.tape
  output : w'.output = w.output
  size : w.heap.size ≤ w'.heap.size
  block : ∀ k, k < w.heap.size → w'.heap[k]? = w.heap[k]?
theorem MH.ext (h : MH E ℓ m w) {w' : World} (x : Ext w w') : MH E ℓ m w' :=
  { os := x.os.trans h.os, tape := x.tape.trans h.tape, output := x.output.trans h.output, size := Nat.le_trans h.size x.size
    keep := fun k hk hm => (x.block k (Nat.lt_of_lt_of_le hk h.size)).trans (h.keep k hk hm)
    anch := h.anch
    dom := h.dom
    ent := fun id e hm => let ⟨L, h1, h2, h3⟩ := h.ent id e hm; ⟨L, h1, h2.of_block (fun hr => x.block _ (h2.lt hr)), h3⟩
    apart := h.apart }
/-- A function with a body. -/
def Callable (P : Program) (f : FuncId) : Prop := ∃ fn, P.funcs[f]? = some fn ∧ fn.body ≠ none ∧ fn.name ≠ "runtime.NumGoroutine"
theorem enter_run {f : FuncId} (hc : Callable P f) {a : Act} {args : Array Operand} {ts : Array TypeId} {dst : Option Tmp} {type : TypeId} {pos : String} {after : Array Edge} {guard : Option (Nat × Bool)} :
    (execOp a.eval ⟨dst, .call ⟨.value (.func f), args, ts⟩, type, pos, after, guard⟩).run P w = .ok (.enter f (args.toList.map a.eval).toArray) w := by
  obtain ⟨fn, hfn, hbody, hname⟩ := hc
  have hargs : args.map a.eval = (args.toList.map a.eval).toArray := by apply Array.ext'; simp
  simp only [execOp, resolve, Act.eval, Deferred.ofValue]
  simp [invoke, callFunc, hfn, hname, hbody, ← hargs]
def PureOK (P : Program) (pu : Pure) : Prop := ∀ m f svs sv, pu m f svs = some sv → ∀ (E : Env) (w : World) ℓ vs, MH E ℓ m w → DenVs ℓ svs vs →
  Callable P f ∧ Calls P f vs.toArray w (fun e w' => ∃ v, e = .returned v ∧ DenV ℓ sv v ∧ Ext w w')

def stNil (x : SV) (K : SV → Prop) : Prop :=
  match x with
  | .one (.s (.ptr id b o)) => K x
  | .one (.s (.fn f c)) => K x
  | .one (.s (.ifc t s)) => K x
  | .one (.s (.ifa t s)) => K x
  | _ => False
def stBin (T : Tab) (op : BinOp) (t : TypeId) (x y : SV) (K : SV → Prop) : Prop :=
  match x, y, T t with
  | .one (.s a), .one (.s b), some ty => bin op ty.kind a b (fun r => K (one r))
  | .one a, .one b, _ => stEqA T op t a b K
  | _, _, _ => False
def constS (v : Value) : SV :=
  match v with
  | .int .i64 n => one (.i n)
  | .int .u8 n => if 0 ≤ n ∧ n < 256 then one (.u8 (BitVec.ofInt 8 n)) else one .any
  | .int .u16 n => if 0 ≤ n ∧ n < 65536 then one (.u16 (BitVec.ofInt 16 n)) else one .any
  | .int .u32 n => if 0 ≤ n ∧ n < 4294967296 then one (.u32 (BitVec.ofInt 32 n)) else one .any
  | .int .u64 n => if 0 ≤ n ∧ n < 18446744073709551616 then one (.u64 (BitVec.ofInt 64 n)) else one .any
  | .bool b => one (.b b)
  | .string s => one (.str (s.data.toList.map UInt8.toBitVec))
  | .pointer none => one .nil
  | .slice none 0 0 => one .snil
  | .nilIface => one .inil
  | .nilFunc => one (.raw .nilFunc)
  | _ => one .any
theorem ofInt_den {n : Int} {k : Nat} (h : 0 ≤ n ∧ n < 2 ^ k) : n = (BitVec.ofInt k n).toNat := by
  obtain ⟨j, rfl⟩ := Int.eq_ofNat_of_zero_le h.1
  rw [BitVec.ofInt_natCast, BitVec.toNat_ofNat, Nat.mod_eq_of_lt]
  have := h.2
  exact_mod_cast this
theorem constS_den (ℓ : Nat → Option Loc) (v : Value) : DenV ℓ (constS v) v := by
  unfold constS
  split <;> (try split) <;> (try (first | rfl | trivial | exact ⟨_, rfl, rfl⟩))
  · rename_i h; exact congrArg _ (ofInt_den (k := 8) h)
  · rename_i h; exact congrArg _ (ofInt_den (k := 16) h)
  · rename_i h; exact congrArg _ (ofInt_den (k := 32) h)
  · rename_i h; exact congrArg _ (ofInt_den (k := 64) h)

def est (T : Tab) (pu : Pure) (m : Mem) (nid : Nat) (g : Operand → SV) (o : Oper) (K : SV → Option Ent → Prop) : Prop :=
  match o.op with
  | .move x => K (g x) none
  | .assign x => K (g x) none
  | .pick c a b => (match g c with
    | .one (.s (.b c)) => (c = true → K (g a) none) ∧ (c = false → K (g b) none)
    | _ => False)
  | .alloc t => stAlloc T nid t K
  | .box t x => stBox T nid t (g x) K
  | .build t ps => stBuild T t (ps.toList.map fun p => (p.1, g p.2)) (fun r => K r none)
  | .buildSlice t n ps => stBuildSlice T nid t n (ps.toList.map fun p => (p.1, g p.2)) K
  | .load t x => stLoad T m t (g x) (fun r => K r none)
  | .nilCheck x => stNil (g x) (fun r => K r none)
  | .binOp op t x y _ => stBin T op t (g x) (g y) (fun r => K r none)
  | .unOp op _ x => stUn op (g x) (fun r => K r none)
  | .convert s d x => stConv T m nid s d (g x) K
  | .sliceToArrayPointer t x => stArrPtr T t (g x) (fun r => K r none)
  | .makeInterface t x => stIface T t (g x) (fun r => K r none)
  | .makeFunc fn f c => stFunc fn (f.toList.map g) (c.toList.map g) (fun r => K r none)
  | .makeSlice t l c => stMake T nid t (g l) (g c) K
  | .slice t x lo hi mx => stSlice T m t (g x) (lo.map g) (hi.map g) (mx.map g) (fun r => K r none)
  | .fieldAddr t x f => stField T t (g x) f (fun r => K r none)
  | .field t x f => stFieldV T t (g x) f (fun r => K r none)
  | .indexAddr t x i => stIndexAddr T t (g x) (g i) (fun r => K r none)
  | .index t x i => stIndex T t (g x) (g i) (fun r => K r none)
  | .extract x i => stExtract (g x) i (fun r => K r none)
  | .call c => (match c.callee with
    | .builtin .len => (match c.args.toList, c.argTypes.toList with
      | [x], [t] => stLen T t (g x) (fun r => K r none)
      | _, _ => False)
    | .builtin .min => stMin false (c.args.toList.map g) (fun r => K r none)
    | .builtin .max => stMin true (c.args.toList.map g) (fun r => K r none)
    | .value (.func f) => (match pu m f (c.args.toList.map g) with
      | some v => K v none
      | none => False)
    | _ => False)
  | _ => False

theorem denVs_map {g : Operand → SV} {ρ : Operand → Value} (h : ∀ x, DenV ℓ (g x) (ρ x)) : ∀ (l : List Operand), DenVs ℓ (l.map g) (l.map ρ)
  | [] => trivial
  | x :: l => ⟨h x, denVs_map h l⟩
theorem denP_map {g : Operand → SV} {ρ : Operand → Value} (h : ∀ x, DenV ℓ (g x) (ρ x)) : ∀ (l : List (Nat × Operand)), DenP ℓ (l.map fun p => (p.1, g p.2)) (l.map fun p => (p.1, ρ p.2))
  | [] => trivial
  | p :: l => ⟨rfl, h p.2, denP_map h l⟩
theorem denO_map {g : Operand → SV} {ρ : Operand → Value} (h : ∀ x, DenV ℓ (g x) (ρ x)) : ∀ (o : Option Operand), DenO ℓ (o.map g) (o.map ρ)
  | none => trivial
  | some x => h x
/-- What an operation of this kind comes to, in the abstract. -/
def EDoes (P : Program) (E : Env) (ℓ : Nat → Option Loc) (m : Mem) (nid : Nat) (K : SV → Option Ent → Prop) (o : Oper) (a : Act) (w : World) : Prop :=
  Does P o a w (fun v w' => ∃ sv eo ℓ', K sv eo ∧ Le ℓ ℓ' ∧ MH E ℓ' (addE m nid eo) w' ∧ DenV ℓ' sv v)
theorem edoes {o : Oper} {a : Act} {K : SV → Option Ent → Prop} {s : Sem Next} (he : execOp a.eval o = s) (h : Comes P E ℓ m nid K s w) : EDoes P E ℓ m nid K o a w := by
  obtain ⟨sv, eo, v, w', ℓ', hr, hK, hle, hmh, hd⟩ := h
  exact does_value (by rw [he]; exact hr) ⟨sv, eo, ℓ', hK, hle, hmh, hd⟩
theorem stBin_ok {T : Tab} (hT : TabOK P T) (hm : MH E ℓ m w) {K : SV → Option Ent → Prop} {op : BinOp} {t : TypeId} {x y : SV} {vx vy : Value} {ox oy : Operand} (hx : DenV ℓ x vx) (hy : DenV ℓ y vy) (h : stBin T op t x y (fun r => K r none)) :
    Comes P E ℓ m nid K (do pure (.value (← (do eqGuard op t ox oy vx vy; binOp op t vx vy)))) w := by
  unfold stBin at h
  split at h
  · rename_i a b ty hty
    exact comes1 hm (bin_ok (hT t ty hty) hx hy h) (fun x hx => hx)
  · exact stEqA_ok hT hm hx hy h
  · exact h.elim
theorem est_ok {T : Tab} {pu : Pure} (hT : TabOK P T) (hpu : PureOK P pu) (hm : MH E ℓ m w) (hf : Fresh m nid) {a : Act} {g : Operand → SV} (hg : ∀ x, DenV ℓ (g x) (a.eval x)) {o : Oper} {K : SV → Option Ent → Prop} (h : est T pu m nid g o K) :
    EDoes P E ℓ m nid K o a w := by
  obtain ⟨dst, op, type, pos, after, guard⟩ := o
  unfold est at h
  simp only at h
  cases op <;> simp only at h <;> (try exact h.elim)
  case move x => exact edoes rfl (comes_pure hm rfl (hg x) h)
  case assign x => exact edoes rfl (comes_pure hm rfl (hg x) h)
  case pick c x y =>
    split at h
    · rename_i b hb
      have hc := hg c
      rw [hb] at hc
      have hc' : a.eval c = .bool b := hc
      cases b
      · exact edoes (s := execOp a.eval ⟨dst, .pick c x y, type, pos, after, guard⟩) rfl (comes_pure hm (by simp [execOp, hc', asBool]) (hg y) (h.2 rfl))
      · exact edoes (s := execOp a.eval ⟨dst, .pick c x y, type, pos, after, guard⟩) rfl (comes_pure hm (by simp [execOp, hc', asBool]) (hg x) (h.1 rfl))
    · exact h.elim
  case alloc t => exact edoes rfl (stAlloc_ok hT hm hf h)
  case box t x => exact edoes rfl (stBox_ok hm hf (hg x) h)
  case build t ps =>
    refine edoes (s := do pure (.value (← Instr.build t (ps.toList.map fun p => (p.1, a.eval p.2)).toArray))) ?_ (stBuild_ok hT hm (denP_map hg ps.toList) h)
    simp only [execOp]
    congr 2
    apply Array.ext'; simp
  case buildSlice t n ps =>
    refine edoes (s := do pure (.value (← Instr.buildSlice t n (ps.toList.map fun p => (p.1, a.eval p.2)).toArray))) ?_ (stBuildSlice_ok hT hm hf (denP_map hg ps.toList) h)
    simp only [execOp]
    congr 2
    apply Array.ext'; simp
  case load t x => exact edoes rfl (stLoad_ok hT hm (hg x) h)
  case nilCheck x =>
    have hx := hg x
    unfold stNil at h
    split at h
    · rename_i id b o' heq
      rw [heq] at hx
      obtain ⟨L, hL, hv⟩ := hx
      exact edoes (s := execOp a.eval ⟨dst, .nilCheck x, type, pos, after, guard⟩) rfl (comes_pure hm (v := a.eval x) (sv := g x) (by simp only [execOp]; rw [hv]; rfl) (hg x) (by rw [heq] at h ⊢; exact h))
    · rename_i f c heq
      rw [heq] at hx
      obtain ⟨Ls, hL, hv⟩ := hx
      exact edoes (s := execOp a.eval ⟨dst, .nilCheck x, type, pos, after, guard⟩) rfl (comes_pure hm (v := a.eval x) (sv := g x) (by simp only [execOp]; rw [hv]; rfl) (hg x) (by rw [heq] at h ⊢; exact h))
    · rename_i t s heq
      rw [heq] at hx
      obtain ⟨u, hv, _⟩ := hx
      exact edoes (s := execOp a.eval ⟨dst, .nilCheck x, type, pos, after, guard⟩) rfl (comes_pure hm (v := a.eval x) (sv := g x) (by simp only [execOp]; rw [hv]; rfl) (hg x) (by rw [heq] at h ⊢; exact h))
    · rename_i t s heq
      rw [heq] at hx
      obtain ⟨u, hv, _⟩ := hx
      exact edoes (s := execOp a.eval ⟨dst, .nilCheck x, type, pos, after, guard⟩) rfl (comes_pure hm (v := a.eval x) (sv := g x) (by simp only [execOp]; rw [hv]; rfl) (hg x) (by rw [heq] at h ⊢; exact h))
    · exact h.elim
  case binOp op t x y yt => exact edoes rfl (stBin_ok hT hm (hg x) (hg y) h)
  case unOp op t x => exact edoes rfl (stUn_ok hm (hg x) h)
  case convert s d x => exact edoes rfl (stConv_ok hT hm hf (hg x) h)
  case sliceToArrayPointer t x => exact edoes rfl (stArrPtr_ok hT hm (hg x) h)
  case makeInterface t x => exact edoes rfl (stIface_ok hT hm (hg x) h)
  case makeFunc fn f c =>
    refine edoes (s := do pure (.value (← Instr.makeFunc fn (f.toList.map a.eval).toArray (c.toList.map a.eval).toArray))) ?_ (stFunc_ok hm (denVs_map hg f.toList) (denVs_map hg c.toList) h)
    simp only [execOp]
    congr 2 <;> (apply Array.ext'; simp)
  case makeSlice t l c => exact edoes rfl (stMake_ok hT hm hf (hg l) (hg c) h)
  case slice t x lo hi mx => exact edoes rfl (stSlice_ok hT hm (hg x) (denO_map hg lo) (denO_map hg hi) (denO_map hg mx) h)
  case fieldAddr t x f => exact edoes rfl (stField_ok hT hm (hg x) h)
  case field t x f => exact edoes rfl (stFieldV_ok hT hm (hg x) h)
  case indexAddr t x i => exact edoes rfl (stIndexAddr_ok hT hm (hg x) (hg i) h)
  case index t x i => exact edoes rfl (stIndex_ok hT hm (hg x) (hg i) h)
  case extract x i => exact edoes rfl (stExtract_ok hm (hg x) h)
  case call c =>
    obtain ⟨callee, args, argTypes⟩ := c
    simp only at h
    split at h
    · split at h
      · rename_i x t hx ht
        have hx' : args = #[x] := by apply Array.ext'; simpa using hx
        have ht' : argTypes = #[t] := by apply Array.ext'; simpa using ht
        subst hx' ht'
        exact edoes (s := do pure (.value (← Builtin.len_ #[t] type #[a.eval x]))) (by simp [execOp, resolve, invoke, builtin]) (stLen_ok hT hm (hg x) h)
      · exact h.elim
    · refine edoes (s := do pure (.value (← if false then Builtin.max_ argTypes type (args.toList.map a.eval).toArray else Builtin.min_ argTypes type (args.toList.map a.eval).toArray))) ?_ (stMin_ok hm (denVs_map hg args.toList) h)
      have : args.map a.eval = (args.toList.map a.eval).toArray := by apply Array.ext'; simp
      simp [execOp, resolve, invoke, builtin, this]
    · refine edoes (s := do pure (.value (← if true then Builtin.max_ argTypes type (args.toList.map a.eval).toArray else Builtin.min_ argTypes type (args.toList.map a.eval).toArray))) ?_ (stMin_ok hm (denVs_map hg args.toList) h)
      have : args.map a.eval = (args.toList.map a.eval).toArray := by apply Array.ext'; simp
      simp [execOp, resolve, invoke, builtin, this]
    · rename_i f
      split at h
      · rename_i sv hsv
        obtain ⟨hc, hcall⟩ := hpu m f _ sv hsv E w ℓ _ hm (denVs_map hg args.toList)
        intro next Q hn
        unfold Oper.wp
        rw [enter_run hc]
        simp only [Oper.upon]
        refine hcall.mono ?_
        rintro e w' ⟨v, rfl, hd, hx⟩
        exact hn v w' ⟨sv, none, ℓ, h, Le.refl ℓ, hm.ext hx, hd⟩
      · exact h.elim
    · exact h.elim
end
end Go.V
