/- A small verifier of our own, part 4: the other operations that read or make memory. No condition. -/
import Derived.Test.YtlnoehpjchglnaaVc
import Derived.Laws.MakeOwn
import Derived.Laws.BytesString
import Derived.Deep.AppendSrc
set_option linter.unusedSimpArgs false
set_option linter.unusedVariables false
namespace Go.V
open Go

section
variable {P : Program} {E : Env} {ℓ : Nat → Option Loc} {m : Mem} {nid : Nat} {K : SV → Option Ent → Prop} {w : World}

def stUn (op : UnOp) (x : SV) (K : SV → Prop) : Prop :=
  match op, x with
  | .neg, .one (.s (.i a)) => inI (-a) ∧ K (one (.i (-a)))
  | .neg, .one (.s (.u8 a)) => K (one (.u8 (-a)))
  | .neg, .one (.s (.u16 a)) => K (one (.u16 (-a)))
  | .neg, .one (.s (.u32 a)) => K (one (.u32 (-a)))
  | .neg, .one (.s (.u64 a)) => K (one (.u64 (-a)))
  | .xor, .one (.s (.u8 a)) => K (one (.u8 (~~~a)))
  | .xor, .one (.s (.u32 a)) => K (one (.u32 (~~~a)))
  | .xor, .one (.s (.u64 a)) => K (one (.u64 (~~~a)))
  | .not, .one (.s (.b c)) => K (one (.b (!c)))
  | _, _ => False
theorem neg_u {k : IntKind} (hk : k.signed = false) (a : BitVec k.bits) : k.wrap (0 - (a.toNat : Int)) = (-a).toNat := by
  have h := wrap_sub hk (0#k.bits) a
  simp only [BitVec.toNat_ofNat, Nat.zero_mod, Int.natCast_zero, BitVec.zero_sub] at h
  exact h
theorem not_u {k : IntKind} (hk : k.signed = false) (a : BitVec k.bits) : k.wrap ((BitVec.ofInt k.bits (if k.signed then -1 else k.max) ^^^ BitVec.ofInt k.bits a.toNat : BitVec k.bits).toNat : Int) = (~~~a).toNat := by
  have e : BitVec.ofInt k.bits (if k.signed then -1 else k.max) = BitVec.allOnes k.bits := by
    rw [hk]
    simp only [Bool.false_eq_true, if_false, IntKind.max, hk]
    have : ((2 : Int) ^ k.bits - 1) = ((2 ^ k.bits - 1 : Nat) : Int) := by
      rw [Int.natCast_sub (Nat.one_le_two_pow)]; simp
    rw [this, BitVec.ofInt_natCast]
    apply BitVec.eq_of_toNat_eq
    rw [BitVec.toNat_ofNat, BitVec.toNat_allOnes, Nat.mod_eq_of_lt]
    have := Nat.two_pow_pos k.bits; omega
  rw [e, ofInt_toNat, BitVec.allOnes_xor, wrap_toNat hk]
theorem stUn_ok (hm : MH E ℓ m w) {op : UnOp} {x : SV} {v : Value} (hx : DenV ℓ x v) (h : stUn op x (fun r => K r none)) : Comes P E ℓ m nid K (do pure (.value (← Op.unary op v))) w := by
  unfold stUn at h
  split at h
  · obtain ⟨h1, hK⟩ := h
    rename_i a
    simp only [DenV, DenA, DenS] at hx; subst hx
    exact comes_value hm (v := .int .i64 (-a)) (sv := one (.i (-a))) (by simp [Op.unary, Op.intArith]; exact wrap_in h1) rfl hK
  · simp only [DenV, DenA, DenS] at hx; subst hx
    exact comes_value hm (sv := one _) (by simp only [Op.unary, Op.intArith]; rfl) (by simp only [one, DenV, DenA, DenS]; exact congrArg _ (neg_u (k := .u8) rfl _)) h
  · simp only [DenV, DenA, DenS] at hx; subst hx
    exact comes_value hm (sv := one _) (by simp only [Op.unary, Op.intArith]; rfl) (by simp only [one, DenV, DenA, DenS]; exact congrArg _ (neg_u (k := .u16) rfl _)) h
  · simp only [DenV, DenA, DenS] at hx; subst hx
    exact comes_value hm (sv := one _) (by simp only [Op.unary, Op.intArith]; rfl) (by simp only [one, DenV, DenA, DenS]; exact congrArg _ (neg_u (k := .u32) rfl _)) h
  · simp only [DenV, DenA, DenS] at hx; subst hx
    exact comes_value hm (sv := one _) (by simp only [Op.unary, Op.intArith]; rfl) (by simp only [one, DenV, DenA, DenS]; exact congrArg _ (neg_u (k := .u64) rfl _)) h
  · simp only [DenV, DenA, DenS] at hx; subst hx
    exact comes_value hm (sv := one _) (by simp only [Op.unary, Op.intBits]; rfl) (by simp only [one, DenV, DenA, DenS]; exact congrArg _ (not_u (k := .u8) rfl _)) h
  · simp only [DenV, DenA, DenS] at hx; subst hx
    exact comes_value hm (sv := one _) (by simp only [Op.unary, Op.intBits]; rfl) (by simp only [one, DenV, DenA, DenS]; exact congrArg _ (not_u (k := .u32) rfl _)) h
  · simp only [DenV, DenA, DenS] at hx; subst hx
    exact comes_value hm (sv := one _) (by simp only [Op.unary, Op.intBits]; rfl) (by simp only [one, DenV, DenA, DenS]; exact congrArg _ (not_u (k := .u64) rfl _)) h
  · simp only [DenV, DenA, DenS] at hx; subst hx
    rename_i c
    exact comes_value hm (sv := one (.b (!c))) (v := .bool (!c)) (by simp [Op.unary]) rfl h
  · exact h.elim

/-! conversions -/
def cvB (k : IntKind) {n : Nat} (x : BitVec n) (K : SV → Prop) : Prop :=
  match k with
  | .i64 => if n ≤ 32 then K (one (.i x.toNat)) else K (one (.i x.toInt))
  | .u8 => K (one (.u8 (x.setWidth 8)))
  | .u16 => K (one (.u16 (x.setWidth 16)))
  | .u32 => K (one (.u32 (x.setWidth 32)))
  | .u64 => K (one (.u64 (x.setWidth 64)))
  | _ => False
def cvI (k : IntKind) (n : Int) (K : SV → Prop) : Prop :=
  match k with
  | .i64 => inI n ∧ K (one (.i n))
  | .u8 => K (one (.u8 (BitVec.ofInt 8 n)))
  | .u16 => K (one (.u16 (BitVec.ofInt 16 n)))
  | .u32 => K (one (.u32 (BitVec.ofInt 32 n)))
  | .u64 => K (one (.u64 (BitVec.ofInt 64 n)))
  | _ => False
def cvS (k : IntKind) (x : S) (K : SV → Prop) : Prop :=
  match x with
  | .i n => cvI k n K
  | .u8 a => cvB k a K
  | .u16 a => cvB k a K
  | .u32 a => cvB k a K
  | .u64 a => cvB k a K
  | _ => False
def stConv (T : Tab) (m : Mem) (nid : Nat) (src dst : TypeId) (x : SV) (K : SV → Option Ent → Prop) : Prop :=
  match T src, T dst, x with
  | some s, some d, .one (.s x) =>
    match s.kind, d.kind with
    | .int _, .int k => cvS k x (fun r => K r none)
    | .str, .str => match x with
      | .str l => K (one (.str l)) none
      | _ => False
    | .str, .sl e => match x, T e with
      | .str l, some ety => match ety.kind with
        | .int .u8 => ∀ cap, l.length ≤ cap → K (one (.sl nid 0 l.length cap 1)) (some ⟨true, e, none, .a8 l⟩)
        | _ => False
      | _, _ => False
    | .sl e, .str => match x, T e with
      | .sl id off len cap es, some ety => match ety.kind, m[id]? with
        | .int .u8, some (.ent en) => match en.c with
          | .a8 l => (es = 1 ∧ off + len ≤ l.length) ∧ K (one (.str ((l.drop off).take len))) none
          | _ => False
        | _, _ => False
      | .slq id off len es, some ety => match ety.kind, m[id]? with
        | .int .u8, some (.ent en) => match en.c with
          | .a8 l => (es = 1 ∧ off + len ≤ l.length) ∧ K (one (.str ((l.drop off).take len))) none
          | _ => False
        | _, _ => False
      | .snil, some ety => match ety.kind with
        | .int .u8 => K (one (.str [])) none
        | _ => False
      | _, _ => False
    | _, _ => False
  | _, _, _ => False
theorem wrap_setWidth {k : IntKind} (hk : k.signed = false) {n : Nat} (x : BitVec n) : k.wrap x.toNat = (x.setWidth k.bits).toNat := by
  rw [wrap_u hk]
  refine emod_natCast_pow _ _ _ ?_
  rw [BitVec.toNat_setWidth, ← Int.natCast_emod]
theorem wrap_ofInt {k : IntKind} (hk : k.signed = false) (n : Int) : k.wrap n = (BitVec.ofInt k.bits n).toNat := by
  rw [wrap_u hk]
  refine emod_natCast_pow _ _ _ ?_
  rw [BitVec.toNat_ofInt]
  rw [Int.toNat_of_nonneg (Int.emod_nonneg _ (by have := Nat.two_pow_pos k.bits; omega))]
theorem cv_run {src dst : TypeId} {k0 k : IntKind} (hs : P.underlying src = some (.int k0)) (hd : P.underlying dst = some (.int k)) (j : IntKind) (n : Int) : (convert src dst (.int j n)).run P w = .ok (.int k (k.wrap n)) w := by
  simp [convert, run_underlying hs, run_underlying hd, Conv.intToInt]
theorem toInt_wrap (x : BitVec 64) : IntKind.i64.wrap x.toNat = x.toInt := by
  rw [BitVec.toInt_eq_toNat_cond, IntKind.wrap_i64]
  have := x.isLt
  split <;> omega
theorem cvS_ok (hm : MH E ℓ m w) {src dst : TypeId} {k0 k : IntKind} (hs : P.underlying src = some (.int k0)) (hd : P.underlying dst = some (.int k)) {x : S} {v : Value} (hx : DenS ℓ x v) (h : cvS k x (fun r => K r none)) :
    Comes P E ℓ m nid K (do pure (.value (← convert src dst v))) w := by
  have hB : ∀ {j : IntKind} {n : Nat} (x : BitVec n), n ≤ 32 ∨ n = 64 → cvB k x (fun r => K r none) → Comes P E ℓ m nid K (do pure (.value (← convert src dst (.int j x.toNat)))) w := by
    intro j n x hn h
    cases k <;> simp only [cvB] at h <;> (try exact h.elim)
    · rcases hn with hn | rfl
      · rw [if_pos hn] at h
        refine comes_value hm (cv_run hs hd j _) (sv := one _) ?_ h
        simp only [one, DenV, DenA, DenS]
        rw [wrap_in]
        have := x.isLt
        have h2 : (2 : Nat) ^ n ≤ 2 ^ 32 := Nat.pow_le_pow_right (by decide) hn
        unfold inI; omega
      · rw [if_neg (by omega)] at h
        exact comes_value hm (cv_run hs hd j _) (sv := one _) (by simp only [one, DenV, DenA, DenS]; rw [toInt_wrap]) h
    · exact comes_value hm (cv_run hs hd j _) (sv := one _) (by simp only [one, DenV, DenA, DenS]; rw [wrap_setWidth (k := .u8) rfl]; rfl) h
    · exact comes_value hm (cv_run hs hd j _) (sv := one _) (by simp only [one, DenV, DenA, DenS]; rw [wrap_setWidth (k := .u16) rfl]; rfl) h
    · exact comes_value hm (cv_run hs hd j _) (sv := one _) (by simp only [one, DenV, DenA, DenS]; rw [wrap_setWidth (k := .u32) rfl]; rfl) h
    · exact comes_value hm (cv_run hs hd j _) (sv := one _) (by simp only [one, DenV, DenA, DenS]; rw [wrap_setWidth (k := .u64) rfl]; rfl) h
  unfold cvS at h
  split at h
  · rename_i n
    simp only [DenS] at hx; subst hx
    cases k <;> simp only [cvI] at h <;> (try exact h.elim)
    · exact comes_value hm (cv_run hs hd _ _) (sv := one _) (by simp only [one, DenV, DenA, DenS]; rw [wrap_in h.1]) h.2
    · exact comes_value hm (cv_run hs hd _ _) (sv := one _) (by simp only [one, DenV, DenA, DenS]; rw [wrap_ofInt (k := .u8) rfl]; rfl) h
    · exact comes_value hm (cv_run hs hd _ _) (sv := one _) (by simp only [one, DenV, DenA, DenS]; rw [wrap_ofInt (k := .u16) rfl]; rfl) h
    · exact comes_value hm (cv_run hs hd _ _) (sv := one _) (by simp only [one, DenV, DenA, DenS]; rw [wrap_ofInt (k := .u32) rfl]; rfl) h
    · exact comes_value hm (cv_run hs hd _ _) (sv := one _) (by simp only [one, DenV, DenA, DenS]; rw [wrap_ofInt (k := .u64) rfl]; rfl) h
  · simp only [DenS] at hx; subst hx; exact hB _ (by decide) h
  · simp only [DenS] at hx; subst hx; exact hB _ (by decide) h
  · simp only [DenS] at hx; subst hx; exact hB _ (by decide) h
  · simp only [DenS] at hx; subst hx; exact hB _ (by decide) h
  · exact h.elim

/-- A row's bytes, read off its cells. -/
theorem bytes_of_cells : ∀ {l : List (BitVec 8)} {vs : List Value}, DenL ℓ (l.map .u8) vs → vs = (l.map fun b => (b.toNat : Int)).map (Value.int .u8)
  | [], [], _ => rfl
  | b :: l, v :: vs, ⟨h1, h2⟩ => by simp only [DenS] at h1; subst h1; rw [bytes_of_cells h2]; rfl
  | [], _ :: _, h => h.elim
  | _ :: _, [], h => h.elim
theorem push_bytes : ∀ (l : List (BitVec 8)) (s : ByteArray), ((l.map fun b => (b.toNat : Int)).foldl (fun r n => r.push (UInt8.ofNat n.toNat)) s).data.toList.map UInt8.toBitVec = s.data.toList.map UInt8.toBitVec ++ l
  | [], s => by simp
  | b :: l, s => by
    simp only [List.map_cons, List.foldl_cons]
    rw [push_bytes l]
    have : (UInt8.ofNat b.toNat).toBitVec = b := by
      apply BitVec.eq_of_toNat_eq
      simp
    simp [ByteArray.push, this]
theorem bytes_cells (l : List UInt8) : DenL ℓ ((l.map UInt8.toBitVec).map .u8) (l.map fun b => Value.int .u8 b.toNat) := by
  induction l with
  | nil => trivial
  | cons b l ih => exact ⟨rfl, ih⟩

theorem stConv_ok {T : Tab} (hT : TabOK P T) (hm : MH E ℓ m w) (hf : Fresh m nid) {src dst : TypeId} {x : SV} {v : Value} (hx : DenV ℓ x v) (h : stConv T m nid src dst x K) :
    Comes P E ℓ m nid K (do pure (.value (← convert src dst v))) w := by
  unfold stConv at h
  split at h
  · rename_i s d x hs hd
    have hks := (hT src s hs).kind
    have hkd := (hT dst d hd).kind
    split at h
    · rename_i k0 k h1 h2
      rw [h1] at hks; rw [h2] at hkd
      exact cvS_ok hm hks hkd hx h
    · rename_i h1 h2
      rw [h1] at hks; rw [h2] at hkd
      split at h
      · rename_i l
        have hx' := hx
        obtain ⟨s, rfl, _⟩ := hx
        exact comes_value hm (sv := one (.str l)) (v := .string s) (by simp [convert, run_underlying hks, run_underlying hkd]) hx' h
      · exact h.elim
    · rename_i e h1 h2
      rw [h1] at hks; rw [h2] at hkd
      split at h
      · rename_i l ety hety
        have hke := (hT e ety hety).kind
        split at h
        · rename_i h3
          rw [h3] at hke
          simp only [KindOK] at hke hks hkd
          obtain ⟨s, rfl, hs⟩ := hx
          subst hs
          have hsz : (s.data.toList.map UInt8.toBitVec).length = s.size := by simp
          let cap := (Question.appendCap s.size 0 e).cut (w.tape w.drawn (.appendCap s.size 0 e))
          have hcap : s.size ≤ cap := by simp [cap, Question.cut]
          let cs : Array Value := (s.data.map fun b => Value.int .u8 b.toNat) ++ Array.replicate (cap - s.size) (.int .u8 0)
          have hcs : cs.size = cap := by simp [cs]; show s.data.size + (cap - s.size) = cap; have : s.data.size = s.size := rfl; omega
          have hle := hm.le_upd hf ⟨w.heap.size, 0, cs.size⟩
          have hd : DenL (upd ℓ nid ⟨w.heap.size, 0, cs.size⟩) (A.a8 (s.data.toList.map UInt8.toBitVec)).cells (s.data.toList.map fun b => Value.int .u8 b.toNat) := bytes_cells _
          have hal := hm.alloc hf (w' := { w with heap := w.heap.push (.cells cs e (cs.size, cs.size + 1)), drawn := w.drawn + 1 }) (cs := cs) (ty := e) (fr := (cs.size, cs.size + 1)) (fix := none) (a := .a8 (s.data.toList.map UInt8.toBitVec))
            (vs := s.data.toList.map fun b => Value.int .u8 b.toNat) (rest := List.replicate (cap - s.size) (.int .u8 0)) rfl rfl rfl rfl (.inr (Nat.le_refl _)) (by simp) trivial (by simp [cs]) hd
          refine ⟨one (.sl nid 0 (s.data.toList.map UInt8.toBitVec).length cap 1), _, .slice (some ⟨w.heap.size, 0, none⟩) s.size cap, _, _, ?_, h cap (by rw [hsz]; exact hcap), hle, hal, ?_⟩
          · simp only [convert, Sem.run_bind, run_underlying hks, run_underlying hkd, run_underlying hke, Result.andThen_ok, Conv.stringToBytes, run_choose, Question.forced, Bool.false_eq_true, if_false]
            have hsh : ({ w with heap := w.heap.push (.cells cs e (0, 0)), drawn := w.drawn + 1 } : World).shape? w.heap.size = some (e, cs.size) := by simp [World.shape?]
            have hfz : ({ w with heap := w.heap.push (.cells cs e (0, 0)), drawn := w.drawn + 1 } : World).freeze { block := w.heap.size, off := cs.size } 1 = { w with heap := w.heap.push (.cells cs e (cs.size, cs.size + 1)), drawn := w.drawn + 1 } := by
              simp only [World.freeze, Nat.one_ne_zero, if_false]
              congr 1
              apply Array.ext
              · simp
              · intro i h1 h2
                simp only [Array.getElem_modify, Array.getElem_push]
                split
                · rename_i hi; subst hi; simp
                · rename_i hi
                  have : i < w.heap.size := by simp at h2; omega
                  simp [this]
            simp only [newRow, Sem.run_bind, run_newObj, Result.andThen_ok, Sem.run_pure, markStringish, run_shape]
            show ((Sem.run P (match ({ w with heap := w.heap.push (.cells cs e (0, 0)), drawn := w.drawn + 1 } : World).shape? w.heap.size with
              | some (_, n) => freeze { block := w.heap.size, off := n } 1
              | _ => pure ()) ({ w with heap := w.heap.push (.cells cs e (0, 0)), drawn := w.drawn + 1 } : World)).andThen _).andThen _ = _
            rw [hsh]
            simp only [run_freeze, Result.andThen_ok, hfz, Sem.run_pure]
            rfl
          · rw [hsz]
            exact ⟨⟨w.heap.size, 0, cs.size⟩, by simp [upd], hcap, .inr ⟨by show 0 + cap * 1 ≤ cs.size; omega, rfl⟩⟩
        · exact h.elim
      · exact h.elim
    · rename_i e h1 h2
      rw [h1] at hks; rw [h2] at hkd
      split at h
      · rename_i id off len cap es ety hety
        have hke := (hT e ety hety).kind
        split at h
        · rename_i en h3 h4
          rw [h3] at hke
          simp only [KindOK] at hke hks hkd
          split at h
          · rename_i l hl
            obtain ⟨⟨rfl, hle⟩, hK⟩ := h
            obtain ⟨L, hL, hlc, hv⟩ := hx
            rcases hv with ⟨hc0, a, rfl⟩ | ⟨hlim, rfl⟩
            · obtain rfl : len = 0 := by omega
              refine comes_value hm (sv := one (.str _)) (v := .string .empty) ?_ ⟨.empty, rfl, by simp⟩ hK
              rw [run_convert_bytes_string w src dst e a 0 0 hks hke hkd]
              cases a with
              | none => simp [Conv.bytesToString]
              | some a => simpa using run_bytesToString (P := P) w a 0 0 [] (by simp [loadCells, loadCellsFrom])
            · obtain ⟨L', hL', hE, _⟩ := hm.ent id en h4
              obtain rfl := Option.some.inj (hL'.symm.trans hL)
              obtain ⟨vs, hd, hc⟩ := hE.row
              rw [hl] at hd
              have hd2 := (hd.drop off).take len
              have hlen := hd.length
              simp only [A.cells, List.length_map] at hlen
              simp only [A.cells, ← List.map_drop, ← List.map_take] at hd2
              have hvs := bytes_of_cells hd2
              have hrun := run_loadCells_list (P := P) w ⟨L'.blk, L'.base + off, none⟩ ((vs.drop off).take len) (fun j u hu => by
                rw [Addr.add_off, Nat.add_assoc]
                refine hc (off + j) u ?_
                rw [List.getElem?_take] at hu
                split at hu
                · rwa [List.getElem?_drop] at hu
                · cases hu)
              rw [show ((vs.drop off).take len).length = len by simp; omega] at hrun
              rw [hvs] at hrun
              have hb := run_bytesToString (P := P) w _ len cap _ hrun
              exact comes_value hm (sv := one (.str _)) ((run_convert_bytes_string w src dst e _ len cap hks hke hkd).trans hb) ⟨_, rfl, by rw [push_bytes]; simp⟩ hK
          · exact h.elim
        · exact h.elim
      · rename_i id off len es ety hety
        have hke := (hT e ety hety).kind
        split at h
        · rename_i en h3 h4
          rw [h3] at hke
          simp only [KindOK] at hke hks hkd
          split at h
          · rename_i l hl
            obtain ⟨⟨rfl, hle⟩, hK⟩ := h
            obtain ⟨L, hL, cap, hlc, hv⟩ := hx
            rcases hv with ⟨hc0, a, rfl⟩ | ⟨hlim, rfl⟩
            · obtain rfl : len = 0 := by omega
              refine comes_value hm (sv := one (.str _)) (v := .string .empty) ?_ ⟨.empty, rfl, by simp⟩ hK
              rw [run_convert_bytes_string w src dst e a 0 0 hks hke hkd]
              cases a with
              | none => simp [Conv.bytesToString]
              | some a => simpa using run_bytesToString (P := P) w a 0 0 [] (by simp [loadCells, loadCellsFrom])
            · obtain ⟨L', hL', hE, _⟩ := hm.ent id en h4
              obtain rfl := Option.some.inj (hL'.symm.trans hL)
              obtain ⟨vs, hd, hc⟩ := hE.row
              rw [hl] at hd
              have hd2 := (hd.drop off).take len
              have hlen := hd.length
              simp only [A.cells, List.length_map] at hlen
              simp only [A.cells, ← List.map_drop, ← List.map_take] at hd2
              have hvs := bytes_of_cells hd2
              have hrun := run_loadCells_list (P := P) w ⟨L'.blk, L'.base + off, none⟩ ((vs.drop off).take len) (fun j u hu => by
                rw [Addr.add_off, Nat.add_assoc]
                refine hc (off + j) u ?_
                rw [List.getElem?_take] at hu
                split at hu
                · rwa [List.getElem?_drop] at hu
                · cases hu)
              rw [show ((vs.drop off).take len).length = len by simp; omega] at hrun
              rw [hvs] at hrun
              have hb := run_bytesToString (P := P) w _ len cap _ hrun
              exact comes_value hm (sv := one (.str _)) ((run_convert_bytes_string w src dst e _ len cap hks hke hkd).trans hb) ⟨_, rfl, by rw [push_bytes]; simp⟩ hK
          · exact h.elim
        · exact h.elim
      · rename_i ety hety
        have hke := (hT e ety hety).kind
        split at h
        · rename_i h3
          rw [h3] at hke
          simp only [KindOK] at hke hks hkd
          simp only [DenV, DenA, DenS] at hx; subst hx
          refine comes_value hm (sv := one (.str [])) (v := .string .empty) ?_ ⟨.empty, rfl, by simp⟩ h
          rw [run_convert_bytes_string w src dst e none 0 0 hks hke hkd]
          simp [Conv.bytesToString]
        · exact h.elim
      · exact h.elim
    · exact h.elim
  · exact h.elim
end
end Go.V
