/- A small verifier of our own, part 5: slices, literals, made slices, builtins. No condition. -/
import Derived.Test.YtlnoehpjchglnaaVd
import Derived.Laws.Slices
set_option linter.unusedSimpArgs false
set_option linter.unusedVariables false
namespace Go.V
open Go

section
variable {P : Program} {E : Env} {ℓ : Nat → Option Loc} {m : Mem} {nid : Nat} {K : SV → Option Ent → Prop} {w : World}

theorem sv_num {i : SV} {v : Value} {n : Int} (hi : DenV ℓ i v) (hn : i.num = some n) : ∃ k, v = .int k n := by
  unfold SV.num at hn
  split at hn
  · exact num_den hi hn
  · cases hn

/-! slices -/
def optN (o : Option SV) (d : Int) : Option Int :=
  match o with
  | none => some d
  | some v => v.num
def noMax (hi mx : Option SV) : Bool := match hi, mx with | none, some _ => false | _, _ => true
def stSlice (T : Tab) (m : Mem) (t : TypeId) (x : SV) (lo hi mx : Option SV) (K : SV → Prop) : Prop :=
  match T t with
  | none => False
  | some ty =>
    match ty.kind, x with
    | .sl e, .one (.s (.sl id off len cap es)) =>
      match optN lo 0, optN hi len, optN mx cap, T e with
      | some l, some h, some x, some ety => (0 ≤ l ∧ l ≤ h ∧ h ≤ x ∧ x ≤ cap) ∧ (es = ety.size ∧ noMax hi mx = true) ∧ K (one (.sl id (off + l.toNat * es) (h - l).toNat (x - l).toNat es))
      | _, _, _, _ => False
    | .sl e, .one (.s .snil) =>
      match optN lo 0, optN hi 0, optN mx 0, T e with
      | some l, some h, some x, some ety => (0 ≤ l ∧ l ≤ h ∧ h ≤ x ∧ x ≤ 0) ∧ noMax hi mx = true ∧ K (one .snil)
      | _, _, _, _ => False
    | .arr n e, .one (.s (.ptr id base off)) =>
      match optN lo 0, optN hi n, optN mx n, T e, m[id]? with
      | some l, some h, some x, some ety, some (.ent en) =>
        (0 ≤ l ∧ l ≤ h ∧ h ≤ x ∧ x ≤ n) ∧ (en.own = true ∧ base + off + n * ety.size ≤ en.bound ∧ noMax hi mx = true) ∧ K (one (.sl id (base + off + l.toNat * ety.size) (h - l).toNat (x - l).toNat ety.size))
      | _, _, _, _, _ => False
    | .str, .one (.s (.str s)) =>
      match optN lo 0, optN hi s.length, mx with
      | some l, some h, none => (0 ≤ l ∧ l ≤ h ∧ h ≤ s.length) ∧ K (one (.str ((s.drop l.toNat).take (h - l).toNat)))
      | _, _, _ => False
    | _, _ => False

def DenO (ℓ : Nat → Option Loc) : Option SV → Option Value → Prop
  | none, none => True
  | some x, some v => DenV ℓ x v
  | _, _ => False
theorem bounds_run {sl : Bool} {len cap : Nat} {lo hi mx : Option SV} {vlo vhi vmx : Option Value} (hlo : DenO ℓ lo vlo) (hhi : DenO ℓ hi vhi) (hmx : DenO ℓ mx vmx) {l h x : Int}
    (h1 : optN lo 0 = some l) (h2 : optN hi len = some h) (h3 : optN mx cap = some x) (hn : noMax hi mx = true) (hb : 0 ≤ l ∧ l ≤ h ∧ h ≤ x ∧ x ≤ cap) :
    (Instr.sliceBounds sl len cap vlo vhi vmx).run P w = .ok (l.toNat, h.toNat, x.toNat) w := by
  have sb : ∀ (k : IntKind) (i : Int) (y : Nat) (code : BoundsCode), 0 ≤ i → i ≤ y → (Instr.sliceBound (.int k i) y code).run P w = .ok i.toNat w := fun k i y code a b => by
    simp [Instr.sliceBound, asIntOf, a, b]
  have ex : ∀ {o : Option SV} {v : Value} {d n : Int}, DenO ℓ o (some v) → optN o d = some n → ∃ k, v = .int k n := by
    intro o v d n ho hn
    cases o with
    | none => exact ho.elim
    | some s => exact sv_num ho hn
  have e1 : ((x.toNat : Nat) : Int) = x := by omega
  have e2 : ((h.toNat : Nat) : Int) = h := by omega
  unfold Instr.sliceBounds
  cases vmx with
  | none =>
    obtain rfl : x = cap := by cases mx with
      | none => simp [optN] at h3; exact h3.symm
      | some _ => exact hmx.elim
    cases vhi with
    | none =>
      obtain rfl : h = len := by cases hi with
        | none => simp [optN] at h2; exact h2.symm
        | some _ => exact hhi.elim
      cases vlo with
      | none =>
        obtain rfl : l = 0 := by cases lo with
          | none => simp [optN] at h1; exact h1.symm
          | some _ => exact hlo.elim
        simp
      | some v =>
        obtain ⟨k, rfl⟩ := ex hlo h1
        simp [sb k l len .sliceB hb.1 (by omega)]
    | some v =>
      obtain ⟨kh, rfl⟩ := ex hhi h2
      have s1 := sb kh h cap (if sl then BoundsCode.sliceAcap else BoundsCode.sliceAlen) (by omega) (by omega)
      cases vlo with
      | none =>
        obtain rfl : l = 0 := by cases lo with
          | none => simp [optN] at h1; exact h1.symm
          | some _ => exact hlo.elim
        simp [s1]
      | some v =>
        obtain ⟨k, rfl⟩ := ex hlo h1
        simp [s1, sb k l h.toNat .sliceB hb.1 (by omega)]
  | some vm =>
    obtain ⟨km, rfl⟩ := ex hmx h3
    have s0 := sb km x cap (if sl then BoundsCode.slice3Acap else BoundsCode.slice3Alen) (by omega) (by omega)
    cases vhi with
    | none =>
      cases hi with
      | none => cases mx with
        | none => exact hmx.elim
        | some _ => cases hn
      | some _ => exact hhi.elim
    | some v =>
      obtain ⟨kh, rfl⟩ := ex hhi h2
      have s1 := sb kh h x.toNat .slice3B (by omega) (by omega)
      cases vlo with
      | none =>
        obtain rfl : l = 0 := by cases lo with
          | none => simp [optN] at h1; exact h1.symm
          | some _ => exact hlo.elim
        simp [s0, s1]
      | some v =>
        obtain ⟨k, rfl⟩ := ex hlo h1
        simp [s0, s1, sb k l h.toNat .slice3C hb.1 (by omega)]
theorem extract_bits (s : ByteArray) (a b : Nat) (h : b ≤ s.size) : (s.extract a b).data.toList.map UInt8.toBitVec = ((s.data.toList.map UInt8.toBitVec).drop a).take (b - a) := by
  rw [ByteArray.data_extract, Array.toList_extract, List.extract, List.map_take, List.map_drop]
theorem stSlice_ok {T : Tab} (hT : TabOK P T) (hm : MH E ℓ m w) {t : TypeId} {x : SV} {lo hi mx : Option SV} {vx : Value} {vlo vhi vmx : Option Value} (hx : DenV ℓ x vx) (hlo : DenO ℓ lo vlo) (hhi : DenO ℓ hi vhi) (hmx : DenO ℓ mx vmx)
    (h : stSlice T m t x lo hi mx (fun r => K r none)) : Comes P E ℓ m nid K (do pure (.value (← Instr.sliceAt t vx vlo vhi vmx))) w := by
  unfold stSlice at h
  split at h
  · exact h.elim
  · rename_i ty hty
    have hty := hT t ty hty
    have hk := hty.kind
    split at h
    · rename_i e id off len cap es hkk
      rw [hkk] at hk
      simp only [KindOK] at hk
      split at h
      · rename_i l h' x ety h1 h2 h3 h4
        obtain ⟨hb, ⟨hes, hn⟩, hK⟩ := h
        have hsz := (hT e ety h4).size w
        obtain ⟨L, hL, hlc, hv⟩ := hx
        have hbr := fun (c : Nat) (a : Option Addr) => bounds_run (P := P) (w := w) (sl := true) hlo hhi hmx h1 h2 h3 hn hb
        rcases hv with ⟨hc0, a, rfl⟩ | ⟨hlim, rfl⟩
        · subst hc0
          obtain rfl : len = 0 := by omega
          have hbr := bounds_run (P := P) (w := w) (sl := true) hlo hhi hmx h1 h2 h3 hn hb
          obtain ⟨rfl, rfl, rfl⟩ : l = 0 ∧ h' = 0 ∧ x = 0 := by omega
          refine comes_value hm (v := .slice a 0 0) (sv := one (.sl id _ _ _ es)) ?_ ⟨L, hL, by simp, .inl ⟨by simp, a, by simp⟩⟩ hK
          simp [Instr.sliceAt, run_underlying hk, Instr.slice, hbr, hsz]
        · have hbr := bounds_run (P := P) (w := w) (sl := true) hlo hhi hmx h1 h2 h3 hn hb
          by_cases hxl : x = l
          · obtain rfl : h' = l := by omega
            subst hxl
            refine comes_value hm (v := .slice (some ⟨L.blk, L.base + off, none⟩) 0 0) (sv := one (.sl id _ _ _ es)) ?_ ⟨L, hL, by simp, .inl ⟨by simp, some ⟨L.blk, L.base + off, none⟩, by simp⟩⟩ hK
            simp [Instr.sliceAt, run_underlying hk, Instr.slice, hbr, hsz]
          · have hne : ¬ (x.toNat = l.toNat) := by omega
            refine comes_value hm (v := .slice (some ⟨L.blk, L.base + off + l.toNat * es, none⟩) (h' - l).toNat (x - l).toNat) (sv := one (.sl id _ _ _ es)) ?_ ⟨L, hL, by omega, .inr ⟨?_, by rw [Nat.add_assoc]⟩⟩ hK
            · simp [Instr.sliceAt, run_underlying hk, Instr.slice, hbr, hsz, hne, Addr.add_off, hes]
              omega
            · have : l.toNat + (x - l).toNat ≤ cap := by omega
              have := Nat.mul_le_mul_right es this
              rw [Nat.add_mul] at this
              omega
      · exact h.elim
    · rename_i e hkk
      rw [hkk] at hk
      simp only [KindOK] at hk
      split at h
      · rename_i l h' x ety h1 h2 h3 h4
        obtain ⟨hb, hn, hK⟩ := h
        have hsz := (hT e ety h4).size w
        simp only [DenV, DenA, DenS] at hx; subst hx
        have hbr := bounds_run (P := P) (w := w) (sl := true) (len := 0) (cap := 0) hlo hhi hmx h1 h2 h3 hn hb
        obtain ⟨rfl, rfl, rfl⟩ : l = 0 ∧ h' = 0 ∧ x = 0 := by omega
        refine comes_value hm (v := .slice none 0 0) (sv := one .snil) ?_ rfl hK
        simp [Instr.sliceAt, run_underlying hk, Instr.slice, hbr, hsz]
      · exact h.elim
    · rename_i n e id base off hkk
      rw [hkk] at hk
      simp only [KindOK] at hk
      split at h
      · rename_i l h' x ety en h1 h2 h3 h4 h5
        obtain ⟨hb, ⟨ho, hle, hn⟩, hK⟩ := h
        have hsz := (hT e ety h4).size w
        obtain ⟨L, hL, rfl⟩ := hx
        obtain ⟨L', hL', hE, _⟩ := hm.ent id en h5
        obtain rfl := Option.some.inj (hL'.symm.trans hL)
        have hbd := hE.bound
        have hlim : en.c.len ≤ L'.lim := by
          have h6 := hE.2
          rw [if_pos ho] at h6
          exact h6.2.1
        have hbr := bounds_run (P := P) (w := w) (sl := false) hlo hhi hmx h1 h2 h3 hn hb
        by_cases hxl : x = l
        · obtain rfl : h' = l := by omega
          subst hxl
          refine comes_value hm (v := .slice (some ⟨L'.blk, L'.base + (base + off), none⟩) 0 0) (sv := one (.sl id _ _ _ ety.size)) ?_ ⟨L', hL, by simp, .inl ⟨by simp, some ⟨L'.blk, L'.base + (base + off), none⟩, by simp⟩⟩ hK
          simp [Instr.sliceAt, run_underlying hk, Instr.sureAddr, hbr, hsz]
        · have hne : ¬ (x.toNat = l.toNat) := by omega
          refine comes_value hm (v := .slice (some ⟨L'.blk, L'.base + (base + off) + l.toNat * ety.size, none⟩) (h' - l).toNat (x - l).toNat) (sv := one (.sl id _ _ _ ety.size)) ?_ ⟨L', hL, by omega, .inr ⟨?_, by simp only [Nat.add_assoc]⟩⟩ hK
          · simp [Instr.sliceAt, run_underlying hk, Instr.sureAddr, hbr, hsz, hne, Addr.add_off]
            omega
          · have : l.toNat + (x - l).toNat ≤ n := by omega
            have := Nat.mul_le_mul_right ety.size this
            rw [Nat.add_mul] at this
            omega
      · exact h.elim
    · rename_i s hkk
      rw [hkk] at hk
      simp only [KindOK] at hk
      split at h
      · rename_i l h' h1 h2
        obtain ⟨hb, hK⟩ := h
        obtain ⟨b, rfl, hs⟩ := hx
        have hsz : s.length = b.size := by rw [← hs]; simp
        obtain rfl : vmx = none := by cases vmx with
          | none => rfl
          | some _ => exact hmx.elim
        have hbr := bounds_run (P := P) (w := w) (sl := false) (len := b.size) (cap := b.size) (mx := none) (vmx := none) (x := b.size) hlo hhi trivial h1 (by rw [← hsz]; exact h2) rfl (by cases hi <;> rfl) (by omega)
        refine comes_value hm (v := .string (b.extract l.toNat h'.toNat)) (sv := one (.str _)) ?_ ⟨_, rfl, ?_⟩ hK
        · simp [Instr.sliceAt, run_underlying hk, Instr.slice, hbr]
        · rw [extract_bits _ _ _ (by omega), hs]
          congr 1
          omega
      · exact h.elim
    · exact h.elim
def stArrPtr (T : Tab) (t : TypeId) (x : SV) (K : SV → Prop) : Prop :=
  match T t, x with
  | some ty, .one (.s (.sl id off len cap es)) => match ty.kind with
    | .arr n e => (0 < n ∧ n ≤ len) ∧ K (one (.ptr id 0 off))
    | _ => False
  | _, _ => False
theorem stArrPtr_ok {T : Tab} (hT : TabOK P T) (hm : MH E ℓ m w) {t : TypeId} {x : SV} {v : Value} (hx : DenV ℓ x v) (h : stArrPtr T t x (fun r => K r none)) :
    Comes P E ℓ m nid K (do pure (.value (← Instr.arrayAt t v))) w := by
  unfold stArrPtr at h
  split at h
  · rename_i ty id off len cap es hty
    have hk := (hT t ty hty).kind
    split at h
    · rename_i n e hkk
      rw [hkk] at hk
      simp only [KindOK] at hk
      obtain ⟨hb, hK⟩ := h
      obtain ⟨L, hL, hlc, hv⟩ := hx
      rcases hv with ⟨hc0, a, rfl⟩ | ⟨hlim, rfl⟩
      · omega
      · refine comes_value hm (v := .pointer (some ⟨L.blk, L.base + off, none⟩)) (sv := one (.ptr id 0 off)) ?_ ⟨L, hL, by rw [Nat.zero_add]⟩ hK
        have hn : ¬ len < n := by omega
        simp [Instr.arrayAt, run_underlying hk, hn]
    · exact h.elim
  · exact h.elim

/-! tuples -/
def stExtract (x : SV) (i : Nat) (K : SV → Prop) : Prop :=
  match x with
  | .tup l => match l[i]? with
    | some a => K (.one a)
    | none => False
  | _ => False
theorem DenT.get : ∀ {l : List A} {vs : List Value} {i : Nat} {a : A}, DenT ℓ l vs → l[i]? = some a → ∃ v, vs[i]? = some v ∧ DenA ℓ a v
  | [], [], i, a, _, h => by simp at h
  | b :: l, v :: vs, 0, a, ⟨h1, _⟩, h => by simp at h; subst h; exact ⟨v, rfl, h1⟩
  | b :: l, v :: vs, i + 1, a, ⟨_, h2⟩, h => by simpa using DenT.get h2 (by simpa using h)
theorem stExtract_ok (hm : MH E ℓ m w) {x : SV} {i : Nat} {v : Value} (hx : DenV ℓ x v) (h : stExtract x i (fun r => K r none)) :
    Comes P E ℓ m nid K (do pure (.value (← Instr.extract v i))) w := by
  unfold stExtract at h
  split at h
  · split at h
    · rename_i a ha
      obtain ⟨vs, rfl, hd⟩ := hx
      obtain ⟨u, hu, hdu⟩ := hd.get ha
      exact comes_value hm (v := u) (sv := .one a) (by simp [Instr.extract, hu]) hdu h
    · exact h.elim
  · exact h.elim

/-! interface and function values -/
def stIface (T : Tab) (t : TypeId) (x : SV) (K : SV → Prop) : Prop :=
  match T t, x with
  | some ty, .one (.s s) => (match ty.kind with | .iface => False | .other => False | _ => True) ∧ K (one (.ifc t s))
  | some ty, .one (.st [⟨1, .s s⟩]) => (match ty.kind with | .iface => False | .other => False | _ => True) ∧ K (one (.ifa t s))
  | _, _ => False
theorem stIface_ok {T : Tab} (hT : TabOK P T) (hm : MH E ℓ m w) {t : TypeId} {x : SV} {v : Value} (hx : DenV ℓ x v) (h : stIface T t x (fun r => K r none)) :
    Comes P E ℓ m nid K (do pure (.value (← Instr.makeInterface t v))) w := by
  have run : ∀ {ty : Ty}, T t = some ty → (match ty.kind with | .iface => False | .other => False | _ => True) → (Instr.makeInterface t v).run P w = .ok (.iface t v) w := by
    intro ty hty hk
    have hkk := (hT t ty hty).kind
    cases hq : ty.kind <;> rw [hq] at hkk hk <;> simp only [KindOK] at hkk <;> (try exact hk.elim)
    case struct fs => obtain ⟨f, hf, _⟩ := hkk; simp [Instr.makeInterface, run_underlying hf]
    case func => obtain ⟨a, b, c, hf⟩ := hkk; simp [Instr.makeInterface, run_underlying hf]
    all_goals simp [Instr.makeInterface, run_underlying hkk]
  unfold stIface at h
  split at h
  · rename_i ty s hty
    exact comes_value hm (run hty h.1) (sv := one (.ifc t s)) ⟨v, rfl, hx⟩ h.2
  · rename_i ty s hty
    obtain ⟨_, vs, rfl, hd⟩ := hx
    cases vs with
    | nil => exact hd.elim
    | cons u us => cases us with
      | nil => exact comes_value hm (run hty h.1) (sv := one (.ifa t s)) ⟨u, rfl, hd.1⟩ h.2
      | cons => exact hd.2.elim
  · exact h.elim
def ptrIds : List SV → Option (List Nat)
  | [] => some []
  | .one (.s (.ptr id 0 0)) :: l => (ptrIds l).map (id :: ·)
  | _ :: _ => none
def stFunc (fn : Fn) (first captured : List SV) (K : SV → Prop) : Prop :=
  match fn, first, ptrIds captured with
  | .func f, [], some ids => K (one (.fn f ids))
  | _, _, _ => False
def DenVs (ℓ : Nat → Option Loc) : List SV → List Value → Prop
  | [], [] => True
  | x :: xs, v :: vs => DenV ℓ x v ∧ DenVs ℓ xs vs
  | _, _ => False
theorem ptrIds_den {l : List SV} : ∀ {vs : List Value} {ids : List Nat}, DenVs ℓ l vs → ptrIds l = some ids → ∃ Ls : List Loc, Ls.map some = ids.map ℓ ∧ vs = Ls.map (fun L => Value.pointer (some ⟨L.blk, L.base, none⟩)) := by
  induction l with
  | nil => intro vs ids hd h; cases vs with
    | nil => simp [ptrIds] at h; subst h; exact ⟨[], rfl, rfl⟩
    | cons => exact hd.elim
  | cons x l ih => intro vs ids hd h; cases vs with
    | nil => exact hd.elim
    | cons v vs =>
      obtain ⟨h1, h2⟩ := hd
      unfold ptrIds at h
      split at h
      · rename_i heq; cases heq
      · rename_i id l' heq
        cases heq
        simp only [Option.map_eq_some_iff] at h
        obtain ⟨ids', h3, rfl⟩ := h
        obtain ⟨L, hL, rfl⟩ := h1
        obtain ⟨Ls, h4, rfl⟩ := ih h2 h3
        exact ⟨L :: Ls, by simp [h4, hL], by simp⟩
      · cases h
theorem stFunc_ok (hm : MH E ℓ m w) {fn : Fn} {first captured : List SV} {vf vc : List Value} (hf : DenVs ℓ first vf) (hc : DenVs ℓ captured vc) (h : stFunc fn first captured (fun r => K r none)) :
    Comes P E ℓ m nid K (do pure (.value (← Instr.makeFunc fn vf.toArray vc.toArray))) w := by
  unfold stFunc at h
  split at h
  · rename_i f ids hids
    cases vf with
    | cons => exact hf.elim
    | nil =>
      obtain ⟨Ls, h1, rfl⟩ := ptrIds_den hc hids
      exact comes_value hm (v := .func (.func f) #[] _) (sv := one (.fn f ids)) rfl ⟨Ls, h1, rfl⟩ h
  · exact h.elim

/-! builtins that only compute -/
def stLen (T : Tab) (t : TypeId) (x : SV) (K : SV → Prop) : Prop :=
  match T t with
  | some ty => match ty.kind, x with
    | .arr n _, _ => K (one (.i n))
    | .sl _, .one (.s (.sl _ _ len _ _)) => K (one (.i len))
    | .sl _, .one (.s (.slq _ _ len _)) => K (one (.i len))
    | .sl _, .one (.s .snil) => K (one (.i 0))
    | .str, .one (.s (.str l)) => K (one (.i l.length))
    | _, _ => False
  | none => False
theorem stLen_ok {T : Tab} (hT : TabOK P T) (hm : MH E ℓ m w) {t ty0 : TypeId} {x : SV} {v : Value} (hx : DenV ℓ x v) (h : stLen T t x (fun r => K r none)) :
    Comes P E ℓ m nid K (do pure (.value (← Builtin.len_ #[t] ty0 #[v]))) w := by
  unfold stLen at h
  split at h
  · rename_i ty hty
    have hk := (hT t ty hty).kind
    split at h
    · rename_i n e hkk
      rw [hkk] at hk; simp only [KindOK] at hk
      exact comes_value hm (v := goInt n) (sv := one (.i n)) (by simp [Builtin.len_, run_underlying hk]) rfl h
    · rename_i e id off len cap es hkk
      rw [hkk] at hk; simp only [KindOK] at hk
      obtain ⟨L, hL, hlc, hv⟩ := hx
      rcases hv with ⟨hc0, a, rfl⟩ | ⟨_, rfl⟩
      · obtain rfl : len = 0 := by omega
        exact comes_value hm (v := goInt (0 : Nat)) (sv := one (.i (0 : Nat))) (by simp [Builtin.len_, run_underlying hk]) rfl h
      · exact comes_value hm (v := goInt len) (sv := one (.i len)) (by simp [Builtin.len_, run_underlying hk]) rfl h
    · rename_i e id off len es hkk
      rw [hkk] at hk; simp only [KindOK] at hk
      obtain ⟨L, hL, cap, hlc, hv⟩ := hx
      rcases hv with ⟨hc0, a, rfl⟩ | ⟨_, rfl⟩
      · obtain rfl : len = 0 := by omega
        exact comes_value hm (v := goInt (0 : Nat)) (sv := one (.i (0 : Nat))) (by simp [Builtin.len_, run_underlying hk]) rfl h
      · exact comes_value hm (v := goInt len) (sv := one (.i len)) (by simp [Builtin.len_, run_underlying hk]) rfl h
    · rename_i e hkk
      rw [hkk] at hk; simp only [KindOK] at hk
      simp only [DenV, DenA, DenS] at hx; subst hx
      exact comes_value hm (v := goInt (0 : Nat)) (sv := one (.i 0)) (by simp [Builtin.len_, run_underlying hk]) rfl h
    · rename_i l hkk
      rw [hkk] at hk; simp only [KindOK] at hk
      obtain ⟨s, rfl, hs⟩ := hx
      have : l.length = s.size := by rw [← hs]; simp
      exact comes_value hm (v := goInt s.size) (sv := one (.i l.length)) (by simp [Builtin.len_, run_underlying hk]) (by rw [this]; rfl) h
    · exact h.elim
  · exact h.elim
/-- min, max of ints. -/
def stMin (mx : Bool) (l : List SV) (K : SV → Prop) : Prop :=
  match l with
  | [.one (.s (.i a)), .one (.s (.i b))] => (match mx with | true => K (one (.i (if b > a then b else a))) | false => K (one (.i (if b < a then b else a))))
  | [.one (.s (.i a)), .one (.s (.i b)), .one (.s (.i c))] => match mx with
    | false => K (one (.i (if c < (if b < a then b else a) then c else (if b < a then b else a))))
    | true => False
  | _ => False
theorem stMin_ok (hm : MH E ℓ m w) {ts : Array TypeId} {t : TypeId} {l : List SV} {vs : List Value} (hx : DenVs ℓ l vs) {mx : Bool} (h : stMin mx l (fun r => K r none)) :
    Comes P E ℓ m nid K (do pure (.value (← if mx then Builtin.max_ ts t vs.toArray else Builtin.min_ ts t vs.toArray))) w := by
  unfold stMin at h
  split at h
  · rename_i a b
    match vs, hx with
    | [u, v], ⟨h1, h2, _⟩ =>
      simp only [DenV, DenA, DenS] at h1 h2; subst h1 h2
      cases mx
      · exact comes_value hm (v := .int .i64 (if b < a then b else a)) (sv := one (.i (if b < a then b else a))) (by simp [Builtin.min_, Builtin.min2]) rfl h
      · exact comes_value hm (v := .int .i64 (if b > a then b else a)) (sv := one (.i (if b > a then b else a))) (by simp [Builtin.max_, Builtin.max2]) rfl h
  · rename_i a b c
    match vs, hx with
    | [u, v, x], ⟨h1, h2, h3, _⟩ =>
      simp only [DenV, DenA, DenS] at h1 h2 h3; subst h1 h2 h3
      cases mx
      · exact comes_value hm (v := .int .i64 (if c < (if b < a then b else a) then c else (if b < a then b else a))) (sv := one (.i (if c < (if b < a then b else a) then c else (if b < a then b else a)))) (by simp [Builtin.min_, Builtin.min2]) rfl h
      · exact h.elim
  · exact h.elim
end
end Go.V
