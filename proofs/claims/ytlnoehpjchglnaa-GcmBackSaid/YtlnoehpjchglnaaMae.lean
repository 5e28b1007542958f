/- Texts of the walks, put together: Yb Bj. No condition. -/
import Derived.Test.YtlnoehpjchglnaaMad
section
set_option linter.unusedSimpArgs false
set_option linter.unusedVariables false
set_option maxRecDepth 10000
namespace Go.V
open Go Go.Proofs.Try
/-- What ref05.New makes: the key's block and the words. -/
def rnewQ (key : B8) (nk b : Nat) : List Ent := [⟨true, 110, some 258, .st [⟨1, .s (.slq (b + 1) 0 (4 * (nk + 7)) 4)⟩, ⟨256, .ai (tabR 256)⟩, ⟨1, .s (.i nk)⟩]⟩, ⟨true, 111, none, .ai (rsch key (tabR 256) nk (4 * (nk + 7)))⟩]
theorem spec22Q (key : B8) (nk cap0 : Nat) (hk : 4 * nk ≤ key.length) (hnk : nk = 4 ∨ nk = 8) (hcap0 : 4 * nk ≤ cap0) : Spec prog 22 [one (.sl 0 0 (4 * nk) cap0 1)] [.ent ⟨false, 5, none, .a8 key⟩] [] (fun r m => r = one (.ptr 1 0 0) ∧ m = [.ent ⟨false, 5, none, .a8 key⟩] ++ (rnewQ key nk 1).map .ent) := by
  intro w ℓ vs hd hm
  refine (spec22L key nk cap0 hk hnk hcap0 w ℓ vs hd hm).mono ?_
  rintro e w' ⟨sv, m', ℓ', v, rfl, ⟨rfl, cap, rfl⟩, h3, h4, h5, h6⟩
  refine ⟨_, _, ℓ', v, rfl, ⟨rfl, rfl⟩, by simp, rfl, h5, ?_⟩
  have := h6.again (i0 := 1) (c := .st [⟨1, .s (.slq 2 0 (4 * (nk + 7)) 4)⟩, ⟨256, .ai (tabR 256)⟩, ⟨1, .s (.i nk)⟩]) rfl rfl ⟨rfl, tabR_len 256, rfl, trivial⟩ (fun us hus => by
    cases us with
    | nil => exact hus.elim
    | cons u r =>
      obtain ⟨⟨L, g1, g2⟩, g3⟩ := hus
      exact ⟨⟨L, g1, cap, g2⟩, g3⟩)
  exact this
def nuA : New := fun m f l nid => match f, l with
  | 22, [.one (.s (.sl id 0 len cap 1))] => match m[id]? with
    | some (.ent e) => match e.c with
      | .a8 key => if len = 16 ∧ 16 ≤ key.length ∧ 16 ≤ cap then some (one (.ptr nid 0 0), rnewQ key 4 nid) else if len = 32 ∧ 32 ≤ key.length ∧ 32 ≤ cap then some (one (.ptr nid 0 0), rnewQ key 8 nid) else none
      | _ => none
    | _ => none
  | _, _ => none
theorem nuA_sub : NewSub nuA := by
  intro m m' f l nid r hs h
  unfold nuA at h ⊢
  split at h
  · split at h
    · rename_i hm
      simp only [hs _ _ hm]
      exact h
    · cases h
  · cases h
theorem nuA_use {E : Env} {w : World} {ℓ : Nat → Option Loc} {m : Mem} {vs : List Value} (hm : MH E ℓ m w) {id nk cap nid : Nat} {key : B8} {e : Ent} (he : m[id]? = some (.ent e)) (hc : e.c = .a8 key) (hk : 4 * nk ≤ key.length) (hnk : nk = 4 ∨ nk = 8) (hcap : 4 * nk ≤ cap) (hd : DenVs ℓ [.one (.s (.sl id 0 (4 * nk) cap 1))] vs) (hh : ∀ k, k < 2 → m[nid + k]? = some .hole) :
    Calls prog 22 vs.toArray w (fun e w' => ∃ v ℓ', e = .returned v ∧ Le ℓ ℓ' ∧ DenV ℓ' (one (.ptr nid 0 0)) v ∧ MH E ℓ' (fillL m nid (rnewQ key nk nid)) w') := by
  have h := new_use (spec22Q key nk cap hk hnk hcap) (by simp) hm [id] (by simp) (by simp [matchM, ix, renA, belA, he, hc]) rfl (by simpa [renV, renA, renS, ix, one] using hd) (nid := nid) (by simpa [rnewQ] using hh)
  refine h.mono ?_
  rintro e w' ⟨v, ℓ', g1, g2, g3, g4⟩
  refine ⟨v, ℓ', g1, g2, ?_, ?_⟩
  · simpa [renV, renA, renS, ix, one] using g3
  · have : (rnewQ key nk 1).map (renE (ix [id] nid)) = rnewQ key nk nid := by simp [rnewQ, renE, renA, renSeg, renR, renS, ix]
    rw [this] at g4
    exact g4
theorem nuA_ok : NewOK prog nuA := by
  intro m f svs nid sv es h E w ℓ vs hm hh hd
  unfold nuA at h
  split at h
  · split at h
    · rename_i e he
      split at h
      · rename_i key hc
        split at h
        · rename_i hcond
          obtain ⟨rfl, h1, h2⟩ := hcond
          cases h
          exact ⟨⟨f22, func22, nofun, by decide⟩, nuA_use hm he hc h1 (.inl rfl) h2 hd hh⟩
        · split at h
          · rename_i hcond
            obtain ⟨rfl, h1, h2⟩ := hcond
            cases h
            exact ⟨⟨f22, func22, nofun, by decide⟩, nuA_use hm he hc h1 (.inr rfl) h2 hd hh⟩
          · cases h
      · cases h
    · cases h
  · cases h

/-! Block of the document over a key whose slice's room is not known -/
def rkmemQ (nw : Nat) (N : Int) (sb W : LI) : Mem := [.ent ⟨false, 110, some 258, .st [⟨1, .s (.slq 1 0 nw 4)⟩, ⟨256, .ai sb⟩, ⟨1, .s (.i N)⟩]⟩, .ent ⟨false, 111, none, .ai W⟩]
theorem spec24Q (b : B8) (sb W : LI) (nw n : Nat) (hb : b.length = 16) (hW : 4 * nw ≤ W.length) (hN : nw = 4 * (n + 7)) (hn : n < 100) (hsb : sb.length = 256) (hWb : Byt W) (hsbb : Byt sb) : Spec prog 24 [one (.ptr 0 0 0), .one (.a8 b)] (rkmemQ nw n sb W) [] (fun r _ => r = .one (.a8 (outB (rRounds sb W n (iniS b W 16) (n + 6)) 16))) := by
  intro w ℓ vs hd hm
  have hm0 := hm (fun _ => none) (fun _ _ h => by cases h)
  obtain ⟨L0, a1, a2, _⟩ := hm0.ent 0 _ rfl
  obtain ⟨L1, b1, b2, _⟩ := hm0.ent 1 _ rfl
  obtain ⟨a3, a4⟩ := a2
  rw [if_neg (by simp)] at a4
  obtain ⟨us, hus, hcell⟩ := a4
  obtain ⟨cap, hus'⟩ : ∃ cap, DenL ℓ (A.st [⟨1, .s (.sl 1 0 nw cap 4)⟩, ⟨256, .ai sb⟩, ⟨1, .s (.i (n : Int))⟩]).cells us := by
    cases us with
    | nil => exact hus.elim
    | cons u r =>
      obtain ⟨⟨L, g1, cap, g2⟩, g3⟩ := hus
      exact ⟨cap, ⟨⟨L, g1, g2⟩, g3⟩⟩
  have rok : ROK (rkmem nw cap n sb W) ℓ w := by
    refine ⟨?_, fun i hi => hm0.dom i (.inl hi)⟩
    intro id x hx
    match id with
    | 0 =>
      simp [rkmem] at hx
      refine ⟨_, L0, hx.symm, rfl, a1, ⟨⟨by intro k hk; exact a3.1 k hk, ⟨rfl, hsb, rfl, trivial⟩⟩, ?_⟩⟩
      rw [if_neg (by simp)]
      exact ⟨us, hus', hcell⟩
    | 1 =>
      simp [rkmem] at hx
      exact ⟨_, L1, hx.symm, rfl, b1, b2⟩
    | k + 2 => simp [rkmem] at hx
  refine (spec24 b sb W nw cap n hb hW hN hn hsb hWb hsbb w ℓ vs hd (mh_ro rok)).mono ?_
  rintro e w' ⟨sv, m', ℓ', v, h1, h2, h3, h4, h5, h6⟩
  refine ⟨sv, m', ℓ', v, h1, h2, h3, h4, h5, ?_⟩
  have e1 : ownBlk (rkmem nw cap n sb W) ℓ = ownBlk (rkmemQ nw n sb W) ℓ := by
    funext k
    apply propext
    constructor
    · intro hx; exact (no_own (by simp [rkmem]) hx).elim
    · intro hx; exact (no_own (by simp [rkmemQ]) hx).elim
  rw [e1] at h6
  exact h6
def slOf : S → Option (Nat × Nat)
  | .sl j 0 nw _ 4 => some (j, nw)
  | .slq j 0 nw 4 => some (j, nw)
  | _ => none
/-- A key's block of the document, whatever its slice's room. -/
def rOf2 (m : Mem) (id : Nat) : Option (Nat × Nat × Int × LI × LI) :=
  match m[id]? with
  | some (.ent e) => match e.c with
    | .st [⟨1, .s x⟩, ⟨256, .ai sb⟩, ⟨1, .s (.i N)⟩] => match slOf x with
      | some (j, nw) => match m[j]? with
        | some (.ent e2) => match e2.c with
          | .ai W => some (j, nw, N, sb, W)
          | _ => none
        | _ => none
      | _ => none
    | _ => none
  | _ => none
theorem rOf2_get {m : Mem} {id j nw : Nat} {N : Int} {sb W : LI} (h : rOf2 m id = some (j, nw, N, sb, W)) : ∃ (e e2 : Ent) (x : S), m[id]? = some (.ent e) ∧ e.c = .st [⟨1, .s x⟩, ⟨256, .ai sb⟩, ⟨1, .s (.i N)⟩] ∧ slOf x = some (j, nw) ∧ m[j]? = some (.ent e2) ∧ e2.c = .ai W := by
  unfold rOf2 at h
  split at h
  · split at h
    · split at h
      · split at h
        · split at h
          · cases h
            exact ⟨_, _, _, by assumption, by assumption, by assumption, by assumption, by assumption⟩
          · cases h
        · cases h
      · cases h
    · cases h
  · cases h
theorem rOf2_sub {m m' : Mem} {id : Nat} {v : Nat × Nat × Int × LI × LI} (hs : Sub m m') (h : rOf2 m id = some v) : rOf2 m' id = some v := by
  obtain ⟨j, nw, N, sb, W⟩ := v
  obtain ⟨e, e2, x, h1, h2, h3, h4, h5⟩ := rOf2_get h
  unfold rOf2
  simp only [hs _ _ h1, h2, h3, hs _ _ h4, h5]
theorem kOf_sub {m m' : Mem} {id : Nat} {v : Nat × Nat × Nat × B8} (hs : Sub m m') (h : kOf m id = some v) : kOf m' id = some v := by
  obtain ⟨j, nr, cap, W⟩ := v
  obtain ⟨e, e2, h1, h2, h3, h4⟩ := kOf_get h
  unfold kOf
  simp only [hs _ _ h1, h2, hs _ _ h3, h4]
open Classical in
/-- What Block answers, over keys in memory; the law's own test is passed. -/
noncomputable def pureL : Pure := fun m f l =>
  match f, l with
  | 20, [] => some (one (.b true))
  | 23, [.one (.s .nil), .one (.a8 b)] => if b.length = 16 then some (.one (.a8 zero16)) else none
  | 23, [.one (.s (.ptr id 0 0)), .one (.a8 b)] => match kOf m id with
    | some (j, nr, _, W) => if kFit b W nr ∧ id ≠ j then some (.one (.a8 (rounds b W nr (nr - 1)))) else none
    | none => none
  | 24, [.one (.s (.ptr id 0 0)), .one (.a8 b)] => match rOf2 m id with
    | some (j, nw, N, sb, W) => if rFit b sb W nw N ∧ id ≠ j then some (.one (.a8 (outB (rRounds sb W N.toNat (iniS b W 16) (N.toNat + 6)) 16))) else none
    | none => none
  | _, _ => none
theorem pureL_sub : PureSub pureL := by
  intro m m' f l v hs h
  unfold pureL at h ⊢
  split at h
  · exact h
  · exact h
  · split at h
    · rename_i hk
      simp only [kOf_sub hs hk]
      exact h
    · cases h
  · split at h
    · rename_i hk
      simp only [rOf2_sub hs hk]
      exact h
    · cases h
  · cases h
theorem pureL_ok : PureOK prog pureL := by
  intro m f svs sv h E w ℓ vs hm hd
  unfold pureL at h
  split at h
  · cases h
    exact ⟨⟨f20, func20, nofun, by decide⟩, pure_spec spec20 rfl rfl w ℓ vs hd⟩
  · split at h
    · rename_i hc
      cases h
      exact ⟨⟨f23, func23, nofun, by decide⟩, pure_spec (spec23nil _ hc) rfl rfl w ℓ vs hd⟩
    · cases h
  · split at h
    · rename_i id b _ j nr cap W hk
      split at h
      · rename_i hc
        obtain ⟨⟨hb, hW, hR, hR2⟩, hne⟩ := hc
        cases h
        obtain ⟨e, e2, h1, h2, h3, h4⟩ := kOf_get hk
        refine ⟨⟨f23, func23, nofun, by decide⟩, pure_use (spec23 b W nr cap hb hW hR hR2) (by simp [kmem]) rfl hm [id, j] (by simp [hne]) ?_ rfl ?_⟩
        · simp [matchM, kmem, h1, h2, h3, h4, renA, renSeg, renR, renS, ix, belA, belR, belS, segLen, A.len]
        · simpa [renV, renA, renS, ix, one] using hd
      · cases h
    · cases h
  · split at h
    · rename_i id b _ j nw N sb W hk
      split at h
      · rename_i hc
        obtain ⟨⟨hb, hW, hN, hN0, hN1, hsl, hWb, hsb⟩, hne⟩ := hc
        cases h
        obtain ⟨e, e2, x, h1, h2, hx, h3, h4⟩ := rOf2_get hk
        have hNn : N = (N.toNat : Int) := by omega
        have hd' : DenVs ℓ ([one (.ptr 0 0 0), .one (.a8 b)].map (renV (ix [id, j] m.length))) vs := by simpa [renV, renA, renS, ix, one] using hd
        refine ⟨⟨f24, func24, nofun, by decide⟩, ?_⟩
        unfold slOf at hx
        split at hx
        · rename_i j' nw' cap
          cases hx
          refine pure_use (spec24 b sb W nw cap N.toNat hb hW (by omega) (by omega) hsl hWb hsb) (by simp [rkmem]) rfl hm [id, j] (by simp [hne]) ?_ rfl hd'
          rw [hNn] at h2
          simp [matchM, rkmem, h1, h2, h3, h4, renA, renSeg, renR, renS, ix, belA, belR, belS, segLen, A.len]
        · rename_i j' nw'
          cases hx
          refine pure_use (spec24Q b sb W nw N.toNat hb hW (by omega) (by omega) hsl hWb hsb) (by simp [rkmemQ]) rfl hm [id, j] (by simp [hne]) ?_ rfl hd'
          rw [hNn] at h2
          simp [matchM, rkmemQ, h1, h2, h3, h4, renA, renSeg, renR, renS, ix, belA, belR, belS, segLen, A.len]
        · cases hx
      · cases h
    · cases h
  · cases h
end Go.V
end
section
set_option linter.unusedSimpArgs false
set_option linter.unusedVariables false
namespace Go.V
open Go Go.RowKit Go.ChangeShapes Go.WideShapes
theorem field_row {H : Type} {enc : TypeId × Value → H} {P : Program} {w : World} {base : Nat} {held : Bool} {t e : TypeId} {n : Nat} {cs : List Value} {y : DataW H × List MemPlace} (ht : P.underlying t = some (.slice e)) (he : P.underlying e = some (.int .u8)) (hce : P.cellsOf e = 1)
    (hf : DataW.trod enc P w base (fun _ => true) held n t cs = some y) : ∃ a len cap zs, cs = [.slice a len cap] ∧ IsRow .u8 w a len cap zs := by
  rcases open_ints ht he hce hf with ⟨rfl, _⟩ | ⟨x, l, c, zs, rfl, _, hl, hm, hz, _, hcell, hwz⟩
  · exact ⟨none, 0, 0, [], rfl, .inl ⟨rfl, rfl, rfl, rfl⟩⟩
  · exact ⟨some x, l, c, zs, rfl, .inr ⟨_, rfl, hl, hm, by simpa using hz, hcell, hwz⟩⟩
theorem open_job {H : Type} {enc : TypeId × Value → H} {P : Program} {w : World} {base base' : Nat} {held : Bool} {r : Reach} {t ts e : TypeId} {fs : Array Field} {v : Value} {d : DataW H} {ps : List MemPlace}
    (ht : P.underlying t = some (.struct fs)) (hs : P.underlying ts = some (.slice e)) (he : P.underlying e = some (.int .u8)) (hce : P.cellsOf e = 1) (hcs : P.cellsOf ts = 1) (hct : P.cellsOf t = 4)
    (hfs : fs.toList.map (fun f => (f.type, f.offset)) = [(ts, 0), (ts, 1), (ts, 2), (ts, 3)])
    (hval : Value.okWide P w r base' t v) (h : DataW.Trod enc P w base (fun _ => true) held t v d ps) :
    ∃ a0 l0 c0 z0 a1 l1 c1 z1 a2 l2 c2 z2 a3 l3 c3 z3, v = .agg #[.slice a0 l0 c0, .slice a1 l1 c1, .slice a2 l2 c2, .slice a3 l3 c3] ∧ IsRow .u8 w a0 l0 c0 z0 ∧ IsRow .u8 w a1 l1 c1 z1 ∧ IsRow .u8 w a2 l2 c2 z2 ∧ IsRow .u8 w a3 l3 c3 z3 := by
  simp only [Value.okWide, ht] at hval
  obtain ⟨cs, rfl, hsz, _⟩ := hval
  obtain ⟨fuel, hf⟩ := h
  obtain ⟨xs, m, _, _, hl, hxl, hx⟩ := DataW.trod_struct ht hf
  simp only [Value.cells] at hl hx
  obtain ⟨fl⟩ := fs
  obtain ⟨cl⟩ := cs
  simp only at hl hx hfs hxl
  have hfl : fl.length = 4 := by have := congrArg List.length hfs; simpa using this
  match fl, hfl, hfs with
  | [f0, f1, f2, f3], _, hfs =>
    simp only [List.map_cons, List.map_nil, List.cons.injEq, Prod.mk.injEq, and_true] at hfs
    obtain ⟨⟨t0, o0⟩, ⟨t1, o1⟩, ⟨t2, o2⟩, t3, o3⟩ := hfs
    have hxl4 : xs.length = 4 := hxl
    have hcl : cl.length = 4 := by rw [← hct]; exact hl
    match xs, hxl4, cl, hcl with
    | [x0, x1, x2, x3], _, [v0, v1, v2, v3], _ =>
      have g0 := hx 0 f0 rfl
      have g1 := hx 1 f1 rfl
      have g2 := hx 2 f2 rfl
      have g3 := hx 3 f3 rfl
      rw [t0, o0, hcs] at g0
      rw [t1, o1, hcs] at g1
      rw [t2, o2, hcs] at g2
      rw [t3, o3, hcs] at g3
      obtain ⟨a0, l0, c0, z0, e0, r0⟩ := field_row hs he hce g0
      obtain ⟨a1, l1, c1, z1, e1, r1⟩ := field_row hs he hce g1
      obtain ⟨a2, l2, c2, z2, e2, r2⟩ := field_row hs he hce g2
      obtain ⟨a3, l3, c3, z3, e3, r3⟩ := field_row hs he hce g3
      simp at e0 e1 e2 e3
      subst e0 e1 e2 e3
      exact ⟨a0, l0, c0, z0, a1, l1, c1, z1, a2, l2, c2, z2, a3, l3, c3, z3, rfl, r0, r1, r2, r3⟩
theorem den_job {ℓ : Nat → Option Loc} {a0 a1 a2 a3 : Option Addr} {l0 c0 l1 c1 l2 c2 l3 c3 i0 i1 i2 i3 : Nat} (h0 : DenV ℓ (.one (.s (.sl i0 0 l0 c0 1))) (.slice a0 l0 c0)) (h1 : DenV ℓ (.one (.s (.sl i1 0 l1 c1 1))) (.slice a1 l1 c1)) (h2 : DenV ℓ (.one (.s (.sl i2 0 l2 c2 1))) (.slice a2 l2 c2)) (h3 : DenV ℓ (.one (.s (.sl i3 0 l3 c3 1))) (.slice a3 l3 c3)) :
    DenV ℓ (.one (.st [⟨1, .s (.sl i0 0 l0 c0 1)⟩, ⟨1, .s (.sl i1 0 l1 c1 1)⟩, ⟨1, .s (.sl i2 0 l2 c2 1)⟩, ⟨1, .s (.sl i3 0 l3 c3 1)⟩])) (.agg #[.slice a0 l0 c0, .slice a1 l1 c1, .slice a2 l2 c2, .slice a3 l3 c3]) := by
  refine ⟨⟨rfl, rfl, rfl, rfl, trivial⟩, [.slice a0 l0 c0, .slice a1 l1 c1, .slice a2 l2 c2, .slice a3 l3 c3], rfl, ?_⟩
  exact ⟨h0, h1, h2, h3, trivial⟩
end Go.V
end
