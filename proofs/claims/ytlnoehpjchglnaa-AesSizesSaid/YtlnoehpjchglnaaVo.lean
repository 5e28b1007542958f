/- A small verifier of our own, part 15: operations come to one result; what they depend on. No condition. -/
import Derived.Test.YtlnoehpjchglnaaVn
set_option linter.unusedSimpArgs false
set_option linter.unusedVariables false
namespace Go.V
open Go
def Det {α : Type} (F : (α → Prop) → Prop) : Prop := ∀ K, F K → ∃ r, K r ∧ ∀ K' : α → Prop, K' r → F K'
theorem Det.ret {α : Type} (r : α) : Det (fun K => K r) := fun K h => ⟨r, h, fun _ h => h⟩
theorem Det.none {α : Type} : Det (fun (_ : α → Prop) => False) := fun K h => h.elim
theorem Det.and {α : Type} {c : Prop} {F : (α → Prop) → Prop} (h : Det F) : Det (fun K => c ∧ F K) := fun K ⟨hc, hF⟩ => let ⟨r, h1, h2⟩ := h K hF; ⟨r, h1, fun K' k => ⟨hc, h2 K' k⟩⟩
theorem Det.bind {α β : Type} {F : (α → Prop) → Prop} {G : α → (β → Prop) → Prop} (h : Det F) (g : ∀ a, Det (G a)) : Det (fun K => F (fun a => G a K)) := fun K hF =>
  let ⟨r, h1, h2⟩ := h _ hF
  let ⟨s, g1, g2⟩ := g r K h1
  ⟨s, g1, fun K' k => h2 _ (g2 K' k)⟩
theorem det_stAt (ty : Ty) (c : A) (off n : Nat) : Det (stAt ty c off n) := by
  unfold stAt
  repeat' split
  all_goals first | exact Det.none | exact Det.ret _ | exact Det.and (Det.ret _) | exact Det.and (Det.and (Det.ret _))
theorem det_stLoad (T : Tab) (m : Mem) (t : TypeId) (x : SV) : Det (stLoad T m t x) := by
  unfold stLoad
  repeat' split
  all_goals first | exact Det.none | exact Det.ret _ | exact Det.and (Det.ret _) | exact Det.and (Det.and (Det.ret _)) | exact det_stAt _ _ _ _
theorem det_stField (T : Tab) (t : TypeId) (x : SV) (f : Nat) : Det (stField T t x f) := by
  unfold stField
  repeat' split
  all_goals first | exact Det.none | exact Det.ret _ | exact Det.and (Det.ret _) | exact Det.and (Det.and (Det.ret _))
theorem det_stIndexAddr (T : Tab) (t : TypeId) (x i : SV) : Det (stIndexAddr T t x i) := by
  unfold stIndexAddr
  repeat' split
  all_goals first | exact Det.none | exact Det.ret _ | exact Det.and (Det.ret _) | exact Det.and (Det.and (Det.ret _))
theorem det_stPart (T : Tab) (t : TypeId) (a : A) (off : Nat) : Det (stPart T t a off) := by
  unfold stPart stPartRow
  repeat' split
  all_goals first | exact Det.none | exact Det.ret _ | exact Det.and (Det.ret _) | exact Det.and (Det.and (Det.ret _))
theorem det_stIndex (T : Tab) (t : TypeId) (x i : SV) : Det (stIndex T t x i) := by
  unfold stIndex
  repeat' split
  all_goals first | exact Det.none | exact Det.ret _ | exact Det.and (Det.ret _) | exact Det.and (Det.and (Det.ret _)) | exact Det.and (Det.and (det_stPart _ _ _ _))
theorem det_stFieldV (T : Tab) (t : TypeId) (x : SV) (f : Nat) : Det (stFieldV T t x f) := by
  unfold stFieldV
  repeat' split
  all_goals first | exact Det.none | exact Det.and (det_stPart _ _ _ _)
theorem det_stUn (op : UnOp) (x : SV) : Det (stUn op x) := by
  unfold stUn
  repeat' split
  all_goals first | exact Det.none | exact Det.ret _ | exact Det.and (Det.ret _)
theorem det_stArrPtr (T : Tab) (t : TypeId) (x : SV) : Det (stArrPtr T t x) := by
  unfold stArrPtr
  repeat' split
  all_goals first | exact Det.none | exact Det.ret _ | exact Det.and (Det.ret _)
theorem det_stExtract (x : SV) (i : Nat) : Det (stExtract x i) := by
  unfold stExtract
  repeat' split
  all_goals first | exact Det.none | exact Det.ret _ | exact Det.and (Det.ret _)
theorem det_stIface (T : Tab) (t : TypeId) (x : SV) : Det (stIface T t x) := by
  unfold stIface
  repeat' split
  all_goals first | exact Det.none | exact Det.ret _ | exact Det.and (Det.ret _)
theorem det_stFunc (fn : Fn) (a b : List SV) : Det (stFunc fn a b) := by
  unfold stFunc
  repeat' split
  all_goals first | exact Det.none | exact Det.ret _ | exact Det.and (Det.ret _)
theorem det_stLen (T : Tab) (t : TypeId) (x : SV) : Det (stLen T t x) := by
  unfold stLen
  repeat' split
  all_goals first | exact Det.none | exact Det.ret _ | exact Det.and (Det.ret _)
theorem det_stMin (mx : Bool) (l : List SV) : Det (stMin mx l) := by
  unfold stMin
  repeat' split
  all_goals first | exact Det.none | exact Det.ret _ | exact Det.and (Det.ret _)
theorem det_stNil (x : SV) : Det (stNil x) := by
  unfold stNil
  repeat' split
  all_goals first | exact Det.none | exact Det.ret _ | exact Det.and (Det.ret _)
theorem det_stSlice (T : Tab) (m : Mem) (t : TypeId) (x : SV) (lo hi mx : Option SV) : Det (stSlice T m t x lo hi mx) := by
  unfold stSlice
  repeat' split
  all_goals first | exact Det.none | exact Det.ret _ | exact Det.and (Det.ret _) | exact Det.and (Det.and (Det.ret _))
theorem det_stEqA (T : Tab) (op : BinOp) (t : TypeId) (a b : A) : Det (stEqA T op t a b) := by
  unfold stEqA
  repeat' split
  all_goals first | exact Det.none | exact Det.ret _ | exact Det.and (Det.ret _) | exact Det.and (Det.and (Det.ret _)) | exact Det.and (Det.and Det.none)
theorem det_binI (op : BinOp) (a b : Int) : Det (binI op a b) := by
  unfold binI
  repeat' split
  all_goals first | exact Det.none | exact Det.ret _ | exact Det.and (Det.ret _) | exact Det.and (Det.and (Det.ret _))
theorem det_binB {n : Nat} (mk : BitVec n → S) (op : BinOp) (a b : BitVec n) : Det (binB mk op a b) := by
  unfold binB
  repeat' split
  all_goals first | exact Det.none | exact Det.ret _ | exact Det.and (Det.ret _) | exact Det.and (Det.and (Det.ret _))
theorem det_shB {n : Nat} (mk : BitVec n → S) (left : Bool) (a : BitVec n) (s : Int) : Det (shB mk left a s) := by
  unfold shB
  cases left
  all_goals exact Det.and (Det.ret _)
theorem det_bin (op : BinOp) (k : Kind) (x y : S) : Det (bin op k x y) := by
  unfold bin
  repeat' split
  · unfold shS
    repeat' split
    all_goals first | exact Det.none | exact det_shB _ _ _ _ | exact Det.and (Det.and (Det.ret _)) | exact Det.and (Det.ret _)
  · exact Det.none
  · unfold shS
    repeat' split
    all_goals first | exact Det.none | exact det_shB _ _ _ _ | exact Det.and (Det.ret _) | exact Det.and (Det.and (Det.ret _))
  · exact Det.none
  · unfold binS
    repeat' split
    all_goals first | exact Det.none | exact Det.ret _ | exact det_binI _ _ _ | exact det_binB _ _ _ _
theorem det_cv (k : IntKind) (x : S) : Det (cvS k x) := by
  unfold cvS cvB cvI
  repeat' split
  all_goals first | exact Det.none | exact Det.ret _ | exact Det.and (Det.ret _) | exact Det.and (Det.and (Det.ret _))
theorem det_putP (a : A) (sz i : Nat) (x : SV) : Det (putP a sz i x) := by
  unfold putP
  repeat' split
  all_goals first | exact Det.none | exact Det.ret _ | exact Det.and (Det.ret _) | exact Det.and (Det.and (Det.ret _)) | exact Det.and Det.none
theorem det_fillA : ∀ (ps : List (Nat × SV)) (a : A) (sz : Nat), Det (fillA a sz ps)
  | [], a, sz => Det.ret (α := A) a
  | (i, x) :: r, a, sz => Det.bind (F := putP a sz i x) (G := fun a' => fillA a' sz r) (det_putP a sz i x) (fun a' => det_fillA r a' sz)
theorem det_putS (T : Tab) (fs : List (Nat × TypeId)) (l : List Seg) (i : Nat) (x : SV) : Det (putS T fs l i x) := by
  unfold putS
  repeat' split
  all_goals first | exact Det.none | exact Det.ret _ | exact Det.and (Det.ret _) | exact Det.and (Det.and (Det.ret _)) | exact Det.and Det.none
theorem det_fillS (T : Tab) (fs : List (Nat × TypeId)) : ∀ (ps : List (Nat × SV)) (l : List Seg), Det (fillS T fs l ps)
  | [], l => Det.ret (α := List Seg) l
  | (i, x) :: r, l => Det.bind (F := putS T fs l i x) (G := fun l' => fillS T fs l' r) (det_putS T fs l i x) (fun l' => det_fillS T fs r l')
theorem Det.comp {α β : Type} {F : (α → Prop) → Prop} (h : Det F) (f : α → β) : Det (fun K : β → Prop => F (fun a => K (f a))) := Det.bind h (fun a => Det.ret (f a))
theorem det_stBuild (T : Tab) (t : TypeId) (ps : List (Nat × SV)) : Det (stBuild T t ps) := by
  unfold stBuild
  repeat' split
  all_goals first | exact Det.none | exact Det.comp (det_fillS _ _ _ _) _ | exact Det.and (Det.comp (det_fillA _ _ _) _)
theorem det_litA (z : A) (len sz : Nat) (ps : List (Nat × SV)) : Det (litA z len sz ps) := by
  unfold litA
  repeat' split
  all_goals first | exact Det.none | exact Det.and (Det.ret _) | exact det_fillA _ _ _
/-- The same for what puts a value and may put a block. -/
def Det2 (F : (SV → Option Ent → Prop) → Prop) : Prop := Det (fun K : SV × Option Ent → Prop => F (fun v e => K (v, e)))
theorem Det2.of1 {F : (SV → Prop) → Prop} (h : Det F) : Det2 (fun K => F (fun r => K r none)) := Det.comp h (fun r => (r, none))
theorem det_stBox (T : Tab) (nid : Nat) (t : TypeId) (x : SV) : Det2 (stBox T nid t x) := by
  unfold stBox Det2
  repeat' split
  all_goals first | exact Det.none | exact Det.and (Det.ret (α := SV × Option Ent) _)
theorem det_stAlloc (T : Tab) (nid : Nat) (t : TypeId) : Det2 (stAlloc T nid t) := by
  unfold stAlloc Det2
  repeat' split
  all_goals first | exact Det.none | exact Det.and (Det.ret (α := SV × Option Ent) _)
theorem det_stMake (T : Tab) (nid : Nat) (t : TypeId) (l c : SV) : Det2 (stMake T nid t l c) := by
  unfold stMake Det2
  repeat' split
  all_goals first | exact Det.none | exact Det.and (Det.and (Det.ret (α := SV × Option Ent) _))
theorem det_stBuildSlice (T : Tab) (nid : Nat) (t : TypeId) (n : Nat) (ps : List (Nat × SV)) : Det2 (stBuildSlice T nid t n ps) := by
  unfold stBuildSlice Det2
  repeat' split
  all_goals first | exact Det.none | exact Det.and (Det.and (Det.comp (det_litA _ _ _ _) (fun a => (_, _))))
/-- No conversion of a string to a slice (there the room is open). -/
def noCap (T : Tab) (o : Oper) : Bool :=
  match o.op with
  | .convert s d x => (match T d with
    | some ty => (match ty.kind with | .sl _ => false | _ => true)
    | none => true)
  | _ => true
theorem det_stConv (T : Tab) (m : Mem) (nid : Nat) (s d : TypeId) (x : SV) (h : ∀ ty e, T d = some ty → ty.kind ≠ .sl e) : Det2 (stConv T m nid s d x) := by
  unfold stConv Det2
  repeat' split
  all_goals first
    | exact Det.none
    | exact Det.ret (α := SV × Option Ent) _
    | exact Det.and (Det.ret (α := SV × Option Ent) _)
    | exact Det.comp (det_cv _ _) (fun r => (r, none))
    | (exfalso; exact h _ _ (by assumption) (by assumption))
theorem det_stBin (T : Tab) (op : BinOp) (t : TypeId) (x y : SV) : Det (stBin T op t x y) := by
  unfold stBin
  repeat' split
  all_goals first | exact Det.none | exact Det.comp (det_bin _ _ _ _) one | exact det_stEqA _ _ _ _ _
theorem det_est (T : Tab) (pu : Pure) (m : Mem) (nid : Nat) (g : Operand → SV) (o : Oper) (h : noCap T o = true) : Det2 (est T pu m nid g o) := by
  unfold est
  cases hop : o.op <;> simp only
  case pick c a b =>
    split
    · rename_i c _
      cases c
      · intro K hK
        simp only [reduceCtorEq, false_implies, true_and, true_implies] at hK
        exact ⟨_, hK, fun K' hK' => by simpa using hK'⟩
      · intro K hK
        simp only [reduceCtorEq, false_implies, and_true, true_implies] at hK
        exact ⟨_, hK, fun K' hK' => by simpa using hK'⟩
    · exact Det.none
  case convert s d x =>
    refine det_stConv T m nid s d (g x) ?_
    intro ty e hty hk
    unfold noCap at h
    rw [hop] at h
    simp only [hty, hk] at h
    cases h
  case call c =>
    repeat' split
    all_goals first
      | exact Det.none
      | exact Det2.of1 (det_stLen _ _ _)
      | exact Det2.of1 (det_stMin _ _)
      | exact Det.ret (α := SV × Option Ent) _
  all_goals first
    | exact Det.none
    | exact Det.ret (α := SV × Option Ent) _
    | exact det_stAlloc _ _ _
    | exact det_stBox _ _ _ _
    | exact det_stMake _ _ _ _ _
    | exact det_stBuildSlice _ _ _ _ _
    | exact Det2.of1 (det_stBuild _ _ _)
    | exact Det2.of1 (det_stLoad _ _ _ _)
    | exact Det2.of1 (det_stNil _)
    | exact Det2.of1 (det_stBin _ _ _ _ _)
    | exact Det2.of1 (det_stUn _ _)
    | exact Det2.of1 (det_stArrPtr _ _ _)
    | exact Det2.of1 (det_stIface _ _ _)
    | exact Det2.of1 (det_stFunc _ _ _)
    | exact Det2.of1 (det_stSlice _ _ _ _ _ _ _)
    | exact Det2.of1 (det_stField _ _ _ _)
    | exact Det2.of1 (det_stFieldV _ _ _ _)
    | exact Det2.of1 (det_stIndexAddr _ _ _ _)
    | exact Det2.of1 (det_stIndex _ _ _ _)
    | exact Det2.of1 (det_stExtract _ _)

/-! what an operation depends on -/
theorem est_congr {T : Tab} {pu : Pure} {m : Mem} {nid : Nat} {g g' : Operand → SV} {o : Oper} {K : SV → Option Ent → Prop} (h : ∀ x ∈ o.op.operands.toList, g x = g' x) : est T pu m nid g o K = est T pu m nid g' o K := by
  have hl : ∀ l : List Operand, (∀ x ∈ l, g x = g' x) → l.map g = l.map g' := fun l hl => List.map_congr_left hl
  have hp : ∀ l : List (Nat × Operand), (∀ p ∈ l, g p.2 = g' p.2) → l.map (fun p => (p.1, g p.2)) = l.map (fun p => (p.1, g' p.2)) := fun l hl => List.map_congr_left (fun p hp => by rw [hl p hp])
  have ho : ∀ l : Option Operand, (∀ p ∈ l.toList, g p = g' p) → l.map g = l.map g' := fun l hl => by cases l <;> simp_all
  unfold est
  cases hop : o.op <;> simp only <;> rw [hop] at h <;> simp only [Op.operands] at h
  case call c =>
    have h2 := hl c.args.toList (fun x hx => h x (by simp only [Call.operands, Array.toList_append, List.mem_append]; exact .inr hx))
    rw [h2]
    split
    · split
      · rename_i x t hx ht
        rw [h x (by simp only [Call.operands, Array.toList_append, List.mem_append, hx]; exact .inr (by simp))]
      · rfl
    all_goals rfl
  case build t ps => rw [hp ps.toList (fun p hp => h p.2 (by simp only [List.mem_map]; exact ⟨p, hp, rfl⟩))]
  case buildSlice t n ps => rw [hp ps.toList (fun p hp => h p.2 (by simp only [List.mem_map]; exact ⟨p, hp, rfl⟩))]
  case makeFunc fn a b =>
    simp only [Array.toList_append, List.mem_append] at h
    rw [hl _ (fun x hx => h x (.inl hx)), hl _ (fun x hx => h x (.inr hx))]
  case slice t x lo hi mx =>
    simp only [Array.toList_append, List.mem_append] at h
    rw [h x (by simp), ho lo (fun p hp => h p (by cases lo <;> simp_all)), ho hi (fun p hp => h p (by cases hi <;> simp_all)), ho mx (fun p hp => h p (by cases mx <;> simp_all))]
  all_goals first
    | rfl
    | (simp only [List.mem_cons, List.not_mem_nil, or_false, forall_eq_or_imp, forall_eq] at h; simp only [h])
    | skip

/-- More memory behind does no harm. -/
def PureMono (pu : Pure) : Prop := ∀ m x f l v, pu m f l = some v → pu (m ++ x) f l = some v
theorem get_app {m x : Mem} {id : Nat} {e : Mk} (h : m[id]? = some e) : (m ++ x)[id]? = some e := by
  rw [List.getElem?_append_left (List.getElem?_eq_some_iff.1 h).1]; exact h
theorem stLoad_app {T : Tab} {m : Mem} (x : Mem) {t : TypeId} {y : SV} {K : SV → Prop} (h : stLoad T m t y K) : stLoad T (m ++ x) t y K := by
  unfold stLoad at h ⊢
  split at h
  · split at h
    · rename_i hm
      simp only [get_app (x := x) hm]
      exact h
    · exact h.elim
  · exact h.elim
theorem stSlice_app {T : Tab} {m : Mem} (x : Mem) {t : TypeId} {y : SV} {lo hi mx : Option SV} {K : SV → Prop} (h : stSlice T m t y lo hi mx K) : stSlice T (m ++ x) t y lo hi mx K := by
  unfold stSlice at h ⊢
  split at h
  · exact h.elim
  · rename_i ty hty
    split at h
    · exact h
    · exact h
    · split at h
      · rename_i h1 h2 h3 h4 hm
        simp only [h1, h2, h3, h4, get_app (x := x) hm]
        exact h
      · exact h.elim
    · exact h
    · exact h.elim
theorem stConv_app {T : Tab} {m : Mem} (x : Mem) {nid : Nat} {s d : TypeId} {y : SV} {K : SV → Option Ent → Prop} (h : stConv T m nid s d y K) : stConv T (m ++ x) nid s d y K := by
  unfold stConv at h ⊢
  split at h
  · split at h
    · exact h
    · exact h
    · exact h
    · split at h
      · split at h
        · rename_i hk hm
          simp only [hk, get_app (x := x) hm]
          exact h
        · exact h.elim
      · split at h
        · rename_i hk hm
          simp only [hk, get_app (x := x) hm]
          exact h
        · exact h.elim
      · exact h
      · exact h.elim
    · exact h.elim
  · exact h.elim
theorem est_app {T : Tab} {pu : Pure} {m : Mem} (hpu : PureMono pu) (x : Mem) {nid : Nat} {g : Operand → SV} {o : Oper} {K : SV → Option Ent → Prop} (h : est T pu m nid g o K) : est T pu (m ++ x) nid g o K := by
  unfold est at h ⊢
  cases hop : o.op <;> simp only [hop] at h ⊢
  case load => exact stLoad_app x h
  case slice => exact stSlice_app x h
  case convert => exact stConv_app x h
  case call c =>
    split at h
    · exact h
    · exact h
    · exact h
    · rename_i f hf
      split at h
      · rename_i v hv
        simp only [hpu _ x _ _ _ hv]
        exact h
      · exact h.elim
    · exact h.elim
  all_goals exact h
end Go.V
