/- Congruence lemmas (written by gen_congr.py): simp walks into no continuation. No condition. -/
import Derived.Test.YtlnoehpjchglnaaVr
set_option linter.unusedSimpArgs false
set_option linter.unusedVariables false
namespace Go.V
open Go

@[congr] theorem binI_cg {op op' : BinOp} {a a' : Int} {b b' : Int} {K : S → Prop} (hop : op = op') (ha : a = a') (hb : b = b') : binI op a b K = binI op' a' b' K := by subst hop ha hb; rfl
@[congr] theorem binB_cg {n : Nat} {mk mk' : BitVec n → S} {op op' : BinOp} {a a' : BitVec n} {b b' : BitVec n} {K : S → Prop} (hmk : mk = mk') (hop : op = op') (ha : a = a') (hb : b = b') : binB mk op a b K = binB mk' op' a' b' K := by subst hmk hop ha hb; rfl
@[congr] theorem shB_cg {n : Nat} {mk mk' : BitVec n → S} {left left' : Bool} {a a' : BitVec n} {s s' : Int} {K : S → Prop} (hmk : mk = mk') (hleft : left = left') (ha : a = a') (hs : s = s') : shB mk left a s K = shB mk' left' a' s' K := by subst hmk hleft ha hs; rfl
@[congr] theorem shS_cg {left left' : Bool} {x x' : S} {s s' : Int} {K : S → Prop} (hleft : left = left') (hx : x = x') (hs : s = s') : shS left x s K = shS left' x' s' K := by subst hleft hx hs; rfl
@[congr] theorem binS_cg {op op' : BinOp} {k k' : Kind} {x x' : S} {y y' : S} {K : S → Prop} (hop : op = op') (hk : k = k') (hx : x = x') (hy : y = y') : binS op k x y K = binS op' k' x' y' K := by subst hop hk hx hy; rfl
@[congr] theorem bin_cg {op op' : BinOp} {k k' : Kind} {x x' : S} {y y' : S} {K : S → Prop} (hop : op = op') (hk : k = k') (hx : x = x') (hy : y = y') : bin op k x y K = bin op' k' x' y' K := by subst hop hk hx hy; rfl
@[congr] theorem stAt_cg {ty ty' : Ty} {c c' : A} {off off' : Nat} {n n' : Nat} {K : SV → Prop} (hty : ty = ty') (hc : c = c') (hoff : off = off') (hn : n = n') : stAt ty c off n K = stAt ty' c' off' n' K := by subst hty hc hoff hn; rfl
@[congr] theorem stLoad_cg {T : Tab} {m m' : Mem} {t t' : TypeId} {x x' : SV} {K : SV → Prop} (hm : m = m') (ht : t = t') (hx : x = x') : stLoad T m t x K = stLoad T m' t' x' K := by subst hm ht hx; rfl
@[congr] theorem stBox_cg {T : Tab} {nid nid' : Nat} {t t' : TypeId} {x x' : SV} {K : SV → Option Ent → Prop} (hnid : nid = nid') (ht : t = t') (hx : x = x') : stBox T nid t x K = stBox T nid' t' x' K := by subst hnid ht hx; rfl
@[congr] theorem stAlloc_cg {T : Tab} {nid nid' : Nat} {t t' : TypeId} {K : SV → Option Ent → Prop} (hnid : nid = nid') (ht : t = t') : stAlloc T nid t K = stAlloc T nid' t' K := by subst hnid ht; rfl
@[congr] theorem stField_cg {T : Tab} {t t' : TypeId} {x x' : SV} {f f' : Nat} {K : SV → Prop} (ht : t = t') (hx : x = x') (hf : f = f') : stField T t x f K = stField T t' x' f' K := by subst ht hx hf; rfl
@[congr] theorem stIndexAddr_cg {T : Tab} {t t' : TypeId} {x x' : SV} {i i' : SV} {K : SV → Prop} (ht : t = t') (hx : x = x') (hi : i = i') : stIndexAddr T t x i K = stIndexAddr T t' x' i' K := by subst ht hx hi; rfl
@[congr] theorem stPartRow_cg {ty ty' : Ty} {a a' : A} {off off' : Nat} {K : SV → Prop} (hty : ty = ty') (ha : a = a') (hoff : off = off') : stPartRow ty a off K = stPartRow ty' a' off' K := by subst hty ha hoff; rfl
@[congr] theorem stPart_cg {T : Tab} {t t' : TypeId} {a a' : A} {off off' : Nat} {K : SV → Prop} (ht : t = t') (ha : a = a') (hoff : off = off') : stPart T t a off K = stPart T t' a' off' K := by subst ht ha hoff; rfl
@[congr] theorem stIndex_cg {T : Tab} {t t' : TypeId} {x x' : SV} {i i' : SV} {K : SV → Prop} (ht : t = t') (hx : x = x') (hi : i = i') : stIndex T t x i K = stIndex T t' x' i' K := by subst ht hx hi; rfl
@[congr] theorem stFieldV_cg {T : Tab} {t t' : TypeId} {x x' : SV} {f f' : Nat} {K : SV → Prop} (ht : t = t') (hx : x = x') (hf : f = f') : stFieldV T t x f K = stFieldV T t' x' f' K := by subst ht hx hf; rfl
@[congr] theorem stUn_cg {op op' : UnOp} {x x' : SV} {K : SV → Prop} (hop : op = op') (hx : x = x') : stUn op x K = stUn op' x' K := by subst hop hx; rfl
@[congr] theorem cvB_cg {k k' : IntKind} {n : Nat} {x x' : BitVec n} {K : SV → Prop} (hk : k = k') (hx : x = x') : cvB k x K = cvB k' x' K := by subst hk hx; rfl
@[congr] theorem cvI_cg {k k' : IntKind} {n n' : Int} {K : SV → Prop} (hk : k = k') (hn : n = n') : cvI k n K = cvI k' n' K := by subst hk hn; rfl
@[congr] theorem cvS_cg {k k' : IntKind} {x x' : S} {K : SV → Prop} (hk : k = k') (hx : x = x') : cvS k x K = cvS k' x' K := by subst hk hx; rfl
@[congr] theorem stConv_cg {T : Tab} {m m' : Mem} {nid nid' : Nat} {src src' : TypeId} {dst dst' : TypeId} {x x' : SV} {K : SV → Option Ent → Prop} (hm : m = m') (hnid : nid = nid') (hsrc : src = src') (hdst : dst = dst') (hx : x = x') : stConv T m nid src dst x K = stConv T m' nid' src' dst' x' K := by subst hm hnid hsrc hdst hx; rfl
@[congr] theorem stSlice_cg {T : Tab} {m m' : Mem} {t t' : TypeId} {x x' : SV} {lo lo' : Option SV} {hi hi' : Option SV} {mx mx' : Option SV} {K : SV → Prop} (hm : m = m') (ht : t = t') (hx : x = x') (hlo : lo = lo') (hhi : hi = hi') (hmx : mx = mx') : stSlice T m t x lo hi mx K = stSlice T m' t' x' lo' hi' mx' K := by subst hm ht hx hlo hhi hmx; rfl
@[congr] theorem stArrPtr_cg {T : Tab} {t t' : TypeId} {x x' : SV} {K : SV → Prop} (ht : t = t') (hx : x = x') : stArrPtr T t x K = stArrPtr T t' x' K := by subst ht hx; rfl
@[congr] theorem stExtract_cg {x x' : SV} {i i' : Nat} {K : SV → Prop} (hx : x = x') (hi : i = i') : stExtract x i K = stExtract x' i' K := by subst hx hi; rfl
@[congr] theorem stIface_cg {T : Tab} {t t' : TypeId} {x x' : SV} {K : SV → Prop} (ht : t = t') (hx : x = x') : stIface T t x K = stIface T t' x' K := by subst ht hx; rfl
@[congr] theorem stFunc_cg {fn fn' : Fn} {first first' : List SV} {captured captured' : List SV} {K : SV → Prop} (hfn : fn = fn') (hfirst : first = first') (hcaptured : captured = captured') : stFunc fn first captured K = stFunc fn' first' captured' K := by subst hfn hfirst hcaptured; rfl
@[congr] theorem stLen_cg {T : Tab} {t t' : TypeId} {x x' : SV} {K : SV → Prop} (ht : t = t') (hx : x = x') : stLen T t x K = stLen T t' x' K := by subst ht hx; rfl
@[congr] theorem stMin_cg {mx mx' : Bool} {l l' : List SV} {K : SV → Prop} (hmx : mx = mx') (hl : l = l') : stMin mx l K = stMin mx' l' K := by subst hmx hl; rfl
@[congr] theorem putP_cg {a a' : A} {sz sz' : Nat} {i i' : Nat} {x x' : SV} {K : A → Prop} (ha : a = a') (hsz : sz = sz') (hi : i = i') (hx : x = x') : putP a sz i x K = putP a' sz' i' x' K := by subst ha hsz hi hx; rfl
@[congr] theorem putS_cg {T : Tab} {fs fs' : List (Nat × TypeId)} {l l' : List Seg} {i i' : Nat} {x x' : SV} {K : List Seg → Prop} (hfs : fs = fs') (hl : l = l') (hi : i = i') (hx : x = x') : putS T fs l i x K = putS T fs' l' i' x' K := by subst hfs hl hi hx; rfl
@[congr] theorem stBuild_cg {T : Tab} {t t' : TypeId} {ps ps' : List (Nat × SV)} {K : SV → Prop} (ht : t = t') (hps : ps = ps') : stBuild T t ps K = stBuild T t' ps' K := by subst ht hps; rfl
@[congr] theorem stMake_cg {T : Tab} {nid nid' : Nat} {t t' : TypeId} {l l' : SV} {c c' : SV} {K : SV → Option Ent → Prop} (hnid : nid = nid') (ht : t = t') (hl : l = l') (hc : c = c') : stMake T nid t l c K = stMake T nid' t' l' c' K := by subst hnid ht hl hc; rfl
@[congr] theorem litA_cg {z z' : A} {len len' : Nat} {sz sz' : Nat} {ps ps' : List (Nat × SV)} {K : A → Prop} (hz : z = z') (hlen : len = len') (hsz : sz = sz') (hps : ps = ps') : litA z len sz ps K = litA z' len' sz' ps' K := by subst hz hlen hsz hps; rfl
@[congr] theorem stBuildSlice_cg {T : Tab} {nid nid' : Nat} {t t' : TypeId} {len len' : Nat} {ps ps' : List (Nat × SV)} {K : SV → Option Ent → Prop} (hnid : nid = nid') (ht : t = t') (hlen : len = len') (hps : ps = ps') : stBuildSlice T nid t len ps K = stBuildSlice T nid' t' len' ps' K := by subst hnid ht hlen hps; rfl
@[congr] theorem stEqA_cg {T : Tab} {op op' : BinOp} {t t' : TypeId} {a a' : A} {b b' : A} {K : SV → Prop} (hop : op = op') (ht : t = t') (ha : a = a') (hb : b = b') : stEqA T op t a b K = stEqA T op' t' a' b' K := by subst hop ht ha hb; rfl
@[congr] theorem wrAt_cg {ty ty' : Ty} {c c' : A} {off off' : Nat} {n n' : Nat} {a a' : A} {K : A → Prop} (hty : ty = ty') (hc : c = c') (hoff : off = off') (hn : n = n') (ha : a = a') : wrAt ty c off n a K = wrAt ty' c' off' n' a' K := by subst hty hc hoff hn ha; rfl
@[congr] theorem stStore_cg {T : Tab} {m m' : Mem} {t t' : TypeId} {x x' : SV} {y y' : SV} {K : Mem → Prop} (hm : m = m') (ht : t = t') (hx : x = x') (hy : y = y') : stStore T m t x y K = stStore T m' t' x' y' K := by subst hm ht hx hy; rfl
@[congr] theorem srcRow_cg {T : Tab} {m m' : Mem} {z z' : A} {es es' : Nat} {x x' : SV} {K : A → Nat → Prop} (hm : m = m') (hz : z = z') (hes : es = es') (hx : x = x') : srcRow T m z es x K = srcRow T m' z' es' x' K := by subst hm hz hes hx; rfl
@[congr] theorem stAppend_cg {T : Tab} {fr fr' : Nat → Bool} {m m' : Mem} {nid nid' : Nat} {ts ts' : TypeId} {tx tx' : TypeId} {s s' : SV} {x x' : SV} {K : SV → Option Nat → Mem → Prop} (hfr : fr = fr') (hm : m = m') (hnid : nid = nid') (hts : ts = ts') (htx : tx = tx') (hs : s = s') (hx : x = x') : stAppend T fr m nid ts tx s x K = stAppend T fr' m' nid' ts' tx' s' x' K := by subst hfr hm hnid hts htx hs hx; rfl
@[congr] theorem stCopy_cg {T : Tab} {m m' : Mem} {td td' : TypeId} {dst dst' : SV} {src src' : SV} {K : SV → Mem → Prop} (hm : m = m') (htd : td = td') (hdst : dst = dst') (hsrc : src = src') : stCopy T m td dst src K = stCopy T m' td' dst' src' K := by subst hm htd hdst hsrc; rfl
@[congr] theorem stNil_cg {x x' : SV} {K : SV → Prop} (hx : x = x') : stNil x K = stNil x' K := by subst hx; rfl
@[congr] theorem stBin_cg {T : Tab} {op op' : BinOp} {t t' : TypeId} {x x' : SV} {y y' : SV} {K : SV → Prop} (hop : op = op') (ht : t = t') (hx : x = x') (hy : y = y') : stBin T op t x y K = stBin T op' t' x' y' K := by subst hop ht hx hy; rfl
@[congr] theorem est_cg {T : Tab} {pu : Pure} {m m' : Mem} {nid nid' : Nat} {g : Operand → SV} {o : Oper} {K : SV → Option Ent → Prop} (hm : m = m') (hnid : nid = nid') : est T pu m nid g o K = est T pu m' nid' g o K := by subst hm hnid; rfl
@[congr] theorem guardOf_cg {st st' : St} {all : List Oper} {o : Oper} {go : St → Prop} {skip : St → Prop} (hst : st = st') : guardOf st all o go skip = guardOf st' all o go skip := by subst hst; rfl
@[congr] theorem step1_cg {T : Tab} {pu : Pure} {fr fr' : Nat → Bool} {N N' : Nat} {o : Oper} {st st' : St} {leaf : St → Prop} {K : St → Prop} (hfr : fr = fr') (hN : N = N') (hst : st = st') : step1 T pu fr N o st leaf K = step1 T pu fr' N' o st' leaf K := by subst hfr hN hst; rfl
@[congr] theorem finOf_cg {T : Tab} {res res' : List ResultVar} {n0 n0' : Nat} {post : SV → Mem → Prop} {st st' : St} (hres : res = res') (hn0 : n0 = n0') (hst : st = st') : finOf T res n0 post st = finOf T res' n0' post st' := by subst hres hn0 hst; rfl
@[congr] theorem fillA_cg {a a' : A} {sz sz' : Nat} {ps ps' : List (Nat × SV)} {K : A → Prop} (h1 : a = a') (h2 : sz = sz') (h3 : ps = ps') : fillA a sz ps K = fillA a' sz' ps' K := by subst h1 h2 h3; rfl
@[congr] theorem fillS_cg {T : Tab} {fs : List (Nat × TypeId)} {l l' : List Seg} {ps ps' : List (Nat × SV)} {K : List Seg → Prop} (h1 : l = l') (h3 : ps = ps') : fillS T fs l ps K = fillS T fs l' ps' K := by subst h1 h3; rfl
@[congr] theorem resP_cg {T : Tab} {st st' : St} {l : List ResultVar} {K : List A → Prop} (h1 : st = st') : resP T st l K = resP T st' l K := by subst h1; rfl
@[congr] theorem hdRun_cg {T : Tab} {pu : Pure} {m0 m0' : Mem} {l r : List Oper} {N : Nat} {sl sl' : Slots} {al al' : List Ent} {K : Slots → List Ent → Prop} (h1 : m0 = m0') (h2 : sl = sl') (h3 : al = al') : hdRun T pu m0 l N r sl al K = hdRun T pu m0' l N r sl' al' K := by subst h1 h2 h3; rfl
@[congr] theorem run_cg {T : Tab} {pu : Pure} {fr : Nat → Bool} {N : Nat} {fin : St → Prop} {leaf : List Item → St → Prop} {n : Nat} {k : List Item} {st st' : St} (h : st = st') : run T pu fr N fin leaf n k st = run T pu fr N fin leaf n k st' := by subst h; rfl
@[congr] theorem Ok_cg {P : Program} {E : Env} {N : Nat} {Q0 : Exit → Act → World → Prop} {k : List Item} {st st' : St} (h : st = st') : Ok P E N Q0 k st = Ok P E N Q0 k st' := by subst h; rfl
def condOf (v : SV) (p q : Prop) : Prop :=
  match v with
  | .one (.s (.b x)) => (x = true → p) ∧ (x = false → q)
  | _ => False
@[congr] theorem condOf_cg {v v' : SV} {p q : Prop} (h : v = v') : condOf v p q = condOf v' p q := by subst h; rfl
section
variable {T : Tab} {pu : Pure} {fr : Nat → Bool} {N : Nat} {fin : St → Prop} {leaf : List Item → St → Prop} {n : Nat} {k : List Item} {st : St}
theorem run_zero : run T pu fr N fin leaf 0 k st = leaf k st := rfl
theorem run_nil : run T pu fr N fin leaf (n + 1) [] st = fin st := rfl
theorem run_blk {j : Nat} : run T pu fr N fin leaf (n + 1) (.blk j :: k) st = run T pu fr N fin leaf n k st := rfl
theorem run_back {I : St → Prop} : run T pu fr N fin leaf (n + 1) (.back I :: k) st = I st := rfl
theorem run_ops0 {all : List Oper} : run T pu fr N fin leaf (n + 1) (.ops all [] :: k) st = run T pu fr N fin leaf n k st := rfl
theorem run_ops {all r : List Oper} {o : Oper} : run T pu fr N fin leaf (n + 1) (.ops all (o :: r) :: k) st = guardOf st all o
      (fun st => step1 T pu fr N o st (leaf (.ops all (o :: r) :: k)) (fun st' => run T pu fr N fin leaf n (.ops all r :: k) st'))
      (fun st => okd N o.dst ∧ run T pu fr N fin leaf n (.ops all r :: k) (st.put o.dst (.tup []))) := rfl
theorem run_skip : run T pu fr N fin leaf (n + 1) (.code .skip :: k) st = run T pu fr N fin leaf n k st := rfl
theorem run_seq {a b : Code} : run T pu fr N fin leaf (n + 1) (.code (.seq a b) :: k) st = run T pu fr N fin leaf n (.code a :: .code b :: k) st := rfl
theorem run_region {id : Nat} {l : List Oper} : run T pu fr N fin leaf (n + 1) (.code (.region id l.toArray false) :: k) st = run T pu fr N fin leaf n (.ops l l :: k) st := rfl
theorem run_draw {id : Nat} {ops : Array Oper} : run T pu fr N fin leaf (n + 1) (.code (.region id ops true) :: k) st = leaf (.code (.region id ops true) :: k) st := rfl
theorem run_cond {c : Operand} {a b : Code} : run T pu fr N fin leaf (n + 1) (.code (.cond c a b) :: k) st = condOf (st.ev c) (run T pu fr N fin leaf n (.code a :: k) st) (run T pu fr N fin leaf n (.code b :: k) st) := rfl
theorem run_block {id : Nat} {c : Code} : run T pu fr N fin leaf (n + 1) (.code (.block id c) :: k) st = run T pu fr N fin leaf n (.code c :: .blk id :: k) st := rfl
theorem run_loop {c : Code} : run T pu fr N fin leaf (n + 1) (.code (.loop c) :: k) st = leaf (.code (.loop c) :: k) st := rfl
theorem run_exit {id : Nat} {k' : List Item} (h : popTo id k = some k') : run T pu fr N fin leaf (n + 1) (.code (.exit id) :: k) st = run T pu fr N fin leaf n k' st := by
  simp only [run, h]
theorem run_ret : run T pu fr N fin leaf (n + 1) (.code .ret :: k) st = fin st := rfl
end
theorem pop_eq {id : Nat} {k : List Item} : popTo id (.blk id :: k) = some k := by simp [popTo]
theorem pop_ne {id j : Nat} {k : List Item} (h : (j == id) = false) : popTo id (.blk j :: k) = popTo id k := by
  simp only [popTo]; rw [if_neg (by simpa using h)]
theorem pop_code {id : Nat} {c : Code} {k : List Item} : popTo id (.code c :: k) = popTo id k := rfl
theorem pop_ops {id : Nat} {a l : List Oper} {k : List Item} : popTo id (.ops a l :: k) = popTo id k := rfl
theorem pop_back {id : Nat} {I : St → Prop} {k : List Item} : popTo id (.back I :: k) = popTo id k := rfl
end Go.V
