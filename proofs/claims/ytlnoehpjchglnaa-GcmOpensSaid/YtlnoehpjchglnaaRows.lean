/-
  No cell of these rows narrows 'for every input' (looked for: loops, veiled, ifaces, maps, wideKeys, modest, calm, conditions, laid).
  DERIVED. THE GIVEN ROWS OF THIS SEAT. 17 by the template 'for every input the law returns true; each argument reads behind the call as it read before'; 0 by the template 'total and deterministic' (their statements: YtlnoehpjchglnaaTotals.lean).
  GIVEN WITH THE SEED: the statements are not yours to turn. If you find one false, say at which input.
  Laid BY PROGRAM, IN A SANDBOX (cutbox-rows.mjs): the forced cells as the released guide's own fill.sh prints them over the translation 06f9d9fba6ed3856… (all of the seat's roots in one cut). By AI agents, Wed Nov 11 2026. No macro, syntax, notation, axiom, sorry.
-/
import Derived.Test.YtlnoehpjchglnaaChecked
import GoSem.Claim
import GoSem.ClaimJoined
import GoSem.ClaimMapViews
import Derived.JoinedTies
import Derived.KernelRfl
namespace Go.Proofs.Ytlnoehpjchglnaa
/- THE CELL 'sum', in the pinned program and in every row, IS THE sha256 OF THE DUMP (.gsa) THAT YtlnoehpjchglnaaProg.lean LOADS. Nothing in Lean hashes anything: it is a label: what it is worth is what the hold of that sum in a sandbox is worth. -/
noncomputable def Try.pinned : Pinned := { name := "ytlnoehpjchglnaa", sum := "06f9d9fba6ed3856d0e860e53b292598da64c2060c77e4c890f7f3953624e382", checked := Try.checked }
namespace Rows
def none {H : Type} : Left H := { results := [], args := [] }

/-- 'cartouchelaw05.AesBlocks': WHATEVER THE INPUT: true; the input reads as it did. -/
def aesBlocksSpec : ChangeSpec := { name := "aesBlocks", fn := fun _ => fun
  | [d1, d2] => { results := [.lit (.bool true)], args := [d1, d2] }
  | _ => none }
def aesBlocksRow : OpenClaim := { program := "ytlnoehpjchglnaa", sum := "06f9d9fba6ed3856d0e860e53b292598da64c2060c77e4c890f7f3953624e382", func := "cartouche/cartouchelaw05.AesBlocks", spec := "aesBlocks", apart := false }
def AesBlocksSaid : Prop := aesBlocksRow.holds Try.pinned (OpenSpec.ofChange aesBlocksSpec)

/-- ITS FALSE NEIGHBOUR: 'it returns false'. Refute it at one input. -/
def aesBlocksWrong : ChangeSpec := { name := "aesBlocks", fn := fun _ => fun
  | [d1, d2] => { results := [.lit (.bool false)], args := [d1, d2] }
  | _ => none }
def AesBlocksWrongFalsely : Prop := aesBlocksRow.holds Try.pinned (OpenSpec.ofChange aesBlocksWrong)

/-- 'cartouchelaw05.AesApart': WHATEVER THE INPUT: true; the input reads as it did. -/
def aesApartSpec : ChangeSpec := { name := "aesApart", fn := fun _ => fun
  | [d1, d2, d3] => { results := [.lit (.bool true)], args := [d1, d2, d3] }
  | _ => none }
def aesApartRow : OpenClaim := { program := "ytlnoehpjchglnaa", sum := "06f9d9fba6ed3856d0e860e53b292598da64c2060c77e4c890f7f3953624e382", func := "cartouche/cartouchelaw05.AesApart", spec := "aesApart", apart := false }
def AesApartSaid : Prop := aesApartRow.holds Try.pinned (OpenSpec.ofChange aesApartSpec)

/-- ITS FALSE NEIGHBOUR: 'it returns false'. Refute it at one input. -/
def aesApartWrong : ChangeSpec := { name := "aesApart", fn := fun _ => fun
  | [d1, d2, d3] => { results := [.lit (.bool false)], args := [d1, d2, d3] }
  | _ => none }
def AesApartWrongFalsely : Prop := aesApartRow.holds Try.pinned (OpenSpec.ofChange aesApartWrong)

/-- 'cartouchelaw05.AesKeys': WHATEVER THE INPUT: true; the input reads as it did. -/
def aesKeysSpec : ChangeSpec := { name := "aesKeys", fn := fun _ => fun
  | [d1, d2] => { results := [.lit (.bool true)], args := [d1, d2] }
  | _ => none }
def aesKeysRow : OpenClaim := { program := "ytlnoehpjchglnaa", sum := "06f9d9fba6ed3856d0e860e53b292598da64c2060c77e4c890f7f3953624e382", func := "cartouche/cartouchelaw05.AesKeys", spec := "aesKeys", apart := false }
def AesKeysSaid : Prop := aesKeysRow.holds Try.pinned (OpenSpec.ofChange aesKeysSpec)

/-- ITS FALSE NEIGHBOUR: 'it returns false'. Refute it at one input. -/
def aesKeysWrong : ChangeSpec := { name := "aesKeys", fn := fun _ => fun
  | [d1, d2] => { results := [.lit (.bool false)], args := [d1, d2] }
  | _ => none }
def AesKeysWrongFalsely : Prop := aesKeysRow.holds Try.pinned (OpenSpec.ofChange aesKeysWrong)

/-- 'cartouchelaw05.AesSizes': WHATEVER THE INPUT: true; the input reads as it did. -/
def aesSizesSpec : ChangeSpec := { name := "aesSizes", fn := fun _ => fun
  | [d1, d2] => { results := [.lit (.bool true)], args := [d1, d2] }
  | _ => none }
def aesSizesRow : OpenClaim := { program := "ytlnoehpjchglnaa", sum := "06f9d9fba6ed3856d0e860e53b292598da64c2060c77e4c890f7f3953624e382", func := "cartouche/cartouchelaw05.AesSizes", spec := "aesSizes", apart := false }
def AesSizesSaid : Prop := aesSizesRow.holds Try.pinned (OpenSpec.ofChange aesSizesSpec)

/-- ITS FALSE NEIGHBOUR: 'it returns false'. Refute it at one input. -/
def aesSizesWrong : ChangeSpec := { name := "aesSizes", fn := fun _ => fun
  | [d1, d2] => { results := [.lit (.bool false)], args := [d1, d2] }
  | _ => none }
def AesSizesWrongFalsely : Prop := aesSizesRow.holds Try.pinned (OpenSpec.ofChange aesSizesWrong)

/-- 'cartouchelaw06.GcmHashes': WHATEVER THE INPUT: true; the input reads as it did. -/
def gcmHashesSpec : ChangeSpec := { name := "gcmHashes", fn := fun _ => fun
  | [d1, d2, d3] => { results := [.lit (.bool true)], args := [d1, d2, d3] }
  | _ => none }
def gcmHashesRow : OpenClaim := { program := "ytlnoehpjchglnaa", sum := "06f9d9fba6ed3856d0e860e53b292598da64c2060c77e4c890f7f3953624e382", func := "cartouche/cartouchelaw06.GcmHashes", spec := "gcmHashes", unfollowed := true, recurses := true, apart := false }
def GcmHashesSaid : Prop := gcmHashesRow.holds Try.pinned (OpenSpec.ofChange gcmHashesSpec)

/-- ITS FALSE NEIGHBOUR: 'it returns false'. Refute it at one input. -/
def gcmHashesWrong : ChangeSpec := { name := "gcmHashes", fn := fun _ => fun
  | [d1, d2, d3] => { results := [.lit (.bool false)], args := [d1, d2, d3] }
  | _ => none }
def GcmHashesWrongFalsely : Prop := gcmHashesRow.holds Try.pinned (OpenSpec.ofChange gcmHashesWrong)

/-- 'cartouchelaw06.GcmSeals': WHATEVER THE INPUT: true; the input reads as it did. -/
def gcmSealsSpec : ChangeSpec := { name := "gcmSeals", fn := fun _ => fun
  | [d] => { results := [.lit (.bool true)], args := [d] }
  | _ => none }
def gcmSealsRow : OpenClaim := { program := "ytlnoehpjchglnaa", sum := "06f9d9fba6ed3856d0e860e53b292598da64c2060c77e4c890f7f3953624e382", func := "cartouche/cartouchelaw06.GcmSeals", spec := "gcmSeals", unfollowed := true, recurses := true, apart := false }
def GcmSealsSaid : Prop := gcmSealsRow.holds Try.pinned (OpenSpec.ofChange gcmSealsSpec)

/-- ITS FALSE NEIGHBOUR: 'it returns false'. Refute it at one input. -/
def gcmSealsWrong : ChangeSpec := { name := "gcmSeals", fn := fun _ => fun
  | [d] => { results := [.lit (.bool false)], args := [d] }
  | _ => none }
def GcmSealsWrongFalsely : Prop := gcmSealsRow.holds Try.pinned (OpenSpec.ofChange gcmSealsWrong)

/-- 'cartouchelaw06.GcmBack': WHATEVER THE INPUT: true; the input reads as it did. -/
def gcmBackSpec : ChangeSpec := { name := "gcmBack", fn := fun _ => fun
  | [d] => { results := [.lit (.bool true)], args := [d] }
  | _ => none }
def gcmBackRow : OpenClaim := { program := "ytlnoehpjchglnaa", sum := "06f9d9fba6ed3856d0e860e53b292598da64c2060c77e4c890f7f3953624e382", func := "cartouche/cartouchelaw06.GcmBack", spec := "gcmBack", unfollowed := true, recurses := true, apart := false }
def GcmBackSaid : Prop := gcmBackRow.holds Try.pinned (OpenSpec.ofChange gcmBackSpec)

/-- ITS FALSE NEIGHBOUR: 'it returns false'. Refute it at one input. -/
def gcmBackWrong : ChangeSpec := { name := "gcmBack", fn := fun _ => fun
  | [d] => { results := [.lit (.bool false)], args := [d] }
  | _ => none }
def GcmBackWrongFalsely : Prop := gcmBackRow.holds Try.pinned (OpenSpec.ofChange gcmBackWrong)

/-- 'cartouchelaw06.GcmOpens': WHATEVER THE INPUT: true; the input reads as it did. -/
def gcmOpensSpec : ChangeSpec := { name := "gcmOpens", fn := fun _ => fun
  | [d1, d2, d3] => { results := [.lit (.bool true)], args := [d1, d2, d3] }
  | _ => none }
def gcmOpensRow : OpenClaim := { program := "ytlnoehpjchglnaa", sum := "06f9d9fba6ed3856d0e860e53b292598da64c2060c77e4c890f7f3953624e382", func := "cartouche/cartouchelaw06.GcmOpens", spec := "gcmOpens", unfollowed := true, recurses := true, apart := false }
def GcmOpensSaid : Prop := gcmOpensRow.holds Try.pinned (OpenSpec.ofChange gcmOpensSpec)

/-- ITS FALSE NEIGHBOUR: 'it returns false'. Refute it at one input. -/
def gcmOpensWrong : ChangeSpec := { name := "gcmOpens", fn := fun _ => fun
  | [d1, d2, d3] => { results := [.lit (.bool false)], args := [d1, d2, d3] }
  | _ => none }
def GcmOpensWrongFalsely : Prop := gcmOpensRow.holds Try.pinned (OpenSpec.ofChange gcmOpensWrong)

/-- 'cartouchelaw06.GcmLinear': WHATEVER THE INPUT: true; the input reads as it did. -/
def gcmLinearSpec : ChangeSpec := { name := "gcmLinear", fn := fun _ => fun
  | [d1, d2, d3] => { results := [.lit (.bool true)], args := [d1, d2, d3] }
  | _ => none }
def gcmLinearRow : OpenClaim := { program := "ytlnoehpjchglnaa", sum := "06f9d9fba6ed3856d0e860e53b292598da64c2060c77e4c890f7f3953624e382", func := "cartouche/cartouchelaw06.GcmLinear", spec := "gcmLinear", unfollowed := true, recurses := true, apart := false }
def GcmLinearSaid : Prop := gcmLinearRow.holds Try.pinned (OpenSpec.ofChange gcmLinearSpec)

/-- ITS FALSE NEIGHBOUR: 'it returns false'. Refute it at one input. -/
def gcmLinearWrong : ChangeSpec := { name := "gcmLinear", fn := fun _ => fun
  | [d1, d2, d3] => { results := [.lit (.bool false)], args := [d1, d2, d3] }
  | _ => none }
def GcmLinearWrongFalsely : Prop := gcmLinearRow.holds Try.pinned (OpenSpec.ofChange gcmLinearWrong)

/-- 'cartouchelaw08.SuiteNonces': WHATEVER THE INPUT: true; the input reads as it did. -/
def suiteNoncesSpec : ChangeSpec := { name := "suiteNonces", fn := fun _ => fun
  | [d1, d2, d3] => { results := [.lit (.bool true)], args := [d1, d2, d3] }
  | _ => none }
def suiteNoncesRow : OpenClaim := { program := "ytlnoehpjchglnaa", sum := "06f9d9fba6ed3856d0e860e53b292598da64c2060c77e4c890f7f3953624e382", func := "cartouche/cartouchelaw08.SuiteNonces", spec := "suiteNonces", unfollowed := true, recurses := true, apart := false }
def SuiteNoncesSaid : Prop := suiteNoncesRow.holds Try.pinned (OpenSpec.ofChange suiteNoncesSpec)

/-- ITS FALSE NEIGHBOUR: 'it returns false'. Refute it at one input. -/
def suiteNoncesWrong : ChangeSpec := { name := "suiteNonces", fn := fun _ => fun
  | [d1, d2, d3] => { results := [.lit (.bool false)], args := [d1, d2, d3] }
  | _ => none }
def SuiteNoncesWrongFalsely : Prop := suiteNoncesRow.holds Try.pinned (OpenSpec.ofChange suiteNoncesWrong)

/-- 'cartouchelaw08.SuiteNone': WHATEVER THE INPUT: true; the input reads as it did. -/
def suiteNoneSpec : ChangeSpec := { name := "suiteNone", fn := fun _ => fun
  | [d1, d2, d3] => { results := [.lit (.bool true)], args := [d1, d2, d3] }
  | _ => none }
def suiteNoneRow : OpenClaim := { program := "ytlnoehpjchglnaa", sum := "06f9d9fba6ed3856d0e860e53b292598da64c2060c77e4c890f7f3953624e382", func := "cartouche/cartouchelaw08.SuiteNone", spec := "suiteNone", unfollowed := true, recurses := true, apart := false }
def SuiteNoneSaid : Prop := suiteNoneRow.holds Try.pinned (OpenSpec.ofChange suiteNoneSpec)

/-- ITS FALSE NEIGHBOUR: 'it returns false'. Refute it at one input. -/
def suiteNoneWrong : ChangeSpec := { name := "suiteNone", fn := fun _ => fun
  | [d1, d2, d3] => { results := [.lit (.bool false)], args := [d1, d2, d3] }
  | _ => none }
def SuiteNoneWrongFalsely : Prop := suiteNoneRow.holds Try.pinned (OpenSpec.ofChange suiteNoneWrong)

/-- 'cartouchelaw08.SuiteSeals': WHATEVER THE INPUT: true; the input reads as it did. -/
def suiteSealsSpec : ChangeSpec := { name := "suiteSeals", fn := fun _ => fun
  | [d] => { results := [.lit (.bool true)], args := [d] }
  | _ => none }
def suiteSealsRow : OpenClaim := { program := "ytlnoehpjchglnaa", sum := "06f9d9fba6ed3856d0e860e53b292598da64c2060c77e4c890f7f3953624e382", func := "cartouche/cartouchelaw08.SuiteSeals", spec := "suiteSeals", inPlace := ["math/bits.Add64", "math/bits.Sub64"], unfollowed := true, recurses := true, named := ["math/bits.divideError", "math/bits.overflowError"], apart := false }
def SuiteSealsSaid : Prop := suiteSealsRow.holds Try.pinned (OpenSpec.ofChange suiteSealsSpec)

/-- ITS FALSE NEIGHBOUR: 'it returns false'. Refute it at one input. -/
def suiteSealsWrong : ChangeSpec := { name := "suiteSeals", fn := fun _ => fun
  | [d] => { results := [.lit (.bool false)], args := [d] }
  | _ => none }
def SuiteSealsWrongFalsely : Prop := suiteSealsRow.holds Try.pinned (OpenSpec.ofChange suiteSealsWrong)

/-- 'cartouchelaw08.SuiteOpens': WHATEVER THE INPUT: true; the input reads as it did. -/
def suiteOpensSpec : ChangeSpec := { name := "suiteOpens", fn := fun _ => fun
  | [d1, d2, d3] => { results := [.lit (.bool true)], args := [d1, d2, d3] }
  | _ => none }
def suiteOpensRow : OpenClaim := { program := "ytlnoehpjchglnaa", sum := "06f9d9fba6ed3856d0e860e53b292598da64c2060c77e4c890f7f3953624e382", func := "cartouche/cartouchelaw08.SuiteOpens", spec := "suiteOpens", inPlace := ["math/bits.Add64", "math/bits.Sub64"], unfollowed := true, recurses := true, named := ["math/bits.divideError", "math/bits.overflowError"], apart := false }
def SuiteOpensSaid : Prop := suiteOpensRow.holds Try.pinned (OpenSpec.ofChange suiteOpensSpec)

/-- ITS FALSE NEIGHBOUR: 'it returns false'. Refute it at one input. -/
def suiteOpensWrong : ChangeSpec := { name := "suiteOpens", fn := fun _ => fun
  | [d1, d2, d3] => { results := [.lit (.bool false)], args := [d1, d2, d3] }
  | _ => none }
def SuiteOpensWrongFalsely : Prop := suiteOpensRow.holds Try.pinned (OpenSpec.ofChange suiteOpensWrong)

/-- 'cartouchelaw17.RecordBack': WHATEVER THE INPUT: true; the input reads as it did. -/
def recordBackSpec : ChangeSpec := { name := "recordBack", fn := fun _ => fun
  | [d1, d2, d3] => { results := [.lit (.bool true)], args := [d1, d2, d3] }
  | _ => none }
def recordBackRow : OpenClaim := { program := "ytlnoehpjchglnaa", sum := "06f9d9fba6ed3856d0e860e53b292598da64c2060c77e4c890f7f3953624e382", func := "cartouche/cartouchelaw17.RecordBack", spec := "recordBack", inPlace := ["sync/atomic.LoadUint64", "sync/atomic.AddUint64", "sync/atomic.StoreUint64"], unfollowed := true, recurses := true, apart := false }
def RecordBackSaid : Prop := recordBackRow.holds Try.pinned (OpenSpec.ofChange recordBackSpec)

/-- ITS FALSE NEIGHBOUR: 'it returns false'. Refute it at one input. -/
def recordBackWrong : ChangeSpec := { name := "recordBack", fn := fun _ => fun
  | [d1, d2, d3] => { results := [.lit (.bool false)], args := [d1, d2, d3] }
  | _ => none }
def RecordBackWrongFalsely : Prop := recordBackRow.holds Try.pinned (OpenSpec.ofChange recordBackWrong)

/-- 'cartouchelaw17.RecordNone': WHATEVER THE INPUT: true; the input reads as it did. -/
def recordNoneSpec : ChangeSpec := { name := "recordNone", fn := fun _ => fun
  | [d1, d2, d3] => { results := [.lit (.bool true)], args := [d1, d2, d3] }
  | _ => none }
def recordNoneRow : OpenClaim := { program := "ytlnoehpjchglnaa", sum := "06f9d9fba6ed3856d0e860e53b292598da64c2060c77e4c890f7f3953624e382", func := "cartouche/cartouchelaw17.RecordNone", spec := "recordNone", inPlace := ["sync/atomic.LoadUint64", "sync/atomic.AddUint64", "sync/atomic.StoreUint64"], unfollowed := true, recurses := true, apart := false }
def RecordNoneSaid : Prop := recordNoneRow.holds Try.pinned (OpenSpec.ofChange recordNoneSpec)

/-- ITS FALSE NEIGHBOUR: 'it returns false'. Refute it at one input. -/
def recordNoneWrong : ChangeSpec := { name := "recordNone", fn := fun _ => fun
  | [d1, d2, d3] => { results := [.lit (.bool false)], args := [d1, d2, d3] }
  | _ => none }
def RecordNoneWrongFalsely : Prop := recordNoneRow.holds Try.pinned (OpenSpec.ofChange recordNoneWrong)

/-- 'cartouchelaw17.RecordSplits': WHATEVER THE INPUT: true; the input reads as it did. -/
def recordSplitsSpec : ChangeSpec := { name := "recordSplits", fn := fun _ => fun
  | [d1, d2, d3] => { results := [.lit (.bool true)], args := [d1, d2, d3] }
  | _ => none }
def recordSplitsRow : OpenClaim := { program := "ytlnoehpjchglnaa", sum := "06f9d9fba6ed3856d0e860e53b292598da64c2060c77e4c890f7f3953624e382", func := "cartouche/cartouchelaw17.RecordSplits", spec := "recordSplits", inPlace := ["sync/atomic.LoadUint64", "sync/atomic.AddUint64", "sync/atomic.StoreUint64"], unfollowed := true, recurses := true, apart := false }
def RecordSplitsSaid : Prop := recordSplitsRow.holds Try.pinned (OpenSpec.ofChange recordSplitsSpec)

/-- ITS FALSE NEIGHBOUR: 'it returns false'. Refute it at one input. -/
def recordSplitsWrong : ChangeSpec := { name := "recordSplits", fn := fun _ => fun
  | [d1, d2, d3] => { results := [.lit (.bool false)], args := [d1, d2, d3] }
  | _ => none }
def RecordSplitsWrongFalsely : Prop := recordSplitsRow.holds Try.pinned (OpenSpec.ofChange recordSplitsWrong)

/-- 'cartouchelaw17.RecordReads': WHATEVER THE INPUT: true; the input reads as it did. -/
def recordReadsSpec : ChangeSpec := { name := "recordReads", fn := fun _ => fun
  | [d1, d2, d3] => { results := [.lit (.bool true)], args := [d1, d2, d3] }
  | _ => none }
def recordReadsRow : OpenClaim := { program := "ytlnoehpjchglnaa", sum := "06f9d9fba6ed3856d0e860e53b292598da64c2060c77e4c890f7f3953624e382", func := "cartouche/cartouchelaw17.RecordReads", spec := "recordReads", inPlace := ["sync/atomic.LoadUint64", "sync/atomic.AddUint64", "sync/atomic.StoreUint64", "math/bits.Add64", "math/bits.Sub64"], unfollowed := true, recurses := true, named := ["math/bits.divideError", "math/bits.overflowError"], apart := false }
def RecordReadsSaid : Prop := recordReadsRow.holds Try.pinned (OpenSpec.ofChange recordReadsSpec)

/-- ITS FALSE NEIGHBOUR: 'it returns false'. Refute it at one input. -/
def recordReadsWrong : ChangeSpec := { name := "recordReads", fn := fun _ => fun
  | [d1, d2, d3] => { results := [.lit (.bool false)], args := [d1, d2, d3] }
  | _ => none }
def RecordReadsWrongFalsely : Prop := recordReadsRow.holds Try.pinned (OpenSpec.ofChange recordReadsWrong)

/- THE SECOND FORM. 'bulk': how many values and letters a reading holds, each counted each time it is reached (what is shared counts as often as it is met; a slice's spare places count too). A statement '..UptoSaid' is the law's where the arguments, and the package variables that the reading takes, are together of bulk at most 1048576: NARROWER than '..Said'. Prove '..Said' where nothing that the law and all that it calls make is longer than what came in: it says more and counts as full. Else prove '..UptoSaid'. A law counts once. -/
mutual
def uptoBulk {H : Type} : DataW H → Nat
  | .lit (.string bytes) => bytes.length + 1
  | .lit _ => 1
  | .nil => 1
  | .ptr d => uptoBulk d + 1
  | .slice elems spare => uptoBulkAll elems + uptoBulkAll spare + 1
  | .agg parts => uptoBulkAll parts + 1
  | .iface _ d => uptoBulk d + 1
  | .map entries => uptoBulkEntries entries + 1
  | .held _ => 1
def uptoBulkAll {H : Type} : List (DataW H) → Nat
  | [] => 0
  | d :: r => uptoBulk d + uptoBulkAll r
def uptoBulkEntries {H : Type} : List (Lit × DataW H) → Nat
  | [] => 0
  | x :: r => uptoBulkEntry x + uptoBulkEntries r
def uptoBulkEntry {H : Type} : Lit × DataW H → Nat
  | (.string bytes, d) => bytes.length + uptoBulk d + 1
  | (_, d) => uptoBulk d + 1
 end
def uptoSmall : (H : Type) → List (DataW H) → Bool := fun _ ds => decide (uptoBulkAll ds ≤ 1048576)
def OpenSpec.upto (s : _root_.Go.ChangeSpec) : _root_.Go.OpenSpec := { _root_.Go.OpenSpec.ofChange s with cond := some uptoSmall }

/-- 'cartouchelaw05.AesBlocks', WHERE WHAT IT READS IS OF BULK AT MOST 1048576: true; the input reads as it did. -/
def aesBlocksUptoRow : OpenClaim := { program := "ytlnoehpjchglnaa", sum := "06f9d9fba6ed3856d0e860e53b292598da64c2060c77e4c890f7f3953624e382", func := "cartouche/cartouchelaw05.AesBlocks", spec := "aesBlocks", apart := false, narrowed := true }
def AesBlocksUptoSaid : Prop := aesBlocksUptoRow.holds Try.pinned (OpenSpec.upto aesBlocksSpec)

/-- 'cartouchelaw05.AesApart', WHERE WHAT IT READS IS OF BULK AT MOST 1048576: true; the input reads as it did. -/
def aesApartUptoRow : OpenClaim := { program := "ytlnoehpjchglnaa", sum := "06f9d9fba6ed3856d0e860e53b292598da64c2060c77e4c890f7f3953624e382", func := "cartouche/cartouchelaw05.AesApart", spec := "aesApart", apart := false, narrowed := true }
def AesApartUptoSaid : Prop := aesApartUptoRow.holds Try.pinned (OpenSpec.upto aesApartSpec)

/-- 'cartouchelaw05.AesKeys', WHERE WHAT IT READS IS OF BULK AT MOST 1048576: true; the input reads as it did. -/
def aesKeysUptoRow : OpenClaim := { program := "ytlnoehpjchglnaa", sum := "06f9d9fba6ed3856d0e860e53b292598da64c2060c77e4c890f7f3953624e382", func := "cartouche/cartouchelaw05.AesKeys", spec := "aesKeys", apart := false, narrowed := true }
def AesKeysUptoSaid : Prop := aesKeysUptoRow.holds Try.pinned (OpenSpec.upto aesKeysSpec)

/-- 'cartouchelaw05.AesSizes', WHERE WHAT IT READS IS OF BULK AT MOST 1048576: true; the input reads as it did. -/
def aesSizesUptoRow : OpenClaim := { program := "ytlnoehpjchglnaa", sum := "06f9d9fba6ed3856d0e860e53b292598da64c2060c77e4c890f7f3953624e382", func := "cartouche/cartouchelaw05.AesSizes", spec := "aesSizes", apart := false, narrowed := true }
def AesSizesUptoSaid : Prop := aesSizesUptoRow.holds Try.pinned (OpenSpec.upto aesSizesSpec)

/-- 'cartouchelaw06.GcmHashes', WHERE WHAT IT READS IS OF BULK AT MOST 1048576: true; the input reads as it did. -/
def gcmHashesUptoRow : OpenClaim := { program := "ytlnoehpjchglnaa", sum := "06f9d9fba6ed3856d0e860e53b292598da64c2060c77e4c890f7f3953624e382", func := "cartouche/cartouchelaw06.GcmHashes", spec := "gcmHashes", unfollowed := true, recurses := true, apart := false, narrowed := true }
def GcmHashesUptoSaid : Prop := gcmHashesUptoRow.holds Try.pinned (OpenSpec.upto gcmHashesSpec)

/-- 'cartouchelaw06.GcmSeals', WHERE WHAT IT READS IS OF BULK AT MOST 1048576: true; the input reads as it did. -/
def gcmSealsUptoRow : OpenClaim := { program := "ytlnoehpjchglnaa", sum := "06f9d9fba6ed3856d0e860e53b292598da64c2060c77e4c890f7f3953624e382", func := "cartouche/cartouchelaw06.GcmSeals", spec := "gcmSeals", unfollowed := true, recurses := true, apart := false, narrowed := true }
def GcmSealsUptoSaid : Prop := gcmSealsUptoRow.holds Try.pinned (OpenSpec.upto gcmSealsSpec)

/-- 'cartouchelaw06.GcmBack', WHERE WHAT IT READS IS OF BULK AT MOST 1048576: true; the input reads as it did. -/
def gcmBackUptoRow : OpenClaim := { program := "ytlnoehpjchglnaa", sum := "06f9d9fba6ed3856d0e860e53b292598da64c2060c77e4c890f7f3953624e382", func := "cartouche/cartouchelaw06.GcmBack", spec := "gcmBack", unfollowed := true, recurses := true, apart := false, narrowed := true }
def GcmBackUptoSaid : Prop := gcmBackUptoRow.holds Try.pinned (OpenSpec.upto gcmBackSpec)

/-- 'cartouchelaw06.GcmOpens', WHERE WHAT IT READS IS OF BULK AT MOST 1048576: true; the input reads as it did. -/
def gcmOpensUptoRow : OpenClaim := { program := "ytlnoehpjchglnaa", sum := "06f9d9fba6ed3856d0e860e53b292598da64c2060c77e4c890f7f3953624e382", func := "cartouche/cartouchelaw06.GcmOpens", spec := "gcmOpens", unfollowed := true, recurses := true, apart := false, narrowed := true }
def GcmOpensUptoSaid : Prop := gcmOpensUptoRow.holds Try.pinned (OpenSpec.upto gcmOpensSpec)

/-- 'cartouchelaw06.GcmLinear', WHERE WHAT IT READS IS OF BULK AT MOST 1048576: true; the input reads as it did. -/
def gcmLinearUptoRow : OpenClaim := { program := "ytlnoehpjchglnaa", sum := "06f9d9fba6ed3856d0e860e53b292598da64c2060c77e4c890f7f3953624e382", func := "cartouche/cartouchelaw06.GcmLinear", spec := "gcmLinear", unfollowed := true, recurses := true, apart := false, narrowed := true }
def GcmLinearUptoSaid : Prop := gcmLinearUptoRow.holds Try.pinned (OpenSpec.upto gcmLinearSpec)

/-- 'cartouchelaw08.SuiteNonces', WHERE WHAT IT READS IS OF BULK AT MOST 1048576: true; the input reads as it did. -/
def suiteNoncesUptoRow : OpenClaim := { program := "ytlnoehpjchglnaa", sum := "06f9d9fba6ed3856d0e860e53b292598da64c2060c77e4c890f7f3953624e382", func := "cartouche/cartouchelaw08.SuiteNonces", spec := "suiteNonces", unfollowed := true, recurses := true, apart := false, narrowed := true }
def SuiteNoncesUptoSaid : Prop := suiteNoncesUptoRow.holds Try.pinned (OpenSpec.upto suiteNoncesSpec)

/-- 'cartouchelaw08.SuiteNone', WHERE WHAT IT READS IS OF BULK AT MOST 1048576: true; the input reads as it did. -/
def suiteNoneUptoRow : OpenClaim := { program := "ytlnoehpjchglnaa", sum := "06f9d9fba6ed3856d0e860e53b292598da64c2060c77e4c890f7f3953624e382", func := "cartouche/cartouchelaw08.SuiteNone", spec := "suiteNone", unfollowed := true, recurses := true, apart := false, narrowed := true }
def SuiteNoneUptoSaid : Prop := suiteNoneUptoRow.holds Try.pinned (OpenSpec.upto suiteNoneSpec)

/-- 'cartouchelaw08.SuiteSeals', WHERE WHAT IT READS IS OF BULK AT MOST 1048576: true; the input reads as it did. -/
def suiteSealsUptoRow : OpenClaim := { program := "ytlnoehpjchglnaa", sum := "06f9d9fba6ed3856d0e860e53b292598da64c2060c77e4c890f7f3953624e382", func := "cartouche/cartouchelaw08.SuiteSeals", spec := "suiteSeals", inPlace := ["math/bits.Add64", "math/bits.Sub64"], unfollowed := true, recurses := true, named := ["math/bits.divideError", "math/bits.overflowError"], apart := false, narrowed := true }
def SuiteSealsUptoSaid : Prop := suiteSealsUptoRow.holds Try.pinned (OpenSpec.upto suiteSealsSpec)

/-- 'cartouchelaw08.SuiteOpens', WHERE WHAT IT READS IS OF BULK AT MOST 1048576: true; the input reads as it did. -/
def suiteOpensUptoRow : OpenClaim := { program := "ytlnoehpjchglnaa", sum := "06f9d9fba6ed3856d0e860e53b292598da64c2060c77e4c890f7f3953624e382", func := "cartouche/cartouchelaw08.SuiteOpens", spec := "suiteOpens", inPlace := ["math/bits.Add64", "math/bits.Sub64"], unfollowed := true, recurses := true, named := ["math/bits.divideError", "math/bits.overflowError"], apart := false, narrowed := true }
def SuiteOpensUptoSaid : Prop := suiteOpensUptoRow.holds Try.pinned (OpenSpec.upto suiteOpensSpec)

/-- 'cartouchelaw17.RecordBack', WHERE WHAT IT READS IS OF BULK AT MOST 1048576: true; the input reads as it did. -/
def recordBackUptoRow : OpenClaim := { program := "ytlnoehpjchglnaa", sum := "06f9d9fba6ed3856d0e860e53b292598da64c2060c77e4c890f7f3953624e382", func := "cartouche/cartouchelaw17.RecordBack", spec := "recordBack", inPlace := ["sync/atomic.LoadUint64", "sync/atomic.AddUint64", "sync/atomic.StoreUint64"], unfollowed := true, recurses := true, apart := false, narrowed := true }
def RecordBackUptoSaid : Prop := recordBackUptoRow.holds Try.pinned (OpenSpec.upto recordBackSpec)

/-- 'cartouchelaw17.RecordNone', WHERE WHAT IT READS IS OF BULK AT MOST 1048576: true; the input reads as it did. -/
def recordNoneUptoRow : OpenClaim := { program := "ytlnoehpjchglnaa", sum := "06f9d9fba6ed3856d0e860e53b292598da64c2060c77e4c890f7f3953624e382", func := "cartouche/cartouchelaw17.RecordNone", spec := "recordNone", inPlace := ["sync/atomic.LoadUint64", "sync/atomic.AddUint64", "sync/atomic.StoreUint64"], unfollowed := true, recurses := true, apart := false, narrowed := true }
def RecordNoneUptoSaid : Prop := recordNoneUptoRow.holds Try.pinned (OpenSpec.upto recordNoneSpec)

/-- 'cartouchelaw17.RecordSplits', WHERE WHAT IT READS IS OF BULK AT MOST 1048576: true; the input reads as it did. -/
def recordSplitsUptoRow : OpenClaim := { program := "ytlnoehpjchglnaa", sum := "06f9d9fba6ed3856d0e860e53b292598da64c2060c77e4c890f7f3953624e382", func := "cartouche/cartouchelaw17.RecordSplits", spec := "recordSplits", inPlace := ["sync/atomic.LoadUint64", "sync/atomic.AddUint64", "sync/atomic.StoreUint64"], unfollowed := true, recurses := true, apart := false, narrowed := true }
def RecordSplitsUptoSaid : Prop := recordSplitsUptoRow.holds Try.pinned (OpenSpec.upto recordSplitsSpec)

/-- 'cartouchelaw17.RecordReads', WHERE WHAT IT READS IS OF BULK AT MOST 1048576: true; the input reads as it did. -/
def recordReadsUptoRow : OpenClaim := { program := "ytlnoehpjchglnaa", sum := "06f9d9fba6ed3856d0e860e53b292598da64c2060c77e4c890f7f3953624e382", func := "cartouche/cartouchelaw17.RecordReads", spec := "recordReads", inPlace := ["sync/atomic.LoadUint64", "sync/atomic.AddUint64", "sync/atomic.StoreUint64", "math/bits.Add64", "math/bits.Sub64"], unfollowed := true, recurses := true, named := ["math/bits.divideError", "math/bits.overflowError"], apart := false, narrowed := true }
def RecordReadsUptoSaid : Prop := recordReadsUptoRow.holds Try.pinned (OpenSpec.upto recordReadsSpec)

end Rows
end Go.Proofs.Ytlnoehpjchglnaa
