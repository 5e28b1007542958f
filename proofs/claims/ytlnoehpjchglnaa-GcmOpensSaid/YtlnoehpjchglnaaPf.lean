/- Closed facts of the whole program, which every row's proof needs. No condition. -/
import Derived.Test.YtlnoehpjchglnaaRows
import Derived.ProofKit
namespace Go.Proofs.Ytlnoehpjchglnaa
set_option maxRecDepth 100000
theorem f_and {a b : Bool} (h : a = true) (k : b = true) : (a && b) = true := by rw [h, k]; rfl
theorem f_may : Try.prog.mayEnter = true := by kernel_rfl
theorem f_lift : (Rows.aesBlocksRow.lifted == Try.prog.liftsFinal) = true := by kernel_rfl
theorem f_make : (Try.prog.make == some Rows.aesBlocksRow.make) = true := by kernel_rfl
theorem f_own : ownKnob Try.prog.godebug = none := by kernel_rfl
theorem f_laid : laidOutB Try.prog = true := by kernel_rfl
end Go.Proofs.Ytlnoehpjchglnaa
