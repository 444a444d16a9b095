/- Functions, one behind the other: a plain Lean function for each, and the proof that the call comes to its answer, whatever the world (conditions: what the arguments read as); and plain laws of them. -/
import Derived.Test.YtopkmchkfcjjmaaMHeld1
import Derived.Test.YtopkmchkfcjjmaaMHeld3
import Derived.Test.YtopkmchkfcjjmaaMHeld4
/-! ## WalkHeld -/
namespace Go.Proofs.Ytopkmchkfcjjmaa.X
open Go.RowKit Go.Proofs.YtopkmchkfcjjmaaW.PrintWords Go.Proofs.YtopkmchkfcjjmaaW.PrintLast Go.Proofs.YtopkmchkfcjjmaaW.PrintMore
set_option linter.unusedVariables false
theorem treeHeld.walk (A0 : Option Addr) (c0 : Nat) (l0 : List (S31)) (n : Int) (other : ByteArray) (w : World) (hr0 : Kd.C k31 w A0 l0.length l0) (hc0 : l0.length ≤ c0) (hf0 : ∀ e ∈ l0, EntryFits e) (hn : (Lit.int .i64 n).wf = true) (ho : other.size ≤ maxLen) :
    Calls Try.prog 3 #[.slice A0 l0.length c0, .int .i64 n, .string other] w fun e w' => e = .returned (.bool true) ∧ Below w.heap.size w w' := by
  obtain ⟨k, hk⟩ := held_ev l0 n other
  exact satchellaw08_TreeHeld.calls k A0 c0 l0 n other true w hr0 hc0 (hk k (Nat.le_refl _))
end Go.Proofs.Ytopkmchkfcjjmaa.X
