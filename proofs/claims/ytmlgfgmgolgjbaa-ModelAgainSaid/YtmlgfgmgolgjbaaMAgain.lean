/- The row of the law ModelAgain: for every input it returns true, and the arguments read as they read before (no condition). -/
import Derived.Test.YtmlgfgmgolgjbaaRows
import Derived.Test.YtmlgfgmgolgjbaaMAgain2
import Derived.Test.YtmlgfgmgolgjbaaMAgain4
import Derived.WalkKit
import Derived.ProofKit
import Derived.OpenShut
import Derived.ShutString
import Derived.ChangeOld
import Derived.Below
import Derived.SizedLaws
/-! ## mRowAgain -/
namespace Go.Proofs.Ytmlgfgmgolgjbaa.X
open Go.RowKit Go.Proofs.YtmlgfgmgolgjbaaW.PrintWords Go.Proofs.YtmlgfgmgolgjbaaW.PrintLast Go.Proofs.YtmlgfgmgolgjbaaW.PrintMore
end Go.Proofs.Ytmlgfgmgolgjbaa.X
namespace Go.Proofs.Ytmlgfgmgolgjbaa.modelAgain
open Go.ChangeShapes Go.WideShapes Go.ChangeAt Go.RowKit
open Go.ChangeMaps (open_string shut_string)
open Go.Proofs.YtmlgfgmgolgjbaaW.PrintWords
set_option linter.unusedVariables false
theorem own : ownKnob Try.prog.godebug = none := by kernel_rfl
theorem laidOut : laidOutB Try.prog = true := by kernel_rfl
set_option maxRecDepth 100000 in
theorem lifted (os : Os) (started : os.Started) (H : Type) (enc : TypeId × Value → H) :
    ReturnsInHanded {} Try.checked os 3 .any (Rows.modelAgainSpec.pre6 enc Try.prog Try.f3 Rows.modelAgainRow.domain false) (Rows.modelAgainSpec.post enc Try.prog Try.f3 false true false false) := by
  refine returnsInHanded_of_change_sized (C := Try.checked) own started (by kernel_rfl) Try.func3
    (ChangeSpec.witness6 (enc := enc) (C := Try.checked) false ⟨#[], #[.slice none 0 0], []⟩ 8 (by kernel_rfl) (by kernel_rfl) (by kernel_rfl) (by kernel_rfl)) ?_
  intro W base args ds gs before hval0 hW hcnd hsz0 _
  have hval : ∀ (j : Nat) t v, Try.f3.params[j]? = some t → args[j]? = some v → Value.okWide Try.prog W .any base t v := hval0
  have hsz := fun n hn => of_decide_eq_true (List.all_eq_true.1 hsz0 n hn)
  have hW' := hW
  obtain ⟨p, q, hA0, hV, rfl, hfz, hnd⟩ := hW
  have hA : DataW.TrodAll enc Try.prog W 0 (fun _ => true) true Try.f3.params.toList args.toList ds p := hA0
  rw [Try.params3] at hA hval
  obtain ⟨v0, vs0, d0, ds0, p0, q0, hargs, rfl, rfl, h0, r0⟩ := trodAll_cons hA
  obtain ⟨rfl, rfl, rfl⟩ := trodAll_nil r0
  obtain rfl : args = #[v0] := by cases args; simp_all
  obtain ⟨rfl, rfl⟩ := trodVars_none hV
  have z0 : ∀ n ∈ d0.weights Try.prog 22, n ≤ reachBytes := fun n hn => hsz n (DataW.weights_mem_each (j := 0) rfl rfl n hn)
  obtain ⟨a0, len0, cap0, rfl⟩ := okWide_slice Try.underlying22 (hval 0 22 v0 rfl rfl)
  have k0 := h0
  have lt0 : ∀ x ∈ p0, x.block < W.heap.size := by obtain ⟨m, hm⟩ := k0; exact DataW.trod_lt m _ _ _ hm
  obtain ⟨l0, hl0, hc0, hC0, hf0⟩ : ∃ l : List X.S31, l.length = len0 ∧ len0 ≤ cap0 ∧ Kd.C X.k31 W a0 len0 l ∧ ∀ e ∈ l, X.ActIn e := by
    obtain ⟨fuel, hf⟩ := h0
    obtain ⟨A, len, cap, xs, hcs, hle, hxs, hC, hfit⟩ := X.opens_acts hf
    simp [Value.cells] at hcs
    obtain ⟨rfl, rfl, rfl⟩ := hcs
    exact ⟨xs, hxs, hle, hC, hfit z0⟩
  subst hl0
  clear hA0 hval0
  refine (X.modelAgain.walk a0 cap0 l0 W hC0 hc0 hf0).mono fun e W' ⟨he, bel⟩ => ?_
  subst he
  exact ⟨_, rfl, _, _, _, [], _, [], hW', trodAll_mk1 (shut_bool Try.underlying4 _), (trodAll_cons_mk (Below.trod laidOut (by kernel_rfl) (of_decide_eq_true (by kernel_rfl)) k0 bel lt0) trodAll_mk0), rfl, bel.frame _, fun h => by cases h⟩
theorem over : Rows.modelAgainRow.holds Try.pinned (OpenSpec.ofChange Rows.modelAgainSpec) :=
  OpenClaim.holds_of_wide 3 Try.f3 rfl rfl rfl rfl rfl rfl rfl ⟨rfl, rfl, rfl, rfl, rfl⟩ rfl rfl rfl rfl rfl (by kernel_rfl) Try.func3 (by kernel_rfl)
    (of_decide_eq_true (by kernel_rfl)) (by unfold Func.isWrapper; first | (rw [if_pos (by decide +kernel)]; kernel_rfl) | (rw [if_neg (by decide +kernel)]; exact ⟨rfl, rfl⟩))
    (fun os started H enc _ => lifted os started H enc)
theorem proved : Rows.ModelAgainSaid := over
#print axioms proved
end Go.Proofs.Ytmlgfgmgolgjbaa.modelAgain
namespace Go.Proofs.Ytmlgfgmgolgjbaa
/-- The row, under a short name, for the claim. -/
theorem modelAgain_holds : Rows.ModelAgainSaid := modelAgain.proved
end Go.Proofs.Ytmlgfgmgolgjbaa
