/- The row of the law TreeDrops: for every input it returns true, and the arguments read as they read before (no condition). -/
import Derived.Test.YtopkmchkfcjjmaaRows
import Derived.Test.YtopkmchkfcjjmaaMDrops2
import Derived.Test.YtopkmchkfcjjmaaMDrops5
import Derived.WalkKit
import Derived.ProofKit
import Derived.OpenShut
import Derived.ShutString
import Derived.ChangeOld
import Derived.Below
import Derived.SizedLaws
/-! ## RowDrops -/
namespace Go.Proofs.Ytopkmchkfcjjmaa.X
open Go.RowKit Go.Proofs.YtopkmchkfcjjmaaW.PrintWords Go.Proofs.YtopkmchkfcjjmaaW.PrintLast Go.Proofs.YtopkmchkfcjjmaaW.PrintMore
theorem fits_of {l : List (S31)} (h : ∀ e ∈ l, EntryIn e) : Fits l := fun e he => Nat.lt_of_le_of_lt (h e he).data (by decide)
theorem opens_entry_val {H : Type} {enc : TypeId × Value → H} {W : World} {base : Nat} {spare : Nat → Bool} {held : Bool} {v : Value} (hv : Value.okWide Try.prog W .any base 31 v) {fuel : Nat} {d : DataW H} {p : List MemPlace} (h : DataW.trod enc Try.prog W 0 spare held fuel 31 v.cells.toList = some (d, p)) (hz : ∀ n ∈ d.weights Try.prog 31, n ≤ reachBytes) :
    ∃ (x : S31) (A : Option Addr) (c : Nat), v = .agg #[.string x.f0, .int .i64 x.f1, .int .i64 x.f2, .slice A x.f3.length c, .string x.f4] ∧ x.f3.length ≤ c ∧ Kd.C (Kd.int .u8) W A x.f3.length x.f3 ∧ EntryIn x := by
  obtain ⟨cs, rfl, _⟩ := Go.WideShapes.okWide_struct Try.underlying31 hv
  obtain ⟨x, hK, _, hin⟩ := opens_entry h
  obtain ⟨A, c, hcs, hl, hC⟩ := k31_open hK
  refine ⟨x, A, c, ?_, hl, hC, hin hz⟩
  have h2 : cs.toList = [.string x.f0, .int .i64 x.f1, .int .i64 x.f2, .slice A x.f3.length c, .string x.f4] := hcs
  rw [← Array.toArray_toList (xs := cs), h2]
end Go.Proofs.Ytopkmchkfcjjmaa.X
namespace Go.Proofs.Ytopkmchkfcjjmaa.treeDrops
open Go.ChangeShapes Go.WideShapes Go.ChangeAt Go.RowKit
open Go.ChangeMaps (open_string shut_string)
open Go.Proofs.YtopkmchkfcjjmaaW.PrintWords
set_option linter.unusedVariables false
theorem own : ownKnob Try.prog.godebug = none := by kernel_rfl
theorem laidOut : laidOutB Try.prog = true := by kernel_rfl
set_option maxRecDepth 100000 in
theorem lifted (os : Os) (started : os.Started) (H : Type) (enc : TypeId × Value → H) :
    ReturnsInHanded {} Try.checked os 8 .any (Rows.treeDropsSpec.pre6 enc Try.prog Try.f8 Rows.treeDropsRow.domain false) (Rows.treeDropsSpec.post enc Try.prog Try.f8 false true false false) := by
  refine returnsInHanded_of_change_sized (C := Try.checked) own started (by kernel_rfl) Try.func8
    (ChangeSpec.witness6 (enc := enc) (C := Try.checked) false ⟨#[], #[.slice none 0 0, .int .i64 0, .agg #[.string ByteArray.empty, .int .i64 0, .int .i64 0, .slice none 0 0, .string ByteArray.empty]], []⟩ 8 (by kernel_rfl) (by kernel_rfl) (by kernel_rfl) (by kernel_rfl)) ?_
  intro W base args ds gs before hval0 hW hcnd hsz0 _
  have hval : ∀ (j : Nat) t v, Try.f8.params[j]? = some t → args[j]? = some v → Value.okWide Try.prog W .any base t v := hval0
  have hsz := fun n hn => of_decide_eq_true (List.all_eq_true.1 hsz0 n hn)
  have hW' := hW
  obtain ⟨p, q, hA0, hV, rfl, hfz, hnd⟩ := hW
  have hA : DataW.TrodAll enc Try.prog W 0 (fun _ => true) true Try.f8.params.toList args.toList ds p := hA0
  rw [Try.params8] at hA hval
  obtain ⟨v0, vs0, d0, ds0, p0, q0, hargs, rfl, rfl, h0, r0⟩ := trodAll_cons hA
  obtain ⟨v1, vs1, d1, ds1, p1, q1, rfl, rfl, rfl, h1, r1⟩ := trodAll_cons r0
  obtain ⟨v2, vs2, d2, ds2, p2, q2, rfl, rfl, rfl, h2, r2⟩ := trodAll_cons r1
  obtain ⟨rfl, rfl, rfl⟩ := trodAll_nil r2
  obtain rfl : args = #[v0, v1, v2] := by cases args; simp_all
  obtain ⟨rfl, rfl⟩ := trodVars_none hV
  have z0 : ∀ n ∈ d0.weights Try.prog 22, n ≤ reachBytes := fun n hn => hsz n (DataW.weights_mem_each (j := 0) rfl rfl n hn)
  obtain ⟨a0, len0, cap0, rfl⟩ := okWide_slice Try.underlying22 (hval 0 22 v0 rfl rfl)
  have k0 := h0
  have lt0 : ∀ x ∈ p0, x.block < W.heap.size := by obtain ⟨m, hm⟩ := k0; exact DataW.trod_lt m _ _ _ hm
  obtain ⟨l0, hl0, hc0, hC0, hf0⟩ : ∃ l : List X.S31, l.length = len0 ∧ len0 ≤ cap0 ∧ Kd.C X.k31 W a0 len0 l ∧ ∀ e ∈ l, X.EntryIn e := by
    obtain ⟨fuel, hf⟩ := h0
    obtain ⟨A, len, cap, xs, hcs, hle, _, hxs, hC, _, hfit⟩ := X.opens_entries hf
    simp [Value.cells] at hcs
    obtain ⟨rfl, rfl, rfl⟩ := hcs
    exact ⟨xs, hxs, hle, hC, hfit z0⟩
  subst hl0
  obtain ⟨a1, rfl, rfl, rfl, w1⟩ := open_int Try.underlying3 (hval 1 3 v1 rfl rfl) h1
  have z2 : ∀ n ∈ d2.weights Try.prog 31, n ≤ reachBytes := fun n hn => hsz n (DataW.weights_mem_each (j := 2) rfl rfl n hn)
  have k2 := h2
  have lt2 : ∀ x ∈ p2, x.block < W.heap.size := by obtain ⟨m, hm⟩ := k2; exact DataW.trod_lt m _ _ _ hm
  obtain ⟨x2, A2, c2, rfl, hc2, hC2, hf2⟩ : ∃ (x : X.S31) (A : Option Addr) (c : Nat), v2 = .agg #[.string x.f0, .int .i64 x.f1, .int .i64 x.f2, .slice A x.f3.length c, .string x.f4] ∧ x.f3.length ≤ c ∧ Kd.C (Kd.int .u8) W A x.f3.length x.f3 ∧ X.EntryIn x := by
    obtain ⟨fuel, hf⟩ := h2
    exact X.opens_entry_val (hval 2 31 v2 rfl rfl) hf z2
  clear hA0 hval0
  refine (X.treeDrops.walk a0 cap0 l0 a1 x2.f0 x2.f1 x2.f2 x2.f3 x2.f4 A2 c2 W hC0 hc0 (X.fits_of hf0) w1 hC2 hc2 (Nat.lt_of_le_of_lt hf2.data (by decide))).mono fun e W' ⟨he, bel⟩ => ?_
  subst he
  exact ⟨_, rfl, _, _, _, [], _, [], hW', trodAll_mk1 (shut_bool Try.underlying4 _), (trodAll_cons_mk (Below.trod laidOut (by kernel_rfl) (of_decide_eq_true (by kernel_rfl)) k0 bel lt0) (trodAll_cons_mk (shut_int Try.underlying3 w1) (trodAll_cons_mk (Below.trod laidOut (by kernel_rfl) (of_decide_eq_true (by kernel_rfl)) k2 bel lt2) trodAll_mk0))), rfl, bel.frame _, fun h => by cases h⟩
theorem over : Rows.treeDropsRow.holds Try.pinned (OpenSpec.ofChange Rows.treeDropsSpec) :=
  OpenClaim.holds_of_wide 8 Try.f8 rfl rfl rfl rfl rfl rfl rfl ⟨rfl, rfl, rfl, rfl, rfl⟩ rfl rfl rfl rfl rfl (by kernel_rfl) Try.func8 (by kernel_rfl)
    (of_decide_eq_true (by kernel_rfl)) (by unfold Func.isWrapper; first | (rw [if_pos (by decide +kernel)]; kernel_rfl) | (rw [if_neg (by decide +kernel)]; exact ⟨rfl, rfl⟩))
    (fun os started H enc _ => lifted os started H enc)
theorem proved : Rows.TreeDropsSaid := over
#print axioms proved
end Go.Proofs.Ytopkmchkfcjjmaa.treeDrops
namespace Go.Proofs.Ytopkmchkfcjjmaa
/-- The row, under a short name, for the claim. -/
theorem treeDrops_holds : Rows.TreeDropsSaid := treeDrops.proved
end Go.Proofs.Ytopkmchkfcjjmaa
