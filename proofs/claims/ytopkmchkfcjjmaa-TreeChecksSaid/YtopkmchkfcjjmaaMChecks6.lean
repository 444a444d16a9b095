/- Functions, one behind the other: a plain Lean function for each, and the proof that the call comes to its answer, whatever the world (conditions: what the arguments read as); and plain laws of them. -/
import Derived.Test.YtopkmchkfcjjmaaMChecks2
import Derived.Test.YtopkmchkfcjjmaaMChecks4
import Derived.Test.YtopkmchkfcjjmaaMChecks5
import Derived.Test.YtopkmchkfcjjmaaMChecks3
import Derived.Laws.Entries
/-! ## Satchellaw08Awake -/
section
namespace Go.Proofs.Ytopkmchkfcjjmaa.X
open Go.RowKit Go.Proofs.YtopkmchkfcjjmaaW.PrintWords Go.Proofs.YtopkmchkfcjjmaaW.PrintLast Go.Proofs.YtopkmchkfcjjmaaW.PrintMore
attribute [local go_sem] max2_int min2_int max_two min_two max_three min_three max_four min_four   -- for this text's walks alone
set_option linter.unusedVariables false
set_option linter.unusedSimpArgs false

attribute [local go_sem] str_gtr fld_fault0 fld_fault1
/-! ### satchellaw08_awake: function 10 -/
def satchellaw08_awake.f (k : Nat)  : Option (Bool) := (satchellaw08_sample.f).bind fun t138 => ((tree_Drop.f k t138 (⟨#[97]⟩ : ByteArray)).bind fun bt141 => ((satchellaw08_sample.f).bind fun t145 => ((satchellaw08_fails.f k t145 0 0).bind fun t148 => (if t148 = true then ((satchellaw08_sample.f).bind fun t149 => (if 1 ≤ (t149.length : Int) then ((satchellaw08_fails.f k (t149.drop 1) 6 0).bind fun t157 => (if t157 = true then (if bt141.2 = 0 then ((satchellaw08_sample.f).bind fun t158 => (if 2 ≤ (t158.length : Int) then ((satchelkit_SameTree.f bt141.1 (t158.drop 2)).bind fun t166 => (some t166)) else (none))) else (some false)) else (some false))) else (none))) else (some false)))))
theorem satchellaw08_awake.mono : ∀ k, LeO (satchellaw08_awake.f k ) (satchellaw08_awake.f (k + 1) ) := by
 intro  k
 unfold satchellaw08_awake.f
 repeat' first
   | (with_reducible exact satchellaw08_fails.mono _ _ _ _)
   | (with_reducible exact tree_Drop.mono _ _ _)
   | (with_reducible exact LeO.refl _)
   | (with_reducible exact LeO.none _)
   | (with_reducible refine LeO.ite ?_ ?_)
   | (with_reducible refine LeO.bind ?_ (fun _ => ?_))
   | exact satchellaw08_fails.mono _ _ _ _
   | exact tree_Drop.mono _ _ _
   | exact LeO.none _
   | refine LeO.ite ?_ ?_
   | refine LeO.bind ?_ (fun _ => ?_)
set_option maxHeartbeats 8000000 in
set_option maxRecDepth 100000 in
theorem satchellaw08_awake.calls (k : Nat)  (r : Bool) (w : World) (h : satchellaw08_awake.f k  = some r) :
  Calls Try.prog 10 #[] w fun e w' => e = .returned (.bool r) ∧ Below w.heap.size w w' := by
 have HB := Aside0.mk (Below.refl w.heap.size w)
 have H : ((satchellaw08_sample.f).bind fun t138 => ((tree_Drop.f k t138 (⟨#[97]⟩ : ByteArray)).bind fun bt141 => ((satchellaw08_sample.f).bind fun t145 => ((satchellaw08_fails.f k t145 0 0).bind fun t148 => (if t148 = true then ((satchellaw08_sample.f).bind fun t149 => (if 1 ≤ (t149.length : Int) then ((satchellaw08_fails.f k (t149.drop 1) 6 0).bind fun t157 => (if t157 = true then (if bt141.2 = 0 then ((satchellaw08_sample.f).bind fun t158 => (if 2 ≤ (t158.length : Int) then ((satchelkit_SameTree.f bt141.1 (t158.drop 2)).bind fun t166 => (some t166)) else (none))) else (some false)) else (some false))) else (none))) else (some false)))))) = some r := h
 clear h
 replace H := Option.bind_eq_some_iff.mp H
 obtain ⟨t138, A10, H⟩ := H
 replace H : ((tree_Drop.f k t138 (⟨#[97]⟩ : ByteArray)).bind fun bt141 => ((satchellaw08_sample.f).bind fun t145 => ((satchellaw08_fails.f k t145 0 0).bind fun t148 => (if t148 = true then ((satchellaw08_sample.f).bind fun t149 => (if 1 ≤ (t149.length : Int) then ((satchellaw08_fails.f k (t149.drop 1) 6 0).bind fun t157 => (if t157 = true then (if bt141.2 = 0 then ((satchellaw08_sample.f).bind fun t158 => (if 2 ≤ (t158.length : Int) then ((satchelkit_SameTree.f bt141.1 (t158.drop 2)).bind fun t166 => (some t166)) else (none))) else (some false)) else (some false))) else (none))) else (some false))))) = some r := H
 have A1 := Aside0.mk A10
 clear A10
 replace H := Option.bind_eq_some_iff.mp H
 obtain ⟨⟨t141, t142⟩, A20, H⟩ := H
 replace H : ((satchellaw08_sample.f).bind fun t145 => ((satchellaw08_fails.f k t145 0 0).bind fun t148 => (if t148 = true then ((satchellaw08_sample.f).bind fun t149 => (if 1 ≤ (t149.length : Int) then ((satchellaw08_fails.f k (t149.drop 1) 6 0).bind fun t157 => (if t157 = true then (if t142 = 0 then ((satchellaw08_sample.f).bind fun t158 => (if 2 ≤ (t158.length : Int) then ((satchelkit_SameTree.f t141 (t158.drop 2)).bind fun t166 => (some t166)) else (none))) else (some false)) else (some false))) else (none))) else (some false)))) = some r := H
 have A2 := Aside0.mk A20
 clear A20
 replace H := Option.bind_eq_some_iff.mp H
 obtain ⟨t145, A30, H⟩ := H
 replace H : ((satchellaw08_fails.f k t145 0 0).bind fun t148 => (if t148 = true then ((satchellaw08_sample.f).bind fun t149 => (if 1 ≤ (t149.length : Int) then ((satchellaw08_fails.f k (t149.drop 1) 6 0).bind fun t157 => (if t157 = true then (if t142 = 0 then ((satchellaw08_sample.f).bind fun t158 => (if 2 ≤ (t158.length : Int) then ((satchelkit_SameTree.f t141 (t158.drop 2)).bind fun t166 => (some t166)) else (none))) else (some false)) else (some false))) else (none))) else (some false))) = some r := H
 have A3 := Aside0.mk A30
 clear A30
 replace H := Option.bind_eq_some_iff.mp H
 obtain ⟨t148, A40, H⟩ := H
 replace H : (if t148 = true then ((satchellaw08_sample.f).bind fun t149 => (if 1 ≤ (t149.length : Int) then ((satchellaw08_fails.f k (t149.drop 1) 6 0).bind fun t157 => (if t157 = true then (if t142 = 0 then ((satchellaw08_sample.f).bind fun t158 => (if 2 ≤ (t158.length : Int) then ((satchelkit_SameTree.f t141 (t158.drop 2)).bind fun t166 => (some t166)) else (none))) else (some false)) else (some false))) else (none))) else (some false)) = some r := H
 have A4 := Aside0.mk A40
 clear A40
 by_cases c5 : t148 = true
 ·subst c5
  have H1 : ((satchellaw08_sample.f).bind fun t149 => (if 1 ≤ (t149.length : Int) then ((satchellaw08_fails.f k (t149.drop 1) 6 0).bind fun t157 => (if t157 = true then (if t142 = 0 then ((satchellaw08_sample.f).bind fun t158 => (if 2 ≤ (t158.length : Int) then ((satchelkit_SameTree.f t141 (t158.drop 2)).bind fun t166 => (some t166)) else (none))) else (some false)) else (some false))) else (none))) = some r := by rw [if_pos rfl] at H; exact H
  clear H
  have H := H1
  clear H1
  replace H := Option.bind_eq_some_iff.mp H
  obtain ⟨t149, A60, H⟩ := H
  replace H : (if 1 ≤ (t149.length : Int) then ((satchellaw08_fails.f k (t149.drop 1) 6 0).bind fun t157 => (if t157 = true then (if t142 = 0 then ((satchellaw08_sample.f).bind fun t158 => (if 2 ≤ (t158.length : Int) then ((satchelkit_SameTree.f t141 (t158.drop 2)).bind fun t166 => (some t166)) else (none))) else (some false)) else (some false))) else (none)) = some r := H
  have A6 := Aside0.mk A60
  clear A60
  by_cases c7 : 1 ≤ (t149.length : Int)
  ·rw [if_pos c7] at H
   have c7b0 := eq_true c7
   have c7b1 : decide (1 ≤ (t149.length : Int)) = true := decide_eq_true c7
   clear c7
   obtain ⟨y152, hy152⟩ : ∃ y_ : List (S31), y_ = (t149.drop 1) := ⟨_, rfl⟩
   replace H : ((satchellaw08_fails.f k y152 6 0).bind fun t157 => (if t157 = true then (if t142 = 0 then ((satchellaw08_sample.f).bind fun t158 => (if 2 ≤ (t158.length : Int) then ((satchelkit_SameTree.f t141 (t158.drop 2)).bind fun t166 => (some t166)) else (none))) else (some false)) else (some false))) = some r := by first | (rw [hy152]; with_reducible exact H) | (have H2_ := (Option.bind_some _ _).symm.trans H; rw [hy152]; with_reducible exact H2_) | (have H2_ := (Option.bind_some _ _).symm.trans H; with_reducible exact H2_) | with_reducible exact H | (rw [hy152]; exact H) | exact H
   have Ny152 := Aside0.mk hy152
   clear hy152
   replace H := Option.bind_eq_some_iff.mp H
   obtain ⟨t157, A80, H⟩ := H
   replace H : (if t157 = true then (if t142 = 0 then ((satchellaw08_sample.f).bind fun t158 => (if 2 ≤ (t158.length : Int) then ((satchelkit_SameTree.f t141 (t158.drop 2)).bind fun t166 => (some t166)) else (none))) else (some false)) else (some false)) = some r := H
   have A8 := Aside0.mk A80
   clear A80
   by_cases c9 : t157 = true
   ·subst c9
    have H1 : (if t142 = 0 then ((satchellaw08_sample.f).bind fun t158 => (if 2 ≤ (t158.length : Int) then ((satchelkit_SameTree.f t141 (t158.drop 2)).bind fun t166 => (some t166)) else (none))) else (some false)) = some r := by rw [if_pos rfl] at H; exact H
    clear H
    have H := H1
    clear H1
    by_cases c10 : t142 = 0
    ·rw [if_pos c10] at H
     have c10b0 : (t142 == 0) = true := beq_iff_eq.mpr c10
     have c10b1 : (t142 != 0) = false := bne_eq_false_iff_eq.mpr c10
     clear c10
     replace H := Option.bind_eq_some_iff.mp H
     obtain ⟨t158, A110, H⟩ := H
     replace H : (if 2 ≤ (t158.length : Int) then ((satchelkit_SameTree.f t141 (t158.drop 2)).bind fun t166 => (some t166)) else (none)) = some r := H
     have A11 := Aside0.mk A110
     clear A110
     by_cases c12 : 2 ≤ (t158.length : Int)
     ·rw [if_pos c12] at H
      have c12b0 := eq_true c12
      have c12b1 : decide (2 ≤ (t158.length : Int)) = true := decide_eq_true c12
      clear c12
      obtain ⟨y161, hy161⟩ : ∃ y_ : List (S31), y_ = (t158.drop 2) := ⟨_, rfl⟩
      replace H : ((satchelkit_SameTree.f t141 y161).bind fun t166 => (some t166)) = some r := by first | (rw [hy161]; with_reducible exact H) | (have H2_ := (Option.bind_some _ _).symm.trans H; rw [hy161]; with_reducible exact H2_) | (have H2_ := (Option.bind_some _ _).symm.trans H; with_reducible exact H2_) | with_reducible exact H | (rw [hy161]; exact H) | exact H
      have Ny161 := Aside0.mk hy161
      clear hy161
      replace H := Option.bind_eq_some_iff.mp H
      obtain ⟨t166, A130, H⟩ := H
      replace H : (some t166) = some r := H
      have A13 := Aside0.mk A130
      clear A130
      obtain rfl := Option.some.inj H
      go_enter Try.func10, Try.ntmps10
      go_wp2_with (first | ((with_reducible refine gate_callee (f := 35) rfl ?_); refine goesL_ (some 4) rfl rfl Try.func35 (by kernel_rfl) rfl #[] rfl (by (try simp only [List.map_toArray, List.map_cons, List.map_nil]); first | done | rfl | (simp only [List.length_drop, List.length_take]; rfl)) ?_; (with_reducible refine (satchellaw08_sample.calls  t138 _ A1.out).mono ?_); rintro e w14 ⟨v139, rfl, ho0, hb⟩; clear A1; refine ⟨_, rfl, ?_⟩; have n0_ := Aside0.mk (Kd.N_lower (Kd.N_mono (ok' := fun k_ => True) ho0 (fun k_ hk_ => trivial)) (below_size (by repeat (first | (with_reducible first | exact HB.out | apply below_alloc | apply pw_below_drewN | apply below_drew1) | exact HB.out)))); have n1_ := Aside0.mk (below_step (by repeat (first | (with_reducible first | exact HB.out | apply below_alloc | apply pw_below_drewN | apply below_drew1) | exact HB.out)) hb); clear HB; have HO140 := n0_; have HB := n1_; clear n0_ n1_; (try clear hb); (try clear hb2); (try clear hk); (try clear hi); (try clear ho0); obtain ⟨Ao15, co15, eo15⟩ := Kd.N_slice HO140.out; subst eo15) | ((with_reducible refine gate_callee (f := 32) rfl ?_); refine goesL_ (some 5) rfl rfl Try.func32 (by kernel_rfl) rfl #[.slice Ao15 t138.length co15, .string (⟨#[97]⟩ : ByteArray)] rfl (by (try simp only [List.map_toArray, List.map_cons, List.map_nil]); first | done | rfl | (simp only [List.length_drop, List.length_take]; rfl)) ?_; (with_reducible refine (tree_Drop.calls k _ _ t138 (⟨#[97]⟩ : ByteArray) t141 t142 _ ?side1 ?side2 A2.out).mono ?_); (case side1 => repeat (first | exact (Kd.N_reads' HO140.out).2.2 | (with_reducible refine Kd.C_alloc ?_ _) | (with_reducible refine Kd.C_drewN ?_ _) | (with_reducible refine Kd.C_drew ?_))); (case side2 => exact (Kd.N_reads' HO140.out).2.1); rintro e w16 ⟨v143, rfl, ho0, hb⟩; refine ⟨_, rfl, ?_⟩; have n0_ := Aside0.mk (Kd.N_elder' (by (with_reducible repeat (first | apply Kd.N_alloc | apply Kd.N_drewN | apply Kd.N_drew)); exact HO140.out) (by first | exact Kd.N_base ho0 | exact Kd.S_base ho0) hb); have n1_ := Aside0.mk (Kd.N_lower (Kd.N_mono (ok' := fun k_ => some k_ ≠ (.slice Ao15 t138.length co15 : Value).ownBlock) (Kd.S_N (Kd.S_bound ho0)) (fun k_ hk_ => (Kd.fresh' (Kd.N_lt (by (with_reducible repeat (first | apply Kd.N_alloc | apply Kd.N_drewN | apply Kd.N_drew)); exact HO140.out)) k_ hk_.2.1))) (below_size (by repeat (first | (with_reducible first | exact HB.out | apply below_alloc | apply pw_below_drewN | apply below_drew1) | exact HB.out)))); have n2_ := Aside0.mk (below_step (by repeat (first | (with_reducible first | exact HB.out | apply below_alloc | apply pw_below_drewN | apply below_drew1) | exact HB.out)) hb); clear HO140; clear HB; have HO140 := n0_; have HO144 := n1_; have HB := n2_; clear n0_ n1_ n2_; (try clear hb); (try clear hb2); (try clear hk); (try clear hi); (try clear ho0)) | ((with_reducible refine gate_callee (f := 35) rfl ?_); refine goesL_ (some 8) rfl rfl Try.func35 (by kernel_rfl) rfl #[] rfl (by (try simp only [List.map_toArray, List.map_cons, List.map_nil]); first | done | rfl | (simp only [List.length_drop, List.length_take]; rfl)) ?_; (with_reducible refine (satchellaw08_sample.calls  t145 _ A3.out).mono ?_); rintro e w17 ⟨v146, rfl, ho0, hb⟩; clear A3; refine ⟨_, rfl, ?_⟩; have n0_ := Aside0.mk (Kd.N_elder' (by (with_reducible repeat (first | apply Kd.N_alloc | apply Kd.N_drewN | apply Kd.N_drew)); exact HO140.out) (by first | exact Kd.N_base ho0 | exact Kd.S_base ho0) hb); have n1_ := Aside0.mk (Kd.N_elder' (by (with_reducible repeat (first | apply Kd.N_alloc | apply Kd.N_drewN | apply Kd.N_drew)); exact HO144.out) (by first | exact Kd.N_base ho0 | exact Kd.S_base ho0) hb); have n2_ := Aside0.mk (Kd.N_lower (Kd.N_mono (ok' := fun k_ => some k_ ≠ (.slice Ao15 t138.length co15 : Value).ownBlock ∧ some k_ ≠ (v143 : Value).ownBlock) ho0 (fun k_ hk_ => ⟨(Kd.fresh' (Kd.N_lt (by (with_reducible repeat (first | apply Kd.N_alloc | apply Kd.N_drewN | apply Kd.N_drew)); exact HO140.out)) k_ hk_), (Kd.fresh' (Kd.N_lt (by (with_reducible repeat (first | apply Kd.N_alloc | apply Kd.N_drewN | apply Kd.N_drew)); exact HO144.out)) k_ hk_)⟩)) (below_size (by repeat (first | (with_reducible first | exact HB.out | apply below_alloc | apply pw_below_drewN | apply below_drew1) | exact HB.out)))); have n3_ := Aside0.mk (below_step (by repeat (first | (with_reducible first | exact HB.out | apply below_alloc | apply pw_below_drewN | apply below_drew1) | exact HB.out)) hb); clear HO140; clear HO144; clear HB; have HO140 := n0_; have HO144 := n1_; have HO147 := n2_; have HB := n3_; clear n0_ n1_ n2_ n3_; (try clear hb); (try clear hb2); (try clear hk); (try clear hi); (try clear ho0); obtain ⟨Ao18, co18, eo18⟩ := Kd.N_slice HO147.out; subst eo18) | ((with_reducible refine gate_callee (f := 36) rfl ?_); refine goesL_ (some 9) rfl rfl Try.func36 (by kernel_rfl) rfl #[.slice Ao18 t145.length co18, .int .i64 0, .int .i64 0] rfl (by (try simp only [List.map_toArray, List.map_cons, List.map_nil]); first | done | rfl | (simp only [List.length_drop, List.length_take]; rfl)) ?_; (with_reducible refine (satchellaw08_fails.calls k _ _ t145 0 0 true _ ?side1 ?side2 A4.out).mono ?_); (case side1 => repeat (first | exact (Kd.N_reads' HO147.out).2.2 | (with_reducible refine Kd.C_alloc ?_ _) | (with_reducible refine Kd.C_drewN ?_ _) | (with_reducible refine Kd.C_drew ?_))); (case side2 => exact (Kd.N_reads' HO147.out).2.1); rintro e w19 ⟨rfl, hb⟩; refine ⟨_, rfl, ?_⟩; have n0_ := Aside0.mk (Kd.N_below (by (with_reducible repeat (first | apply Kd.N_alloc | apply Kd.N_drewN | apply Kd.N_drew)); exact HO140.out) hb); have n1_ := Aside0.mk (Kd.N_below (by (with_reducible repeat (first | apply Kd.N_alloc | apply Kd.N_drewN | apply Kd.N_drew)); exact HO144.out) hb); have n2_ := Aside0.mk (Kd.N_below (by (with_reducible repeat (first | apply Kd.N_alloc | apply Kd.N_drewN | apply Kd.N_drew)); exact HO147.out) hb); have n3_ := Aside0.mk (below_step (by repeat (first | (with_reducible first | exact HB.out | apply below_alloc | apply pw_below_drewN | apply below_drew1) | exact HB.out)) hb); clear HO140; clear HO144; clear HO147; clear HB; have HO140 := n0_; have HO144 := n1_; have HO147 := n2_; have HB := n3_; clear n0_ n1_ n2_ n3_; (try clear hb); (try clear hb2); (try clear hk); (try clear hi)) | (go_at_call 35; (with_reducible refine (satchellaw08_sample.calls  t149 _ A6.out).mono ?_); rintro e w20 ⟨v150, rfl, ho0, hb⟩; clear A6; have n0_ := Aside0.mk (Kd.N_elder' (by (with_reducible repeat (first | apply Kd.N_alloc | apply Kd.N_drewN | apply Kd.N_drew)); exact HO140.out) (by first | exact Kd.N_base ho0 | exact Kd.S_base ho0) hb); have n1_ := Aside0.mk (Kd.N_elder' (by (with_reducible repeat (first | apply Kd.N_alloc | apply Kd.N_drewN | apply Kd.N_drew)); exact HO144.out) (by first | exact Kd.N_base ho0 | exact Kd.S_base ho0) hb); have n2_ := Aside0.mk (Kd.N_elder' (by (with_reducible repeat (first | apply Kd.N_alloc | apply Kd.N_drewN | apply Kd.N_drew)); exact HO147.out) (by first | exact Kd.N_base ho0 | exact Kd.S_base ho0) hb); have n3_ := Aside0.mk (Kd.N_lower (Kd.N_mono (ok' := fun k_ => some k_ ≠ (.slice Ao15 t138.length co15 : Value).ownBlock ∧ some k_ ≠ (v143 : Value).ownBlock ∧ some k_ ≠ (.slice Ao18 t145.length co18 : Value).ownBlock) ho0 (fun k_ hk_ => ⟨(Kd.fresh' (Kd.N_lt (by (with_reducible repeat (first | apply Kd.N_alloc | apply Kd.N_drewN | apply Kd.N_drew)); exact HO140.out)) k_ hk_), (Kd.fresh' (Kd.N_lt (by (with_reducible repeat (first | apply Kd.N_alloc | apply Kd.N_drewN | apply Kd.N_drew)); exact HO144.out)) k_ hk_), (Kd.fresh' (Kd.N_lt (by (with_reducible repeat (first | apply Kd.N_alloc | apply Kd.N_drewN | apply Kd.N_drew)); exact HO147.out)) k_ hk_)⟩)) (below_size (by repeat (first | (with_reducible first | exact HB.out | apply below_alloc | apply pw_below_drewN | apply below_drew1) | exact HB.out)))); have n4_ := Aside0.mk (below_step (by repeat (first | (with_reducible first | exact HB.out | apply below_alloc | apply pw_below_drewN | apply below_drew1) | exact HB.out)) hb); clear HO140; clear HO144; clear HO147; clear HB; have HO140 := n0_; have HO144 := n1_; have HO147 := n2_; have HO151 := n3_; have HB := n4_; clear n0_ n1_ n2_ n3_ n4_; (try clear hb); (try clear hb2); (try clear hk); (try clear hi); (try clear ho0); obtain ⟨Ao22, co22, eo22⟩ := Kd.N_slice HO151.out; subst eo22; have q21 : (1 : Int) ≤ ((t149.length : Int) : Int) := of_decide_eq_true (by first | (with_reducible assumption) | assumption); obtain ⟨i021, hi021, _, hsz21, _⟩ := info_parts info31; have hroom21 : t149.length ≤ co22 := (Kd.N_reads' HO151.out).2.1; have hC21 : Kd.F k31 _ _ Ao22 t149.length t149 := (Kd.V_at (base := w.heap.size) (Kd.N_V HO151.out)).2.2; have hcut21 := cut_from (P := Try.prog) 22 31 .i64 Try.underlying22 hi021 5 hsz21 Ao22 t149.length co22 1 (by omega) q21; have hr21 := Kd.F_cut (m := (1 : Int).toNat) (c := co22) hC21 (by omega) hroom21; obtain ⟨A21, hA21⟩ : ∃ A1, A1 = (if co22 = (1 : Int).toNat then Ao22 else (Ao22 : Option Addr).map (·.add ((1 : Int).toNat * 5))) := ⟨_, rfl⟩; obtain ⟨c21, hc21⟩ : ∃ c1, c1 = co22 - (1 : Int).toNat := ⟨_, rfl⟩; have hy21 : y152.length = t149.length - (1 : Int).toNat := (by rw [Ny152.out, List.length_drop] <;> omega); rw [show (t149).drop (1 : Int).toNat = y152 from Ny152.out.symm] at hr21; replace hr21 : Kd.F k31 _ _ A21 y152.length y152 := (by rw [hA21]; exact hr21); rw [← hy21, ← hA21, ← hc21] at hcut21; have HO156 := Aside0.mk (show Kd.V k31 31 _ w.heap.size _ (.slice A21 y152.length c21) y152 from Kd.V_mk (by rw [hy21, hc21]; exact Nat.sub_le_sub_right hroom21 _) hr21); have HC156 := Aside0.mk (show y152.length ≤ c21 from by rw [hy21, hc21]; exact Nat.sub_le_sub_right hroom21 _); clear hr21 hC21 hroom21 hi021 hsz21 hc21; have KY21 := Aside0.mk hy21; have KA21 := Aside0.mk hA21; clear hy21 hA21; replace q21 := eq_true q21) | (go_at_call 36; (with_reducible refine (satchellaw08_fails.calls k _ _ y152 6 0 true _ ?side1 ?side2 A8.out).mono ?_); (case side1 => repeat (first | exact (Kd.V_reads' HO156.out).2.2 | (with_reducible refine Kd.C_alloc ?_ _) | (with_reducible refine Kd.C_drewN ?_ _) | (with_reducible refine Kd.C_drew ?_))); (case side2 => exact (Kd.V_reads' HO156.out).2.1); rintro e w23 ⟨rfl, hb⟩; have n0_ := Aside0.mk (Kd.N_below (by (with_reducible repeat (first | apply Kd.N_alloc | apply Kd.N_drewN | apply Kd.N_drew)); exact HO140.out) hb); have n1_ := Aside0.mk (Kd.N_below (by (with_reducible repeat (first | apply Kd.N_alloc | apply Kd.N_drewN | apply Kd.N_drew)); exact HO144.out) hb); have n2_ := Aside0.mk (Kd.N_below (by (with_reducible repeat (first | apply Kd.N_alloc | apply Kd.N_drewN | apply Kd.N_drew)); exact HO147.out) hb); have n3_ := Aside0.mk (Kd.N_below (by (with_reducible repeat (first | apply Kd.N_alloc | apply Kd.N_drewN | apply Kd.N_drew)); exact HO151.out) hb); have n4_ := Aside0.mk (Kd.V_below (by (with_reducible repeat (first | apply Kd.V_alloc | apply Kd.V_drewN | apply Kd.V_drew)); exact HO156.out) hb); have n5_ := Aside0.mk (below_step (by repeat (first | (with_reducible first | exact HB.out | apply below_alloc | apply pw_below_drewN | apply below_drew1) | exact HB.out)) hb); clear HO140; clear HO144; clear HO147; clear HO151; clear HO156; clear HB; have HO140 := n0_; have HO144 := n1_; have HO147 := n2_; have HO151 := n3_; have HO156 := n4_; have HB := n5_; clear n0_ n1_ n2_ n3_ n4_ n5_; (try clear hb); (try clear hb2); (try clear hk); (try clear hi)) | (go_at_call 35; (with_reducible refine (satchellaw08_sample.calls  t158 _ A11.out).mono ?_); rintro e w24 ⟨v159, rfl, ho0, hb⟩; clear A11; have n0_ := Aside0.mk (Kd.N_elder' (by (with_reducible repeat (first | apply Kd.N_alloc | apply Kd.N_drewN | apply Kd.N_drew)); exact HO140.out) (by first | exact Kd.N_base ho0 | exact Kd.S_base ho0) hb); have n1_ := Aside0.mk (Kd.N_elder' (by (with_reducible repeat (first | apply Kd.N_alloc | apply Kd.N_drewN | apply Kd.N_drew)); exact HO144.out) (by first | exact Kd.N_base ho0 | exact Kd.S_base ho0) hb); have n2_ := Aside0.mk (Kd.N_elder' (by (with_reducible repeat (first | apply Kd.N_alloc | apply Kd.N_drewN | apply Kd.N_drew)); exact HO147.out) (by first | exact Kd.N_base ho0 | exact Kd.S_base ho0) hb); have n3_ := Aside0.mk (Kd.N_elder' (by (with_reducible repeat (first | apply Kd.N_alloc | apply Kd.N_drewN | apply Kd.N_drew)); exact HO151.out) (by first | exact Kd.N_base ho0 | exact Kd.S_base ho0) hb); have n4_ := Aside0.mk (Kd.V_elder' (by (with_reducible repeat (first | apply Kd.V_alloc | apply Kd.V_drewN | apply Kd.V_drew)); exact HO156.out) (by first | exact Kd.N_base ho0 | exact Kd.S_base ho0) hb); have n5_ := Aside0.mk (Kd.N_lower (Kd.N_mono (ok' := fun k_ => some k_ ≠ (.slice Ao15 t138.length co15 : Value).ownBlock ∧ some k_ ≠ (v143 : Value).ownBlock ∧ some k_ ≠ (.slice Ao18 t145.length co18 : Value).ownBlock ∧ some k_ ≠ (.slice Ao22 t149.length co22 : Value).ownBlock) ho0 (fun k_ hk_ => ⟨(Kd.fresh' (Kd.N_lt (by (with_reducible repeat (first | apply Kd.N_alloc | apply Kd.N_drewN | apply Kd.N_drew)); exact HO140.out)) k_ hk_), (Kd.fresh' (Kd.N_lt (by (with_reducible repeat (first | apply Kd.N_alloc | apply Kd.N_drewN | apply Kd.N_drew)); exact HO144.out)) k_ hk_), (Kd.fresh' (Kd.N_lt (by (with_reducible repeat (first | apply Kd.N_alloc | apply Kd.N_drewN | apply Kd.N_drew)); exact HO147.out)) k_ hk_), (Kd.fresh' (Kd.N_lt (by (with_reducible repeat (first | apply Kd.N_alloc | apply Kd.N_drewN | apply Kd.N_drew)); exact HO151.out)) k_ hk_)⟩)) (below_size (by repeat (first | (with_reducible first | exact HB.out | apply below_alloc | apply pw_below_drewN | apply below_drew1) | exact HB.out)))); have n6_ := Aside0.mk (below_step (by repeat (first | (with_reducible first | exact HB.out | apply below_alloc | apply pw_below_drewN | apply below_drew1) | exact HB.out)) hb); clear HO140; clear HO144; clear HO147; clear HO151; clear HO156; clear HB; have HO140 := n0_; have HO144 := n1_; have HO147 := n2_; have HO151 := n3_; have HO156 := n4_; have HO160 := n5_; have HB := n6_; clear n0_ n1_ n2_ n3_ n4_ n5_ n6_; (try clear hb); (try clear hb2); (try clear hk); (try clear hi); (try clear ho0); obtain ⟨Ao26, co26, eo26⟩ := Kd.N_slice HO160.out; subst eo26; have q25 : (2 : Int) ≤ ((t158.length : Int) : Int) := of_decide_eq_true (by first | (with_reducible assumption) | assumption); obtain ⟨i025, hi025, _, hsz25, _⟩ := info_parts info31; have hroom25 : t158.length ≤ co26 := (Kd.N_reads' HO160.out).2.1; have hC25 : Kd.F k31 _ _ Ao26 t158.length t158 := (Kd.V_at (base := w.heap.size) (Kd.N_V HO160.out)).2.2; have hcut25 := cut_from (P := Try.prog) 22 31 .i64 Try.underlying22 hi025 5 hsz25 Ao26 t158.length co26 2 (by omega) q25; have hr25 := Kd.F_cut (m := (2 : Int).toNat) (c := co26) hC25 (by omega) hroom25; obtain ⟨A25, hA25⟩ : ∃ A1, A1 = (if co26 = (2 : Int).toNat then Ao26 else (Ao26 : Option Addr).map (·.add ((2 : Int).toNat * 5))) := ⟨_, rfl⟩; obtain ⟨c25, hc25⟩ : ∃ c1, c1 = co26 - (2 : Int).toNat := ⟨_, rfl⟩; have hy25 : y161.length = t158.length - (2 : Int).toNat := (by rw [Ny161.out, List.length_drop] <;> omega); rw [show (t158).drop (2 : Int).toNat = y161 from Ny161.out.symm] at hr25; replace hr25 : Kd.F k31 _ _ A25 y161.length y161 := (by rw [hA25]; exact hr25); rw [← hy25, ← hA25, ← hc25] at hcut25; have HO165 := Aside0.mk (show Kd.V k31 31 _ w.heap.size _ (.slice A25 y161.length c25) y161 from Kd.V_mk (by rw [hy25, hc25]; exact Nat.sub_le_sub_right hroom25 _) hr25); have HC165 := Aside0.mk (show y161.length ≤ c25 from by rw [hy25, hc25]; exact Nat.sub_le_sub_right hroom25 _); clear hr25 hC25 hroom25 hi025 hsz25 hc25; have KY25 := Aside0.mk hy25; have KA25 := Aside0.mk hA25; clear hy25 hA25; replace q25 := eq_true q25; obtain ⟨Ao27, co27, eo27⟩ := Kd.N_slice HO144.out; subst eo27) | (go_at_call 16; (with_reducible refine (satchelkit_SameTree.calls _ _ t141 _ _ y161 t166 _ ?side1 ?side2 ?side3 ?side4 A13.out).mono ?_); (case side1 => repeat (first | exact (Kd.N_reads' HO144.out).2.2 | (with_reducible refine Kd.C_alloc ?_ _) | (with_reducible refine Kd.C_drewN ?_ _) | (with_reducible refine Kd.C_drew ?_))); (case side2 => exact (Kd.N_reads' HO144.out).2.1); (case side3 => repeat (first | exact (Kd.V_reads' HO165.out).2.2 | (with_reducible refine Kd.C_alloc ?_ _) | (with_reducible refine Kd.C_drewN ?_ _) | (with_reducible refine Kd.C_drew ?_))); (case side4 => exact (Kd.V_reads' HO165.out).2.1); rintro e w' ⟨rfl, ⟨nd, rfl⟩⟩))
      go_ret
      exact ⟨by first | rfl | (simp [errW_none, errW_some] <;> rfl) | (simp [*, errW_none, errW_some] <;> rfl) | (simp [bt, *]; done) | (simp_all [bt]; done), by repeat (first | (with_reducible first | exact HB.out | apply below_alloc | apply pw_below_drewN | apply below_drew1) | exact HB.out)⟩
     ·rw [if_neg c12] at H
      exact absurd H (by simp)
    ·rw [if_neg c10] at H
     have c10b0 : (t142 == 0) = false := beq_eq_false_iff_ne.mpr c10
     have c10b1 : (t142 != 0) = true := bne_iff_ne.mpr c10
     obtain rfl := Option.some.inj H
     go_enter Try.func10, Try.ntmps10
     go_wp2_with (first | ((with_reducible refine gate_callee (f := 35) rfl ?_); refine goesL_ (some 4) rfl rfl Try.func35 (by kernel_rfl) rfl #[] rfl (by (try simp only [List.map_toArray, List.map_cons, List.map_nil]); first | done | rfl | (simp only [List.length_drop, List.length_take]; rfl)) ?_; (with_reducible refine (satchellaw08_sample.calls  t138 _ A1.out).mono ?_); rintro e w28 ⟨v139, rfl, ho0, hb⟩; clear A1; refine ⟨_, rfl, ?_⟩; have n0_ := Aside0.mk (Kd.N_lower (Kd.N_mono (ok' := fun k_ => True) ho0 (fun k_ hk_ => trivial)) (below_size (by repeat (first | (with_reducible first | exact HB.out | apply below_alloc | apply pw_below_drewN | apply below_drew1) | exact HB.out)))); have n1_ := Aside0.mk (below_step (by repeat (first | (with_reducible first | exact HB.out | apply below_alloc | apply pw_below_drewN | apply below_drew1) | exact HB.out)) hb); clear HB; have HO140 := n0_; have HB := n1_; clear n0_ n1_; (try clear hb); (try clear hb2); (try clear hk); (try clear hi); (try clear ho0); obtain ⟨Ao29, co29, eo29⟩ := Kd.N_slice HO140.out; subst eo29) | ((with_reducible refine gate_callee (f := 32) rfl ?_); refine goesL_ (some 5) rfl rfl Try.func32 (by kernel_rfl) rfl #[.slice Ao29 t138.length co29, .string (⟨#[97]⟩ : ByteArray)] rfl (by (try simp only [List.map_toArray, List.map_cons, List.map_nil]); first | done | rfl | (simp only [List.length_drop, List.length_take]; rfl)) ?_; (with_reducible refine (tree_Drop.calls k _ _ t138 (⟨#[97]⟩ : ByteArray) t141 t142 _ ?side1 ?side2 A2.out).mono ?_); (case side1 => repeat (first | exact (Kd.N_reads' HO140.out).2.2 | (with_reducible refine Kd.C_alloc ?_ _) | (with_reducible refine Kd.C_drewN ?_ _) | (with_reducible refine Kd.C_drew ?_))); (case side2 => exact (Kd.N_reads' HO140.out).2.1); rintro e w30 ⟨v143, rfl, ho0, hb⟩; refine ⟨_, rfl, ?_⟩; have n0_ := Aside0.mk (Kd.N_elder' (by (with_reducible repeat (first | apply Kd.N_alloc | apply Kd.N_drewN | apply Kd.N_drew)); exact HO140.out) (by first | exact Kd.N_base ho0 | exact Kd.S_base ho0) hb); have n1_ := Aside0.mk (Kd.N_lower (Kd.N_mono (ok' := fun k_ => some k_ ≠ (.slice Ao29 t138.length co29 : Value).ownBlock) (Kd.S_N (Kd.S_bound ho0)) (fun k_ hk_ => (Kd.fresh' (Kd.N_lt (by (with_reducible repeat (first | apply Kd.N_alloc | apply Kd.N_drewN | apply Kd.N_drew)); exact HO140.out)) k_ hk_.2.1))) (below_size (by repeat (first | (with_reducible first | exact HB.out | apply below_alloc | apply pw_below_drewN | apply below_drew1) | exact HB.out)))); have n2_ := Aside0.mk (below_step (by repeat (first | (with_reducible first | exact HB.out | apply below_alloc | apply pw_below_drewN | apply below_drew1) | exact HB.out)) hb); clear HO140; clear HB; have HO140 := n0_; have HO144 := n1_; have HB := n2_; clear n0_ n1_ n2_; (try clear hb); (try clear hb2); (try clear hk); (try clear hi); (try clear ho0)) | ((with_reducible refine gate_callee (f := 35) rfl ?_); refine goesL_ (some 8) rfl rfl Try.func35 (by kernel_rfl) rfl #[] rfl (by (try simp only [List.map_toArray, List.map_cons, List.map_nil]); first | done | rfl | (simp only [List.length_drop, List.length_take]; rfl)) ?_; (with_reducible refine (satchellaw08_sample.calls  t145 _ A3.out).mono ?_); rintro e w31 ⟨v146, rfl, ho0, hb⟩; clear A3; refine ⟨_, rfl, ?_⟩; have n0_ := Aside0.mk (Kd.N_elder' (by (with_reducible repeat (first | apply Kd.N_alloc | apply Kd.N_drewN | apply Kd.N_drew)); exact HO140.out) (by first | exact Kd.N_base ho0 | exact Kd.S_base ho0) hb); have n1_ := Aside0.mk (Kd.N_elder' (by (with_reducible repeat (first | apply Kd.N_alloc | apply Kd.N_drewN | apply Kd.N_drew)); exact HO144.out) (by first | exact Kd.N_base ho0 | exact Kd.S_base ho0) hb); have n2_ := Aside0.mk (Kd.N_lower (Kd.N_mono (ok' := fun k_ => some k_ ≠ (.slice Ao29 t138.length co29 : Value).ownBlock ∧ some k_ ≠ (v143 : Value).ownBlock) ho0 (fun k_ hk_ => ⟨(Kd.fresh' (Kd.N_lt (by (with_reducible repeat (first | apply Kd.N_alloc | apply Kd.N_drewN | apply Kd.N_drew)); exact HO140.out)) k_ hk_), (Kd.fresh' (Kd.N_lt (by (with_reducible repeat (first | apply Kd.N_alloc | apply Kd.N_drewN | apply Kd.N_drew)); exact HO144.out)) k_ hk_)⟩)) (below_size (by repeat (first | (with_reducible first | exact HB.out | apply below_alloc | apply pw_below_drewN | apply below_drew1) | exact HB.out)))); have n3_ := Aside0.mk (below_step (by repeat (first | (with_reducible first | exact HB.out | apply below_alloc | apply pw_below_drewN | apply below_drew1) | exact HB.out)) hb); clear HO140; clear HO144; clear HB; have HO140 := n0_; have HO144 := n1_; have HO147 := n2_; have HB := n3_; clear n0_ n1_ n2_ n3_; (try clear hb); (try clear hb2); (try clear hk); (try clear hi); (try clear ho0); obtain ⟨Ao32, co32, eo32⟩ := Kd.N_slice HO147.out; subst eo32) | ((with_reducible refine gate_callee (f := 36) rfl ?_); refine goesL_ (some 9) rfl rfl Try.func36 (by kernel_rfl) rfl #[.slice Ao32 t145.length co32, .int .i64 0, .int .i64 0] rfl (by (try simp only [List.map_toArray, List.map_cons, List.map_nil]); first | done | rfl | (simp only [List.length_drop, List.length_take]; rfl)) ?_; (with_reducible refine (satchellaw08_fails.calls k _ _ t145 0 0 true _ ?side1 ?side2 A4.out).mono ?_); (case side1 => repeat (first | exact (Kd.N_reads' HO147.out).2.2 | (with_reducible refine Kd.C_alloc ?_ _) | (with_reducible refine Kd.C_drewN ?_ _) | (with_reducible refine Kd.C_drew ?_))); (case side2 => exact (Kd.N_reads' HO147.out).2.1); rintro e w33 ⟨rfl, hb⟩; refine ⟨_, rfl, ?_⟩; have n0_ := Aside0.mk (Kd.N_below (by (with_reducible repeat (first | apply Kd.N_alloc | apply Kd.N_drewN | apply Kd.N_drew)); exact HO140.out) hb); have n1_ := Aside0.mk (Kd.N_below (by (with_reducible repeat (first | apply Kd.N_alloc | apply Kd.N_drewN | apply Kd.N_drew)); exact HO144.out) hb); have n2_ := Aside0.mk (Kd.N_below (by (with_reducible repeat (first | apply Kd.N_alloc | apply Kd.N_drewN | apply Kd.N_drew)); exact HO147.out) hb); have n3_ := Aside0.mk (below_step (by repeat (first | (with_reducible first | exact HB.out | apply below_alloc | apply pw_below_drewN | apply below_drew1) | exact HB.out)) hb); clear HO140; clear HO144; clear HO147; clear HB; have HO140 := n0_; have HO144 := n1_; have HO147 := n2_; have HB := n3_; clear n0_ n1_ n2_ n3_; (try clear hb); (try clear hb2); (try clear hk); (try clear hi)) | (go_at_call 35; (with_reducible refine (satchellaw08_sample.calls  t149 _ A6.out).mono ?_); rintro e w34 ⟨v150, rfl, ho0, hb⟩; clear A6; have n0_ := Aside0.mk (Kd.N_elder' (by (with_reducible repeat (first | apply Kd.N_alloc | apply Kd.N_drewN | apply Kd.N_drew)); exact HO140.out) (by first | exact Kd.N_base ho0 | exact Kd.S_base ho0) hb); have n1_ := Aside0.mk (Kd.N_elder' (by (with_reducible repeat (first | apply Kd.N_alloc | apply Kd.N_drewN | apply Kd.N_drew)); exact HO144.out) (by first | exact Kd.N_base ho0 | exact Kd.S_base ho0) hb); have n2_ := Aside0.mk (Kd.N_elder' (by (with_reducible repeat (first | apply Kd.N_alloc | apply Kd.N_drewN | apply Kd.N_drew)); exact HO147.out) (by first | exact Kd.N_base ho0 | exact Kd.S_base ho0) hb); have n3_ := Aside0.mk (Kd.N_lower (Kd.N_mono (ok' := fun k_ => some k_ ≠ (.slice Ao29 t138.length co29 : Value).ownBlock ∧ some k_ ≠ (v143 : Value).ownBlock ∧ some k_ ≠ (.slice Ao32 t145.length co32 : Value).ownBlock) ho0 (fun k_ hk_ => ⟨(Kd.fresh' (Kd.N_lt (by (with_reducible repeat (first | apply Kd.N_alloc | apply Kd.N_drewN | apply Kd.N_drew)); exact HO140.out)) k_ hk_), (Kd.fresh' (Kd.N_lt (by (with_reducible repeat (first | apply Kd.N_alloc | apply Kd.N_drewN | apply Kd.N_drew)); exact HO144.out)) k_ hk_), (Kd.fresh' (Kd.N_lt (by (with_reducible repeat (first | apply Kd.N_alloc | apply Kd.N_drewN | apply Kd.N_drew)); exact HO147.out)) k_ hk_)⟩)) (below_size (by repeat (first | (with_reducible first | exact HB.out | apply below_alloc | apply pw_below_drewN | apply below_drew1) | exact HB.out)))); have n4_ := Aside0.mk (below_step (by repeat (first | (with_reducible first | exact HB.out | apply below_alloc | apply pw_below_drewN | apply below_drew1) | exact HB.out)) hb); clear HO140; clear HO144; clear HO147; clear HB; have HO140 := n0_; have HO144 := n1_; have HO147 := n2_; have HO151 := n3_; have HB := n4_; clear n0_ n1_ n2_ n3_ n4_; (try clear hb); (try clear hb2); (try clear hk); (try clear hi); (try clear ho0); obtain ⟨Ao36, co36, eo36⟩ := Kd.N_slice HO151.out; subst eo36; have q35 : (1 : Int) ≤ ((t149.length : Int) : Int) := of_decide_eq_true (by first | (with_reducible assumption) | assumption); obtain ⟨i035, hi035, _, hsz35, _⟩ := info_parts info31; have hroom35 : t149.length ≤ co36 := (Kd.N_reads' HO151.out).2.1; have hC35 : Kd.F k31 _ _ Ao36 t149.length t149 := (Kd.V_at (base := w.heap.size) (Kd.N_V HO151.out)).2.2; have hcut35 := cut_from (P := Try.prog) 22 31 .i64 Try.underlying22 hi035 5 hsz35 Ao36 t149.length co36 1 (by omega) q35; have hr35 := Kd.F_cut (m := (1 : Int).toNat) (c := co36) hC35 (by omega) hroom35; obtain ⟨A35, hA35⟩ : ∃ A1, A1 = (if co36 = (1 : Int).toNat then Ao36 else (Ao36 : Option Addr).map (·.add ((1 : Int).toNat * 5))) := ⟨_, rfl⟩; obtain ⟨c35, hc35⟩ : ∃ c1, c1 = co36 - (1 : Int).toNat := ⟨_, rfl⟩; have hy35 : y152.length = t149.length - (1 : Int).toNat := (by rw [Ny152.out, List.length_drop] <;> omega); rw [show (t149).drop (1 : Int).toNat = y152 from Ny152.out.symm] at hr35; replace hr35 : Kd.F k31 _ _ A35 y152.length y152 := (by rw [hA35]; exact hr35); rw [← hy35, ← hA35, ← hc35] at hcut35; have HO156 := Aside0.mk (show Kd.V k31 31 _ w.heap.size _ (.slice A35 y152.length c35) y152 from Kd.V_mk (by rw [hy35, hc35]; exact Nat.sub_le_sub_right hroom35 _) hr35); have HC156 := Aside0.mk (show y152.length ≤ c35 from by rw [hy35, hc35]; exact Nat.sub_le_sub_right hroom35 _); clear hr35 hC35 hroom35 hi035 hsz35 hc35; have KY35 := Aside0.mk hy35; have KA35 := Aside0.mk hA35; clear hy35 hA35; replace q35 := eq_true q35) | (go_at_call 36; (with_reducible refine (satchellaw08_fails.calls k _ _ y152 6 0 true _ ?side1 ?side2 A8.out).mono ?_); (case side1 => repeat (first | exact (Kd.V_reads' HO156.out).2.2 | (with_reducible refine Kd.C_alloc ?_ _) | (with_reducible refine Kd.C_drewN ?_ _) | (with_reducible refine Kd.C_drew ?_))); (case side2 => exact (Kd.V_reads' HO156.out).2.1); rintro e w37 ⟨rfl, hb⟩; have n0_ := Aside0.mk (Kd.N_below (by (with_reducible repeat (first | apply Kd.N_alloc | apply Kd.N_drewN | apply Kd.N_drew)); exact HO140.out) hb); have n1_ := Aside0.mk (Kd.N_below (by (with_reducible repeat (first | apply Kd.N_alloc | apply Kd.N_drewN | apply Kd.N_drew)); exact HO144.out) hb); have n2_ := Aside0.mk (Kd.N_below (by (with_reducible repeat (first | apply Kd.N_alloc | apply Kd.N_drewN | apply Kd.N_drew)); exact HO147.out) hb); have n3_ := Aside0.mk (Kd.N_below (by (with_reducible repeat (first | apply Kd.N_alloc | apply Kd.N_drewN | apply Kd.N_drew)); exact HO151.out) hb); have n4_ := Aside0.mk (Kd.V_below (by (with_reducible repeat (first | apply Kd.V_alloc | apply Kd.V_drewN | apply Kd.V_drew)); exact HO156.out) hb); have n5_ := Aside0.mk (below_step (by repeat (first | (with_reducible first | exact HB.out | apply below_alloc | apply pw_below_drewN | apply below_drew1) | exact HB.out)) hb); clear HO140; clear HO144; clear HO147; clear HO151; clear HO156; clear HB; have HO140 := n0_; have HO144 := n1_; have HO147 := n2_; have HO151 := n3_; have HO156 := n4_; have HB := n5_; clear n0_ n1_ n2_ n3_ n4_ n5_; (try clear hb); (try clear hb2); (try clear hk); (try clear hi)))
     go_ret
     exact ⟨by first | rfl | (simp [errW_none, errW_some] <;> rfl) | (simp [*, errW_none, errW_some] <;> rfl) | (simp [bt, *]; done) | (simp_all [bt]; done), by repeat (first | (with_reducible first | exact HB.out | apply below_alloc | apply pw_below_drewN | apply below_drew1) | exact HB.out)⟩
   ·replace c9 := Bool.eq_false_iff.mpr c9
    subst c9
    have H1 : (some false) = some r := by rw [if_neg (show ¬ (false = true) by decide)] at H; exact H
    clear H
    have H := H1
    clear H1
    obtain rfl := Option.some.inj H
    go_enter Try.func10, Try.ntmps10
    go_wp2_with (first | ((with_reducible refine gate_callee (f := 35) rfl ?_); refine goesL_ (some 4) rfl rfl Try.func35 (by kernel_rfl) rfl #[] rfl (by (try simp only [List.map_toArray, List.map_cons, List.map_nil]); first | done | rfl | (simp only [List.length_drop, List.length_take]; rfl)) ?_; (with_reducible refine (satchellaw08_sample.calls  t138 _ A1.out).mono ?_); rintro e w38 ⟨v139, rfl, ho0, hb⟩; clear A1; refine ⟨_, rfl, ?_⟩; have n0_ := Aside0.mk (Kd.N_lower (Kd.N_mono (ok' := fun k_ => True) ho0 (fun k_ hk_ => trivial)) (below_size (by repeat (first | (with_reducible first | exact HB.out | apply below_alloc | apply pw_below_drewN | apply below_drew1) | exact HB.out)))); have n1_ := Aside0.mk (below_step (by repeat (first | (with_reducible first | exact HB.out | apply below_alloc | apply pw_below_drewN | apply below_drew1) | exact HB.out)) hb); clear HB; have HO140 := n0_; have HB := n1_; clear n0_ n1_; (try clear hb); (try clear hb2); (try clear hk); (try clear hi); (try clear ho0); obtain ⟨Ao39, co39, eo39⟩ := Kd.N_slice HO140.out; subst eo39) | ((with_reducible refine gate_callee (f := 32) rfl ?_); refine goesL_ (some 5) rfl rfl Try.func32 (by kernel_rfl) rfl #[.slice Ao39 t138.length co39, .string (⟨#[97]⟩ : ByteArray)] rfl (by (try simp only [List.map_toArray, List.map_cons, List.map_nil]); first | done | rfl | (simp only [List.length_drop, List.length_take]; rfl)) ?_; (with_reducible refine (tree_Drop.calls k _ _ t138 (⟨#[97]⟩ : ByteArray) t141 t142 _ ?side1 ?side2 A2.out).mono ?_); (case side1 => repeat (first | exact (Kd.N_reads' HO140.out).2.2 | (with_reducible refine Kd.C_alloc ?_ _) | (with_reducible refine Kd.C_drewN ?_ _) | (with_reducible refine Kd.C_drew ?_))); (case side2 => exact (Kd.N_reads' HO140.out).2.1); rintro e w40 ⟨v143, rfl, ho0, hb⟩; refine ⟨_, rfl, ?_⟩; have n0_ := Aside0.mk (Kd.N_elder' (by (with_reducible repeat (first | apply Kd.N_alloc | apply Kd.N_drewN | apply Kd.N_drew)); exact HO140.out) (by first | exact Kd.N_base ho0 | exact Kd.S_base ho0) hb); have n1_ := Aside0.mk (Kd.N_lower (Kd.N_mono (ok' := fun k_ => some k_ ≠ (.slice Ao39 t138.length co39 : Value).ownBlock) (Kd.S_N (Kd.S_bound ho0)) (fun k_ hk_ => (Kd.fresh' (Kd.N_lt (by (with_reducible repeat (first | apply Kd.N_alloc | apply Kd.N_drewN | apply Kd.N_drew)); exact HO140.out)) k_ hk_.2.1))) (below_size (by repeat (first | (with_reducible first | exact HB.out | apply below_alloc | apply pw_below_drewN | apply below_drew1) | exact HB.out)))); have n2_ := Aside0.mk (below_step (by repeat (first | (with_reducible first | exact HB.out | apply below_alloc | apply pw_below_drewN | apply below_drew1) | exact HB.out)) hb); clear HO140; clear HB; have HO140 := n0_; have HO144 := n1_; have HB := n2_; clear n0_ n1_ n2_; (try clear hb); (try clear hb2); (try clear hk); (try clear hi); (try clear ho0)) | ((with_reducible refine gate_callee (f := 35) rfl ?_); refine goesL_ (some 8) rfl rfl Try.func35 (by kernel_rfl) rfl #[] rfl (by (try simp only [List.map_toArray, List.map_cons, List.map_nil]); first | done | rfl | (simp only [List.length_drop, List.length_take]; rfl)) ?_; (with_reducible refine (satchellaw08_sample.calls  t145 _ A3.out).mono ?_); rintro e w41 ⟨v146, rfl, ho0, hb⟩; clear A3; refine ⟨_, rfl, ?_⟩; have n0_ := Aside0.mk (Kd.N_elder' (by (with_reducible repeat (first | apply Kd.N_alloc | apply Kd.N_drewN | apply Kd.N_drew)); exact HO140.out) (by first | exact Kd.N_base ho0 | exact Kd.S_base ho0) hb); have n1_ := Aside0.mk (Kd.N_elder' (by (with_reducible repeat (first | apply Kd.N_alloc | apply Kd.N_drewN | apply Kd.N_drew)); exact HO144.out) (by first | exact Kd.N_base ho0 | exact Kd.S_base ho0) hb); have n2_ := Aside0.mk (Kd.N_lower (Kd.N_mono (ok' := fun k_ => some k_ ≠ (.slice Ao39 t138.length co39 : Value).ownBlock ∧ some k_ ≠ (v143 : Value).ownBlock) ho0 (fun k_ hk_ => ⟨(Kd.fresh' (Kd.N_lt (by (with_reducible repeat (first | apply Kd.N_alloc | apply Kd.N_drewN | apply Kd.N_drew)); exact HO140.out)) k_ hk_), (Kd.fresh' (Kd.N_lt (by (with_reducible repeat (first | apply Kd.N_alloc | apply Kd.N_drewN | apply Kd.N_drew)); exact HO144.out)) k_ hk_)⟩)) (below_size (by repeat (first | (with_reducible first | exact HB.out | apply below_alloc | apply pw_below_drewN | apply below_drew1) | exact HB.out)))); have n3_ := Aside0.mk (below_step (by repeat (first | (with_reducible first | exact HB.out | apply below_alloc | apply pw_below_drewN | apply below_drew1) | exact HB.out)) hb); clear HO140; clear HO144; clear HB; have HO140 := n0_; have HO144 := n1_; have HO147 := n2_; have HB := n3_; clear n0_ n1_ n2_ n3_; (try clear hb); (try clear hb2); (try clear hk); (try clear hi); (try clear ho0); obtain ⟨Ao42, co42, eo42⟩ := Kd.N_slice HO147.out; subst eo42) | ((with_reducible refine gate_callee (f := 36) rfl ?_); refine goesL_ (some 9) rfl rfl Try.func36 (by kernel_rfl) rfl #[.slice Ao42 t145.length co42, .int .i64 0, .int .i64 0] rfl (by (try simp only [List.map_toArray, List.map_cons, List.map_nil]); first | done | rfl | (simp only [List.length_drop, List.length_take]; rfl)) ?_; (with_reducible refine (satchellaw08_fails.calls k _ _ t145 0 0 true _ ?side1 ?side2 A4.out).mono ?_); (case side1 => repeat (first | exact (Kd.N_reads' HO147.out).2.2 | (with_reducible refine Kd.C_alloc ?_ _) | (with_reducible refine Kd.C_drewN ?_ _) | (with_reducible refine Kd.C_drew ?_))); (case side2 => exact (Kd.N_reads' HO147.out).2.1); rintro e w43 ⟨rfl, hb⟩; refine ⟨_, rfl, ?_⟩; have n0_ := Aside0.mk (Kd.N_below (by (with_reducible repeat (first | apply Kd.N_alloc | apply Kd.N_drewN | apply Kd.N_drew)); exact HO140.out) hb); have n1_ := Aside0.mk (Kd.N_below (by (with_reducible repeat (first | apply Kd.N_alloc | apply Kd.N_drewN | apply Kd.N_drew)); exact HO144.out) hb); have n2_ := Aside0.mk (Kd.N_below (by (with_reducible repeat (first | apply Kd.N_alloc | apply Kd.N_drewN | apply Kd.N_drew)); exact HO147.out) hb); have n3_ := Aside0.mk (below_step (by repeat (first | (with_reducible first | exact HB.out | apply below_alloc | apply pw_below_drewN | apply below_drew1) | exact HB.out)) hb); clear HO140; clear HO144; clear HO147; clear HB; have HO140 := n0_; have HO144 := n1_; have HO147 := n2_; have HB := n3_; clear n0_ n1_ n2_ n3_; (try clear hb); (try clear hb2); (try clear hk); (try clear hi)) | (go_at_call 35; (with_reducible refine (satchellaw08_sample.calls  t149 _ A6.out).mono ?_); rintro e w44 ⟨v150, rfl, ho0, hb⟩; clear A6; have n0_ := Aside0.mk (Kd.N_elder' (by (with_reducible repeat (first | apply Kd.N_alloc | apply Kd.N_drewN | apply Kd.N_drew)); exact HO140.out) (by first | exact Kd.N_base ho0 | exact Kd.S_base ho0) hb); have n1_ := Aside0.mk (Kd.N_elder' (by (with_reducible repeat (first | apply Kd.N_alloc | apply Kd.N_drewN | apply Kd.N_drew)); exact HO144.out) (by first | exact Kd.N_base ho0 | exact Kd.S_base ho0) hb); have n2_ := Aside0.mk (Kd.N_elder' (by (with_reducible repeat (first | apply Kd.N_alloc | apply Kd.N_drewN | apply Kd.N_drew)); exact HO147.out) (by first | exact Kd.N_base ho0 | exact Kd.S_base ho0) hb); have n3_ := Aside0.mk (Kd.N_lower (Kd.N_mono (ok' := fun k_ => some k_ ≠ (.slice Ao39 t138.length co39 : Value).ownBlock ∧ some k_ ≠ (v143 : Value).ownBlock ∧ some k_ ≠ (.slice Ao42 t145.length co42 : Value).ownBlock) ho0 (fun k_ hk_ => ⟨(Kd.fresh' (Kd.N_lt (by (with_reducible repeat (first | apply Kd.N_alloc | apply Kd.N_drewN | apply Kd.N_drew)); exact HO140.out)) k_ hk_), (Kd.fresh' (Kd.N_lt (by (with_reducible repeat (first | apply Kd.N_alloc | apply Kd.N_drewN | apply Kd.N_drew)); exact HO144.out)) k_ hk_), (Kd.fresh' (Kd.N_lt (by (with_reducible repeat (first | apply Kd.N_alloc | apply Kd.N_drewN | apply Kd.N_drew)); exact HO147.out)) k_ hk_)⟩)) (below_size (by repeat (first | (with_reducible first | exact HB.out | apply below_alloc | apply pw_below_drewN | apply below_drew1) | exact HB.out)))); have n4_ := Aside0.mk (below_step (by repeat (first | (with_reducible first | exact HB.out | apply below_alloc | apply pw_below_drewN | apply below_drew1) | exact HB.out)) hb); clear HO140; clear HO144; clear HO147; clear HB; have HO140 := n0_; have HO144 := n1_; have HO147 := n2_; have HO151 := n3_; have HB := n4_; clear n0_ n1_ n2_ n3_ n4_; (try clear hb); (try clear hb2); (try clear hk); (try clear hi); (try clear ho0); obtain ⟨Ao46, co46, eo46⟩ := Kd.N_slice HO151.out; subst eo46; have q45 : (1 : Int) ≤ ((t149.length : Int) : Int) := of_decide_eq_true (by first | (with_reducible assumption) | assumption); obtain ⟨i045, hi045, _, hsz45, _⟩ := info_parts info31; have hroom45 : t149.length ≤ co46 := (Kd.N_reads' HO151.out).2.1; have hC45 : Kd.F k31 _ _ Ao46 t149.length t149 := (Kd.V_at (base := w.heap.size) (Kd.N_V HO151.out)).2.2; have hcut45 := cut_from (P := Try.prog) 22 31 .i64 Try.underlying22 hi045 5 hsz45 Ao46 t149.length co46 1 (by omega) q45; have hr45 := Kd.F_cut (m := (1 : Int).toNat) (c := co46) hC45 (by omega) hroom45; obtain ⟨A45, hA45⟩ : ∃ A1, A1 = (if co46 = (1 : Int).toNat then Ao46 else (Ao46 : Option Addr).map (·.add ((1 : Int).toNat * 5))) := ⟨_, rfl⟩; obtain ⟨c45, hc45⟩ : ∃ c1, c1 = co46 - (1 : Int).toNat := ⟨_, rfl⟩; have hy45 : y152.length = t149.length - (1 : Int).toNat := (by rw [Ny152.out, List.length_drop] <;> omega); rw [show (t149).drop (1 : Int).toNat = y152 from Ny152.out.symm] at hr45; replace hr45 : Kd.F k31 _ _ A45 y152.length y152 := (by rw [hA45]; exact hr45); rw [← hy45, ← hA45, ← hc45] at hcut45; have HO156 := Aside0.mk (show Kd.V k31 31 _ w.heap.size _ (.slice A45 y152.length c45) y152 from Kd.V_mk (by rw [hy45, hc45]; exact Nat.sub_le_sub_right hroom45 _) hr45); have HC156 := Aside0.mk (show y152.length ≤ c45 from by rw [hy45, hc45]; exact Nat.sub_le_sub_right hroom45 _); clear hr45 hC45 hroom45 hi045 hsz45 hc45; have KY45 := Aside0.mk hy45; have KA45 := Aside0.mk hA45; clear hy45 hA45; replace q45 := eq_true q45) | (go_at_call 36; (with_reducible refine (satchellaw08_fails.calls k _ _ y152 6 0 false _ ?side1 ?side2 A8.out).mono ?_); (case side1 => repeat (first | exact (Kd.V_reads' HO156.out).2.2 | (with_reducible refine Kd.C_alloc ?_ _) | (with_reducible refine Kd.C_drewN ?_ _) | (with_reducible refine Kd.C_drew ?_))); (case side2 => exact (Kd.V_reads' HO156.out).2.1); rintro e w47 ⟨rfl, hb⟩; have n0_ := Aside0.mk (Kd.N_below (by (with_reducible repeat (first | apply Kd.N_alloc | apply Kd.N_drewN | apply Kd.N_drew)); exact HO140.out) hb); have n1_ := Aside0.mk (Kd.N_below (by (with_reducible repeat (first | apply Kd.N_alloc | apply Kd.N_drewN | apply Kd.N_drew)); exact HO144.out) hb); have n2_ := Aside0.mk (Kd.N_below (by (with_reducible repeat (first | apply Kd.N_alloc | apply Kd.N_drewN | apply Kd.N_drew)); exact HO147.out) hb); have n3_ := Aside0.mk (Kd.N_below (by (with_reducible repeat (first | apply Kd.N_alloc | apply Kd.N_drewN | apply Kd.N_drew)); exact HO151.out) hb); have n4_ := Aside0.mk (Kd.V_below (by (with_reducible repeat (first | apply Kd.V_alloc | apply Kd.V_drewN | apply Kd.V_drew)); exact HO156.out) hb); have n5_ := Aside0.mk (below_step (by repeat (first | (with_reducible first | exact HB.out | apply below_alloc | apply pw_below_drewN | apply below_drew1) | exact HB.out)) hb); clear HO140; clear HO144; clear HO147; clear HO151; clear HO156; clear HB; have HO140 := n0_; have HO144 := n1_; have HO147 := n2_; have HO151 := n3_; have HO156 := n4_; have HB := n5_; clear n0_ n1_ n2_ n3_ n4_ n5_; (try clear hb); (try clear hb2); (try clear hk); (try clear hi)))
    go_ret
    exact ⟨by first | rfl | (simp [errW_none, errW_some] <;> rfl) | (simp [*, errW_none, errW_some] <;> rfl) | (simp [bt, *]; done) | (simp_all [bt]; done), by repeat (first | (with_reducible first | exact HB.out | apply below_alloc | apply pw_below_drewN | apply below_drew1) | exact HB.out)⟩
  ·rw [if_neg c7] at H
   exact absurd H (by simp)
 ·replace c5 := Bool.eq_false_iff.mpr c5
  subst c5
  have H1 : (some false) = some r := by rw [if_neg (show ¬ (false = true) by decide)] at H; exact H
  clear H
  have H := H1
  clear H1
  obtain rfl := Option.some.inj H
  go_enter Try.func10, Try.ntmps10
  go_wp2_with (first | ((with_reducible refine gate_callee (f := 35) rfl ?_); refine goesL_ (some 4) rfl rfl Try.func35 (by kernel_rfl) rfl #[] rfl (by (try simp only [List.map_toArray, List.map_cons, List.map_nil]); first | done | rfl | (simp only [List.length_drop, List.length_take]; rfl)) ?_; (with_reducible refine (satchellaw08_sample.calls  t138 _ A1.out).mono ?_); rintro e w48 ⟨v139, rfl, ho0, hb⟩; clear A1; refine ⟨_, rfl, ?_⟩; have n0_ := Aside0.mk (Kd.N_lower (Kd.N_mono (ok' := fun k_ => True) ho0 (fun k_ hk_ => trivial)) (below_size (by repeat (first | (with_reducible first | exact HB.out | apply below_alloc | apply pw_below_drewN | apply below_drew1) | exact HB.out)))); have n1_ := Aside0.mk (below_step (by repeat (first | (with_reducible first | exact HB.out | apply below_alloc | apply pw_below_drewN | apply below_drew1) | exact HB.out)) hb); clear HB; have HO140 := n0_; have HB := n1_; clear n0_ n1_; (try clear hb); (try clear hb2); (try clear hk); (try clear hi); (try clear ho0); obtain ⟨Ao49, co49, eo49⟩ := Kd.N_slice HO140.out; subst eo49) | ((with_reducible refine gate_callee (f := 32) rfl ?_); refine goesL_ (some 5) rfl rfl Try.func32 (by kernel_rfl) rfl #[.slice Ao49 t138.length co49, .string (⟨#[97]⟩ : ByteArray)] rfl (by (try simp only [List.map_toArray, List.map_cons, List.map_nil]); first | done | rfl | (simp only [List.length_drop, List.length_take]; rfl)) ?_; (with_reducible refine (tree_Drop.calls k _ _ t138 (⟨#[97]⟩ : ByteArray) t141 t142 _ ?side1 ?side2 A2.out).mono ?_); (case side1 => repeat (first | exact (Kd.N_reads' HO140.out).2.2 | (with_reducible refine Kd.C_alloc ?_ _) | (with_reducible refine Kd.C_drewN ?_ _) | (with_reducible refine Kd.C_drew ?_))); (case side2 => exact (Kd.N_reads' HO140.out).2.1); rintro e w50 ⟨v143, rfl, ho0, hb⟩; refine ⟨_, rfl, ?_⟩; have n0_ := Aside0.mk (Kd.N_elder' (by (with_reducible repeat (first | apply Kd.N_alloc | apply Kd.N_drewN | apply Kd.N_drew)); exact HO140.out) (by first | exact Kd.N_base ho0 | exact Kd.S_base ho0) hb); have n1_ := Aside0.mk (Kd.N_lower (Kd.N_mono (ok' := fun k_ => some k_ ≠ (.slice Ao49 t138.length co49 : Value).ownBlock) (Kd.S_N (Kd.S_bound ho0)) (fun k_ hk_ => (Kd.fresh' (Kd.N_lt (by (with_reducible repeat (first | apply Kd.N_alloc | apply Kd.N_drewN | apply Kd.N_drew)); exact HO140.out)) k_ hk_.2.1))) (below_size (by repeat (first | (with_reducible first | exact HB.out | apply below_alloc | apply pw_below_drewN | apply below_drew1) | exact HB.out)))); have n2_ := Aside0.mk (below_step (by repeat (first | (with_reducible first | exact HB.out | apply below_alloc | apply pw_below_drewN | apply below_drew1) | exact HB.out)) hb); clear HO140; clear HB; have HO140 := n0_; have HO144 := n1_; have HB := n2_; clear n0_ n1_ n2_; (try clear hb); (try clear hb2); (try clear hk); (try clear hi); (try clear ho0)) | ((with_reducible refine gate_callee (f := 35) rfl ?_); refine goesL_ (some 8) rfl rfl Try.func35 (by kernel_rfl) rfl #[] rfl (by (try simp only [List.map_toArray, List.map_cons, List.map_nil]); first | done | rfl | (simp only [List.length_drop, List.length_take]; rfl)) ?_; (with_reducible refine (satchellaw08_sample.calls  t145 _ A3.out).mono ?_); rintro e w51 ⟨v146, rfl, ho0, hb⟩; clear A3; refine ⟨_, rfl, ?_⟩; have n0_ := Aside0.mk (Kd.N_elder' (by (with_reducible repeat (first | apply Kd.N_alloc | apply Kd.N_drewN | apply Kd.N_drew)); exact HO140.out) (by first | exact Kd.N_base ho0 | exact Kd.S_base ho0) hb); have n1_ := Aside0.mk (Kd.N_elder' (by (with_reducible repeat (first | apply Kd.N_alloc | apply Kd.N_drewN | apply Kd.N_drew)); exact HO144.out) (by first | exact Kd.N_base ho0 | exact Kd.S_base ho0) hb); have n2_ := Aside0.mk (Kd.N_lower (Kd.N_mono (ok' := fun k_ => some k_ ≠ (.slice Ao49 t138.length co49 : Value).ownBlock ∧ some k_ ≠ (v143 : Value).ownBlock) ho0 (fun k_ hk_ => ⟨(Kd.fresh' (Kd.N_lt (by (with_reducible repeat (first | apply Kd.N_alloc | apply Kd.N_drewN | apply Kd.N_drew)); exact HO140.out)) k_ hk_), (Kd.fresh' (Kd.N_lt (by (with_reducible repeat (first | apply Kd.N_alloc | apply Kd.N_drewN | apply Kd.N_drew)); exact HO144.out)) k_ hk_)⟩)) (below_size (by repeat (first | (with_reducible first | exact HB.out | apply below_alloc | apply pw_below_drewN | apply below_drew1) | exact HB.out)))); have n3_ := Aside0.mk (below_step (by repeat (first | (with_reducible first | exact HB.out | apply below_alloc | apply pw_below_drewN | apply below_drew1) | exact HB.out)) hb); clear HO140; clear HO144; clear HB; have HO140 := n0_; have HO144 := n1_; have HO147 := n2_; have HB := n3_; clear n0_ n1_ n2_ n3_; (try clear hb); (try clear hb2); (try clear hk); (try clear hi); (try clear ho0); obtain ⟨Ao52, co52, eo52⟩ := Kd.N_slice HO147.out; subst eo52) | ((with_reducible refine gate_callee (f := 36) rfl ?_); refine goesL_ (some 9) rfl rfl Try.func36 (by kernel_rfl) rfl #[.slice Ao52 t145.length co52, .int .i64 0, .int .i64 0] rfl (by (try simp only [List.map_toArray, List.map_cons, List.map_nil]); first | done | rfl | (simp only [List.length_drop, List.length_take]; rfl)) ?_; (with_reducible refine (satchellaw08_fails.calls k _ _ t145 0 0 false _ ?side1 ?side2 A4.out).mono ?_); (case side1 => repeat (first | exact (Kd.N_reads' HO147.out).2.2 | (with_reducible refine Kd.C_alloc ?_ _) | (with_reducible refine Kd.C_drewN ?_ _) | (with_reducible refine Kd.C_drew ?_))); (case side2 => exact (Kd.N_reads' HO147.out).2.1); rintro e w53 ⟨rfl, hb⟩; refine ⟨_, rfl, ?_⟩; have n0_ := Aside0.mk (Kd.N_below (by (with_reducible repeat (first | apply Kd.N_alloc | apply Kd.N_drewN | apply Kd.N_drew)); exact HO140.out) hb); have n1_ := Aside0.mk (Kd.N_below (by (with_reducible repeat (first | apply Kd.N_alloc | apply Kd.N_drewN | apply Kd.N_drew)); exact HO144.out) hb); have n2_ := Aside0.mk (Kd.N_below (by (with_reducible repeat (first | apply Kd.N_alloc | apply Kd.N_drewN | apply Kd.N_drew)); exact HO147.out) hb); have n3_ := Aside0.mk (below_step (by repeat (first | (with_reducible first | exact HB.out | apply below_alloc | apply pw_below_drewN | apply below_drew1) | exact HB.out)) hb); clear HO140; clear HO144; clear HO147; clear HB; have HO140 := n0_; have HO144 := n1_; have HO147 := n2_; have HB := n3_; clear n0_ n1_ n2_ n3_; (try clear hb); (try clear hb2); (try clear hk); (try clear hi)))
  go_ret
  exact ⟨by first | rfl | (simp [errW_none, errW_some] <;> rfl) | (simp [*, errW_none, errW_some] <;> rfl) | (simp [bt, *]; done) | (simp_all [bt]; done), by repeat (first | (with_reducible first | exact HB.out | apply below_alloc | apply pw_below_drewN | apply below_drew1) | exact HB.out)⟩

end Go.Proofs.Ytopkmchkfcjjmaa.X
end

/-! ## PureG -/
section
namespace Go.Proofs.Ytopkmchkfcjjmaa.X
open Go.RowKit Go.Proofs.YtopkmchkfcjjmaaW.PrintWords Go.Proofs.YtopkmchkfcjjmaaW.PrintLast Go.Proofs.YtopkmchkfcjjmaaW.PrintMore
set_option linter.unusedVariables false
set_option linter.unusedSimpArgs false
theorem awake_ev : Ev (fun k => satchellaw08_awake.f k) true := Ev.of_mono satchellaw08_awake.mono (K := 30) (by kernel_rfl)
theorem alikeE_is (x y : S31) : alikeE x y = some (sameEntry x y) := by
 unfold alikeE tree_alike.f sameEntry bytes_Equal.f sameBytes
 cases h0 : (x.f0.toList == y.f0.toList) <;> cases h1 : (x.f1 == y.f1) <;> cases h2 : (x.f2 == y.f2) <;> cases h4 : (x.f4.toList == y.f4.toList) <;> simp
theorem likeE_is (x y : S31) : likeE x y = some (sameEntry x y) := by
 unfold likeE satchelref08_Like.f sameEntry sameBytes
 by_cases h0 : x.f0.toList = y.f0.toList
 ·rw [if_pos h0]
  by_cases h1 : x.f1 = y.f1
  ·rw [if_pos h1]
   by_cases h2 : x.f2 = y.f2
   ·rw [if_pos h2]
    by_cases h3 : (strOfNums x.f3).toList = (strOfNums y.f3).toList
    ·rw [if_pos h3]; simp [h0, h1, h2, h3]
    ·rw [if_neg h3]; simp [h3]
   ·rw [if_neg h2]; simp [h2]
  ·rw [if_neg h1]; simp [h1]
 ·rw [if_neg h0]; simp [h0]
theorem sameEntry_path {x y : S31} (h : sameEntry x y = true) : x.f0 = y.f0 := by
 unfold sameEntry at h
 simp only [Bool.and_eq_true, beq_iff_eq] at h
 exact bytes_ext h.1
/-! ### Rising lists of entries -/
def Up (l : List (S31)) : Prop := l.Pairwise fun x y => cmpV x.f0 y.f0 < 0
theorem Rising.up {l : List (S31)} (h : Rising l) : Up l := by
 refine List.pairwise_iff_getElem.2 fun i j hi hj hij => ?_
 have := h i j hij hj
 rw [rd_at l i hi, rd_at l j hj] at this
 exact this
theorem Good.Up {l : List (S31)} (h : Good l) : Up l := h.rising.up
def hasP (a : List (S31)) (s : ByteArray) : Bool := a.any fun x => decide (x.f0 = s)
def addedV (a b : List (S31)) : List ByteArray := (b.filter fun y => !hasP a y.f0).map fun y => y.f0
def turnedE (a : List (S31)) (y : S31) : Bool := a.any fun x => decide (x.f0 = y.f0) && !sameEntry x y
def changedV (a b : List (S31)) : List ByteArray := (b.filter (turnedE a)).map fun y => y.f0
theorem hasP_cons (x : S31) (a : List (S31)) (s : ByteArray) : hasP (x :: a) s = (decide (x.f0 = s) || hasP a s) := rfl
theorem turnedE_cons (x : S31) (a : List (S31)) (y : S31) : turnedE (x :: a) y = ((decide (x.f0 = y.f0) && !sameEntry x y) || turnedE a y) := rfl
theorem turnedE_none {a : List (S31)} {y : S31} (h : hasP a y.f0 = false) : turnedE a y = false := by
 induction a with
 | nil => rfl
 | cons x a ih =>
  rw [hasP_cons, Bool.or_eq_false_iff] at h
  rw [turnedE_cons, h.1, ih h.2]
  rfl
theorem addedV_cons (a : List (S31)) (y : S31) (b : List (S31)) : addedV a (y :: b) = if hasP a y.f0 = true then addedV a b else y.f0 :: addedV a b := by
 unfold addedV
 rw [List.filter_cons]
 cases hasP a y.f0 <;> simp
theorem changedV_cons (a : List (S31)) (y : S31) (b : List (S31)) : changedV a (y :: b) = if turnedE a y = true then y.f0 :: changedV a b else changedV a b := by
 unfold changedV
 rw [List.filter_cons]
 cases turnedE a y <;> simp
/-- A path that is met in none of them turns nothing. -/
theorem addedV_skip {x : S31} {a b : List (S31)} (h : ∀ y ∈ b, x.f0 ≠ y.f0) : addedV (x :: a) b = addedV a b := by
 unfold addedV
 congr 1
 refine List.filter_congr fun y hy => ?_
 rw [hasP_cons, decide_eq_false (h y hy), Bool.false_or]
theorem changedV_skip {x : S31} {a b : List (S31)} (h : ∀ y ∈ b, x.f0 ≠ y.f0) : changedV (x :: a) b = changedV a b := by
 unfold changedV
 congr 1
 refine List.filter_congr fun y hy => ?_
 rw [turnedE_cons, decide_eq_false (h y hy), Bool.false_and, Bool.false_or]
theorem hasP_none {a : List (S31)} {s : ByteArray} (h : ∀ x ∈ a, x.f0 ≠ s) : hasP a s = false := by
 unfold hasP
 rw [List.any_eq_false]
 intro x hx
 simpa using h x hx
theorem cmpV_ne {a b : ByteArray} (h : cmpV a b < 0) : a ≠ b := fun e => by rw [e, cmpV_self] at h; omega
/-- What stands ahead of a rising list's head is met in none of it. -/
theorem Up.ahead {x : S31} {b : List (S31)} {y : S31} (hb : Up (y :: b)) (h : cmpV x.f0 y.f0 < 0) : ∀ q ∈ y :: b, x.f0 ≠ q.f0 := by
 intro q hq
 refine cmpV_ne ?_
 rcases List.mem_cons.1 hq with rfl | h1
 ·exact h
 ·exact cmpV_trans h (List.rel_of_pairwise_cons hb h1)
theorem Up.tail {y : S31} {b : List (S31)} (hb : Up (y :: b)) : Up b := (List.pairwise_cons.1 hb).2
theorem Up.head {y : S31} {b : List (S31)} (hb : Up (y :: b)) : ∀ q ∈ b, y.f0 ≠ q.f0 := fun q hq => cmpV_ne (List.rel_of_pairwise_cons hb hq)
theorem addedV_nil (b : List (S31)) : addedV [] b = b.map fun y => y.f0 := by unfold addedV; congr 1; exact List.filter_eq_self.2 (fun y _ => rfl)
theorem changedV_nil (b : List (S31)) : changedV [] b = [] := by unfold changedV; rw [List.filter_eq_nil_iff.2 (fun y _ => by simp [turnedE])]; rfl
theorem rd0 (x : S31) (a : List (S31)) : rd_T31 (x :: a) 0 = x := rfl
theorem diff_l0 : ∀ (n : Nat) (a b : List (S31)) (x y z : List ByteArray), a.length + b.length ≤ n → Up a → Up b → x.length + n ≤ 1000000 → y.length + n ≤ 1000000 → z.length + n ≤ 1000000 →
  Ev (fun k => tree_Diff.l0 k a b x y z) (x ++ addedV a b, y ++ addedV b a, z ++ changedV a b) := by
 intro n
 induction n with
 | zero =>
  intro a b x y z hn _ _ hx hy hz
  obtain rfl : a = [] := List.length_eq_zero_iff.1 (by omega)
  obtain rfl : b = [] := List.length_eq_zero_iff.1 (by omega)
  refine Ev.shift ?_
  simp only [tree_Diff.l0]
  refine Ev.ifp (by omega) (Ev.ifp rfl (Ev.ifp rfl ?_))
  simp only [addedV_nil, changedV_nil, List.map_nil, List.append_nil]
  exact Ev.const _
 | succ n ih =>
  intro a b x y z hn ha hb hx hy hz
  refine Ev.shift ?_
  simp only [tree_Diff.l0, alikeE_is, Option.bind_some]
  refine Ev.ifp (by omega) ?_
  cases a with
  | nil =>
   refine Ev.ifp rfl ?_
   cases b with
   | nil =>
    refine Ev.ifp rfl ?_
    simp only [addedV_nil, changedV_nil, List.map_nil, List.append_nil]
    exact Ev.const _
   | cons v b =>
    refine Ev.ifn (by simp) ?_
    have h := ih [] b (x ++ [v.f0]) y z (by simp at hn ⊢; omega) ha hb.tail (by simp; omega) (by omega) (by omega)
    refine h.to_eq ?_
    simp [addedV_nil, changedV_nil, show ∀ l, addedV l [] = [] from fun _ => rfl]
  | cons u a =>
   refine Ev.ifn (by simp) ?_
   cases b with
   | nil =>
    refine Ev.ifp rfl ?_
    have h := ih a [] x (y ++ [u.f0]) z (by simp at hn ⊢; omega) ha.tail hb (by omega) (by simp; omega) (by omega)
    refine h.to_eq ?_
    simp [addedV_nil, show ∀ l, addedV l [] = [] from fun _ => rfl, show ∀ l, changedV l [] = [] from fun _ => rfl]
   | cons v b =>
    refine Ev.ifn (by simp) (Ev.bind (compare_ev _ _) ?_)
    rw [rd0, rd0]
    show Ev (fun k => if 0 < cmpV u.f0 v.f0 then tree_Diff.l0 k (u :: a) b (x ++ [v.f0]) y z else if cmpV u.f0 v.f0 < 0 then tree_Diff.l0 k a (v :: b) x (y ++ [u.f0]) z else tree_Diff.l0 k a b x y (if sameEntry u v = true then z else z ++ [u.f0])) _
    have hs := cmpV_swap u.f0 v.f0
    by_cases h1 : 0 < cmpV u.f0 v.f0
    ·refine Ev.ifp h1 ?_
     have hne := ha.ahead (x := v) (by omega)
     have h := ih (u :: a) b (x ++ [v.f0]) y z (by simp at hn ⊢; omega) ha hb.tail (by simp; omega) (by omega) (by omega)
     refine h.to_eq ?_
     have h2 : hasP (u :: a) v.f0 = false := hasP_none (fun q hq => (hne q hq).symm)
     rw [addedV_cons (u :: a) v b, changedV_cons (u :: a) v b, turnedE_none h2, h2, addedV_skip hne]
     simp
    ·refine Ev.ifn h1 ?_
     by_cases h2 : cmpV u.f0 v.f0 < 0
     ·refine Ev.ifp h2 ?_
      have hne := hb.ahead (x := u) h2
      have h := ih a (v :: b) x (y ++ [u.f0]) z (by simp at hn ⊢; omega) ha.tail hb (by omega) (by simp; omega) (by omega)
      refine h.to_eq ?_
      have h3 : hasP (v :: b) u.f0 = false := hasP_none (fun q hq => (hne q hq).symm)
      rw [addedV_cons (v :: b) u a, h3, addedV_skip hne, changedV_skip hne]
      simp
     ·refine Ev.ifn h2 ?_
      have he : u.f0 = v.f0 := cmpV_zero (by omega)
      have h := ih a b x y (if sameEntry u v = true then z else z ++ [u.f0]) (by simp at hn ⊢; omega) ha.tail hb.tail (by omega) (by omega) (by split <;> (try simp) <;> omega)
      refine h.to_eq ?_
      have hu := ha.head
      have hv := hb.head
      have p1 : hasP (u :: a) v.f0 = true := by rw [hasP_cons, decide_eq_true he, Bool.true_or]
      have p2 : hasP (v :: b) u.f0 = true := by rw [hasP_cons, decide_eq_true he.symm, Bool.true_or]
      have p3 : turnedE (u :: a) v = !sameEntry u v := by
       rw [turnedE_cons, decide_eq_true he, turnedE_none (hasP_none fun q hq e => hu q hq (he.trans e.symm))]
       simp
      rw [addedV_cons (u :: a) v b, p1, addedV_cons (v :: b) u a, p2, changedV_cons (u :: a) v b, p3, addedV_skip (fun q hq => he ▸ hv q hq), addedV_skip (fun q hq => he ▸ hu q hq), changedV_skip (fun q hq => he ▸ hv q hq)]
      cases sameEntry u v <;> simp [he]
/-! ### The document's way -/
theorem at_l0 (a : List (S31)) (hl : a.length ≤ 1000000) (s : ByteArray) : ∀ (m i : Nat), i + m = a.length → (∀ j : Nat, j < i → (rd_T31 a (j : Int)).f0 ≠ s) → ∃ r : Int, Ev (fun k => satchelref08_at.l0 k a s (i : Int)) r ∧ ((r = -1 ∧ ∀ j : Nat, j < a.length → (rd_T31 a (j : Int)).f0 ≠ s) ∨ ∃ q : Nat, r = (q : Int) ∧ q < a.length ∧ (rd_T31 a (q : Int)).f0 = s)
 | 0, i, h, hb => by
  refine ⟨-1, Ev.shift ?_, .inl ⟨rfl, fun j hj => hb j (by omega)⟩⟩
  simp only [satchelref08_at.l0]
  exact Ev.ifn (by omega) (Ev.const _)
 | m + 1, i, h, hb => by
  have ew : wrap64 ((i : Int) + 1) = ((i + 1 : Nat) : Int) := by rw [wrap_id _ (by omega)]; omega
  by_cases h1 : (rd_T31 a (i : Int)).f0 = s
  ·refine ⟨(i : Int), Ev.shift ?_, .inr ⟨i, rfl, by omega, h1⟩⟩
   simp only [satchelref08_at.l0]
   exact Ev.ifp (by omega) (Ev.ifp (by omega) (Ev.ifp (by rw [h1]) (Ev.const _)))
  ·obtain ⟨r, hr, hr2⟩ := at_l0 a hl s m (i + 1) (by omega) (fun j hj => by
    by_cases e : j = i
    ·rw [e]; exact h1
    ·exact hb j (by omega))
   refine ⟨r, Ev.shift ?_, hr2⟩
   simp only [satchelref08_at.l0, ew]
   exact Ev.ifp (by omega) (Ev.ifp (by omega) (Ev.ifn (fun c => h1 (bytes_ext c)) hr))
theorem at_ev (a : List (S31)) (hl : a.length ≤ 1000000) (s : ByteArray) : ∃ r : Int, Ev (fun k => satchelref08_at.f k a s) r ∧ ((r = -1 ∧ ∀ j : Nat, j < a.length → (rd_T31 a (j : Int)).f0 ≠ s) ∨ ∃ q : Nat, r = (q : Int) ∧ q < a.length ∧ (rd_T31 a (q : Int)).f0 = s) := by
 simp only [satchelref08_at.f]
 exact at_l0 a hl s a.length 0 (by omega) (fun j hj => by omega)
theorem hasP_of (a : List (S31)) (s : ByteArray) : (∀ j : Nat, j < a.length → (rd_T31 a (j : Int)).f0 ≠ s) → hasP a s = false := fun h => hasP_none fun x hx => by
 obtain ⟨j, hj, rfl⟩ := List.mem_iff_getElem.1 hx
 rw [← rd_at a j hj]
 exact h j hj
theorem hasP_at {a : List (S31)} {s : ByteArray} {q : Nat} (hq : q < a.length) (h : (rd_T31 a (q : Int)).f0 = s) : hasP a s = true := by
 unfold hasP
 refine List.any_eq_true.2 ⟨a[q], List.getElem_mem hq, ?_⟩
 rw [← rd_at a q hq]
 exact decide_eq_true h
theorem turned_at {a : List (S31)} (ha : Up a) {y : S31} {q : Nat} (hq : q < a.length) (h : (rd_T31 a (q : Int)).f0 = y.f0) : turnedE a y = !sameEntry (rd_T31 a (q : Int)) y := by
 have huniq : ∀ j : Nat, ∀ hj : j < a.length, a[j].f0 = y.f0 → j = q := by
  intro j hj hj2
  rw [rd_at a q hq] at h
  rcases Nat.lt_trichotomy j q with h3 | h3 | h3
  ·have := cmpV_ne (List.pairwise_iff_getElem.1 ha j q hj hq h3)
   exact absurd (hj2.trans h.symm) this
  ·exact h3
  ·have := cmpV_ne (List.pairwise_iff_getElem.1 ha q j hq hj h3)
   exact absurd (h.trans hj2.symm) this
 unfold turnedE
 rw [Bool.eq_iff_iff]
 rw [List.any_eq_true]
 constructor
 ·rintro ⟨x, hx, hx2⟩
  obtain ⟨j, hj, rfl⟩ := List.mem_iff_getElem.1 hx
  rw [Bool.and_eq_true] at hx2
  have := huniq j hj (of_decide_eq_true hx2.1)
  subst this
  rw [rd_at a j hj]
  exact hx2.2
 ·intro h1
  refine ⟨a[q], List.getElem_mem hq, ?_⟩
  rw [rd_at a q hq] at h h1
  rw [h1, decide_eq_true h]
  rfl
theorem rdiff_l0 (a b : List (S31)) (ha : Up a) (hla : a.length ≤ 1000) : ∀ (m i : Nat) (x z : List ByteArray), i + m = b.length → x.length + m ≤ 1000000 → z.length + m ≤ 1000000 → Ev (fun k => satchelref08_Diff.l0 k a b x z i) (x ++ addedV a (b.drop i), z ++ changedV a (b.drop i))
 | 0, i, x, z, h, hx, hz => by
  refine Ev.shift ?_
  simp only [satchelref08_Diff.l0]
  refine Ev.ifn (by omega) ?_
  rw [List.drop_eq_nil_of_le (by omega)]
  show Ev (fun _ => some (x, z)) (x ++ [], z ++ [])
  rw [List.append_nil, List.append_nil]
  exact Ev.const _
 | m + 1, i, x, z, h, hx, hz => by
  have hi : i < b.length := by omega
  refine Ev.shift ?_
  simp only [satchelref08_Diff.l0, likeE_is, Option.bind_some]
  refine Ev.ifp hi ?_
  rw [List.drop_eq_getElem_cons hi, ← rd_at b i hi]
  obtain ⟨r, hr, h2⟩ := at_ev a (by omega) (rd_T31 b (i : Int)).f0
  refine Ev.bind hr (Ev.ifp (by omega) ?_)
  rw [addedV_cons, changedV_cons]
  rcases h2 with ⟨rfl, h3⟩ | ⟨q, rfl, h3, h4⟩
  ·have h5 := hasP_of a _ h3
   refine Ev.ifp (by omega) ?_
   have ih := rdiff_l0 a b ha hla m (i + 1) (x ++ [(rd_T31 b (i : Int)).f0]) z (by omega) (by simp; omega) (by omega)
   refine ih.to_eq ?_
   rw [h5, turnedE_none h5]
   simp
  ·refine Ev.ifn (by omega) (Ev.ifp (by omega) ?_)
   have ih := rdiff_l0 a b ha hla m (i + 1) x (if sameEntry (rd_T31 a (q : Int)) (rd_T31 b (i : Int)) = true then z else z ++ [(rd_T31 b (i : Int)).f0]) (by omega) (by omega) (by split <;> (try simp) <;> omega)
   refine ih.to_eq ?_
   rw [hasP_at h3 h4, turned_at ha h3 h4]
   cases sameEntry (rd_T31 a (q : Int)) (rd_T31 b (i : Int)) <;> simp
theorem rdiff_l1 (a b : List (S31)) (hlb : b.length ≤ 1000) : ∀ (m i : Nat) (y : List ByteArray), i + m = a.length → y.length + m ≤ 1000000 → Ev (fun k => satchelref08_Diff.l1 k a b y i) (y ++ addedV b (a.drop i))
 | 0, i, y, h, hy => by
  refine Ev.shift ?_
  simp only [satchelref08_Diff.l1]
  refine Ev.ifn (by omega) ?_
  rw [List.drop_eq_nil_of_le (by omega)]
  show Ev (fun _ => some y) (y ++ [])
  rw [List.append_nil]
  exact Ev.const _
 | m + 1, i, y, h, hy => by
  have hi : i < a.length := by omega
  refine Ev.shift ?_
  simp only [satchelref08_Diff.l1]
  refine Ev.ifp hi ?_
  rw [List.drop_eq_getElem_cons hi, ← rd_at a i hi]
  obtain ⟨r, hr, h2⟩ := at_ev b (by omega) (rd_T31 a (i : Int)).f0
  refine Ev.bind hr (Ev.ifp (by omega) ?_)
  rw [addedV_cons]
  rcases h2 with ⟨rfl, h3⟩ | ⟨q, rfl, h3, h4⟩
  ·have h5 := hasP_of b _ h3
   refine Ev.ifp (by omega) ?_
   have ih := rdiff_l1 a b hlb m (i + 1) (y ++ [(rd_T31 a (i : Int)).f0]) (by omega) (by simp; omega)
   refine ih.to_eq ?_
   rw [h5]
   simp
  ·refine Ev.ifn (by omega) ?_
   have ih := rdiff_l1 a b hlb m (i + 1) y (by omega) (by omega)
   refine ih.to_eq ?_
   rw [hasP_at h3 h4]
   simp
def diffV (a b : List (S31)) : List ByteArray × List ByteArray × List ByteArray := if (treeV a).1 = 0 ∧ (treeV b).1 = 0 then (addedV a b, addedV b a, changedV a b) else ([], [], [])
theorem diff_ev (a b : List (S31)) (ha : a.length ≤ 1000) (hb : b.length ≤ 1000) : Ev (fun k => tree_Diff.f k a b) (diffV a b) := by
 simp only [tree_Diff.f]
 refine Ev.ifp (by omega) (Ev.bind (tree_ev a) (Ev.bind (tree_ev b) ?_))
 unfold diffV
 by_cases h : (treeV a).1 = 0 ∧ (treeV b).1 = 0
 ·rw [if_pos h]
  refine Ev.ifp h ?_
  exact diff_l0 (a.length + b.length) a b [] [] [] (Nat.le_refl _) (good_of h.1).Up (good_of h.2).Up (by simp; omega) (by simp; omega) (by simp; omega)
 ·rw [if_neg h]
  exact Ev.ifn h (Ev.const _)
theorem rdiff_ev (a b : List (S31)) (ha : a.length ≤ 1000) (hb : b.length ≤ 1000) : Ev (fun k => satchelref08_Diff.f k a b) (diffV a b) := by
 simp only [satchelref08_Diff.f]
 refine Ev.ifp (by omega) (Ev.bind (check8_ev a) (Ev.bind (check8_ev b) ?_))
 unfold diffV
 by_cases h : (treeV a).1 = 0 ∧ (treeV b).1 = 0
 ·rw [if_pos h]
  refine Ev.ifp h (Ev.bind (rdiff_l0 a b (good_of h.1).Up ha b.length 0 [] [] (by omega) (by simp; omega) (by simp; omega)) (Ev.bind (rdiff_l1 a b hb a.length 0 [] (by omega) (by simp; omega)) ?_))
  exact Ev.const _
 ·rw [if_neg h]
  exact Ev.ifn h (Ev.const _)
/-! ### The same -/
def sameV (a b : List (S31)) : Bool := decide (a.length = b.length) && (a.zip b).all fun p => sameEntry p.1 p.2
theorem sameTree_f (a b : List (S31)) : satchelkit_SameTree.f a b = some (sameV a b) := rfl
theorem eqAll_is : ∀ l : List (S31 × S31), eqAll l = some (l.all fun p => sameEntry p.1 p.2)
 | [] => rfl
 | p :: t => by
  unfold eqAll
  rw [alikeE_is, Option.bind_some, eqAll_is t, List.all_cons]
  cases sameEntry p.1 p.2 <;> simp
theorem same_f (a b : List (S31)) (ha : a.length ≤ 1000) : tree_Same.f a b = some (sameV a b) := by
 unfold tree_Same.f sameV
 rw [if_pos (by omega), eqAll_is]
 by_cases h : a.length = b.length
 ·rw [if_pos h, decide_eq_true h]; rfl
 ·rw [if_neg h, decide_eq_false h]; rfl
theorem same8_l0 (a b : List (S31)) (hl : a.length = b.length) (ha : a.length ≤ 1000) : ∀ (m i : Nat), i + m = a.length → Ev (fun k => satchelref08_Same.l0 k a b (i : Int)) (((a.drop i).zip (b.drop i)).all fun p => sameEntry p.1 p.2)
 | 0, i, h => by
  refine Ev.shift ?_
  simp only [satchelref08_Same.l0]
  rw [List.drop_eq_nil_of_le (by omega : a.length ≤ i)]
  exact Ev.ifn (by omega) (Ev.const _)
 | m + 1, i, h => by
  have hi : i < a.length := by omega
  have hi' : i < b.length := by omega
  have ew : wrap64 ((i : Int) + 1) = ((i + 1 : Nat) : Int) := by rw [wrap_id _ (by omega)]; omega
  refine Ev.shift ?_
  simp only [satchelref08_Same.l0]
  refine Ev.ifp (by omega) (Ev.ifp (by omega) (Ev.ifp (by omega) ?_))
  have h1 := likeE_is (rd_T31 a (i : Int)) (rd_T31 b (i : Int))
  unfold likeE at h1
  simp only [h1, Option.bind_some, ew]
  rw [List.drop_eq_getElem_cons hi, List.drop_eq_getElem_cons hi', List.zip_cons_cons, List.all_cons, rd_at a i hi, rd_at b i hi']
  by_cases h2 : sameEntry a[i] b[i] = true
  ·rw [h2, Bool.true_and]
   exact Ev.ifp rfl (same8_l0 a b hl ha m (i + 1) (by omega))
  ·rw [show sameEntry a[i] b[i] = false by simpa using h2, Bool.false_and]
   exact Ev.ifn (by simp) (Ev.const _)
theorem same8_ev (a b : List (S31)) (ha : a.length ≤ 1000) : Ev (fun k => satchelref08_Same.f k a b) (sameV a b) := by
 simp only [satchelref08_Same.f]
 unfold sameV
 by_cases h : a.length = b.length
 ·rw [decide_eq_true h]
  exact Ev.ifp (by omega) (same8_l0 a b h ha a.length 0 (by omega))
 ·rw [decide_eq_false h]
  exact Ev.ifn (by omega) (Ev.const _)
/-! ### Texts, copies -/
theorem texts_l0 (l : List ByteArray) (hl : l.length ≤ 1000000) : ∀ (m i : Nat), i + m = l.length → Ev (fun k => satchelkit_SameTexts.l0 k l l (i : Int)) true
 | 0, i, h => by
  refine Ev.shift ?_
  simp only [satchelkit_SameTexts.l0]
  exact Ev.ifn (by omega) (Ev.const _)
 | m + 1, i, h => by
  have ew : wrap64 ((i : Int) + 1) = ((i + 1 : Nat) : Int) := by rw [wrap_id _ (by omega)]; omega
  refine Ev.shift ?_
  simp only [satchelkit_SameTexts.l0, ew]
  exact Ev.ifp (by omega) (Ev.ifp (by omega) (Ev.ifp (by omega) (Ev.ifp (by trivial) (texts_l0 l hl m (i + 1) (by omega)))))
theorem texts_ev (l : List ByteArray) (hl : l.length ≤ 1000000) : Ev (fun k => satchelkit_SameTexts.f k l l) true := by
 simp only [satchelkit_SameTexts.f]
 exact Ev.ifp (by trivial) (texts_l0 l hl l.length 0 (by omega))
/-- Entries whose bytes are no longer than a machine's. -/
def Fits (l : List (S31)) : Prop := ∀ e ∈ l, e.f3.length < 140737488355328
theorem Fits.at {l : List (S31)} (h : Fits l) {i : Nat} (hi : i < l.length) : (rd_T31 l (i : Int)).f3.length < 140737488355328 := by rw [rd_at l i hi]; exact h _ (List.getElem_mem hi)
theorem copy_l0 (l : List (S31)) (hl : l.length ≤ 1000000) (hf : Fits l) : ∀ (m i : Nat), i + m = l.length → Ev (fun k => satchelkit_CopyTree.l0 k l (i : Int)) l
 | 0, i, h => by
  refine Ev.shift ?_
  simp only [satchelkit_CopyTree.l0]
  exact Ev.ifn (by omega) (Ev.const _)
 | m + 1, i, h => by
  have hi : i < l.length := by omega
  have ew : wrap64 ((i : Int) + 1) = ((i + 1 : Nat) : Int) := by rw [wrap_id _ (by omega)]; omega
  have e1 : satchelkit_CopyBytes.f (rd_T31 l (i : Int)).f3 = some (rd_T31 l (i : Int)).f3 := by
   unfold satchelkit_CopyBytes.f
   rw [Option.bind_some, if_pos (by have := hf.at hi; simpa using this)]
   rfl
  have e2 : l.set ((i : Int)).toNat (⟨(rd_T31 l (i : Int)).f0, (rd_T31 l (i : Int)).f1, (rd_T31 l (i : Int)).f2, (rd_T31 l (i : Int)).f3, (rd_T31 l (i : Int)).f4⟩ : S31) = l := by
   rw [Int.toNat_natCast]
   show l.set i (rd_T31 l (i : Int)) = l
   rw [rd_at l i hi]
   exact List.set_getElem_self _
  refine Ev.shift ?_
  simp only [satchelkit_CopyTree.l0]
  refine Ev.ifp (by omega) (Ev.ifp (by omega) ?_)
  rw [e1]
  simp only [Option.bind_some]
  rw [e2, ew]
  exact copy_l0 l hl hf m (i + 1) (by omega)
theorem copy_ev (l : List (S31)) (hl : l.length ≤ 1000000) (hf : Fits l) : Ev (fun k => satchelkit_CopyTree.f k l) l := by
 simp only [satchelkit_CopyTree.f, Option.bind_some]
 refine Ev.ifp (by simp; omega) ?_
 exact copy_l0 l hl hf l.length 0 (by omega)
theorem sameV_refl (l : List (S31)) : sameV l l = true := by
 have := same_refl l
 rw [sameTree_f] at this
 exact Option.some.inj this
theorem addedV_len (a b : List (S31)) : (addedV a b).length ≤ b.length := by unfold addedV; rw [List.length_map]; exact List.length_filter_le _ _
theorem changedV_len (a b : List (S31)) : (changedV a b).length ≤ b.length := by unfold changedV; rw [List.length_map]; exact List.length_filter_le _ _
theorem diffV_len (a b : List (S31)) : (diffV a b).1.length ≤ b.length ∧ (diffV a b).2.1.length ≤ a.length ∧ (diffV a b).2.2.length ≤ b.length := by
 unfold diffV
 split
 ·exact ⟨addedV_len a b, addedV_len b a, changedV_len a b⟩
 ·simp
end Go.Proofs.Ytopkmchkfcjjmaa.X
end

/-! ## Satchelref08Own -/
section
namespace Go.Proofs.Ytopkmchkfcjjmaa.X
open Go.RowKit Go.Proofs.YtopkmchkfcjjmaaW.PrintWords Go.Proofs.YtopkmchkfcjjmaaW.PrintLast Go.Proofs.YtopkmchkfcjjmaaW.PrintMore
attribute [local go_sem] max2_int min2_int max_two min_two max_three min_three max_four min_four   -- for this text's walks alone
set_option linter.unusedVariables false
set_option linter.unusedSimpArgs false

attribute [local go_sem] str_gtr fld_fault0 fld_fault1
/-! ### satchelref08_Own: function 52 -/
def satchelref08_Own.f (a0_0 : ByteArray) (a0_1 : Int) (a0_2 : Int) (l0_3 : List Int) (a0_4 : ByteArray) : Option (ByteArray × Int × Int × List Int × ByteArray) := (some (([] : List Int) : List Int)).bind fun y315 => (if y315.length + l0_3.length < 140737488355328 then (some (a0_0, a0_1, a0_2, (y315 ++ l0_3), a0_4)) else (none))
set_option maxHeartbeats 8000000 in
set_option maxRecDepth 100000 in
theorem satchelref08_Own.calls (a0_0 : ByteArray) (a0_1 : Int) (a0_2 : Int) (A0_3 : Option Addr) (c0_3 : Nat) (l0_3 : List Int) (a0_4 : ByteArray) (r1 : ByteArray) (r2 : Int) (r3 : Int) (r4 : List Int) (r5 : ByteArray) (w : World) (hr0_3 : Kd.C (Kd.int .u8) w A0_3 l0_3.length l0_3) (hc0_3 : l0_3.length ≤ c0_3) (h : satchelref08_Own.f a0_0 a0_1 a0_2 l0_3 a0_4 = some (r1, r2, r3, r4, r5)) :
  Calls Try.prog 52 #[.agg #[.string a0_0, .int .i64 a0_1, .int .i64 a0_2, .slice A0_3 l0_3.length c0_3, .string a0_4]] w fun e w' => ∃ v3_ : Value, e = .returned (.agg #[.string r1, .int .i64 r2, .int .i64 r3, v3_, .string r5]) ∧ Kd.R (Kd.int .u8) 5 w' w.heap.size (fun _ => True) v3_ r4 ∧ Below w.heap.size w w' := by
 have hu31 := Try.underlying31
 have HR0_3 := Aside0.mk hr0_3
 have HC0_3 := Aside0.mk hc0_3
 clear hr0_3 hc0_3
 have HB := Aside0.mk (Below.refl w.heap.size w)
 have H : ((some (([] : List Int) : List Int)).bind fun y315 => (if y315.length + l0_3.length < 140737488355328 then (some (a0_0, a0_1, a0_2, (y315 ++ l0_3), a0_4)) else (none))) = some (r1, r2, r3, r4, r5) := h
 clear h
 obtain ⟨y315, hy315⟩ : ∃ y_ : List Int, y_ = (([] : List Int)) := ⟨_, rfl⟩
 replace H : (if y315.length + l0_3.length < 140737488355328 then (some (a0_0, a0_1, a0_2, (y315 ++ l0_3), a0_4)) else (none)) = some (r1, r2, r3, r4, r5) := by first | (rw [hy315]; with_reducible exact H) | (have H2_ := (Option.bind_some _ _).symm.trans H; rw [hy315]; with_reducible exact H2_) | (have H2_ := (Option.bind_some _ _).symm.trans H; with_reducible exact H2_) | with_reducible exact H | (rw [hy315]; exact H) | exact H
 have Ny315 := Aside0.mk hy315
 clear hy315
 by_cases c2 : y315.length + l0_3.length < 140737488355328
 ·rw [if_pos c2] at H
  have LMc2 := Aside0.mk c2
  clear c2
  obtain ⟨y318, hy318⟩ : ∃ y_ : List Int, y_ = (y315 ++ l0_3) := ⟨_, rfl⟩
  replace H : (some (a0_0, a0_1, a0_2, y318, a0_4)) = some (r1, r2, r3, r4, r5) := by first | (rw [hy318]; with_reducible exact H) | (have H2_ := (Option.bind_some _ _).symm.trans H; rw [hy318]; with_reducible exact H2_) | (have H2_ := (Option.bind_some _ _).symm.trans H; with_reducible exact H2_) | with_reducible exact H | (rw [hy318]; exact H) | exact H
  have Ny318 := Aside0.mk hy318
  clear hy318
  simp only [Option.some.injEq, Prod.mk.injEq] at H
  obtain ⟨rfl, rfl, rfl, rfl, rfl⟩ := H
  go_enter Try.func52, Try.ntmps52
  go_wp2_with (first | ((with_reducible refine gate_dst (N := 1) rfl ?_); refine box_event ?hg (N := 1) ?hd (cs := #[.string a0_0, .int .i64 a0_1, .int .i64 a0_2, .slice A0_3 l0_3.length c0_3, .string a0_4]) (t := 31) ?hr ?_; (case hd => rfl); (case hg => rfl); (case hr => first | (go_simp; done) | (go_simp; rfl)); intro gb313 hg w3 hbox hb; have n0_ := Aside0.mk (below_step (by repeat (first | (with_reducible first | exact HB.out | apply below_alloc | apply pw_below_drewN | apply below_drew1) | exact HB.out)) hb); have n1_ := Aside0.mk (hbox); have n2_ := Aside0.mk ((by rw [hg]; exact (below_size (by repeat (first | (with_reducible first | exact HB.out | apply below_alloc | apply pw_below_drewN | apply below_drew1) | exact HB.out))) : w.heap.size ≤ gb313)); have n3_ := Aside0.mk ((by rw [hg]; exact (below_size (by repeat (first | (with_reducible first | exact HB.out | apply below_alloc | apply pw_below_drewN | apply below_drew1) | exact HB.out))) : w.heap.size ≤ gb313)); clear HB; have HB := n0_; have BK313 := n1_; have GW313 := n2_; have GE313 := n3_; clear n0_ n1_ n2_ n3_; clear hb hbox hg) | ((with_reducible refine gate_dst (N := 2) rfl ?_); refine box_event ?hg (N := 2) ?hd (cs := #[.string (⟨#[]⟩ : ByteArray), .int .i64 0, .int .i64 0, .slice none 0 0, .string (⟨#[]⟩ : ByteArray)]) (t := 31) ?hr ?_; (case hd => rfl); (case hg => rfl); (case hr => first | (go_simp; done) | (go_simp; rfl)); intro gb314 hg w4 hbox hb; have n0_ := Aside0.mk (blk_below (g := gb313) (o := .cells #[.string a0_0, .int .i64 a0_1, .int .i64 a0_2, .slice A0_3 l0_3.length c0_3, .string a0_4] 31 (0, 0)) (by (with_reducible repeat (first | refine blk_drewN ?_ _ | refine blk_drew ?_ | refine blk_alloc ?_ _)); exact BK313.out) hb); have n1_ := Aside0.mk (below_step (by repeat (first | (with_reducible first | exact HB.out | apply below_alloc | apply pw_below_drewN | apply below_drew1 | refine below_set ?_ GE313.out) | exact HB.out)) hb); have n2_ := Aside0.mk (hbox); have n3_ := Aside0.mk ((by rw [hg]; exact (below_size (by repeat (first | (with_reducible first | exact HB.out | apply below_alloc | apply pw_below_drewN | apply below_drew1 | refine below_set ?_ GE313.out) | exact HB.out))) : w.heap.size ≤ gb314)); have n4_ := Aside0.mk ((by rw [hg]; exact (below_size (by repeat (first | (with_reducible first | exact HB.out | apply below_alloc | apply pw_below_drewN | apply below_drew1 | refine below_set ?_ GE313.out) | exact HB.out))) : w.heap.size ≤ gb314)); have n5_ := Aside0.mk ((by rw [hg]; exact Nat.ne_of_lt (blk_lt (g := gb313) (o := .cells #[.string a0_0, .int .i64 a0_1, .int .i64 a0_2, .slice A0_3 l0_3.length c0_3, .string a0_4] 31 (0, 0)) (by (with_reducible repeat (first | refine blk_drewN ?_ _ | refine blk_drew ?_ | refine blk_alloc ?_ _)); exact BK313.out)) : gb313 ≠ gb314)); have n6_ := Aside0.mk ((by rw [hg]; exact Nat.ne_of_gt (blk_lt (g := gb313) (o := .cells #[.string a0_0, .int .i64 a0_1, .int .i64 a0_2, .slice A0_3 l0_3.length c0_3, .string a0_4] 31 (0, 0)) (by (with_reducible repeat (first | refine blk_drewN ?_ _ | refine blk_drew ?_ | refine blk_alloc ?_ _)); exact BK313.out)) : gb314 ≠ gb313)); clear BK313; clear HB; have BK313 := n0_; have HB := n1_; have BK314 := n2_; have GW314 := n3_; have GE314 := n4_; have NB313_314 := n5_; have NB314_313 := n6_; clear n0_ n1_ n2_ n3_ n4_ n5_ n6_; clear hb hbox hg) | ((with_reducible refine gate_dst (N := 3) rfl ?_); refine Kd.R_lit (Kd.int .u8) _ 5 ?hg (N := 3) ?hd (xs := ([] : List Int)) (inner := []) (ok := fun _ => True) (okp := fun _ => True) ?hr ?hp (fun _ hk => hk) trivial (Below.refl _ _) (Nat.le_refl _) (by simp) ?_; (case hd => rfl); (case hg => rfl); (case hr => first | (go_simp; done) | (go_simp; rfl)); (case hp => exact (Reps.none _ _)); intro v316 w5 ho6 hb hg_ hnew_; clear hg_ hnew_; (first | rw [← Ny315.out] at ho6 | (simp only [Int.reduceToNat] at ho6; rw [← Ny315.out] at ho6)); have n0_ := Aside0.mk (Kd.R_lower ho6 (below_size (by repeat (first | (with_reducible first | exact HB.out | apply below_alloc | apply pw_below_drewN | apply below_drew1 | refine below_set ?_ GE313.out | refine below_set ?_ GE314.out) | exact HB.out)))); have n1_ := Aside0.mk (blk_below (g := gb313) (o := .cells #[.string a0_0, .int .i64 a0_1, .int .i64 a0_2, .slice A0_3 l0_3.length c0_3, .string a0_4] 31 (0, 0)) (by (with_reducible repeat (first | refine blk_drewN ?_ _ | refine blk_drew ?_ | refine blk_alloc ?_ _)); exact BK313.out) hb); have n2_ := Aside0.mk (blk_below (g := gb314) (o := .cells #[.string (⟨#[]⟩ : ByteArray), .int .i64 0, .int .i64 0, .slice none 0 0, .string (⟨#[]⟩ : ByteArray)] 31 (0, 0)) (by (with_reducible repeat (first | refine blk_drewN ?_ _ | refine blk_drew ?_ | refine blk_alloc ?_ _)); exact BK314.out) hb); have n3_ := Aside0.mk (below_step (by repeat (first | (with_reducible first | exact HB.out | apply below_alloc | apply pw_below_drewN | apply below_drew1 | refine below_set ?_ GE313.out | refine below_set ?_ GE314.out) | exact HB.out)) hb); clear BK313; clear BK314; clear HB; have HO317 := n0_; have BK313 := n1_; have BK314 := n2_; have HB := n3_; clear n0_ n1_ n2_ n3_; clear hb ho6; have hnb7 := NB313_314.out; have hnc7 := NB314_313.out; have hcz8_0 : w5.cell? ⟨gb313, 0, none⟩ = some (.string a0_0) := (blk_cell BK313.out 0).trans rfl; have hcz8_1 : w5.cell? ⟨gb313, 1, none⟩ = some (.int .i64 a0_1) := (blk_cell BK313.out 1).trans rfl; have hcz8_2 : w5.cell? ⟨gb313, 2, none⟩ = some (.int .i64 a0_2) := (blk_cell BK313.out 2).trans rfl; have hcz8_3 : w5.cell? ⟨gb313, 3, none⟩ = some (.slice A0_3 l0_3.length c0_3) := (blk_cell BK313.out 3).trans rfl; have hcz8_4 : w5.cell? ⟨gb313, 4, none⟩ = some (.string a0_4) := (blk_cell BK313.out 4).trans rfl; have hfz8_0 := blk_frozen BK313.out 0; have hfz8_1 := blk_frozen BK313.out 1; have hfz8_2 := blk_frozen BK313.out 2; have hfz8_3 := blk_frozen BK313.out 3; have hfz8_4 := blk_frozen BK313.out 4) | ((with_reducible refine gate_builtin (b := .append) (xs := #[.tmp 3, .tmp 5]) rfl ?_); at_builtin; refine Kd.R_append_rows (Kd.int .u8) (w0 := w) w.heap.size rfl (.tmp 3) (.tmp 5) 29 5 (.int .u8 0) 1 rfl Try.underlying29 info5 rfl (by decide) (by omega) v316 y315 l0_3 _ _ _ (fun _ => True) (fun _ => False) rfl rfl ?aO ?aR (fun _ _ h => h) (fun _ h => h.elim) ?aF ?aB ?aS ?aL ?_; (case aR => repeat (first | exact (Kd.C_below HR0_3.out HB.out) | (with_reducible refine Kd.C_alloc ?_ _) | (with_reducible refine Kd.C_drewN ?_ _) | (with_reducible refine Kd.C_drew ?_))); (case aB => exact (by repeat (first | (with_reducible first | exact HB.out | apply below_alloc | apply pw_below_drewN | apply below_drew1 | refine below_set ?_ GE313.out | refine below_set ?_ GE314.out) | exact HB.out))); (case aF => exact (fun _ _ => trivial)); (case aO => exact (by (with_reducible repeat (first | apply Kd.R_alloc | apply Kd.R_drewN | apply Kd.R_drew)); exact HO317.out)); (case aS => exact (below_size (by repeat (first | (with_reducible first | exact HB.out | apply below_alloc | apply pw_below_drewN | apply below_drew1 | refine below_set ?_ GE313.out | refine below_set ?_ GE314.out) | exact HB.out)))); (case aL => have := LMc2.out; omega); intro v319 w9 ho hb hg hat; rw [← Ny318.out] at ho; have n0_ := Aside0.mk (blk_grown (g := gb313) (o := .cells #[.string a0_0, .int .i64 a0_1, .int .i64 a0_2, .slice A0_3 l0_3.length c0_3, .string a0_4] 31 (0, 0)) (by (with_reducible repeat (first | refine blk_drewN ?_ _ | refine blk_drew ?_ | refine blk_alloc ?_ _)); exact BK313.out) hg (Kd.R_ne HO317.out BK313.out (by decide))); have n1_ := Aside0.mk (blk_grown (g := gb314) (o := .cells #[.string (⟨#[]⟩ : ByteArray), .int .i64 0, .int .i64 0, .slice none 0 0, .string (⟨#[]⟩ : ByteArray)] 31 (0, 0)) (by (with_reducible repeat (first | refine blk_drewN ?_ _ | refine blk_drew ?_ | refine blk_alloc ?_ _)); exact BK314.out) hg (Kd.R_ne HO317.out BK314.out (by decide))); have n2_ := Aside0.mk (hb); have n3_ := Aside0.mk (ho); clear BK313; clear BK314; clear HB; clear HO317; have BK313 := n0_; have BK314 := n1_; have HB := n2_; have HO320 := n3_; clear n0_ n1_ n2_ n3_; clear ho hb hg hat; obtain ⟨Ao10, co10, eo10⟩ := Kd.R_slice HO320.out; subst eo10; have hcz11_0 : w9.cell? ⟨gb313, 0, none⟩ = some (.string a0_0) := (blk_cell BK313.out 0).trans rfl; have hcz11_1 : w9.cell? ⟨gb313, 1, none⟩ = some (.int .i64 a0_1) := (blk_cell BK313.out 1).trans rfl; have hcz11_2 : w9.cell? ⟨gb313, 2, none⟩ = some (.int .i64 a0_2) := (blk_cell BK313.out 2).trans rfl; have hcz11_3 : w9.cell? ⟨gb313, 3, none⟩ = some (.slice A0_3 l0_3.length c0_3) := (blk_cell BK313.out 3).trans rfl; have hcz11_4 : w9.cell? ⟨gb313, 4, none⟩ = some (.string a0_4) := (blk_cell BK313.out 4).trans rfl; have hfz11_0 := blk_frozen BK313.out 0; have hfz11_1 := blk_frozen BK313.out 1; have hfz11_2 := blk_frozen BK313.out 2; have hfz11_3 := blk_frozen BK313.out 3; have hfz11_4 := blk_frozen BK313.out 4; have hcz12_0 : w9.cell? ⟨gb314, 0, none⟩ = some (.string (⟨#[]⟩ : ByteArray)) := (blk_cell BK314.out 0).trans rfl; have hcz12_1 : w9.cell? ⟨gb314, 1, none⟩ = some (.int .i64 0) := (blk_cell BK314.out 1).trans rfl; have hcz12_2 : w9.cell? ⟨gb314, 2, none⟩ = some (.int .i64 0) := (blk_cell BK314.out 2).trans rfl; have hcz12_3 : w9.cell? ⟨gb314, 3, none⟩ = some (.slice none 0 0) := (blk_cell BK314.out 3).trans rfl; have hcz12_4 : w9.cell? ⟨gb314, 4, none⟩ = some (.string (⟨#[]⟩ : ByteArray)) := (blk_cell BK314.out 4).trans rfl; have hfz12_0 := blk_frozen BK314.out 0; have hfz12_1 := blk_frozen BK314.out 1; have hfz12_2 := blk_frozen BK314.out 2; have hfz12_3 := blk_frozen BK314.out 3; have hfz12_4 := blk_frozen BK314.out 4))
  refine bodyPost_ret (results_cell_row rfl _ _ gb314 31 #[.string a0_0, .int .i64 a0_1, .int .i64 a0_2, .slice Ao10 y318.length co10, .string a0_4] (0, 0) _ rfl (by (with_reducible repeat (first | refine blk_drewN ?_ _ | refine blk_drew ?_ | refine blk_alloc ?_ _)); refine blk_put (cs := #[.string a0_0, .int .i64 a0_1, .int .i64 a0_2, .slice Ao10 y318.length co10, .string (⟨#[]⟩ : ByteArray)]) ?_ 4 _ rfl; (with_reducible repeat (first | refine blk_drewN ?_ _ | refine blk_drew ?_ | refine blk_alloc ?_ _)); refine blk_put (cs := #[.string a0_0, .int .i64 a0_1, .int .i64 a0_2, .slice none 0 0, .string (⟨#[]⟩ : ByteArray)]) ?_ 3 _ rfl; (with_reducible repeat (first | refine blk_drewN ?_ _ | refine blk_drew ?_ | refine blk_alloc ?_ _)); refine blk_put (cs := #[.string a0_0, .int .i64 a0_1, .int .i64 0, .slice none 0 0, .string (⟨#[]⟩ : ByteArray)]) ?_ 2 _ rfl; (with_reducible repeat (first | refine blk_drewN ?_ _ | refine blk_drew ?_ | refine blk_alloc ?_ _)); refine blk_put (cs := #[.string a0_0, .int .i64 0, .int .i64 0, .slice none 0 0, .string (⟨#[]⟩ : ByteArray)]) ?_ 1 _ rfl; (with_reducible repeat (first | refine blk_drewN ?_ _ | refine blk_drew ?_ | refine blk_alloc ?_ _)); refine blk_put (cs := #[.string (⟨#[]⟩ : ByteArray), .int .i64 0, .int .i64 0, .slice none 0 0, .string (⟨#[]⟩ : ByteArray)]) ?_ 0 _ rfl; (with_reducible repeat (first | refine blk_drewN ?_ _ | refine blk_drew ?_ | refine blk_alloc ?_ _)); refine blk_far ?_ NB314_313.out _; (with_reducible repeat (first | refine blk_drewN ?_ _ | refine blk_drew ?_ | refine blk_alloc ?_ _)); exact BK314.out) Try.underlying31 rfl (by kernel_rfl)) rfl ?_
  exact ⟨_, by first | rfl | (simp [errW_none, errW_some] <;> rfl) | (simp [*, errW_none, errW_some] <;> rfl) | (simp [bt, *]; done) | (simp_all [bt]; done), by (with_reducible repeat (first | apply Kd.R_alloc | apply Kd.R_drewN | apply Kd.R_drew)); exact Kd.R_mono (Kd.R_far (p := ⟨gb314, 4, none⟩) (Kd.R_far (p := ⟨gb314, 3, none⟩) (Kd.R_far (p := ⟨gb314, 2, none⟩) (Kd.R_far (p := ⟨gb314, 1, none⟩) (Kd.R_far (p := ⟨gb314, 0, none⟩) (Kd.R_far (p := ⟨gb313, 3, none⟩) (Kd.R_types (Kd.R_types HO320.out BK313.out (by decide)) BK314.out (by decide)) (fun _ hk => hk.1.2) (.slice Ao10 y318.length co10)) (fun _ hk => hk.2) (.string a0_0)) (fun _ hk => hk.2) (.int .i64 a0_1)) (fun _ hk => hk.2) (.int .i64 a0_2)) (fun _ hk => hk.2) (.slice Ao10 y318.length co10)) (fun _ hk => hk.2) (.string a0_4)) (fun _ hk => trivial), by repeat (first | (with_reducible first | exact HB.out | apply below_alloc | apply pw_below_drewN | apply below_drew1 | refine below_set ?_ GE313.out | refine below_set ?_ GE314.out) | exact HB.out)⟩
 ·rw [if_neg c2] at H
  exact absurd H (by simp)

end Go.Proofs.Ytopkmchkfcjjmaa.X
end

/-! ## Satchelref08Find -/
section
namespace Go.Proofs.Ytopkmchkfcjjmaa.X
open Go.RowKit Go.Proofs.YtopkmchkfcjjmaaW.PrintWords Go.Proofs.YtopkmchkfcjjmaaW.PrintLast Go.Proofs.YtopkmchkfcjjmaaW.PrintMore
attribute [local go_sem] max2_int min2_int max_two min_two max_three min_three max_four min_four   -- for this text's walks alone
set_option linter.unusedVariables false
set_option linter.unusedSimpArgs false

attribute [local go_sem] str_gtr fld_fault0 fld_fault1
/-! ### satchelref08_Find: function 20 -/
def satchelref08_Find.f (k : Nat) (l0 : List (S31)) (a1 : ByteArray) : Option (ByteArray × Int × Int × List Int × ByteArray × Bool) := (satchelref08_Check.f k l0).bind fun bt322 => ((satchelref08_at.f k l0 a1).bind fun t324 => (if bt322.1 = 0 then (if t324 < 0 then (some ((⟨#[]⟩ : ByteArray), 0, 0, ([] : List Int), (⟨#[]⟩ : ByteArray), false)) else (if 0 ≤ t324 then (if t324 < (l0.length : Int) then ((satchelref08_Own.f ((rd_T31 l0 t324).f0) ((rd_T31 l0 t324).f1) ((rd_T31 l0 t324).f2) ((rd_T31 l0 t324).f3) ((rd_T31 l0 t324).f4)).bind fun bt326 => (some (bt326.1, bt326.2.1, bt326.2.2.1, bt326.2.2.2.1, bt326.2.2.2.2, true))) else (none)) else (none))) else (some ((⟨#[]⟩ : ByteArray), 0, 0, ([] : List Int), (⟨#[]⟩ : ByteArray), false))))
theorem satchelref08_Find.mono : ∀ a0 a1 k, LeO (satchelref08_Find.f k a0 a1) (satchelref08_Find.f (k + 1) a0 a1) := by
 intro a0 a1 k
 unfold satchelref08_Find.f
 repeat' first
   | (with_reducible exact satchelref08_Check.mono _ _)
   | (with_reducible exact satchelref08_at.mono _ _ _)
   | (with_reducible exact LeO.refl _)
   | (with_reducible exact LeO.none _)
   | (with_reducible refine LeO.ite ?_ ?_)
   | (with_reducible refine LeO.bind ?_ (fun _ => ?_))
   | exact satchelref08_Check.mono _ _
   | exact satchelref08_at.mono _ _ _
   | exact LeO.none _
   | refine LeO.ite ?_ ?_
   | refine LeO.bind ?_ (fun _ => ?_)
set_option maxHeartbeats 8000000 in
set_option maxRecDepth 100000 in
theorem satchelref08_Find.calls (k : Nat) (A0 : Option Addr) (c0 : Nat) (l0 : List (S31)) (a1 : ByteArray) (r1 : ByteArray) (r2 : Int) (r3 : Int) (r4 : List Int) (r5 : ByteArray) (r6 : Bool) (w : World) (hr0 : Kd.C k31 w A0 l0.length l0) (hc0 : l0.length ≤ c0) (h : satchelref08_Find.f k l0 a1 = some (r1, r2, r3, r4, r5, r6)) :
  Calls Try.prog 20 #[.slice A0 l0.length c0, .string a1] w fun e w' => ∃ v3_ : Value, e = .returned (.tuple #[.agg #[.string r1, .int .i64 r2, .int .i64 r3, v3_, .string r5], .bool r6]) ∧ Kd.R (Kd.int .u8) 5 w' w.heap.size (fun _ => True) v3_ r4 ∧ Below w.heap.size w w' := by
 have hu31 := Try.underlying31
 have HR0 := Aside0.mk hr0
 have HC0 := Aside0.mk hc0
 clear hr0 hc0
 have HB := Aside0.mk (Below.refl w.heap.size w)
 have H : ((satchelref08_Check.f k l0).bind fun bt322 => ((satchelref08_at.f k l0 a1).bind fun t324 => (if bt322.1 = 0 then (if t324 < 0 then (some ((⟨#[]⟩ : ByteArray), 0, 0, ([] : List Int), (⟨#[]⟩ : ByteArray), false)) else (if 0 ≤ t324 then (if t324 < (l0.length : Int) then ((satchelref08_Own.f ((rd_T31 l0 t324).f0) ((rd_T31 l0 t324).f1) ((rd_T31 l0 t324).f2) ((rd_T31 l0 t324).f3) ((rd_T31 l0 t324).f4)).bind fun bt326 => (some (bt326.1, bt326.2.1, bt326.2.2.1, bt326.2.2.2.1, bt326.2.2.2.2, true))) else (none)) else (none))) else (some ((⟨#[]⟩ : ByteArray), 0, 0, ([] : List Int), (⟨#[]⟩ : ByteArray), false))))) = some (r1, r2, r3, r4, r5, r6) := h
 clear h
 replace H := Option.bind_eq_some_iff.mp H
 obtain ⟨⟨t322, t323⟩, A30, H⟩ := H
 replace H : ((satchelref08_at.f k l0 a1).bind fun t324 => (if t322 = 0 then (if t324 < 0 then (some ((⟨#[]⟩ : ByteArray), 0, 0, ([] : List Int), (⟨#[]⟩ : ByteArray), false)) else (if 0 ≤ t324 then (if t324 < (l0.length : Int) then ((satchelref08_Own.f ((rd_T31 l0 t324).f0) ((rd_T31 l0 t324).f1) ((rd_T31 l0 t324).f2) ((rd_T31 l0 t324).f3) ((rd_T31 l0 t324).f4)).bind fun bt326 => (some (bt326.1, bt326.2.1, bt326.2.2.1, bt326.2.2.2.1, bt326.2.2.2.2, true))) else (none)) else (none))) else (some ((⟨#[]⟩ : ByteArray), 0, 0, ([] : List Int), (⟨#[]⟩ : ByteArray), false)))) = some (r1, r2, r3, r4, r5, r6) := H
 have A3 := Aside0.mk A30
 clear A30
 replace H := Option.bind_eq_some_iff.mp H
 obtain ⟨t324, A40, H⟩ := H
 replace H : (if t322 = 0 then (if t324 < 0 then (some ((⟨#[]⟩ : ByteArray), 0, 0, ([] : List Int), (⟨#[]⟩ : ByteArray), false)) else (if 0 ≤ t324 then (if t324 < (l0.length : Int) then ((satchelref08_Own.f ((rd_T31 l0 t324).f0) ((rd_T31 l0 t324).f1) ((rd_T31 l0 t324).f2) ((rd_T31 l0 t324).f3) ((rd_T31 l0 t324).f4)).bind fun bt326 => (some (bt326.1, bt326.2.1, bt326.2.2.1, bt326.2.2.2.1, bt326.2.2.2.2, true))) else (none)) else (none))) else (some ((⟨#[]⟩ : ByteArray), 0, 0, ([] : List Int), (⟨#[]⟩ : ByteArray), false))) = some (r1, r2, r3, r4, r5, r6) := H
 have A4 := Aside0.mk A40
 clear A40
 by_cases c5 : t322 = 0
 ·rw [if_pos c5] at H
  have c5b0 : (t322 == 0) = true := beq_iff_eq.mpr c5
  have c5b1 : (t322 != 0) = false := bne_eq_false_iff_eq.mpr c5
  clear c5
  by_cases c6 : t324 < 0
  ·rw [if_pos c6] at H
   have c6b0 : decide (t324 < 0) = true := decide_eq_true c6
   clear c6
   simp only [Option.some.injEq, Prod.mk.injEq] at H
   obtain ⟨rfl, rfl, rfl, rfl, rfl, rfl⟩ := H
   go_enter Try.func20, Try.ntmps20
   go_wp2_with (first | ((with_reducible refine gate_dst (N := 4) rfl ?_); refine box_event ?hg (N := 4) ?hd (cs := #[.string (⟨#[]⟩ : ByteArray), .int .i64 0, .int .i64 0, .slice none 0 0, .string (⟨#[]⟩ : ByteArray)]) (t := 31) ?hr ?_; (case hd => rfl); (case hg => rfl); (case hr => first | (go_simp; done) | (go_simp; rfl)); intro gb321 hg w7 hbox hb; have n0_ := Aside0.mk (below_step (by repeat (first | (with_reducible first | exact HB.out | apply below_alloc | apply pw_below_drewN | apply below_drew1) | exact HB.out)) hb); have n1_ := Aside0.mk (hbox); have n2_ := Aside0.mk ((by rw [hg]; exact (below_size (by repeat (first | (with_reducible first | exact HB.out | apply below_alloc | apply pw_below_drewN | apply below_drew1) | exact HB.out))) : w.heap.size ≤ gb321)); have n3_ := Aside0.mk ((by rw [hg]; exact (below_size (by repeat (first | (with_reducible first | exact HB.out | apply below_alloc | apply pw_below_drewN | apply below_drew1) | exact HB.out))) : w.heap.size ≤ gb321)); clear HB; have HB := n0_; have BK321 := n1_; have GW321 := n2_; have GE321 := n3_; clear n0_ n1_ n2_ n3_; clear hb hbox hg) | ((with_reducible refine gate_callee (f := 19) rfl ?_); refine goesL_ (some 11) rfl rfl Try.func19 (by kernel_rfl) rfl #[.slice A0 l0.length c0] rfl (by (try simp only [List.map_toArray, List.map_cons, List.map_nil]); first | done | rfl | (simp only [List.length_drop, List.length_take]; rfl)) ?_; (with_reducible refine (satchelref08_Check.calls k _ _ l0 t322 t323 _ ?side1 ?side2 A3.out).mono ?_); (case side1 => repeat (first | exact (Kd.C_below HR0.out HB.out) | (with_reducible refine Kd.C_alloc ?_ _) | (with_reducible refine Kd.C_drewN ?_ _) | (with_reducible refine Kd.C_drew ?_))); (case side2 => exact HC0.out); rintro e w8 ⟨rfl, hb⟩; refine ⟨_, rfl, ?_⟩; have n0_ := Aside0.mk (blk_below (g := gb321) (o := .cells #[.string (⟨#[]⟩ : ByteArray), .int .i64 0, .int .i64 0, .slice none 0 0, .string (⟨#[]⟩ : ByteArray)] 31 (0, 0)) (by (with_reducible repeat (first | refine blk_drewN ?_ _ | refine blk_drew ?_ | refine blk_alloc ?_ _)); exact BK321.out) hb); have n1_ := Aside0.mk (below_step (by repeat (first | (with_reducible first | exact HB.out | apply below_alloc | apply pw_below_drewN | apply below_drew1 | refine below_set ?_ GE321.out) | exact HB.out)) hb); clear BK321; clear HB; have BK321 := n0_; have HB := n1_; clear n0_ n1_; (try clear hb); (try clear hb2); (try clear hk); (try clear hi)) | ((with_reducible refine gate_callee (f := 51) rfl ?_); refine goesL_ (some 16) rfl rfl Try.func51 (by kernel_rfl) rfl #[.slice A0 l0.length c0, .string a1] rfl (by (try simp only [List.map_toArray, List.map_cons, List.map_nil]); first | done | rfl | (simp only [List.length_drop, List.length_take]; rfl)) ?_; (with_reducible refine (satchelref08_at.calls k _ _ l0 a1 t324 _ ?side1 ?side2 A4.out).mono ?_); (case side1 => repeat (first | exact (Kd.C_below HR0.out HB.out) | (with_reducible refine Kd.C_alloc ?_ _) | (with_reducible refine Kd.C_drewN ?_ _) | (with_reducible refine Kd.C_drew ?_))); (case side2 => exact HC0.out); rintro e w' ⟨rfl, ⟨nd, rfl⟩⟩; refine ⟨_, rfl, ?_⟩; (try (rw [drewN_self w8]; generalize hq_ : World.drewN w8 _ = w8; have n0_ : Aside0 (w8.heap[gb321]? = some (.cells #[.string (⟨#[]⟩ : ByteArray), .int .i64 0, .int .i64 0, .slice none 0 0, .string (⟨#[]⟩ : ByteArray)] 31 (0, 0))) := ⟨by rw [← hq_]; exact (by (with_reducible repeat (first | refine blk_drewN ?_ _ | refine blk_drew ?_ | refine blk_alloc ?_ _)); exact BK321.out)⟩; have n1_ : Aside0 (Below w.heap.size w w8) := ⟨by rw [← hq_]; exact (by repeat (first | (with_reducible first | exact HB.out | apply below_alloc | apply pw_below_drewN | apply below_drew1 | refine below_set ?_ GE321.out) | exact HB.out))⟩; clear BK321 HB hq_; have BK321 := n0_; have HB := n1_; clear n0_ n1_)); have hcz9_0 : w8.cell? ⟨gb321, 0, none⟩ = some (.string (⟨#[]⟩ : ByteArray)) := (blk_cell BK321.out 0).trans rfl; have hcz9_1 : w8.cell? ⟨gb321, 1, none⟩ = some (.int .i64 0) := (blk_cell BK321.out 1).trans rfl; have hcz9_2 : w8.cell? ⟨gb321, 2, none⟩ = some (.int .i64 0) := (blk_cell BK321.out 2).trans rfl; have hcz9_3 : w8.cell? ⟨gb321, 3, none⟩ = some (.slice none 0 0) := (blk_cell BK321.out 3).trans rfl; have hcz9_4 : w8.cell? ⟨gb321, 4, none⟩ = some (.string (⟨#[]⟩ : ByteArray)) := (blk_cell BK321.out 4).trans rfl; have hfz9_0 := blk_frozen BK321.out 0; have hfz9_1 := blk_frozen BK321.out 1; have hfz9_2 := blk_frozen BK321.out 2; have hfz9_3 := blk_frozen BK321.out 3; have hfz9_4 := blk_frozen BK321.out 4))
   refine bodyPost_ret (results_ct rfl _ _ gb321 31 #[.string (⟨#[]⟩ : ByteArray), .int .i64 0, .int .i64 0, .slice none 0 0, .string (⟨#[]⟩ : ByteArray)] (0, 0) _ rfl (by (with_reducible repeat (first | refine blk_drewN ?_ _ | refine blk_drew ?_ | refine blk_alloc ?_ _)); refine blk_put (cs := #[.string (⟨#[]⟩ : ByteArray), .int .i64 0, .int .i64 0, .slice none 0 0, .string (⟨#[]⟩ : ByteArray)]) ?_ 4 _ rfl; (with_reducible repeat (first | refine blk_drewN ?_ _ | refine blk_drew ?_ | refine blk_alloc ?_ _)); refine blk_put (cs := #[.string (⟨#[]⟩ : ByteArray), .int .i64 0, .int .i64 0, .slice none 0 0, .string (⟨#[]⟩ : ByteArray)]) ?_ 3 _ rfl; (with_reducible repeat (first | refine blk_drewN ?_ _ | refine blk_drew ?_ | refine blk_alloc ?_ _)); refine blk_put (cs := #[.string (⟨#[]⟩ : ByteArray), .int .i64 0, .int .i64 0, .slice none 0 0, .string (⟨#[]⟩ : ByteArray)]) ?_ 2 _ rfl; (with_reducible repeat (first | refine blk_drewN ?_ _ | refine blk_drew ?_ | refine blk_alloc ?_ _)); refine blk_put (cs := #[.string (⟨#[]⟩ : ByteArray), .int .i64 0, .int .i64 0, .slice none 0 0, .string (⟨#[]⟩ : ByteArray)]) ?_ 1 _ rfl; (with_reducible repeat (first | refine blk_drewN ?_ _ | refine blk_drew ?_ | refine blk_alloc ?_ _)); refine blk_put (cs := #[.string (⟨#[]⟩ : ByteArray), .int .i64 0, .int .i64 0, .slice none 0 0, .string (⟨#[]⟩ : ByteArray)]) ?_ 0 _ rfl; (with_reducible repeat (first | refine blk_drewN ?_ _ | refine blk_drew ?_ | refine blk_alloc ?_ _)); exact BK321.out) Try.underlying31 rfl (by kernel_rfl)) rfl ?_
   exact ⟨_, by first | rfl | (simp [errW_none, errW_some] <;> rfl) | (simp [*, errW_none, errW_some] <;> rfl) | (simp [bt, *]; done) | (simp_all [bt]; done), by first | exact Kd.R_nil _ _ _ _ _ | exact Kd.N_nil _ _ _ _ _ | exact Kd.V_nil _ _ _ _ _ | exact Kd.Q_nil _ _ _ _ _ | exact Kd.S_nil _ _ _ _ _, by repeat (first | (with_reducible first | exact HB.out | apply below_alloc | apply pw_below_drewN | apply below_drew1 | refine below_set ?_ GE321.out) | exact HB.out)⟩
  ·rw [if_neg c6] at H
   have c6b0 : decide (t324 < 0) = false := decide_eq_false c6
   clear c6
   by_cases c10 : 0 ≤ t324
   ·rw [if_pos c10] at H
    have c10b0 : decide (0 ≤ t324) = true := decide_eq_true c10
    clear c10
    by_cases c11 : t324 < (l0.length : Int)
    ·rw [if_pos c11] at H
     have c11b0 : decide (t324 < (l0.length : Int)) = true := decide_eq_true c11
     clear c11
     replace H := Option.bind_eq_some_iff.mp H
     obtain ⟨⟨t326, t327, t328, t329, t332⟩, A120, H⟩ := H
     replace H : (some (t326, t327, t328, t329, t332, true)) = some (r1, r2, r3, r4, r5, r6) := H
     have A12 := Aside0.mk A120
     clear A120
     simp only [Option.some.injEq, Prod.mk.injEq] at H
     obtain ⟨rfl, rfl, rfl, rfl, rfl, rfl⟩ := H
     go_enter Try.func20, Try.ntmps20
     go_wp2_with (first | ((with_reducible refine gate_dst (N := 4) rfl ?_); refine box_event ?hg (N := 4) ?hd (cs := #[.string (⟨#[]⟩ : ByteArray), .int .i64 0, .int .i64 0, .slice none 0 0, .string (⟨#[]⟩ : ByteArray)]) (t := 31) ?hr ?_; (case hd => rfl); (case hg => rfl); (case hr => first | (go_simp; done) | (go_simp; rfl)); intro gb321 hg w13 hbox hb; have n0_ := Aside0.mk (below_step (by repeat (first | (with_reducible first | exact HB.out | apply below_alloc | apply pw_below_drewN | apply below_drew1) | exact HB.out)) hb); have n1_ := Aside0.mk (hbox); have n2_ := Aside0.mk ((by rw [hg]; exact (below_size (by repeat (first | (with_reducible first | exact HB.out | apply below_alloc | apply pw_below_drewN | apply below_drew1) | exact HB.out))) : w.heap.size ≤ gb321)); have n3_ := Aside0.mk ((by rw [hg]; exact (below_size (by repeat (first | (with_reducible first | exact HB.out | apply below_alloc | apply pw_below_drewN | apply below_drew1) | exact HB.out))) : w.heap.size ≤ gb321)); clear HB; have HB := n0_; have BK321 := n1_; have GW321 := n2_; have GE321 := n3_; clear n0_ n1_ n2_ n3_; clear hb hbox hg) | ((with_reducible refine gate_callee (f := 19) rfl ?_); refine goesL_ (some 11) rfl rfl Try.func19 (by kernel_rfl) rfl #[.slice A0 l0.length c0] rfl (by (try simp only [List.map_toArray, List.map_cons, List.map_nil]); first | done | rfl | (simp only [List.length_drop, List.length_take]; rfl)) ?_; (with_reducible refine (satchelref08_Check.calls k _ _ l0 t322 t323 _ ?side1 ?side2 A3.out).mono ?_); (case side1 => repeat (first | exact (Kd.C_below HR0.out HB.out) | (with_reducible refine Kd.C_alloc ?_ _) | (with_reducible refine Kd.C_drewN ?_ _) | (with_reducible refine Kd.C_drew ?_))); (case side2 => exact HC0.out); rintro e w14 ⟨rfl, hb⟩; refine ⟨_, rfl, ?_⟩; have n0_ := Aside0.mk (blk_below (g := gb321) (o := .cells #[.string (⟨#[]⟩ : ByteArray), .int .i64 0, .int .i64 0, .slice none 0 0, .string (⟨#[]⟩ : ByteArray)] 31 (0, 0)) (by (with_reducible repeat (first | refine blk_drewN ?_ _ | refine blk_drew ?_ | refine blk_alloc ?_ _)); exact BK321.out) hb); have n1_ := Aside0.mk (below_step (by repeat (first | (with_reducible first | exact HB.out | apply below_alloc | apply pw_below_drewN | apply below_drew1 | refine below_set ?_ GE321.out) | exact HB.out)) hb); clear BK321; clear HB; have BK321 := n0_; have HB := n1_; clear n0_ n1_; (try clear hb); (try clear hb2); (try clear hk); (try clear hi)) | ((with_reducible refine gate_callee (f := 51) rfl ?_); refine goesL_ (some 16) rfl rfl Try.func51 (by kernel_rfl) rfl #[.slice A0 l0.length c0, .string a1] rfl (by (try simp only [List.map_toArray, List.map_cons, List.map_nil]); first | done | rfl | (simp only [List.length_drop, List.length_take]; rfl)) ?_; (with_reducible refine (satchelref08_at.calls k _ _ l0 a1 t324 _ ?side1 ?side2 A4.out).mono ?_); (case side1 => repeat (first | exact (Kd.C_below HR0.out HB.out) | (with_reducible refine Kd.C_alloc ?_ _) | (with_reducible refine Kd.C_drewN ?_ _) | (with_reducible refine Kd.C_drew ?_))); (case side2 => exact HC0.out); rintro e w' ⟨rfl, ⟨nd, rfl⟩⟩; refine ⟨_, rfl, ?_⟩; (try (rw [drewN_self w14]; generalize hq_ : World.drewN w14 _ = w14; have n0_ : Aside0 (w14.heap[gb321]? = some (.cells #[.string (⟨#[]⟩ : ByteArray), .int .i64 0, .int .i64 0, .slice none 0 0, .string (⟨#[]⟩ : ByteArray)] 31 (0, 0))) := ⟨by rw [← hq_]; exact (by (with_reducible repeat (first | refine blk_drewN ?_ _ | refine blk_drew ?_ | refine blk_alloc ?_ _)); exact BK321.out)⟩; have n1_ : Aside0 (Below w.heap.size w w14) := ⟨by rw [← hq_]; exact (by repeat (first | (with_reducible first | exact HB.out | apply below_alloc | apply pw_below_drewN | apply below_drew1 | refine below_set ?_ GE321.out) | exact HB.out))⟩; clear BK321 HB hq_; have BK321 := n0_; have HB := n1_; clear n0_ n1_)); have p325 : 0 ≤ (t324 : Int) := of_decide_eq_true (by first | (with_reducible assumption) | assumption); have q325 : t324 < (l0.length : Int) := of_decide_eq_true (by first | (with_reducible assumption) | assumption); obtain ⟨ad325, A325_3, c325_3, e325, hx325_0, hx325_1, hx325_2, hx325_3, hx325_4, hl325_3, hi325_3⟩ := at_T31 HR0.out t324 p325 q325; cases e325; replace hx325_0 := (HB.out.cell (World.block_lt_of_cell? w _ hx325_0)).trans hx325_0; replace hx325_1 := (HB.out.cell (World.block_lt_of_cell? w _ hx325_1)).trans hx325_1; replace hx325_2 := (HB.out.cell (World.block_lt_of_cell? w _ hx325_2)).trans hx325_2; replace hx325_3 := (HB.out.cell (World.block_lt_of_cell? w _ hx325_3)).trans hx325_3; replace hx325_4 := (HB.out.cell (World.block_lt_of_cell? w _ hx325_4)).trans hx325_4; have HR325_3 := Aside0.mk hi325_3; have HC325_3 := Aside0.mk hl325_3; clear hi325_3 hl325_3; replace p325 := eq_true p325; replace q325 := eq_true q325) | ((with_reducible refine gate_callee (f := 52) rfl ?_); refine goesL_ (some 28) rfl rfl Try.func52 (by kernel_rfl) rfl #[.agg #[.string ((rd_T31 l0 t324).f0), .int .i64 ((rd_T31 l0 t324).f1), .int .i64 ((rd_T31 l0 t324).f2), .slice A325_3 ((rd_T31 l0 t324).f3).length c325_3, .string ((rd_T31 l0 t324).f4)]] rfl (by (try simp only [List.map_toArray, List.map_cons, List.map_nil]); first | done | rfl | (simp only [List.length_drop, List.length_take]; rfl)) ?_; (with_reducible refine (satchelref08_Own.calls ((rd_T31 l0 t324).f0) ((rd_T31 l0 t324).f1) ((rd_T31 l0 t324).f2) _ _ ((rd_T31 l0 t324).f3) ((rd_T31 l0 t324).f4) t326 t327 t328 t329 t332 _ ?side1 ?side2 A12.out).mono ?_); (case side1 => repeat (first | exact (Kd.C_below HR325_3.out HB.out) | (with_reducible refine Kd.C_alloc ?_ _) | (with_reducible refine Kd.C_drewN ?_ _) | (with_reducible refine Kd.C_drew ?_))); (case side2 => exact HC325_3.out); rintro e w15 ⟨v330, rfl, ho0, hb⟩; refine ⟨_, rfl, ?_⟩; have n0_ := Aside0.mk (Kd.R_lower ho0 (below_size (by repeat (first | (with_reducible first | exact HB.out | apply below_alloc | apply pw_below_drewN | apply below_drew1 | refine below_set ?_ GE321.out) | exact HB.out)))); have n1_ := Aside0.mk (blk_below (g := gb321) (o := .cells #[.string (⟨#[]⟩ : ByteArray), .int .i64 0, .int .i64 0, .slice none 0 0, .string (⟨#[]⟩ : ByteArray)] 31 (0, 0)) (by (with_reducible repeat (first | refine blk_drewN ?_ _ | refine blk_drew ?_ | refine blk_alloc ?_ _)); exact BK321.out) hb); have n2_ := Aside0.mk (below_step (by repeat (first | (with_reducible first | exact HB.out | apply below_alloc | apply pw_below_drewN | apply below_drew1 | refine below_set ?_ GE321.out) | exact HB.out)) hb); clear BK321; clear HB; have HO331 := n0_; have BK321 := n1_; have HB := n2_; clear n0_ n1_ n2_; (try clear hb); (try clear hb2); (try clear hk); (try clear hi); (try clear ho0); have hcz16_0 : w15.cell? ⟨gb321, 0, none⟩ = some (.string (⟨#[]⟩ : ByteArray)) := (blk_cell BK321.out 0).trans rfl; have hcz16_1 : w15.cell? ⟨gb321, 1, none⟩ = some (.int .i64 0) := (blk_cell BK321.out 1).trans rfl; have hcz16_2 : w15.cell? ⟨gb321, 2, none⟩ = some (.int .i64 0) := (blk_cell BK321.out 2).trans rfl; have hcz16_3 : w15.cell? ⟨gb321, 3, none⟩ = some (.slice none 0 0) := (blk_cell BK321.out 3).trans rfl; have hcz16_4 : w15.cell? ⟨gb321, 4, none⟩ = some (.string (⟨#[]⟩ : ByteArray)) := (blk_cell BK321.out 4).trans rfl; have hfz16_0 := blk_frozen BK321.out 0; have hfz16_1 := blk_frozen BK321.out 1; have hfz16_2 := blk_frozen BK321.out 2; have hfz16_3 := blk_frozen BK321.out 3; have hfz16_4 := blk_frozen BK321.out 4; obtain ⟨Ao17, co17, eo17⟩ := Kd.R_slice HO331.out; subst eo17))
     refine bodyPost_ret (results_ct rfl _ _ gb321 31 #[.string t326, .int .i64 t327, .int .i64 t328, .slice Ao17 t329.length co17, .string t332] (0, 0) _ rfl (by (with_reducible repeat (first | refine blk_drewN ?_ _ | refine blk_drew ?_ | refine blk_alloc ?_ _)); refine blk_put (cs := #[.string t326, .int .i64 t327, .int .i64 t328, .slice Ao17 t329.length co17, .string (⟨#[]⟩ : ByteArray)]) ?_ 4 _ rfl; (with_reducible repeat (first | refine blk_drewN ?_ _ | refine blk_drew ?_ | refine blk_alloc ?_ _)); refine blk_put (cs := #[.string t326, .int .i64 t327, .int .i64 t328, .slice none 0 0, .string (⟨#[]⟩ : ByteArray)]) ?_ 3 _ rfl; (with_reducible repeat (first | refine blk_drewN ?_ _ | refine blk_drew ?_ | refine blk_alloc ?_ _)); refine blk_put (cs := #[.string t326, .int .i64 t327, .int .i64 0, .slice none 0 0, .string (⟨#[]⟩ : ByteArray)]) ?_ 2 _ rfl; (with_reducible repeat (first | refine blk_drewN ?_ _ | refine blk_drew ?_ | refine blk_alloc ?_ _)); refine blk_put (cs := #[.string t326, .int .i64 0, .int .i64 0, .slice none 0 0, .string (⟨#[]⟩ : ByteArray)]) ?_ 1 _ rfl; (with_reducible repeat (first | refine blk_drewN ?_ _ | refine blk_drew ?_ | refine blk_alloc ?_ _)); refine blk_put (cs := #[.string (⟨#[]⟩ : ByteArray), .int .i64 0, .int .i64 0, .slice none 0 0, .string (⟨#[]⟩ : ByteArray)]) ?_ 0 _ rfl; (with_reducible repeat (first | refine blk_drewN ?_ _ | refine blk_drew ?_ | refine blk_alloc ?_ _)); exact BK321.out) Try.underlying31 rfl (by kernel_rfl)) rfl ?_
     exact ⟨_, by first | rfl | (simp [errW_none, errW_some] <;> rfl) | (simp [*, errW_none, errW_some] <;> rfl) | (simp [bt, *]; done) | (simp_all [bt]; done), by (with_reducible repeat (first | apply Kd.R_alloc | apply Kd.R_drewN | apply Kd.R_drew)); exact Kd.R_mono (Kd.R_far (p := ⟨gb321, 4, none⟩) (Kd.R_far (p := ⟨gb321, 3, none⟩) (Kd.R_far (p := ⟨gb321, 2, none⟩) (Kd.R_far (p := ⟨gb321, 1, none⟩) (Kd.R_far (p := ⟨gb321, 0, none⟩) (Kd.R_types HO331.out BK321.out (by decide)) (fun _ hk => hk.2) (.string t326)) (fun _ hk => hk.2) (.int .i64 t327)) (fun _ hk => hk.2) (.int .i64 t328)) (fun _ hk => hk.2) (.slice Ao17 t329.length co17)) (fun _ hk => hk.2) (.string t332)) (fun _ hk => trivial), by repeat (first | (with_reducible first | exact HB.out | apply below_alloc | apply pw_below_drewN | apply below_drew1 | refine below_set ?_ GE321.out) | exact HB.out)⟩
    ·rw [if_neg c11] at H
     exact absurd H (by simp)
   ·rw [if_neg c10] at H
    exact absurd H (by simp)
 ·rw [if_neg c5] at H
  have c5b0 : (t322 == 0) = false := beq_eq_false_iff_ne.mpr c5
  have c5b1 : (t322 != 0) = true := bne_iff_ne.mpr c5
  simp only [Option.some.injEq, Prod.mk.injEq] at H
  obtain ⟨rfl, rfl, rfl, rfl, rfl, rfl⟩ := H
  go_enter Try.func20, Try.ntmps20
  go_wp2_with (first | ((with_reducible refine gate_dst (N := 4) rfl ?_); refine box_event ?hg (N := 4) ?hd (cs := #[.string (⟨#[]⟩ : ByteArray), .int .i64 0, .int .i64 0, .slice none 0 0, .string (⟨#[]⟩ : ByteArray)]) (t := 31) ?hr ?_; (case hd => rfl); (case hg => rfl); (case hr => first | (go_simp; done) | (go_simp; rfl)); intro gb321 hg w18 hbox hb; have n0_ := Aside0.mk (below_step (by repeat (first | (with_reducible first | exact HB.out | apply below_alloc | apply pw_below_drewN | apply below_drew1) | exact HB.out)) hb); have n1_ := Aside0.mk (hbox); have n2_ := Aside0.mk ((by rw [hg]; exact (below_size (by repeat (first | (with_reducible first | exact HB.out | apply below_alloc | apply pw_below_drewN | apply below_drew1) | exact HB.out))) : w.heap.size ≤ gb321)); have n3_ := Aside0.mk ((by rw [hg]; exact (below_size (by repeat (first | (with_reducible first | exact HB.out | apply below_alloc | apply pw_below_drewN | apply below_drew1) | exact HB.out))) : w.heap.size ≤ gb321)); clear HB; have HB := n0_; have BK321 := n1_; have GW321 := n2_; have GE321 := n3_; clear n0_ n1_ n2_ n3_; clear hb hbox hg) | ((with_reducible refine gate_callee (f := 19) rfl ?_); refine goesL_ (some 11) rfl rfl Try.func19 (by kernel_rfl) rfl #[.slice A0 l0.length c0] rfl (by (try simp only [List.map_toArray, List.map_cons, List.map_nil]); first | done | rfl | (simp only [List.length_drop, List.length_take]; rfl)) ?_; (with_reducible refine (satchelref08_Check.calls k _ _ l0 t322 t323 _ ?side1 ?side2 A3.out).mono ?_); (case side1 => repeat (first | exact (Kd.C_below HR0.out HB.out) | (with_reducible refine Kd.C_alloc ?_ _) | (with_reducible refine Kd.C_drewN ?_ _) | (with_reducible refine Kd.C_drew ?_))); (case side2 => exact HC0.out); rintro e w19 ⟨rfl, hb⟩; refine ⟨_, rfl, ?_⟩; have n0_ := Aside0.mk (blk_below (g := gb321) (o := .cells #[.string (⟨#[]⟩ : ByteArray), .int .i64 0, .int .i64 0, .slice none 0 0, .string (⟨#[]⟩ : ByteArray)] 31 (0, 0)) (by (with_reducible repeat (first | refine blk_drewN ?_ _ | refine blk_drew ?_ | refine blk_alloc ?_ _)); exact BK321.out) hb); have n1_ := Aside0.mk (below_step (by repeat (first | (with_reducible first | exact HB.out | apply below_alloc | apply pw_below_drewN | apply below_drew1 | refine below_set ?_ GE321.out) | exact HB.out)) hb); clear BK321; clear HB; have BK321 := n0_; have HB := n1_; clear n0_ n1_; (try clear hb); (try clear hb2); (try clear hk); (try clear hi)) | ((with_reducible refine gate_callee (f := 51) rfl ?_); refine goesL_ (some 16) rfl rfl Try.func51 (by kernel_rfl) rfl #[.slice A0 l0.length c0, .string a1] rfl (by (try simp only [List.map_toArray, List.map_cons, List.map_nil]); first | done | rfl | (simp only [List.length_drop, List.length_take]; rfl)) ?_; (with_reducible refine (satchelref08_at.calls k _ _ l0 a1 t324 _ ?side1 ?side2 A4.out).mono ?_); (case side1 => repeat (first | exact (Kd.C_below HR0.out HB.out) | (with_reducible refine Kd.C_alloc ?_ _) | (with_reducible refine Kd.C_drewN ?_ _) | (with_reducible refine Kd.C_drew ?_))); (case side2 => exact HC0.out); rintro e w' ⟨rfl, ⟨nd, rfl⟩⟩; refine ⟨_, rfl, ?_⟩; (try (rw [drewN_self w19]; generalize hq_ : World.drewN w19 _ = w19; have n0_ : Aside0 (w19.heap[gb321]? = some (.cells #[.string (⟨#[]⟩ : ByteArray), .int .i64 0, .int .i64 0, .slice none 0 0, .string (⟨#[]⟩ : ByteArray)] 31 (0, 0))) := ⟨by rw [← hq_]; exact (by (with_reducible repeat (first | refine blk_drewN ?_ _ | refine blk_drew ?_ | refine blk_alloc ?_ _)); exact BK321.out)⟩; have n1_ : Aside0 (Below w.heap.size w w19) := ⟨by rw [← hq_]; exact (by repeat (first | (with_reducible first | exact HB.out | apply below_alloc | apply pw_below_drewN | apply below_drew1 | refine below_set ?_ GE321.out) | exact HB.out))⟩; clear BK321 HB hq_; have BK321 := n0_; have HB := n1_; clear n0_ n1_)); have hcz20_0 : w19.cell? ⟨gb321, 0, none⟩ = some (.string (⟨#[]⟩ : ByteArray)) := (blk_cell BK321.out 0).trans rfl; have hcz20_1 : w19.cell? ⟨gb321, 1, none⟩ = some (.int .i64 0) := (blk_cell BK321.out 1).trans rfl; have hcz20_2 : w19.cell? ⟨gb321, 2, none⟩ = some (.int .i64 0) := (blk_cell BK321.out 2).trans rfl; have hcz20_3 : w19.cell? ⟨gb321, 3, none⟩ = some (.slice none 0 0) := (blk_cell BK321.out 3).trans rfl; have hcz20_4 : w19.cell? ⟨gb321, 4, none⟩ = some (.string (⟨#[]⟩ : ByteArray)) := (blk_cell BK321.out 4).trans rfl; have hfz20_0 := blk_frozen BK321.out 0; have hfz20_1 := blk_frozen BK321.out 1; have hfz20_2 := blk_frozen BK321.out 2; have hfz20_3 := blk_frozen BK321.out 3; have hfz20_4 := blk_frozen BK321.out 4))
  refine bodyPost_ret (results_ct rfl _ _ gb321 31 #[.string (⟨#[]⟩ : ByteArray), .int .i64 0, .int .i64 0, .slice none 0 0, .string (⟨#[]⟩ : ByteArray)] (0, 0) _ rfl (by (with_reducible repeat (first | refine blk_drewN ?_ _ | refine blk_drew ?_ | refine blk_alloc ?_ _)); refine blk_put (cs := #[.string (⟨#[]⟩ : ByteArray), .int .i64 0, .int .i64 0, .slice none 0 0, .string (⟨#[]⟩ : ByteArray)]) ?_ 4 _ rfl; (with_reducible repeat (first | refine blk_drewN ?_ _ | refine blk_drew ?_ | refine blk_alloc ?_ _)); refine blk_put (cs := #[.string (⟨#[]⟩ : ByteArray), .int .i64 0, .int .i64 0, .slice none 0 0, .string (⟨#[]⟩ : ByteArray)]) ?_ 3 _ rfl; (with_reducible repeat (first | refine blk_drewN ?_ _ | refine blk_drew ?_ | refine blk_alloc ?_ _)); refine blk_put (cs := #[.string (⟨#[]⟩ : ByteArray), .int .i64 0, .int .i64 0, .slice none 0 0, .string (⟨#[]⟩ : ByteArray)]) ?_ 2 _ rfl; (with_reducible repeat (first | refine blk_drewN ?_ _ | refine blk_drew ?_ | refine blk_alloc ?_ _)); refine blk_put (cs := #[.string (⟨#[]⟩ : ByteArray), .int .i64 0, .int .i64 0, .slice none 0 0, .string (⟨#[]⟩ : ByteArray)]) ?_ 1 _ rfl; (with_reducible repeat (first | refine blk_drewN ?_ _ | refine blk_drew ?_ | refine blk_alloc ?_ _)); refine blk_put (cs := #[.string (⟨#[]⟩ : ByteArray), .int .i64 0, .int .i64 0, .slice none 0 0, .string (⟨#[]⟩ : ByteArray)]) ?_ 0 _ rfl; (with_reducible repeat (first | refine blk_drewN ?_ _ | refine blk_drew ?_ | refine blk_alloc ?_ _)); exact BK321.out) Try.underlying31 rfl (by kernel_rfl)) rfl ?_
  exact ⟨_, by first | rfl | (simp [errW_none, errW_some] <;> rfl) | (simp [*, errW_none, errW_some] <;> rfl) | (simp [bt, *]; done) | (simp_all [bt]; done), by first | exact Kd.R_nil _ _ _ _ _ | exact Kd.N_nil _ _ _ _ _ | exact Kd.V_nil _ _ _ _ _ | exact Kd.Q_nil _ _ _ _ _ | exact Kd.S_nil _ _ _ _ _, by repeat (first | (with_reducible first | exact HB.out | apply below_alloc | apply pw_below_drewN | apply below_drew1 | refine below_set ?_ GE321.out) | exact HB.out)⟩

end Go.Proofs.Ytopkmchkfcjjmaa.X
end

/-! ## TreeSize -/
section
namespace Go.Proofs.Ytopkmchkfcjjmaa.X
open Go.RowKit Go.Proofs.YtopkmchkfcjjmaaW.PrintWords Go.Proofs.YtopkmchkfcjjmaaW.PrintLast Go.Proofs.YtopkmchkfcjjmaaW.PrintMore
attribute [local go_sem] max2_int min2_int max_two min_two max_three min_three max_four min_four   -- for this text's walks alone
set_option linter.unusedVariables false
set_option linter.unusedSimpArgs false

attribute [local go_sem] str_gtr fld_fault0 fld_fault1
/-! ### tree_Size: function 22 -/
def tree_Size.l0 : Nat → Int → List (S31) → Int → Int → Option (Int)
 | 0, _, _, _, _ => none
 | k + 1, x3, x6, x7, x8 => if x8 < x7 then (if 0 ≤ x8 then (if x8 < (x6.length : Int) then (tree_Size.l0 k (wrap64 (x3 + (((rd_T31 x6 x8).f3).length : Int))) x6 x7 (wrap64 (x8 + 1))) else (none)) else (none)) else (some x3)
def tree_Size.f (k : Nat) (l0 : List (S31)) : Option (Int) := tree_Size.l0 k 0 l0 (l0.length : Int) 0
theorem tree_Size.mono_l : ∀ k, (∀ y0 y1 y2 y3, LeO (tree_Size.l0 k y0 y1 y2 y3) (tree_Size.l0 (k + 1) y0 y1 y2 y3))
 | 0 => fun _ _ _ _ r h => by simp [tree_Size.l0] at h
 | k + 1 => by
  have ih0 := tree_Size.mono_l k
  ·intro y0 y1 y2 y3
   unfold tree_Size.l0
   repeat' first
   | (with_reducible exact ih0 _ _ _ _)
   | (with_reducible exact LeO.refl _)
   | (with_reducible exact LeO.none _)
   | (with_reducible refine LeO.ite ?_ ?_)
   | (with_reducible refine LeO.bind ?_ (fun _ => ?_))
   | exact ih0 _ _ _ _
   | exact LeO.none _
   | refine LeO.ite ?_ ?_
   | refine LeO.bind ?_ (fun _ => ?_)
theorem tree_Size.mono : ∀ a0 k, LeO (tree_Size.f k a0) (tree_Size.f (k + 1) a0) := by
 intro a0 k
 have ih0 := tree_Size.mono_l k
 unfold tree_Size.f
 repeat' first
   | (with_reducible exact ih0 _ _ _ _)
   | (with_reducible exact LeO.refl _)
   | (with_reducible exact LeO.none _)
   | (with_reducible refine LeO.ite ?_ ?_)
   | (with_reducible refine LeO.bind ?_ (fun _ => ?_))
   | exact ih0 _ _ _ _
   | exact LeO.none _
   | refine LeO.ite ?_ ?_
   | refine LeO.bind ?_ (fun _ => ?_)
set_option maxHeartbeats 8000000 in
set_option maxRecDepth 100000 in
theorem tree_Size.calls (k : Nat) (A0 : Option Addr) (c0 : Nat) (l0 : List (S31)) (r : Int) (w : World) (hr0 : Kd.C k31 w A0 l0.length l0) (hc0 : l0.length ≤ c0) (h : tree_Size.f k l0 = some r) :
  Calls Try.prog 22 #[.slice A0 l0.length c0] w fun e w' => e = .returned (.int .i64 r) ∧ Below w.heap.size w w' := by
 have hu31 := Try.underlying31
 have HR0 := Aside0.mk hr0
 have HC0 := Aside0.mk hc0
 clear hr0 hc0
 have HB := Aside0.mk (Below.refl w.heap.size w)
 have H : (tree_Size.l0 k 0 l0 (l0.length : Int) 0) = some r := h
 clear h
 have H' := Aside0.mk H
 clear H
 go_enter Try.func22, Try.ntmps22
 go_wp2
 go_loopg [3, 8] k (fun kq v3 v8 w' => ∃ (x3_1 : Int) (x8_1 : Int), v3 = .int .i64 x3_1 ∧ v8 = .int .i64 x8_1 ∧ Aside0 (tree_Size.l0 kq x3_1 l0 (l0.length : Int) x8_1 = some r) ∧ Aside0 (kq ≤ k) ∧ Aside0 (Below w.heap.size w w'))
 case atStart => exact ⟨(0), (0), (by first | rfl | (simp; done) | (simp [*]; done)), (by first | rfl | (simp; done) | (simp [*]; done)), H', ⟨Nat.le_refl _⟩, ⟨by repeat (first | (with_reducible first | exact HB.out | apply below_alloc | apply pw_below_drewN | apply below_drew1) | exact HB.out)⟩⟩
 case round =>
  clear H'
  obtain ⟨x3_1, x8_1, rfl, rfl, HA, HK1, HB⟩ := hrel
  cases gk with
  | zero => exact absurd HA.out (by simp [tree_Size.l0])
  | succ k1 =>
   have H := HA.out
   clear HA
   simp only [tree_Size.l0] at H
   by_cases c2 : x8_1 < (l0.length : Int)
   ·rw [if_pos c2] at H
    have c2b0 : decide (x8_1 < (l0.length : Int)) = true := decide_eq_true c2
    clear c2
    by_cases c3 : 0 ≤ x8_1
    ·rw [if_pos c3] at H
     have c3b0 : decide (0 ≤ x8_1) = true := decide_eq_true c3
     clear c3
     by_cases c4 : x8_1 < (l0.length : Int)
     ·rw [if_pos c4] at H
      have c4b0 : decide (x8_1 < (l0.length : Int)) = true := decide_eq_true c4
      clear c4
      have H' := Aside0.mk H
      clear H
      have p335 : 0 ≤ (x8_1 : Int) := of_decide_eq_true (by first | (with_reducible assumption) | assumption)
      have q335 : x8_1 < (l0.length : Int) := of_decide_eq_true (by first | (with_reducible assumption) | assumption)
      obtain ⟨ad335, A335_3, c335_3, e335, hx335_0, hx335_1, hx335_2, hx335_3, hx335_4, hl335_3, hi335_3⟩ := at_T31 HR0.out x8_1 p335 q335
      cases e335
      replace hx335_0 := (HB.out.cell (World.block_lt_of_cell? w _ hx335_0)).trans hx335_0
      replace hx335_1 := (HB.out.cell (World.block_lt_of_cell? w _ hx335_1)).trans hx335_1
      replace hx335_2 := (HB.out.cell (World.block_lt_of_cell? w _ hx335_2)).trans hx335_2
      replace hx335_3 := (HB.out.cell (World.block_lt_of_cell? w _ hx335_3)).trans hx335_3
      replace hx335_4 := (HB.out.cell (World.block_lt_of_cell? w _ hx335_4)).trans hx335_4
      have HR335_3 := Aside0.mk hi335_3
      have HC335_3 := Aside0.mk hl335_3
      clear hi335_3 hl335_3
      replace p335 := eq_true p335
      replace q335 := eq_true q335
      go_wp2_with (first | ((with_reducible refine gate_dst (N := 5) rfl ?_); refine box_event ?hg (N := 5) ?hd (cs := #[.string (⟨#[]⟩ : ByteArray), .int .i64 0, .int .i64 0, .slice none 0 0, .string (⟨#[]⟩ : ByteArray)]) (t := 31) ?hr ?_; (case hd => rfl); (case hg => rfl); (case hr => first | (go_simp; done) | (go_simp; rfl)); intro gb336 hg w5 hbox hb; have n0_ := Aside0.mk (below_step (by repeat (first | (with_reducible first | exact HB.out | apply below_alloc | apply pw_below_drewN | apply below_drew1) | exact HB.out)) hb); have n1_ := Aside0.mk (hbox); have n2_ := Aside0.mk ((by rw [hg]; exact (below_size (by repeat (first | (with_reducible first | exact HB.out | apply below_alloc | apply pw_below_drewN | apply below_drew1) | exact HB.out))) : w.heap.size ≤ gb336)); have n3_ := Aside0.mk ((by rw [hg]; exact (below_size (by repeat (first | (with_reducible first | exact HB.out | apply below_alloc | apply pw_below_drewN | apply below_drew1) | exact HB.out))) : w.heap.size ≤ gb336)); clear HB; have HB := n0_; have BK336 := n1_; have GW336 := n2_; have GE336 := n3_; clear n0_ n1_ n2_ n3_; clear hb hbox hg; have hcz6_0 : w5.cell? ⟨gb336, 0, none⟩ = some (.string (⟨#[]⟩ : ByteArray)) := (blk_cell BK336.out 0).trans rfl; have hcz6_1 : w5.cell? ⟨gb336, 1, none⟩ = some (.int .i64 0) := (blk_cell BK336.out 1).trans rfl; have hcz6_2 : w5.cell? ⟨gb336, 2, none⟩ = some (.int .i64 0) := (blk_cell BK336.out 2).trans rfl; have hcz6_3 : w5.cell? ⟨gb336, 3, none⟩ = some (.slice none 0 0) := (blk_cell BK336.out 3).trans rfl; have hcz6_4 : w5.cell? ⟨gb336, 4, none⟩ = some (.string (⟨#[]⟩ : ByteArray)) := (blk_cell BK336.out 4).trans rfl; have hfz6_0 := blk_frozen BK336.out 0; have hfz6_1 := blk_frozen BK336.out 1; have hfz6_2 := blk_frozen BK336.out 2; have hfz6_3 := blk_frozen BK336.out 3; have hfz6_4 := blk_frozen BK336.out 4))
      go_roundg k1
      case measure => have := HK1.out; omega
      case rel => exact ⟨(wrap64 (x3_1 + (((rd_T31 l0 x8_1).f3).length : Int))), (wrap64 (x8_1 + 1)), (by first | rfl | (simp; done) | (simp [*]; done)), (by first | rfl | (simp; done) | (simp [*]; done)), H', ⟨by have := HK1.out; omega⟩, ⟨by repeat (first | (with_reducible first | exact HB.out | apply below_alloc | apply pw_below_drewN | apply below_drew1 | refine below_set ?_ GE336.out) | exact HB.out)⟩⟩
     ·rw [if_neg c4] at H
      exact absurd H (by simp)
    ·rw [if_neg c3] at H
     exact absurd H (by simp)
   ·rw [if_neg c2] at H
    have c2b0 : decide (x8_1 < (l0.length : Int)) = false := decide_eq_false c2
    clear c2
    obtain rfl := Option.some.inj H
    go_wp2
    go_ret
    exact ⟨by first | rfl | (simp [errW_none, errW_some] <;> rfl) | (simp [*, errW_none, errW_some] <;> rfl) | (simp [bt, *]; done) | (simp_all [bt]; done), by repeat (first | (with_reducible first | exact HB.out | apply below_alloc | apply pw_below_drewN | apply below_drew1) | exact HB.out)⟩

end Go.Proofs.Ytopkmchkfcjjmaa.X
end

/-! ## Satchelref08Size -/
section
namespace Go.Proofs.Ytopkmchkfcjjmaa.X
open Go.RowKit Go.Proofs.YtopkmchkfcjjmaaW.PrintWords Go.Proofs.YtopkmchkfcjjmaaW.PrintLast Go.Proofs.YtopkmchkfcjjmaaW.PrintMore
attribute [local go_sem] max2_int min2_int max_two min_two max_three min_three max_four min_four   -- for this text's walks alone
set_option linter.unusedVariables false
set_option linter.unusedSimpArgs false

attribute [local go_sem] str_gtr fld_fault0 fld_fault1
/-! ### satchelref08_Size: function 23 -/
def satchelref08_Size.l0 : Nat → List (S31) → Int → Int → Option (Int)
 | 0, _, _, _ => none
 | k + 1, x0, x3, x4 => if x4 < (x0.length : Int) then (if 0 ≤ x4 then (satchelref08_Size.l0 k x0 (wrap64 (x3 + (((rd_T31 x0 x4).f3).length : Int))) (wrap64 (x4 + 1))) else (none)) else (some x3)
def satchelref08_Size.f (k : Nat) (l0 : List (S31)) : Option (Int) := satchelref08_Size.l0 k l0 0 0
theorem satchelref08_Size.mono_l : ∀ k, (∀ y0 y1 y2, LeO (satchelref08_Size.l0 k y0 y1 y2) (satchelref08_Size.l0 (k + 1) y0 y1 y2))
 | 0 => fun _ _ _ r h => by simp [satchelref08_Size.l0] at h
 | k + 1 => by
  have ih0 := satchelref08_Size.mono_l k
  ·intro y0 y1 y2
   unfold satchelref08_Size.l0
   repeat' first
   | (with_reducible exact ih0 _ _ _)
   | (with_reducible exact LeO.refl _)
   | (with_reducible exact LeO.none _)
   | (with_reducible refine LeO.ite ?_ ?_)
   | (with_reducible refine LeO.bind ?_ (fun _ => ?_))
   | exact ih0 _ _ _
   | exact LeO.none _
   | refine LeO.ite ?_ ?_
   | refine LeO.bind ?_ (fun _ => ?_)
theorem satchelref08_Size.mono : ∀ a0 k, LeO (satchelref08_Size.f k a0) (satchelref08_Size.f (k + 1) a0) := by
 intro a0 k
 have ih0 := satchelref08_Size.mono_l k
 unfold satchelref08_Size.f
 repeat' first
   | (with_reducible exact ih0 _ _ _)
   | (with_reducible exact LeO.refl _)
   | (with_reducible exact LeO.none _)
   | (with_reducible refine LeO.ite ?_ ?_)
   | (with_reducible refine LeO.bind ?_ (fun _ => ?_))
   | exact ih0 _ _ _
   | exact LeO.none _
   | refine LeO.ite ?_ ?_
   | refine LeO.bind ?_ (fun _ => ?_)
set_option maxHeartbeats 8000000 in
set_option maxRecDepth 100000 in
theorem satchelref08_Size.calls (k : Nat) (A0 : Option Addr) (c0 : Nat) (l0 : List (S31)) (r : Int) (w : World) (hr0 : Kd.C k31 w A0 l0.length l0) (hc0 : l0.length ≤ c0) (h : satchelref08_Size.f k l0 = some r) :
  Calls Try.prog 23 #[.slice A0 l0.length c0] w fun e w' => e = .returned (.int .i64 r) ∧ Drawn0 w w' := by
 have HR0 := Aside0.mk hr0
 have HC0 := Aside0.mk hc0
 clear hr0 hc0
 have H : (satchelref08_Size.l0 k l0 0 0) = some r := h
 clear h
 have H' := Aside0.mk H
 clear H
 go_enter Try.func23, Try.ntmps23
 go_wp2
 go_loopg [3, 4] k (fun kq v3 v4 w' => ∃ (x3_1 : Int) (x4_1 : Int), v3 = .int .i64 x3_1 ∧ v4 = .int .i64 x4_1 ∧ Aside0 (satchelref08_Size.l0 kq l0 x3_1 x4_1 = some r) ∧ Aside0 (kq ≤ k) ∧ Drawn0 w w')
 case atStart => exact ⟨(0), (0), (by first | rfl | (simp; done) | (simp [*]; done)), (by first | rfl | (simp; done) | (simp [*]; done)), H', ⟨Nat.le_refl _⟩, by repeat (first | exact Drawn0.refl _ | apply Drawn0.step)⟩
 case round =>
  clear H'
  obtain ⟨x3_1, x4_1, rfl, rfl, HA, HK1, ⟨m1, rfl⟩⟩ := hrel
  cases gk with
  | zero => exact absurd HA.out (by simp [satchelref08_Size.l0])
  | succ k1 =>
   have H := HA.out
   clear HA
   simp only [satchelref08_Size.l0] at H
   by_cases c2 : x4_1 < (l0.length : Int)
   ·rw [if_pos c2] at H
    have c2b0 : decide (x4_1 < (l0.length : Int)) = true := decide_eq_true c2
    clear c2
    by_cases c3 : 0 ≤ x4_1
    ·rw [if_pos c3] at H
     have c3b0 : decide (0 ≤ x4_1) = true := decide_eq_true c3
     clear c3
     have H' := Aside0.mk H
     clear H
     have p337 : 0 ≤ (x4_1 : Int) := of_decide_eq_true (by first | (with_reducible assumption) | assumption)
     have q337 : x4_1 < (l0.length : Int) := of_decide_eq_true (by first | (with_reducible assumption) | assumption)
     obtain ⟨ad337, A337_3, c337_3, e337, hx337_0, hx337_1, hx337_2, hx337_3, hx337_4, hl337_3, hi337_3⟩ := at_T31 HR0.out x4_1 p337 q337
     cases e337
     have HR337_3 := Aside0.mk hi337_3
     have HC337_3 := Aside0.mk hl337_3
     clear hi337_3 hl337_3
     replace p337 := eq_true p337
     replace q337 := eq_true q337
     go_wp2
     go_roundg k1
     case measure => have := HK1.out; omega
     case rel => exact ⟨(wrap64 (x3_1 + (((rd_T31 l0 x4_1).f3).length : Int))), (wrap64 (x4_1 + 1)), (by first | rfl | (simp; done) | (simp [*]; done)), (by first | rfl | (simp; done) | (simp [*]; done)), H', ⟨by have := HK1.out; omega⟩, by repeat (first | exact Drawn0.refl _ | apply Drawn0.step)⟩
    ·rw [if_neg c3] at H
     exact absurd H (by simp)
   ·rw [if_neg c2] at H
    have c2b0 : decide (x4_1 < (l0.length : Int)) = false := decide_eq_false c2
    clear c2
    obtain rfl := Option.some.inj H
    go_wp2
    go_ret
    exact ⟨by first | rfl | (simp; done) | (simp [*]; done), by repeat (first | exact Drawn0.refl _ | apply Drawn0.step)⟩

end Go.Proofs.Ytopkmchkfcjjmaa.X
end

/-! ## PureChecks -/
section
namespace Go.Proofs.Ytopkmchkfcjjmaa.X
open Go.RowKit Go.Proofs.YtopkmchkfcjjmaaW.PrintWords Go.Proofs.YtopkmchkfcjjmaaW.PrintLast Go.Proofs.YtopkmchkfcjjmaaW.PrintMore
set_option linter.unusedVariables false
set_option linter.unusedSimpArgs false
theorem find_both (l : List (S31)) (hl : l.length ≤ 1000000) (hf : Fits l) (s : ByteArray) : ∃ (x : S31) (b : Bool), Ev (fun k => tree_Find.f k l s) (x.f0, x.f1, x.f2, x.f3, x.f4, b) ∧ Ev (fun k => satchelref08_Find.f k l s) (x.f0, x.f1, x.f2, x.f3, x.f4, b) := by
 obtain ⟨r, hr, h2⟩ := at_ev l hl s
 by_cases hg : (treeV l).1 = 0
 ·have hG := good_of hg
  rcases h2 with ⟨rfl, h3⟩ | ⟨q, rfl, h3, h4⟩
  ·refine ⟨⟨⟨#[]⟩, 0, 0, [], ⟨#[]⟩⟩, false, find_miss hG h3, ?_⟩
   simp only [satchelref08_Find.f]
   exact Ev.bind (check8_ev l) (Ev.bind hr (Ev.ifp hg (Ev.ifp (by omega) (Ev.const _))))
  ·refine ⟨rd_T31 l (q : Int), true, ?_, ?_⟩
   ·have := find_hit hG h3
    rw [h4] at this ⊢
    exact this
   ·simp only [satchelref08_Find.f, satchelref08_Own.f, Option.bind_some]
    refine Ev.bind (check8_ev l) (Ev.bind hr (Ev.ifp hg (Ev.ifn (by omega) (Ev.ifp (by omega) (Ev.ifp (by omega) ?_)))))
    rw [if_pos (by have := hf.at h3; simpa using this)]
    exact Ev.const _
 ·refine ⟨⟨⟨#[]⟩, 0, 0, [], ⟨#[]⟩⟩, false, ?_, ?_⟩
  ·simp only [tree_Find.f]
   exact Ev.bind (tree_ev l) (Ev.ifn hg (Ev.const _))
  ·simp only [satchelref08_Find.f]
   exact Ev.bind (check8_ev l) (Ev.bind hr (Ev.ifn hg (Ev.const _)))
theorem size_l0 (l : List (S31)) (hl : l.length ≤ 1000000) : ∀ (m i : Nat) (n : Int), i + m = l.length → ∃ r, Ev (fun k => tree_Size.l0 k n l (l.length : Int) (i : Int)) r ∧ Ev (fun k => satchelref08_Size.l0 k l n (i : Int)) r
 | 0, i, n, h => by
  refine ⟨n, Ev.shift ?_, Ev.shift ?_⟩
  ·simp only [tree_Size.l0]
   exact Ev.ifn (by omega) (Ev.const _)
  ·simp only [satchelref08_Size.l0]
   exact Ev.ifn (by omega) (Ev.const _)
 | m + 1, i, n, h => by
  have ew : wrap64 ((i : Int) + 1) = ((i + 1 : Nat) : Int) := by rw [wrap_id _ (by omega)]; omega
  obtain ⟨r, h1, h2⟩ := size_l0 l hl m (i + 1) (wrap64 (n + ((rd_T31 l (i : Int)).f3.length : Int))) (by omega)
  refine ⟨r, Ev.shift ?_, Ev.shift ?_⟩
  ·simp only [tree_Size.l0, ew]
   exact Ev.ifp (by omega) (Ev.ifp (by omega) (Ev.ifp (by omega) h1))
  ·simp only [satchelref08_Size.l0, ew]
   exact Ev.ifp (by omega) (Ev.ifp (by omega) h2)
theorem size_both (l : List (S31)) (hl : l.length ≤ 1000000) : ∃ r, Ev (fun k => tree_Size.f k l) r ∧ Ev (fun k => satchelref08_Size.f k l) r := size_l0 l hl l.length 0 0 (by omega)
theorem like_self (x : S31) : satchelref08_Like.f x.f0 x.f1 x.f2 x.f3 x.f4 x.f0 x.f1 x.f2 x.f3 x.f4 = some true := by
 have h := likeE_is x x
 unfold likeE at h
 rw [h]
 simp [sameEntry, sameBytes]
/-- All that the walk of TreeChecks asks, at one number of rounds. -/
theorem checks_at (l : List (S31)) (hl : l.length ≤ 220) (hf : Fits l) (s : ByteArray) : ∃ (k : Nat) (e1 e2 n : Int) (x : S31) (b : Bool), satchelkit_CopyTree.f k l = some l ∧ tree_Check.f k l = some (e1, e2) ∧ satchelref08_Check.f k l = some (e1, e2) ∧
  tree_Find.f k l s = some (x.f0, x.f1, x.f2, x.f3, x.f4, b) ∧ satchelref08_Find.f k l s = some (x.f0, x.f1, x.f2, x.f3, x.f4, b) ∧ tree_Size.f k l = some n ∧ satchelref08_Size.f k l = some n ∧ satchellaw08_awake.f k = some true := by
 obtain ⟨K1, h1⟩ := copy_ev l (by omega) hf
 obtain ⟨K2, h2⟩ := tree_ev l
 obtain ⟨K3, h3⟩ := check8_ev l
 obtain ⟨x, b, ⟨K4, h4⟩, ⟨K5, h5⟩⟩ := find_both l (by omega) hf s
 obtain ⟨n, ⟨K6, h6⟩, ⟨K7, h7⟩⟩ := size_both l (by omega)
 obtain ⟨K8, h8⟩ := awake_ev
 let k := K1 + K2 + K3 + K4 + K5 + K6 + K7 + K8
 exact ⟨k, (treeV l).1, (treeV l).2, n, x, b, h1 k (by omega), h2 k (by omega), h3 k (by omega), h4 k (by omega), h5 k (by omega), h6 k (by omega), h7 k (by omega), h8 k (by omega)⟩
end Go.Proofs.Ytopkmchkfcjjmaa.X
end

/-! ## FindFull -/
section
namespace Go.Proofs.Ytopkmchkfcjjmaa.X
open Go.RowKit Go.Proofs.YtopkmchkfcjjmaaW.PrintWords Go.Proofs.YtopkmchkfcjjmaaW.PrintLast Go.Proofs.YtopkmchkfcjjmaaW.PrintMore
attribute [local go_sem] max2_int min2_int max_two min_two max_three min_three max_four min_four
set_option linter.unusedVariables false
set_option linter.unusedSimpArgs false
attribute [local go_sem] str_gtr fld_fault0 fld_fault1
set_option maxHeartbeats 8000000 in
set_option maxRecDepth 100000 in
theorem tree_Find.calls2 (k : Nat) (A0 : Option Addr) (c0 : Nat) (l0 : List (S31)) (a1 : ByteArray) (r1 : ByteArray) (r2 : Int) (r3 : Int) (r4 : List Int) (r5 : ByteArray) (r6 : Bool) (w : World) (hr0 : Kd.C k31 w A0 l0.length l0) (hc0 : l0.length ≤ c0) (h : tree_Find.f k l0 a1 = some (r1, r2, r3, r4, r5, r6)) :
  Calls Try.prog 14 #[.slice A0 l0.length c0, .string a1] w fun e w' => ∃ v3_ : Value, e = .returned (.tuple #[.agg #[.string r1, .int .i64 r2, .int .i64 r3, v3_, .string r5], .bool r6]) ∧ Kd.R (Kd.int .u8) 5 w' w.heap.size (fun _ => True) v3_ r4 ∧ Full8 w' v3_ ∧ Below w.heap.size w w' := by
 have hu31 := Try.underlying31
 have HR0 := Aside0.mk hr0
 have HC0 := Aside0.mk hc0
 clear hr0 hc0
 have HB := Aside0.mk (Below.refl w.heap.size w)
 have H : ((tree_Check.f k l0).bind fun bt171 => (if bt171.1 = 0 then ((tree_place.f k l0 a1).bind fun bt173 => (if bt173.2 = true then (if 0 ≤ bt173.1 then (if bt173.1 ≤ (wrap64 (bt173.1 + 1)) then (if (wrap64 (bt173.1 + 1)) ≤ (l0.length : Int) then ((tree_clone.f k ((l0.take ((wrap64 (bt173.1 + 1)) : Int).toNat).drop (bt173.1 : Int).toNat)).bind fun t179 => (if 0 < (t179.length : Int) then (some ((rd_T31 t179 0).f0, (rd_T31 t179 0).f1, (rd_T31 t179 0).f2, (rd_T31 t179 0).f3, (rd_T31 t179 0).f4, true)) else (none))) else (none)) else (none)) else (none)) else (some ((⟨#[]⟩ : ByteArray), 0, 0, ([] : List Int), (⟨#[]⟩ : ByteArray), false)))) else (some ((⟨#[]⟩ : ByteArray), 0, 0, ([] : List Int), (⟨#[]⟩ : ByteArray), false)))) = some (r1, r2, r3, r4, r5, r6) := h
 clear h
 replace H := Option.bind_eq_some_iff.mp H
 obtain ⟨⟨t171, t172⟩, A30, H⟩ := H
 replace H : (if t171 = 0 then ((tree_place.f k l0 a1).bind fun bt173 => (if bt173.2 = true then (if 0 ≤ bt173.1 then (if bt173.1 ≤ (wrap64 (bt173.1 + 1)) then (if (wrap64 (bt173.1 + 1)) ≤ (l0.length : Int) then ((tree_clone.f k ((l0.take ((wrap64 (bt173.1 + 1)) : Int).toNat).drop (bt173.1 : Int).toNat)).bind fun t179 => (if 0 < (t179.length : Int) then (some ((rd_T31 t179 0).f0, (rd_T31 t179 0).f1, (rd_T31 t179 0).f2, (rd_T31 t179 0).f3, (rd_T31 t179 0).f4, true)) else (none))) else (none)) else (none)) else (none)) else (some ((⟨#[]⟩ : ByteArray), 0, 0, ([] : List Int), (⟨#[]⟩ : ByteArray), false)))) else (some ((⟨#[]⟩ : ByteArray), 0, 0, ([] : List Int), (⟨#[]⟩ : ByteArray), false))) = some (r1, r2, r3, r4, r5, r6) := H
 have A3 := Aside0.mk A30
 clear A30
 by_cases c4 : t171 = 0
 ·rw [if_pos c4] at H
  have c4b0 : (t171 == 0) = true := beq_iff_eq.mpr c4
  have c4b1 : (t171 != 0) = false := bne_eq_false_iff_eq.mpr c4
  clear c4
  replace H := Option.bind_eq_some_iff.mp H
  obtain ⟨⟨t173, t174⟩, A50, H⟩ := H
  replace H : (if t174 = true then (if 0 ≤ t173 then (if t173 ≤ (wrap64 (t173 + 1)) then (if (wrap64 (t173 + 1)) ≤ (l0.length : Int) then ((tree_clone.f k ((l0.take ((wrap64 (t173 + 1)) : Int).toNat).drop (t173 : Int).toNat)).bind fun t179 => (if 0 < (t179.length : Int) then (some ((rd_T31 t179 0).f0, (rd_T31 t179 0).f1, (rd_T31 t179 0).f2, (rd_T31 t179 0).f3, (rd_T31 t179 0).f4, true)) else (none))) else (none)) else (none)) else (none)) else (some ((⟨#[]⟩ : ByteArray), 0, 0, ([] : List Int), (⟨#[]⟩ : ByteArray), false))) = some (r1, r2, r3, r4, r5, r6) := H
  have A5 := Aside0.mk A50
  clear A50
  by_cases c6 : t174 = true
  ·subst c6
   have H1 : (if 0 ≤ t173 then (if t173 ≤ (wrap64 (t173 + 1)) then (if (wrap64 (t173 + 1)) ≤ (l0.length : Int) then ((tree_clone.f k ((l0.take ((wrap64 (t173 + 1)) : Int).toNat).drop (t173 : Int).toNat)).bind fun t179 => (if 0 < (t179.length : Int) then (some ((rd_T31 t179 0).f0, (rd_T31 t179 0).f1, (rd_T31 t179 0).f2, (rd_T31 t179 0).f3, (rd_T31 t179 0).f4, true)) else (none))) else (none)) else (none)) else (none)) = some (r1, r2, r3, r4, r5, r6) := by rw [if_pos rfl] at H; exact H
   clear H
   have H := H1
   clear H1
   by_cases c7 : 0 ≤ t173
   ·rw [if_pos c7] at H
    have c7b0 := eq_true c7
    have c7b1 : decide (0 ≤ t173) = true := decide_eq_true c7
    clear c7
    by_cases c8 : t173 ≤ (wrap64 (t173 + 1))
    ·rw [if_pos c8] at H
     have c8b0 := eq_true c8
     have c8b1 : decide (t173 ≤ (wrap64 (t173 + 1))) = true := decide_eq_true c8
     by_cases c9 : (wrap64 (t173 + 1)) ≤ (l0.length : Int)
     ·rw [if_pos c9] at H
      have c9b0 := eq_true c9
      have c9b1 : decide ((wrap64 (t173 + 1)) ≤ (l0.length : Int)) = true := decide_eq_true c9
      obtain ⟨y175, hy175⟩ : ∃ y_ : List (S31), y_ = ((l0.take ((wrap64 (t173 + 1)) : Int).toNat).drop (t173 : Int).toNat) := ⟨_, rfl⟩
      replace H : ((tree_clone.f k y175).bind fun t179 => (if 0 < (t179.length : Int) then (some ((rd_T31 t179 0).f0, (rd_T31 t179 0).f1, (rd_T31 t179 0).f2, (rd_T31 t179 0).f3, (rd_T31 t179 0).f4, true)) else (none))) = some (r1, r2, r3, r4, r5, r6) := by first | (rw [hy175]; with_reducible exact H) | (have H2_ := (Option.bind_some _ _).symm.trans H; rw [hy175]; with_reducible exact H2_) | (have H2_ := (Option.bind_some _ _).symm.trans H; with_reducible exact H2_) | with_reducible exact H | (rw [hy175]; exact H) | exact H
      have Ny175 := Aside0.mk hy175
      clear hy175
      replace H := Option.bind_eq_some_iff.mp H
      obtain ⟨t179, A100, H⟩ := H
      replace H : (if 0 < (t179.length : Int) then (some ((rd_T31 t179 0).f0, (rd_T31 t179 0).f1, (rd_T31 t179 0).f2, (rd_T31 t179 0).f3, (rd_T31 t179 0).f4, true)) else (none)) = some (r1, r2, r3, r4, r5, r6) := H
      have A10 := Aside0.mk A100
      clear A100
      by_cases c11 : 0 < (t179.length : Int)
      ·rw [if_pos c11] at H
       have c11b0 : decide (0 < (t179.length : Int)) = true := decide_eq_true c11
       have c11b1 : decide (0 < t179.length) = true := decide_eq_true (by omega)
       clear c11
       simp only [Option.some.injEq, Prod.mk.injEq] at H
       obtain ⟨rfl, rfl, rfl, rfl, rfl, rfl⟩ := H
       go_enter Try.func14, Try.ntmps14
       go_wp2_with (first | ((with_reducible refine gate_dst (N := 4) rfl ?_); refine box_event ?hg (N := 4) ?hd (cs := #[.string (⟨#[]⟩ : ByteArray), .int .i64 0, .int .i64 0, .slice none 0 0, .string (⟨#[]⟩ : ByteArray)]) (t := 31) ?hr ?_; (case hd => rfl); (case hg => rfl); (case hr => first | (go_simp; done) | (go_simp; rfl)); intro gb170 hg w12 hbox hb; have n0_ := Aside0.mk (below_step (by repeat (first | (with_reducible first | exact HB.out | apply below_alloc | apply pw_below_drewN | apply below_drew1) | exact HB.out)) hb); have n1_ := Aside0.mk (hbox); have n2_ := Aside0.mk ((by rw [hg]; exact (below_size (by repeat (first | (with_reducible first | exact HB.out | apply below_alloc | apply pw_below_drewN | apply below_drew1) | exact HB.out))) : w.heap.size ≤ gb170)); have n3_ := Aside0.mk ((by rw [hg]; exact (below_size (by repeat (first | (with_reducible first | exact HB.out | apply below_alloc | apply pw_below_drewN | apply below_drew1) | exact HB.out))) : w.heap.size ≤ gb170)); clear HB; have HB := n0_; have BK170 := n1_; have GW170 := n2_; have GE170 := n3_; clear n0_ n1_ n2_ n3_; clear hb hbox hg) | ((with_reducible refine gate_callee (f := 11) rfl ?_); refine goesL_ (some 12) rfl rfl Try.func11 (by kernel_rfl) rfl #[.slice A0 l0.length c0] rfl (by (try simp only [List.map_toArray, List.map_cons, List.map_nil]); first | done | rfl | (simp only [List.length_drop, List.length_take]; rfl)) ?_; (with_reducible refine (tree_Check.calls k _ _ l0 t171 t172 _ ?side1 ?side2 A3.out).mono ?_); (case side1 => repeat (first | exact (Kd.C_below HR0.out HB.out) | (with_reducible refine Kd.C_alloc ?_ _) | (with_reducible refine Kd.C_drewN ?_ _) | (with_reducible refine Kd.C_drew ?_))); (case side2 => exact HC0.out); rintro e w13 ⟨rfl, hb⟩; refine ⟨_, rfl, ?_⟩; have n0_ := Aside0.mk (blk_below (g := gb170) (o := .cells #[.string (⟨#[]⟩ : ByteArray), .int .i64 0, .int .i64 0, .slice none 0 0, .string (⟨#[]⟩ : ByteArray)] 31 (0, 0)) (by (with_reducible repeat (first | refine blk_drewN ?_ _ | refine blk_drew ?_ | refine blk_alloc ?_ _)); exact BK170.out) hb); have n1_ := Aside0.mk (below_step (by repeat (first | (with_reducible first | exact HB.out | apply below_alloc | apply pw_below_drewN | apply below_drew1 | refine below_set ?_ GE170.out) | exact HB.out)) hb); clear BK170; clear HB; have BK170 := n0_; have HB := n1_; clear n0_ n1_; (try clear hb); (try clear hb2); (try clear hk); (try clear hi)) | ((with_reducible refine gate_callee (f := 40) rfl ?_); refine goesL_ (some 21) rfl rfl Try.func40 (by kernel_rfl) rfl #[.slice A0 l0.length c0, .string a1] rfl (by (try simp only [List.map_toArray, List.map_cons, List.map_nil]); first | done | rfl | (simp only [List.length_drop, List.length_take]; rfl)) ?_; (with_reducible refine (tree_place.calls k _ _ l0 a1 t173 true _ ?side1 ?side2 A5.out).mono ?_); (case side1 => repeat (first | exact (Kd.C_below HR0.out HB.out) | (with_reducible refine Kd.C_alloc ?_ _) | (with_reducible refine Kd.C_drewN ?_ _) | (with_reducible refine Kd.C_drew ?_))); (case side2 => exact HC0.out); rintro e w14 ⟨rfl, hb⟩; refine ⟨_, rfl, ?_⟩; have n0_ := Aside0.mk (blk_below (g := gb170) (o := .cells #[.string (⟨#[]⟩ : ByteArray), .int .i64 0, .int .i64 0, .slice none 0 0, .string (⟨#[]⟩ : ByteArray)] 31 (0, 0)) (by (with_reducible repeat (first | refine blk_drewN ?_ _ | refine blk_drew ?_ | refine blk_alloc ?_ _)); exact BK170.out) hb); have n1_ := Aside0.mk (below_step (by repeat (first | (with_reducible first | exact HB.out | apply below_alloc | apply pw_below_drewN | apply below_drew1 | refine below_set ?_ GE170.out) | exact HB.out)) hb); clear BK170; clear HB; have BK170 := n0_; have HB := n1_; clear n0_ n1_; (try clear hb); (try clear hb2); (try clear hk); (try clear hi); have q15 : ((wrap64 (t173 + 1)) : Int) ≤ ((l0.length : Int) : Int) := of_decide_eq_true (by first | (with_reducible assumption) | assumption); obtain ⟨i015, hi015, _, hsz15, _⟩ := info_parts info31; have hroom15 : l0.length ≤ c0 := HC0.out; have hC15 : Kd.C k31 _ A0 l0.length l0 := HR0.out; have ql15 : (t173 : Int) ≤ ((wrap64 (t173 + 1)) : Int) := of_decide_eq_true (by first | (with_reducible assumption) | assumption); have q015 : (0 : Int) ≤ (t173 : Int) := of_decide_eq_true (by first | (with_reducible assumption) | assumption); have hcut15 := cut_mid (P := Try.prog) 22 31 .i64 .i64 Try.underlying22 hi015 5 hsz15 A0 l0.length c0 t173 (wrap64 (t173 + 1)) q015 ql15 q15 hroom15; have hr15 := Kd.C_mid (lo := (t173 : Int).toNat) (hi := ((wrap64 (t173 + 1)) : Int).toNat) (c := c0) hC15 (by omega) (by omega) hroom15; obtain ⟨A15, hA15⟩ : ∃ A1, A1 = (if c0 = (t173 : Int).toNat then A0 else (A0 : Option Addr).map (·.add ((t173 : Int).toNat * 5))) := ⟨_, rfl⟩; obtain ⟨c15, hc15⟩ : ∃ c1, c1 = c0 - (t173 : Int).toNat := ⟨_, rfl⟩; have hy15 : y175.length = ((wrap64 (t173 + 1)) : Int).toNat - (t173 : Int).toNat := (by rw [Ny175.out, List.length_drop, List.length_take] <;> omega); rw [show ((l0).take ((wrap64 (t173 + 1)) : Int).toNat).drop (t173 : Int).toNat = y175 from Ny175.out.symm] at hr15; replace hr15 : Kd.C k31 _ A15 y175.length y175 := (by rw [hA15]; exact hr15); rw [← hy15, ← hA15, ← hc15] at hcut15; have HR178 := Aside0.mk hr15; have HC178 := Aside0.mk (show y175.length ≤ c15 from by rw [hy15, hc15]; exact Nat.sub_le_sub_right (Nat.le_trans (by omega) hroom15) _); clear hr15 hC15 hroom15 hi015 hsz15 hc15; have KY15 := Aside0.mk hy15; have KA15 := Aside0.mk hA15; clear hy15 hA15; replace q15 := eq_true q15) | ((with_reducible refine gate_callee (f := 41) rfl ?_); refine goesL_ (some 32) rfl rfl Try.func41 (by kernel_rfl) rfl #[.slice A15 y175.length c15] rfl (by (try simp only [List.map_toArray, List.map_cons, List.map_nil]); first | done | rfl | (simp only [List.length_drop, List.length_take]; rfl)) ?_; (with_reducible refine (tree_clone.calls2 k _ _ y175 t179 _ ?side1 ?side2 A10.out).mono ?_); (case side1 => repeat (first | exact (Kd.C_below HR178.out HB.out) | (with_reducible refine Kd.C_alloc ?_ _) | (with_reducible refine Kd.C_drewN ?_ _) | (with_reducible refine Kd.C_drew ?_))); (case side2 => exact HC178.out); rintro e w16 ⟨v180, rfl, ho0, hfr, hb⟩; have HFR := Aside0.mk hfr; clear hfr; refine ⟨_, rfl, ?_⟩; have n0_ := Aside0.mk (Kd.S_lower (Kd.S_newB ho0 (g := gb170) (o := .cells #[.string (⟨#[]⟩ : ByteArray), .int .i64 0, .int .i64 0, .slice none 0 0, .string (⟨#[]⟩ : ByteArray)] 31 (0, 0)) (by (with_reducible repeat (first | refine blk_drewN ?_ _ | refine blk_drew ?_ | refine blk_alloc ?_ _)); exact BK170.out)) (below_size (by repeat (first | (with_reducible first | exact HB.out | apply below_alloc | apply pw_below_drewN | apply below_drew1 | refine below_set ?_ GE170.out) | exact HB.out)))); have n1_ := Aside0.mk (blk_below (g := gb170) (o := .cells #[.string (⟨#[]⟩ : ByteArray), .int .i64 0, .int .i64 0, .slice none 0 0, .string (⟨#[]⟩ : ByteArray)] 31 (0, 0)) (by (with_reducible repeat (first | refine blk_drewN ?_ _ | refine blk_drew ?_ | refine blk_alloc ?_ _)); exact BK170.out) hb); have n2_ := Aside0.mk (below_step (by repeat (first | (with_reducible first | exact HB.out | apply below_alloc | apply pw_below_drewN | apply below_drew1 | refine below_set ?_ GE170.out) | exact HB.out)) hb); clear BK170; clear HB; have HO181 := n0_; have BK170 := n1_; have HB := n2_; clear n0_ n1_ n2_; (try clear hb); (try clear hb2); (try clear hk); (try clear hi); (try clear ho0); obtain ⟨Ao17, co17, eo17⟩ := Kd.S_slice HO181.out; subst eo17; have p182 : 0 ≤ (0 : Int) := (by omega); have q182 : 0 < (t179.length : Int) := of_decide_eq_true (by first | (with_reducible assumption) | assumption); obtain ⟨ad182, A182_3, c182_3, e182, hx182_0, hx182_1, hx182_2, hx182_3, hx182_4, hl182_3, hi182_3⟩ := at_T31 (Kd.S_reads' HO181.out).2.2 0 p182 q182; cases e182; obtain ⟨ce182, hce182, hMe182, hcc182⟩ := Kd.S_get HO181.out z31 0 p182 (by first | exact q182 | exact of_decide_eq_true (by first | (with_reducible assumption) | assumption) | (have e_ := (Kd.S_reads' HO181.out).1; omega)); obtain ⟨ve182_3, rfl, ge182_3⟩ := k31_openM hMe182; have hv182_3 := hcc182 3 _ rfl; rw [add_field _ _ 3 (by omega)] at hv182_3; replace hv182_3 := Option.some.inj (hv182_3.symm.trans hx182_3); rw [hv182_3] at ge182_3; have HL182_3 := Aside0.mk (show Kd.R (Kd.int .u8) 5 _ _ _ _ ((rd_T31 t179 0).f3) from ge182_3); clear hv182_3 ge182_3; clear hcc182 hce182; have qi182 : (0 < t179.length) = True := eq_true (by omega); (try rw [show ((0 : Int)).toNat = 0 from rfl] at hx182_0); (try rw [show 0 * 5 = 0 from rfl] at hx182_0); (try rw [Addr.add_zero'] at hx182_0); (try rw [show ((0 : Int)).toNat = 0 from rfl] at hx182_1); (try rw [show 0 * 5 = 0 from rfl] at hx182_1); (try rw [Addr.add_zero'] at hx182_1); (try rw [show ((0 : Int)).toNat = 0 from rfl] at hx182_2); (try rw [show 0 * 5 = 0 from rfl] at hx182_2); (try rw [Addr.add_zero'] at hx182_2); (try rw [show ((0 : Int)).toNat = 0 from rfl] at hx182_3); (try rw [show 0 * 5 = 0 from rfl] at hx182_3); (try rw [Addr.add_zero'] at hx182_3); (try rw [show ((0 : Int)).toNat = 0 from rfl] at hx182_4); (try rw [show 0 * 5 = 0 from rfl] at hx182_4); (try rw [Addr.add_zero'] at hx182_4); have HF3 := Aside0.mk (show Full8 w16 (.slice A182_3 ((rd_T31 t179 0).f3).length c182_3) from by obtain ⟨vj, h1_, h2_⟩ := HFR.out ad182 _ _ rfl 0 (by omega); rw [Nat.zero_mul, Nat.zero_add] at h1_; rw [hx182_3] at h1_; obtain rfl := Option.some.inj h1_; exact h2_); have HR182_3 := Aside0.mk hi182_3; have HC182_3 := Aside0.mk hl182_3; clear hi182_3 hl182_3; replace p182 := eq_true p182; replace q182 := eq_true q182; have hcz18_0 : w16.cell? ⟨gb170, 0, none⟩ = some (.string (⟨#[]⟩ : ByteArray)) := (blk_cell BK170.out 0).trans rfl; have hcz18_1 : w16.cell? ⟨gb170, 1, none⟩ = some (.int .i64 0) := (blk_cell BK170.out 1).trans rfl; have hcz18_2 : w16.cell? ⟨gb170, 2, none⟩ = some (.int .i64 0) := (blk_cell BK170.out 2).trans rfl; have hcz18_3 : w16.cell? ⟨gb170, 3, none⟩ = some (.slice none 0 0) := (blk_cell BK170.out 3).trans rfl; have hcz18_4 : w16.cell? ⟨gb170, 4, none⟩ = some (.string (⟨#[]⟩ : ByteArray)) := (blk_cell BK170.out 4).trans rfl; have hfz18_0 := blk_frozen BK170.out 0; have hfz18_1 := blk_frozen BK170.out 1; have hfz18_2 := blk_frozen BK170.out 2; have hfz18_3 := blk_frozen BK170.out 3; have hfz18_4 := blk_frozen BK170.out 4))
       refine bodyPost_ret (results_ct rfl _ _ gb170 31 #[.string ((rd_T31 t179 0).f0), .int .i64 ((rd_T31 t179 0).f1), .int .i64 ((rd_T31 t179 0).f2), .slice A182_3 ((rd_T31 t179 0).f3).length c182_3, .string ((rd_T31 t179 0).f4)] (0, 0) _ rfl (by (with_reducible repeat (first | refine blk_drewN ?_ _ | refine blk_drew ?_ | refine blk_alloc ?_ _)); refine blk_put (cs := #[.string ((rd_T31 t179 0).f0), .int .i64 ((rd_T31 t179 0).f1), .int .i64 ((rd_T31 t179 0).f2), .slice A182_3 ((rd_T31 t179 0).f3).length c182_3, .string (⟨#[]⟩ : ByteArray)]) ?_ 4 _ rfl; (with_reducible repeat (first | refine blk_drewN ?_ _ | refine blk_drew ?_ | refine blk_alloc ?_ _)); refine blk_put (cs := #[.string ((rd_T31 t179 0).f0), .int .i64 ((rd_T31 t179 0).f1), .int .i64 ((rd_T31 t179 0).f2), .slice none 0 0, .string (⟨#[]⟩ : ByteArray)]) ?_ 3 _ rfl; (with_reducible repeat (first | refine blk_drewN ?_ _ | refine blk_drew ?_ | refine blk_alloc ?_ _)); refine blk_put (cs := #[.string ((rd_T31 t179 0).f0), .int .i64 ((rd_T31 t179 0).f1), .int .i64 0, .slice none 0 0, .string (⟨#[]⟩ : ByteArray)]) ?_ 2 _ rfl; (with_reducible repeat (first | refine blk_drewN ?_ _ | refine blk_drew ?_ | refine blk_alloc ?_ _)); refine blk_put (cs := #[.string ((rd_T31 t179 0).f0), .int .i64 0, .int .i64 0, .slice none 0 0, .string (⟨#[]⟩ : ByteArray)]) ?_ 1 _ rfl; (with_reducible repeat (first | refine blk_drewN ?_ _ | refine blk_drew ?_ | refine blk_alloc ?_ _)); refine blk_put (cs := #[.string (⟨#[]⟩ : ByteArray), .int .i64 0, .int .i64 0, .slice none 0 0, .string (⟨#[]⟩ : ByteArray)]) ?_ 0 _ rfl; (with_reducible repeat (first | refine blk_drewN ?_ _ | refine blk_drew ?_ | refine blk_alloc ?_ _)); exact BK170.out) Try.underlying31 rfl (by kernel_rfl)) rfl ?_
       exact ⟨_, by first | rfl | (simp [errW_none, errW_some] <;> rfl) | (simp [*, errW_none, errW_some] <;> rfl) | (simp [bt, *]; done) | (simp_all [bt]; done), by (with_reducible repeat (first | apply Kd.R_alloc | apply Kd.R_drewN | apply Kd.R_drew)); exact Kd.R_mono (Kd.R_far (p := ⟨gb170, 4, none⟩) (Kd.R_far (p := ⟨gb170, 3, none⟩) (Kd.R_far (p := ⟨gb170, 2, none⟩) (Kd.R_far (p := ⟨gb170, 1, none⟩) (Kd.R_far (p := ⟨gb170, 0, none⟩) (Kd.R_types HL182_3.out BK170.out (by decide)) (fun _ hk => hk.2) (.string ((rd_T31 t179 0).f0))) (fun _ hk => hk.2) (.int .i64 ((rd_T31 t179 0).f1))) (fun _ hk => hk.2) (.int .i64 ((rd_T31 t179 0).f2))) (fun _ hk => hk.2) (.slice A182_3 ((rd_T31 t179 0).f3).length c182_3)) (fun _ hk => hk.2) (.string ((rd_T31 t179 0).f4))) (fun _ hk => trivial), (Full8.far (p := ⟨gb170, 4, none⟩) (Full8.far (p := ⟨gb170, 3, none⟩) (Full8.far (p := ⟨gb170, 2, none⟩) (Full8.far (p := ⟨gb170, 1, none⟩) (Full8.far (p := ⟨gb170, 0, none⟩) HF3.out (fun k hk => ((Kd.R_types HL182_3.out BK170.out (by decide)).1 k hk).2) _) (fun k hk => ((Kd.R_types HL182_3.out BK170.out (by decide)).1 k hk).2) _) (fun k hk => ((Kd.R_types HL182_3.out BK170.out (by decide)).1 k hk).2) _) (fun k hk => ((Kd.R_types HL182_3.out BK170.out (by decide)).1 k hk).2) _) (fun k hk => ((Kd.R_types HL182_3.out BK170.out (by decide)).1 k hk).2) _), by repeat (first | (with_reducible first | exact HB.out | apply below_alloc | apply pw_below_drewN | apply below_drew1 | refine below_set ?_ GE170.out) | exact HB.out)⟩
      ·rw [if_neg c11] at H
       exact absurd H (by simp)
     ·rw [if_neg c9] at H
      exact absurd H (by simp)
    ·rw [if_neg c8] at H
     exact absurd H (by simp)
   ·rw [if_neg c7] at H
    exact absurd H (by simp)
  ·replace c6 := Bool.eq_false_iff.mpr c6
   subst c6
   have H1 : (some ((⟨#[]⟩ : ByteArray), 0, 0, ([] : List Int), (⟨#[]⟩ : ByteArray), false)) = some (r1, r2, r3, r4, r5, r6) := by rw [if_neg (show ¬ (false = true) by decide)] at H; exact H
   clear H
   have H := H1
   clear H1
   simp only [Option.some.injEq, Prod.mk.injEq] at H
   obtain ⟨rfl, rfl, rfl, rfl, rfl, rfl⟩ := H
   go_enter Try.func14, Try.ntmps14
   go_wp2_with (first | ((with_reducible refine gate_dst (N := 4) rfl ?_); refine box_event ?hg (N := 4) ?hd (cs := #[.string (⟨#[]⟩ : ByteArray), .int .i64 0, .int .i64 0, .slice none 0 0, .string (⟨#[]⟩ : ByteArray)]) (t := 31) ?hr ?_; (case hd => rfl); (case hg => rfl); (case hr => first | (go_simp; done) | (go_simp; rfl)); intro gb170 hg w19 hbox hb; have n0_ := Aside0.mk (below_step (by repeat (first | (with_reducible first | exact HB.out | apply below_alloc | apply pw_below_drewN | apply below_drew1) | exact HB.out)) hb); have n1_ := Aside0.mk (hbox); have n2_ := Aside0.mk ((by rw [hg]; exact (below_size (by repeat (first | (with_reducible first | exact HB.out | apply below_alloc | apply pw_below_drewN | apply below_drew1) | exact HB.out))) : w.heap.size ≤ gb170)); have n3_ := Aside0.mk ((by rw [hg]; exact (below_size (by repeat (first | (with_reducible first | exact HB.out | apply below_alloc | apply pw_below_drewN | apply below_drew1) | exact HB.out))) : w.heap.size ≤ gb170)); clear HB; have HB := n0_; have BK170 := n1_; have GW170 := n2_; have GE170 := n3_; clear n0_ n1_ n2_ n3_; clear hb hbox hg) | ((with_reducible refine gate_callee (f := 11) rfl ?_); refine goesL_ (some 12) rfl rfl Try.func11 (by kernel_rfl) rfl #[.slice A0 l0.length c0] rfl (by (try simp only [List.map_toArray, List.map_cons, List.map_nil]); first | done | rfl | (simp only [List.length_drop, List.length_take]; rfl)) ?_; (with_reducible refine (tree_Check.calls k _ _ l0 t171 t172 _ ?side1 ?side2 A3.out).mono ?_); (case side1 => repeat (first | exact (Kd.C_below HR0.out HB.out) | (with_reducible refine Kd.C_alloc ?_ _) | (with_reducible refine Kd.C_drewN ?_ _) | (with_reducible refine Kd.C_drew ?_))); (case side2 => exact HC0.out); rintro e w20 ⟨rfl, hb⟩; refine ⟨_, rfl, ?_⟩; have n0_ := Aside0.mk (blk_below (g := gb170) (o := .cells #[.string (⟨#[]⟩ : ByteArray), .int .i64 0, .int .i64 0, .slice none 0 0, .string (⟨#[]⟩ : ByteArray)] 31 (0, 0)) (by (with_reducible repeat (first | refine blk_drewN ?_ _ | refine blk_drew ?_ | refine blk_alloc ?_ _)); exact BK170.out) hb); have n1_ := Aside0.mk (below_step (by repeat (first | (with_reducible first | exact HB.out | apply below_alloc | apply pw_below_drewN | apply below_drew1 | refine below_set ?_ GE170.out) | exact HB.out)) hb); clear BK170; clear HB; have BK170 := n0_; have HB := n1_; clear n0_ n1_; (try clear hb); (try clear hb2); (try clear hk); (try clear hi)) | ((with_reducible refine gate_callee (f := 40) rfl ?_); refine goesL_ (some 21) rfl rfl Try.func40 (by kernel_rfl) rfl #[.slice A0 l0.length c0, .string a1] rfl (by (try simp only [List.map_toArray, List.map_cons, List.map_nil]); first | done | rfl | (simp only [List.length_drop, List.length_take]; rfl)) ?_; (with_reducible refine (tree_place.calls k _ _ l0 a1 t173 false _ ?side1 ?side2 A5.out).mono ?_); (case side1 => repeat (first | exact (Kd.C_below HR0.out HB.out) | (with_reducible refine Kd.C_alloc ?_ _) | (with_reducible refine Kd.C_drewN ?_ _) | (with_reducible refine Kd.C_drew ?_))); (case side2 => exact HC0.out); rintro e w21 ⟨rfl, hb⟩; refine ⟨_, rfl, ?_⟩; have n0_ := Aside0.mk (blk_below (g := gb170) (o := .cells #[.string (⟨#[]⟩ : ByteArray), .int .i64 0, .int .i64 0, .slice none 0 0, .string (⟨#[]⟩ : ByteArray)] 31 (0, 0)) (by (with_reducible repeat (first | refine blk_drewN ?_ _ | refine blk_drew ?_ | refine blk_alloc ?_ _)); exact BK170.out) hb); have n1_ := Aside0.mk (below_step (by repeat (first | (with_reducible first | exact HB.out | apply below_alloc | apply pw_below_drewN | apply below_drew1 | refine below_set ?_ GE170.out) | exact HB.out)) hb); clear BK170; clear HB; have BK170 := n0_; have HB := n1_; clear n0_ n1_; (try clear hb); (try clear hb2); (try clear hk); (try clear hi); have hcz22_0 : w21.cell? ⟨gb170, 0, none⟩ = some (.string (⟨#[]⟩ : ByteArray)) := (blk_cell BK170.out 0).trans rfl; have hcz22_1 : w21.cell? ⟨gb170, 1, none⟩ = some (.int .i64 0) := (blk_cell BK170.out 1).trans rfl; have hcz22_2 : w21.cell? ⟨gb170, 2, none⟩ = some (.int .i64 0) := (blk_cell BK170.out 2).trans rfl; have hcz22_3 : w21.cell? ⟨gb170, 3, none⟩ = some (.slice none 0 0) := (blk_cell BK170.out 3).trans rfl; have hcz22_4 : w21.cell? ⟨gb170, 4, none⟩ = some (.string (⟨#[]⟩ : ByteArray)) := (blk_cell BK170.out 4).trans rfl; have hfz22_0 := blk_frozen BK170.out 0; have hfz22_1 := blk_frozen BK170.out 1; have hfz22_2 := blk_frozen BK170.out 2; have hfz22_3 := blk_frozen BK170.out 3; have hfz22_4 := blk_frozen BK170.out 4))
   refine bodyPost_ret (results_ct rfl _ _ gb170 31 #[.string (⟨#[]⟩ : ByteArray), .int .i64 0, .int .i64 0, .slice none 0 0, .string (⟨#[]⟩ : ByteArray)] (0, 0) _ rfl (by (with_reducible repeat (first | refine blk_drewN ?_ _ | refine blk_drew ?_ | refine blk_alloc ?_ _)); refine blk_put (cs := #[.string (⟨#[]⟩ : ByteArray), .int .i64 0, .int .i64 0, .slice none 0 0, .string (⟨#[]⟩ : ByteArray)]) ?_ 4 _ rfl; (with_reducible repeat (first | refine blk_drewN ?_ _ | refine blk_drew ?_ | refine blk_alloc ?_ _)); refine blk_put (cs := #[.string (⟨#[]⟩ : ByteArray), .int .i64 0, .int .i64 0, .slice none 0 0, .string (⟨#[]⟩ : ByteArray)]) ?_ 3 _ rfl; (with_reducible repeat (first | refine blk_drewN ?_ _ | refine blk_drew ?_ | refine blk_alloc ?_ _)); refine blk_put (cs := #[.string (⟨#[]⟩ : ByteArray), .int .i64 0, .int .i64 0, .slice none 0 0, .string (⟨#[]⟩ : ByteArray)]) ?_ 2 _ rfl; (with_reducible repeat (first | refine blk_drewN ?_ _ | refine blk_drew ?_ | refine blk_alloc ?_ _)); refine blk_put (cs := #[.string (⟨#[]⟩ : ByteArray), .int .i64 0, .int .i64 0, .slice none 0 0, .string (⟨#[]⟩ : ByteArray)]) ?_ 1 _ rfl; (with_reducible repeat (first | refine blk_drewN ?_ _ | refine blk_drew ?_ | refine blk_alloc ?_ _)); refine blk_put (cs := #[.string (⟨#[]⟩ : ByteArray), .int .i64 0, .int .i64 0, .slice none 0 0, .string (⟨#[]⟩ : ByteArray)]) ?_ 0 _ rfl; (with_reducible repeat (first | refine blk_drewN ?_ _ | refine blk_drew ?_ | refine blk_alloc ?_ _)); exact BK170.out) Try.underlying31 rfl (by kernel_rfl)) rfl ?_
   exact ⟨_, by first | rfl | (simp [errW_none, errW_some] <;> rfl) | (simp [*, errW_none, errW_some] <;> rfl) | (simp [bt, *]; done) | (simp_all [bt]; done), by first | exact Kd.R_nil _ _ _ _ _ | exact Kd.N_nil _ _ _ _ _ | exact Kd.V_nil _ _ _ _ _ | exact Kd.Q_nil _ _ _ _ _ | exact Kd.S_nil _ _ _ _ _, Full8.nil _, by repeat (first | (with_reducible first | exact HB.out | apply below_alloc | apply pw_below_drewN | apply below_drew1 | refine below_set ?_ GE170.out) | exact HB.out)⟩
 ·rw [if_neg c4] at H
  have c4b0 : (t171 == 0) = false := beq_eq_false_iff_ne.mpr c4
  have c4b1 : (t171 != 0) = true := bne_iff_ne.mpr c4
  simp only [Option.some.injEq, Prod.mk.injEq] at H
  obtain ⟨rfl, rfl, rfl, rfl, rfl, rfl⟩ := H
  go_enter Try.func14, Try.ntmps14
  go_wp2_with (first | ((with_reducible refine gate_dst (N := 4) rfl ?_); refine box_event ?hg (N := 4) ?hd (cs := #[.string (⟨#[]⟩ : ByteArray), .int .i64 0, .int .i64 0, .slice none 0 0, .string (⟨#[]⟩ : ByteArray)]) (t := 31) ?hr ?_; (case hd => rfl); (case hg => rfl); (case hr => first | (go_simp; done) | (go_simp; rfl)); intro gb170 hg w23 hbox hb; have n0_ := Aside0.mk (below_step (by repeat (first | (with_reducible first | exact HB.out | apply below_alloc | apply pw_below_drewN | apply below_drew1) | exact HB.out)) hb); have n1_ := Aside0.mk (hbox); have n2_ := Aside0.mk ((by rw [hg]; exact (below_size (by repeat (first | (with_reducible first | exact HB.out | apply below_alloc | apply pw_below_drewN | apply below_drew1) | exact HB.out))) : w.heap.size ≤ gb170)); have n3_ := Aside0.mk ((by rw [hg]; exact (below_size (by repeat (first | (with_reducible first | exact HB.out | apply below_alloc | apply pw_below_drewN | apply below_drew1) | exact HB.out))) : w.heap.size ≤ gb170)); clear HB; have HB := n0_; have BK170 := n1_; have GW170 := n2_; have GE170 := n3_; clear n0_ n1_ n2_ n3_; clear hb hbox hg) | ((with_reducible refine gate_callee (f := 11) rfl ?_); refine goesL_ (some 12) rfl rfl Try.func11 (by kernel_rfl) rfl #[.slice A0 l0.length c0] rfl (by (try simp only [List.map_toArray, List.map_cons, List.map_nil]); first | done | rfl | (simp only [List.length_drop, List.length_take]; rfl)) ?_; (with_reducible refine (tree_Check.calls k _ _ l0 t171 t172 _ ?side1 ?side2 A3.out).mono ?_); (case side1 => repeat (first | exact (Kd.C_below HR0.out HB.out) | (with_reducible refine Kd.C_alloc ?_ _) | (with_reducible refine Kd.C_drewN ?_ _) | (with_reducible refine Kd.C_drew ?_))); (case side2 => exact HC0.out); rintro e w24 ⟨rfl, hb⟩; refine ⟨_, rfl, ?_⟩; have n0_ := Aside0.mk (blk_below (g := gb170) (o := .cells #[.string (⟨#[]⟩ : ByteArray), .int .i64 0, .int .i64 0, .slice none 0 0, .string (⟨#[]⟩ : ByteArray)] 31 (0, 0)) (by (with_reducible repeat (first | refine blk_drewN ?_ _ | refine blk_drew ?_ | refine blk_alloc ?_ _)); exact BK170.out) hb); have n1_ := Aside0.mk (below_step (by repeat (first | (with_reducible first | exact HB.out | apply below_alloc | apply pw_below_drewN | apply below_drew1 | refine below_set ?_ GE170.out) | exact HB.out)) hb); clear BK170; clear HB; have BK170 := n0_; have HB := n1_; clear n0_ n1_; (try clear hb); (try clear hb2); (try clear hk); (try clear hi); have hcz25_0 : w24.cell? ⟨gb170, 0, none⟩ = some (.string (⟨#[]⟩ : ByteArray)) := (blk_cell BK170.out 0).trans rfl; have hcz25_1 : w24.cell? ⟨gb170, 1, none⟩ = some (.int .i64 0) := (blk_cell BK170.out 1).trans rfl; have hcz25_2 : w24.cell? ⟨gb170, 2, none⟩ = some (.int .i64 0) := (blk_cell BK170.out 2).trans rfl; have hcz25_3 : w24.cell? ⟨gb170, 3, none⟩ = some (.slice none 0 0) := (blk_cell BK170.out 3).trans rfl; have hcz25_4 : w24.cell? ⟨gb170, 4, none⟩ = some (.string (⟨#[]⟩ : ByteArray)) := (blk_cell BK170.out 4).trans rfl; have hfz25_0 := blk_frozen BK170.out 0; have hfz25_1 := blk_frozen BK170.out 1; have hfz25_2 := blk_frozen BK170.out 2; have hfz25_3 := blk_frozen BK170.out 3; have hfz25_4 := blk_frozen BK170.out 4))
  refine bodyPost_ret (results_ct rfl _ _ gb170 31 #[.string (⟨#[]⟩ : ByteArray), .int .i64 0, .int .i64 0, .slice none 0 0, .string (⟨#[]⟩ : ByteArray)] (0, 0) _ rfl (by (with_reducible repeat (first | refine blk_drewN ?_ _ | refine blk_drew ?_ | refine blk_alloc ?_ _)); refine blk_put (cs := #[.string (⟨#[]⟩ : ByteArray), .int .i64 0, .int .i64 0, .slice none 0 0, .string (⟨#[]⟩ : ByteArray)]) ?_ 4 _ rfl; (with_reducible repeat (first | refine blk_drewN ?_ _ | refine blk_drew ?_ | refine blk_alloc ?_ _)); refine blk_put (cs := #[.string (⟨#[]⟩ : ByteArray), .int .i64 0, .int .i64 0, .slice none 0 0, .string (⟨#[]⟩ : ByteArray)]) ?_ 3 _ rfl; (with_reducible repeat (first | refine blk_drewN ?_ _ | refine blk_drew ?_ | refine blk_alloc ?_ _)); refine blk_put (cs := #[.string (⟨#[]⟩ : ByteArray), .int .i64 0, .int .i64 0, .slice none 0 0, .string (⟨#[]⟩ : ByteArray)]) ?_ 2 _ rfl; (with_reducible repeat (first | refine blk_drewN ?_ _ | refine blk_drew ?_ | refine blk_alloc ?_ _)); refine blk_put (cs := #[.string (⟨#[]⟩ : ByteArray), .int .i64 0, .int .i64 0, .slice none 0 0, .string (⟨#[]⟩ : ByteArray)]) ?_ 1 _ rfl; (with_reducible repeat (first | refine blk_drewN ?_ _ | refine blk_drew ?_ | refine blk_alloc ?_ _)); refine blk_put (cs := #[.string (⟨#[]⟩ : ByteArray), .int .i64 0, .int .i64 0, .slice none 0 0, .string (⟨#[]⟩ : ByteArray)]) ?_ 0 _ rfl; (with_reducible repeat (first | refine blk_drewN ?_ _ | refine blk_drew ?_ | refine blk_alloc ?_ _)); exact BK170.out) Try.underlying31 rfl (by kernel_rfl)) rfl ?_
  exact ⟨_, by first | rfl | (simp [errW_none, errW_some] <;> rfl) | (simp [*, errW_none, errW_some] <;> rfl) | (simp [bt, *]; done) | (simp_all [bt]; done), by first | exact Kd.R_nil _ _ _ _ _ | exact Kd.N_nil _ _ _ _ _ | exact Kd.V_nil _ _ _ _ _ | exact Kd.Q_nil _ _ _ _ _ | exact Kd.S_nil _ _ _ _ _, Full8.nil _, by repeat (first | (with_reducible first | exact HB.out | apply below_alloc | apply pw_below_drewN | apply below_drew1 | refine below_set ?_ GE170.out) | exact HB.out)⟩

end Go.Proofs.Ytopkmchkfcjjmaa.X
end

/-! ## Over -/
section
namespace Go.Proofs.Ytopkmchkfcjjmaa.X
open Go.RowKit Go.Proofs.YtopkmchkfcjjmaaW.PrintWords Go.Proofs.YtopkmchkfcjjmaaW.PrintLast Go.Proofs.YtopkmchkfcjjmaaW.PrintMore
set_option linter.unusedVariables false
set_option linter.unusedSimpArgs false
/-- A row of bytes of one's own, from block base on; its room holds bytes, too. -/
def Bytes8 (w : World) (base : Nat) (v : Value) : Prop :=
 v = .slice none 0 0 ∨ ∃ (g n cap : Nat) (cur : Array Value), v = .slice (some ⟨g, 0, none⟩) n cap ∧ base ≤ g ∧ w.heap[g]? = some (.cells cur 5 (0, 0)) ∧ cur.size = cap ∧ n ≤ cap ∧ cap ≤ maxLen ∧ ∀ i : Nat, i < cap → ∃ z : Int, cur[i]? = some (.int .u8 z)
theorem Bytes8.of_R {w : World} {base : Nat} {ok : Nat → Prop} {v : Value} {xs : List Int} (h : Kd.R (Kd.int .u8) 5 w base ok v xs) (hf : Full8 w v) : Bytes8 w base v := by
 obtain ⟨_, inner, ho, _⟩ := h
 rcases ho.2 with ⟨h1, _⟩ | ⟨g, cap, cur, hv, hg, hh, hn, hc, hs, _⟩
 ·exact .inl h1
 ·subst hv
  obtain ⟨cur', h1, h2⟩ := hf g rfl
  rw [hh] at h1
  injection h1 with h1
  injection h1 with h1 _ _
  subst h1
  rw [show cap * (Kd.int .u8).sz = cap from Nat.mul_one _] at hs
  refine .inr ⟨g, _, cap, cur, rfl, hg, hh, hs, hn, hc, fun i hi => ?_⟩
  have hi' : i < cur.size := by omega
  obtain ⟨z, hz⟩ := h2 cur[i] (by rw [← Array.getElem_toList]; exact List.getElem_mem _)
  exact ⟨z, by rw [Array.getElem?_eq_getElem hi', hz]⟩
theorem Bytes8.step {w w1 : World} {base : Nat} {v : Value} (h : Bytes8 w base v) (hm : ∀ k, v.ownBlock = some k → k < w.heap.size → w1.heap[k]? = w.heap[k]?) : Bytes8 w1 base v := by
 rcases h with h | ⟨g, n, cap, cur, rfl, h1, h2, h3⟩
 ·exact .inl h
 ·exact .inr ⟨g, n, cap, cur, rfl, h1, (hm g rfl (blk_lt h2)).trans h2, h3⟩
theorem Bytes8.below {w w1 : World} {base : Nat} {v : Value} (h : Bytes8 w base v) (hb : Below w.heap.size w w1) : Bytes8 w1 base v := h.step fun k _ hk => hb.block k hk
theorem Bytes8.lower {w : World} {base base' : Nat} {v : Value} (h : Bytes8 w base v) (hb : base' ≤ base) : Bytes8 w base' v := by
 rcases h with h | ⟨g, n, cap, cur, rfl, h1, h2⟩
 ·exact .inl h
 ·exact .inr ⟨g, n, cap, cur, rfl, Nat.le_trans hb h1, h2⟩
theorem Bytes8.base {w : World} {base : Nat} {v : Value} (h : Bytes8 w base v) : ∀ k, v.ownBlock = some k → base ≤ k := by
 rcases h with rfl | ⟨g, n, cap, cur, rfl, h1, _⟩
 ·intro k hk; simp [Value.ownBlock] at hk
 ·intro k hk
  obtain rfl := Option.some.inj hk
  exact h1
/-- What has turned is a row's own block, at most. -/
structure OnlyRow (w w' : World) (row : Option Nat) : Prop where
 os : w'.os = w.os
 tape : w'.tape = w.tape
 output : w'.output = w.output
 size : w'.heap.size = w.heap.size
 block : ∀ k, some k ≠ row → w'.heap[k]? = w.heap[k]?
theorem OnlyRow.refl (w : World) (row : Option Nat) : OnlyRow w w row := ⟨rfl, rfl, rfl, rfl, fun _ _ => rfl⟩
theorem OnlyRow.set {w w1 : World} {row : Option Nat} (h : OnlyRow w w1 row) {p : Addr} (hp : row = some p.block) (u : Value) : OnlyRow w (w1.setCell p u) row :=
 ⟨h.os, h.tape, h.output, by simp [World.setCell, h.size], fun k hk => (Below.heap_setCell w1 p u k (fun e => hk (by rw [hp, e]))).trans (h.block k hk)⟩
theorem OnlyRow.below {w w1 : World} {row : Option Nat} (h : OnlyRow w w1 row) {base : Nat} (hr : ∀ k, row = some k → base ≤ k) : Below base w w1 :=
 ⟨h.os, h.tape, h.output, Nat.le_of_eq h.size.symm, fun k hk => h.block k (fun e => by have := hr k e.symm; omega)⟩
set_option maxHeartbeats 8000000 in
set_option maxRecDepth 100000 in
theorem satchelkit_OverBytes.calls (base : Nat) (v : Value) (w : World) (h : Bytes8 w base v) :
  Calls Try.prog 24 #[v] w fun e w' => e = .returned (.tuple #[]) ∧ OnlyRow w w' v.ownBlock ∧ Bytes8 w' base v := by
 obtain ⟨i0, hi, hz0, hz1, hz2⟩ := info_parts info5
 rcases h with rfl | ⟨g, n, cap, cur, rfl, hg, hh, hs, hn, hc, hall⟩
 ·have hcap : ∀ W : World, (Builtin.cap_ #[29] 3 #[.slice none 0 0]).run Try.prog W = .ok (.int .i64 0) W := fun W => by kernel_rfl
  have hcut : ∀ W : World, (Instr.slice 29 (.slice none 0 0) none (some (.int .i64 0)) none).run Try.prog W = .ok (.slice none 0 0) W := fun W => cut_to (P := Try.prog) 29 5 .i64 Try.underlying29 hi none 0 0 0 (by omega) (by omega) (by omega) W
  clear hi hz0 hz1 hz2
  go_enter Try.func24, Try.ntmps24
  go_wp2
  go_loop [3] (fun i => i = .int .i64 0) (fun _ => 0)
  case atStart => rfl
  case round =>
   subst hrel
   go_wp2
   go_end0
   exact ⟨rfl, OnlyRow.refl _ _, .inl rfl⟩
 ·have hcut : ∀ W : World, (Instr.slice 29 (.slice (some ⟨g, 0, none⟩) n cap) none (some (.int .i64 cap)) none).run Try.prog W = .ok (.slice (some ⟨g, 0, none⟩) cap cap) W := by
   intro W
   have hel : Try.prog.elem 29 = 5 := by simp [Program.elem, Try.underlying29]
   have hu : Try.prog.underlying 29 = some (.slice (Try.prog.elem 29)) := by rw [hel]; exact Try.underlying29
   rw [run_slice_h W 29 (some ⟨g, 0, none⟩) n cap hu .i64 cap (by omega) (by omega), hel]
   simp [sizeOf, typeInfo, hi, sliced, Result.andThen, Addr.add]
  clear hi hz0 hz1 hz2
  have HH := Aside0.mk hh
  have HS := Aside0.mk hs
  have HALL := Aside0.mk hall
  unfold maxLen at hc
  clear hh hs hall
  go_enter Try.func24, Try.ntmps24
  go_wp2
  go_loopw [3] (fun v3 wr => ∃ (i : Nat) (cu : Array Value), v3 = .int .i64 (i : Int) ∧ i ≤ cap ∧ Aside0 (wr.heap[g]? = some (.cells cu 5 (0, 0))) ∧ Aside0 (cu.size = cap) ∧ Aside0 (∀ i : Nat, i < cap → ∃ z : Int, cu[i]? = some (.int .u8 z)) ∧ Aside0 (OnlyRow w wr (some g))) (fun v3 _ => cap - (intOf v3).toNat)
  case atStart => exact ⟨0, cur, rfl, by omega, HH, HS, HALL, ⟨OnlyRow.refl _ _⟩⟩
  case round =>
   clear HH HS HALL
   obtain ⟨i, cu, rfl, hil, HH, HS, HALL, HO⟩ := hrel
   by_cases c1 : i < cap
   ·have d1 : decide (i < cap) = true := decide_eq_true c1
    obtain ⟨z, hz⟩ := HALL.out i c1
    have hcell : wr.cell? ⟨g, i, none⟩ = some (.int .u8 z) := (blk_cell HH.out i).trans hz
    have hfz : wr.frozen? ⟨g, i, none⟩ = false := blk_frozen HH.out i
    have HZ := Aside0.mk hz
    clear hz
    go_wp2
    go_roundw
    case rel =>
     refine ⟨i + 1, cu.setIfInBounds i _, by congr 1, by omega, ⟨blk_set HH.out i _⟩, ⟨by rw [Array.size_setIfInBounds]; exact HS.out⟩, ⟨fun j hj => ?_⟩, ⟨HO.out.set rfl _⟩⟩
     by_cases e : i = j
     ·subst e
      exact ⟨_, by rw [Array.getElem?_setIfInBounds_self_of_lt (by rw [HS.out]; exact hj)]⟩
     ·rw [Array.getElem?_setIfInBounds_ne e]
      exact HALL.out j hj
    case measure => simp [intOf]; omega
   ·have d1 : decide (i < cap) = false := decide_eq_false c1
    go_wp2
    go_end0
    exact ⟨rfl, HO.out, .inr ⟨g, n, cap, cu, rfl, hg, HH.out, HS.out, hn, by unfold maxLen; exact hc, HALL.out⟩⟩
/-- What is left of a tree that is written over: from entry i on its bytes are rows of one's own, apart from each other and from the tree's row. -/
structure LeftOver (w : World) (base g cap n : Nat) (f : Nat → Nat) (i : Nat) : Prop where
 row : ∃ cu : Array Value, w.heap[g]? = some (.cells cu 31 (0, 0)) ∧ cu.size = cap * 5
 data : ∀ j : Nat, i ≤ j → j < n → ∃ vj : Value, w.cell? ⟨g, j * 5 + 3, none⟩ = some vj ∧ Bytes8 w base vj ∧ ∀ k, vj.ownBlock = some k → k ≠ g ∧ f k = j
theorem LeftOver.of_S {w : World} {base : Nat} {ok : Nat → Prop} {g n cap : Nat} {l : List (S31)} (h : Kd.S k31 31 w base ok (.slice (some ⟨g, 0, none⟩) n cap) l) (hF : FullRow w (.slice (some ⟨g, 0, none⟩) n cap) l) : ∃ f, n = l.length ∧ n ≤ cap ∧ cap ≤ maxLen ∧ base ≤ g ∧ LeftOver w base g cap n f 0 := by
 obtain ⟨f, h0, inner, ho, hr⟩ := h
 have hlz : l.zipIdx.length = l.length := List.length_zipIdx
 rw [hlz] at ho
 rcases ho.2 with ⟨h1, _⟩ | ⟨g', cap', cur, hv, hg, hh, hn, hc, hs, htk⟩
 ·cases h1
 ·injection hv with ha hn' hc'
  injection ha with ha
  injection ha with ha _ _
  subst ha hn' hc'
  refine ⟨f, rfl, hn, hc, hg, ⟨cur, hh, hs⟩, fun j _ hj => ?_⟩
  have hjz : l.zipIdx[j]? = some (l[j], j) := by rw [List.getElem?_zipIdx, Nat.zero_add, List.getElem?_eq_getElem hj]; rfl
  have hM := hr.2 j (l[j], j) hjz
  obtain ⟨v3, hcs, hR⟩ := k31_openM (show k31.M w base (fun k => (ok k ∧ some k ≠ (Value.slice (some ⟨g, 0, none⟩) l.length cap).ownBlock) ∧ f k = j) l[j] ((inner.drop (j * 5)).take 5) from hM)
  have hcell : w.cell? ⟨g, j * 5 + 3, none⟩ = some v3 := by
   rw [blk_cell hh]
   have e1 : ((inner.drop (j * 5)).take 5)[3]? = some v3 := by rw [hcs]; rfl
   rw [List.getElem?_take_of_lt (by omega), List.getElem?_drop, ← htk, List.getElem?_take_of_lt (by have : l.length * 5 = l.length * (Kd.tag f k31).sz := rfl; omega), Array.getElem?_toList] at e1
   exact e1
  obtain ⟨vj, hc2, hf2⟩ := hF ⟨g, 0, none⟩ l.length cap rfl j hj
  rw [Nat.zero_add, hcell] at hc2
  obtain rfl := Option.some.inj hc2
  refine ⟨v3, hcell, Bytes8.of_R hR hf2, fun k hk => ?_⟩
  have := hR.1 k hk
  exact ⟨fun e => this.1.2 (by rw [e]; rfl), this.2⟩
theorem LeftOver.over {w w1 : World} {base g cap n i : Nat} {f : Nat → Nat} (h : LeftOver w base g cap n f i) {vi : Value} (hvi : ∀ k, vi.ownBlock = some k → k ≠ g ∧ f k = i) (ho : OnlyRow w w1 vi.ownBlock) : LeftOver w1 base g cap n f (i + 1) := by
 have hg : w1.heap[g]? = w.heap[g]? := ho.block g (fun e => (hvi g e.symm).1 rfl)
 refine ⟨by rw [hg]; exact h.row, fun j h1 h2 => ?_⟩
 obtain ⟨vj, h3, h4, h5⟩ := h.data j (by omega) h2
 refine ⟨vj, (World.cell?_of_block (w := w) (a := ⟨g, j * 5 + 3, none⟩) hg).trans h3, h4.step (fun k hk _ => ho.block k (fun e => ?_)), h5⟩
 have a1 := (h5 k hk).2
 have a2 := (hvi k e.symm).2
 omega
theorem LeftOver.set {w : World} {base g cap n i q : Nat} {f : Nat → Nat} (h : LeftOver w base g cap n f (i + 1)) (hq : q < 5) (u : Value) : LeftOver (w.setCell ⟨g, i * 5 + q, none⟩ u) base g cap n f (i + 1) := by
 obtain ⟨cu, h1, h2⟩ := h.row
 refine ⟨⟨_, blk_set h1 _ u, by rw [Array.size_setIfInBounds]; exact h2⟩, fun j h3 h4 => ?_⟩
 obtain ⟨vj, h5, h6, h7⟩ := h.data j h3 h4
 refine ⟨vj, ?_, h6.step (fun k hk _ => Below.heap_setCell w ⟨g, i * 5 + q, none⟩ u k (h7 k hk).1), h7⟩
 rw [World.cell?_setCell_other w ⟨g, i * 5 + q, none⟩ ⟨g, j * 5 + 3, none⟩ u (fun e => by injection e; omega)]
 exact h5
theorem LeftOver.there {w : World} {base g cap n i q : Nat} {f : Nat → Nat} {s : Nat} (h : LeftOver w base g cap n f s) (hi : i < cap) (hq : q < 5) : (w.cell? ⟨g, i * 5 + q, none⟩).isSome = true ∧ w.frozen? ⟨g, i * 5 + q, none⟩ = false := by
 obtain ⟨cu, h1, h2⟩ := h.row
 refine ⟨?_, blk_frozen h1 _⟩
 rw [blk_cell h1, Array.getElem?_eq_getElem (by omega)]
 rfl
set_option maxHeartbeats 8000000 in
set_option maxRecDepth 100000 in
theorem satchelkit_OverTree.calls (base : Nat) (ok : Nat → Prop) (v : Value) (l : List (S31)) (w : World) (h : Kd.S k31 31 w base ok v l) (hF : FullRow w v l) :
  Calls Try.prog 34 #[v] w fun e w' => e = .returned (.tuple #[]) ∧ Below base w w' := by
 obtain ⟨A, c, rfl⟩ := Kd.R_slice (Kd.S_R h)
 have hlen := (Kd.R_reads' (Kd.S_R h)).2.1
 have hmax := Kd.C_max (Kd.R_reads' (Kd.S_R h)).2.2
 cases A with
 | none =>
  have hl : l.length = 0 := by
   obtain ⟨_, _, h3⟩ := (Kd.R_reads' (Kd.S_R h)).2.2
   rcases Nat.eq_zero_or_pos l.length with h0 | h0
   ·exact h0
   ·obtain ⟨ad, h4, _⟩ := h3 h0
    cases h4
  rw [hl]
  clear h hF hlen hmax hl
  go_enter Try.func34, Try.ntmps34
  go_wp2
  go_loop [2] (fun i => i = .int .i64 0) (fun _ => 0)
  case atStart => rfl
  case round =>
   subst hrel
   go_wp2
   go_end0
   exact ⟨rfl, Below.refl _ _⟩
 | some ad =>
  obtain ⟨g, rfl⟩ := Kd.R_head (Kd.S_R h)
  obtain ⟨f, hn, hnc, hcm, hg, hlo⟩ := LeftOver.of_S h hF
  obtain ⟨n, hnn⟩ : ∃ n, n = l.length := ⟨_, rfl⟩
  rw [← hnn] at hnc hlo hmax ⊢
  have HLO := Aside0.mk hlo
  clear h hF hn hlo hcm hlen hnn
  go_enter Try.func34, Try.ntmps34
  go_wp2
  go_loopw [2] (fun v2 wr => ∃ (i : Nat), v2 = .int .i64 (i : Int) ∧ i ≤ n ∧ Aside0 (LeftOver wr base g c n f i) ∧ Aside0 (Below base w wr)) (fun v2 _ => n - (intOf v2).toNat)
  case atStart => exact ⟨0, rfl, by omega, HLO, ⟨Below.refl _ _⟩⟩
  case round =>
   clear HLO
   obtain ⟨i, rfl, hil, HL, HB⟩ := hrel
   by_cases c1 : i < n
   ·have d1 : decide (i < n) = true := decide_eq_true c1
    obtain ⟨vi, hvi, hbi, howi⟩ := HL.out.data i (Nat.le_refl _) c1
    have HBI := Aside0.mk hbi
    have HOW := Aside0.mk howi
    have hic : i < c := by omega
    clear hbi howi
    go_wp2_with (go_at_call 24; refine (satchelkit_OverBytes.calls base vi _ HBI.out).mono ?_; rintro e w2 ⟨rfl, ho, hb8⟩; have HO := Aside0.mk ho; have HL2 := Aside0.mk (HL.out.over HOW.out ho); clear ho hb8; obtain ⟨x0, hx0⟩ := Option.isSome_iff_exists.1 (HL2.out.there (i := i) (q := 0) hic (by decide)).1; have hf0 := (HL2.out.there (i := i) (q := 0) hic (by decide)).2; obtain ⟨x1, hx1⟩ := Option.isSome_iff_exists.1 (HL2.out.there (i := i) (q := 1) hic (by decide)).1; have hf1 := (HL2.out.there (i := i) (q := 1) hic (by decide)).2; obtain ⟨x2, hx2⟩ := Option.isSome_iff_exists.1 (HL2.out.there (i := i) (q := 2) hic (by decide)).1; have hf2 := (HL2.out.there (i := i) (q := 2) hic (by decide)).2; obtain ⟨x3, hx3⟩ := Option.isSome_iff_exists.1 (HL2.out.there (i := i) (q := 3) hic (by decide)).1; have hf3 := (HL2.out.there (i := i) (q := 3) hic (by decide)).2; obtain ⟨x4, hx4⟩ := Option.isSome_iff_exists.1 (HL2.out.there (i := i) (q := 4) hic (by decide)).1; have hf4 := (HL2.out.there (i := i) (q := 4) hic (by decide)).2; rw [Nat.add_zero] at hx0 hf0)
    go_roundw
    case rel => exact ⟨i + 1, by congr 1, by omega, ⟨((((HL2.out.set (q := 0) (by decide) _).set (q := 1) (by decide) _).set (q := 2) (by decide) _).set (q := 3) (by decide) _).set (q := 4) (by decide) _⟩, ⟨((((((HB.out.trans (HO.out.below HBI.out.base)).setCell (p := ⟨g, i * 5, none⟩) hg _).setCell (p := ⟨g, i * 5 + 1, none⟩) hg _).setCell (p := ⟨g, i * 5 + 2, none⟩) hg _).setCell (p := ⟨g, i * 5 + 3, none⟩) hg _).setCell (p := ⟨g, i * 5 + 4, none⟩) hg _)⟩⟩
    case measure => simp [intOf]; omega
   ·have d1 : decide (i < n) = false := decide_eq_false c1
    go_wp2
    go_end0
    exact ⟨rfl, HB.out⟩
end Go.Proofs.Ytopkmchkfcjjmaa.X
end

/-! ## WalkChecks -/
section
namespace Go.Proofs.Ytopkmchkfcjjmaa.X
open Go.RowKit Go.Proofs.YtopkmchkfcjjmaaW.PrintWords Go.Proofs.YtopkmchkfcjjmaaW.PrintLast Go.Proofs.YtopkmchkfcjjmaaW.PrintMore
set_option linter.unusedVariables false
set_option linter.unusedSimpArgs false
theorem box_full {w : World} {g t : Nat} {z0 z1 z2 z3 z4 : Value} (h : w.heap[g]? = some (.cells #[z0, z1, z2, z3, z4] t (0, 0))) (a0 a1 a2 a3 a4 : Value) :
  (((((w.setCell ⟨g, 0, none⟩ a0).setCell ⟨g, 1, none⟩ a1).setCell ⟨g, 2, none⟩ a2).setCell ⟨g, 3, none⟩ a3).setCell ⟨g, 4, none⟩ a4).heap[g]? = some (.cells #[a0, a1, a2, a3, a4] t (0, 0)) :=
 blk_put (blk_put (blk_put (blk_put (blk_put h 0 a0 rfl) 1 a1 rfl) 2 a2 rfl) 3 a3 rfl) 4 a4 rfl
theorem box_below {w0 w : World} {g : Nat} (h : Below w0.heap.size w0 w) (hg : w0.heap.size ≤ g) (a0 a1 a2 a3 a4 : Value) :
  Below w0.heap.size w0 (((((w.setCell ⟨g, 0, none⟩ a0).setCell ⟨g, 1, none⟩ a1).setCell ⟨g, 2, none⟩ a2).setCell ⟨g, 3, none⟩ a3).setCell ⟨g, 4, none⟩ a4) :=
 ((((h.setCell (p := ⟨g, 0, none⟩) hg a0).setCell (p := ⟨g, 1, none⟩) hg a1).setCell (p := ⟨g, 2, none⟩) hg a2).setCell (p := ⟨g, 3, none⟩) hg a3).setCell (p := ⟨g, 4, none⟩) hg a4
set_option maxHeartbeats 8000000 in
set_option maxRecDepth 100000 in
theorem treeChecks.main (A0 : Option Addr) (c0 : Nat) (l0 : List (S31)) (p : ByteArray) (w : World) (hr0 : Kd.C k31 w A0 l0.length l0) (hc0 : l0.length ≤ c0) (hf0 : Fits l0) (hp : p.size ≤ 300) (K : Nat) (hbig : satchelkit_BigTree.f K l0 220 9000 = some false) (hlen : l0.length ≤ 220) :
  Calls Try.prog 4 #[.slice A0 l0.length c0, .string p] w fun e w' => e = .returned (.bool true) ∧ Below w.heap.size w w' := by
 obtain ⟨k, e1, e2, n, x, b, q1, q2, q3, q4, q5, q6, q7, q8⟩ := checks_at l0 hlen hf0 p
 have HBIG := Aside0.mk hbig
 have Q1 := Aside0.mk q1
 have Q2 := Aside0.mk q2
 have Q3 := Aside0.mk q3
 have Q4 := Aside0.mk q4
 have Q5 := Aside0.mk q5
 have Q6 := Aside0.mk q6
 have Q7 := Aside0.mk q7
 have Q8 := Aside0.mk q8
 have HR0 := Aside0.mk hr0
 have hp2 : decide (300 < (p.size : Int)) = false := decide_eq_false (by omega)
 have hp3 : decide (300 < p.size) = false := decide_eq_false (by omega)
 clear hbig q1 q2 q3 q4 q5 q6 q7 q8 hr0
 ·go_enter Try.func4, Try.ntmps4
  go_wp2_with (first
   | (go_at_call 12; refine (satchelkit_BigTree.calls K A0 c0 l0 220 9000 false _ HR0.out hc0 HBIG.out).mono ?_; rintro e w1 ⟨rfl, hd⟩; have HW1 := Aside0.mk (Drawn0.below hd); clear hd)
   | (go_at_call 18; refine (satchelkit_CopyTree.calls k (fun k => k < w1.heap.size) A0 c0 l0 l0 _ (Kd.V_mk hc0 (Kd.C_F k31_heap (Kd.C_below HR0.out HW1.out))) Q1.out).mono ?_; rintro e w2 ⟨v5, rfl, hn, hb⟩; obtain ⟨A5, c5, rfl⟩ := Kd.N_slice hn; have HC5 := Aside0.mk (Kd.N_reads' hn).2.2; have HL5 := Aside0.mk (Kd.N_reads' hn).2.1; have HW2 := Aside0.mk (below_step HW1.out hb); clear hn hb)
   | (go_at_call 11; refine (tree_Check.calls k A5 c5 l0 e1 e2 _ HC5.out HL5.out Q2.out).mono ?_; rintro e w3 ⟨rfl, hb⟩; have HI3 := Aside0.mk hb; have HW3 := Aside0.mk (below_step HW2.out hb); clear hb)
   | (go_at_call 19; refine (satchelref08_Check.calls k A0 c0 l0 e1 e2 _ (Kd.C_below HR0.out HW3.out) hc0 Q3.out).mono ?_; rintro e w4 ⟨rfl, hb⟩; have HI4 := Aside0.mk (below_step HI3.out hb); have HW4 := Aside0.mk (below_step HW3.out hb); clear hb)
   | (go_at_call 14; refine (tree_Find.calls2 k A5 c5 l0 p _ _ _ _ _ _ _ (Kd.C_below HC5.out HI4.out) HL5.out Q4.out).mono ?_; rintro e w5 ⟨vx, rfl, hx, hxf, hb⟩; obtain ⟨Ax, cx, rfl⟩ := Kd.R_slice hx; have HX5 := Aside0.mk hx; have HX8 := Aside0.mk (Bytes8.of_R hx hxf); have HI5 := Aside0.mk (below_step HI4.out hb); have HW5 := Aside0.mk (below_step HW4.out hb); clear hb hx hxf)
   | (go_at_call 20; refine (satchelref08_Find.calls k A0 c0 l0 p _ _ _ _ _ _ _ (Kd.C_below HR0.out (below_alloc HW5.out (.cells #[.string x.f0, .int .i64 x.f1, .int .i64 x.f2, .slice Ax x.f3.length cx, .string x.f4] 31))) hc0 Q5.out).mono ?_; rintro e w8 ⟨vy, rfl, hy, hb⟩; obtain ⟨Ay, cy, rfl⟩ := Kd.R_slice hy; have HY8 := Aside0.mk hy; have HS8 := Aside0.mk (below_step (below_alloc (Below.refl _ w5) (.cells #[.string x.f0, .int .i64 x.f1, .int .i64 x.f2, .slice Ax x.f3.length cx, .string x.f4] 31)) hb); have BKX8 := Aside0.mk (blk_below (heap_alloc_new w5 (.cells #[.string x.f0, .int .i64 x.f1, .int .i64 x.f2, .slice Ax x.f3.length cx, .string x.f4] 31)) hb); have HI8 := Aside0.mk (below_step (below_alloc HI5.out (.cells #[.string x.f0, .int .i64 x.f1, .int .i64 x.f2, .slice Ax x.f3.length cx, .string x.f4] 31)) hb); have HW8 := Aside0.mk (below_step (below_alloc HW5.out (.cells #[.string x.f0, .int .i64 x.f1, .int .i64 x.f2, .slice Ax x.f3.length cx, .string x.f4] 31)) hb); clear hb hy; have hlgx0 : ∀ o, (w8.alloc o).cell? ⟨w5.heap.size, 0, none⟩ = some (.string x.f0) := fun o => (blk_cell (blk_alloc BKX8.out o) 0).trans rfl; have hlgx1 : ∀ o, (w8.alloc o).cell? ⟨w5.heap.size, 1, none⟩ = some (.int .i64 x.f1) := fun o => (blk_cell (blk_alloc BKX8.out o) 1).trans rfl; have hlgx2 : ∀ o, (w8.alloc o).cell? ⟨w5.heap.size, 2, none⟩ = some (.int .i64 x.f2) := fun o => (blk_cell (blk_alloc BKX8.out o) 2).trans rfl; have hlgx3 : ∀ o, (w8.alloc o).cell? ⟨w5.heap.size, 3, none⟩ = some (.slice Ax x.f3.length cx) := fun o => (blk_cell (blk_alloc BKX8.out o) 3).trans rfl; have hlgx4 : ∀ o, (w8.alloc o).cell? ⟨w5.heap.size, 4, none⟩ = some (.string x.f4) := fun o => (blk_cell (blk_alloc BKX8.out o) 4).trans rfl)
   | (go_at_call 21; refine (satchelref08_Like.calls _ _ _ _ _ x.f3 _ _ _ _ _ _ x.f3 _ true _ (Kd.C_below (Kd.R_reads' HX5.out).2.2 (below_alloc HS8.out (.cells #[.string x.f0, .int .i64 x.f1, .int .i64 x.f2, .slice Ay x.f3.length cy, .string x.f4] 31))) (Kd.R_reads' HX5.out).2.1 (Kd.C_below (Kd.R_reads' HY8.out).2.2 (below_alloc (Below.refl _ w8) (.cells #[.string x.f0, .int .i64 x.f1, .int .i64 x.f2, .slice Ay x.f3.length cy, .string x.f4] 31))) (Kd.R_reads' HY8.out).2.1 (like_self x)).mono ?_; rintro e w11 ⟨rfl, hb⟩; clear hlgx0 hlgx1 hlgx2 hlgx3 hlgx4; have HS10 := Aside0.mk (below_alloc HS8.out (.cells #[.string x.f0, .int .i64 x.f1, .int .i64 x.f2, .slice Ay x.f3.length cy, .string x.f4] 31)); have HT10 := Aside0.mk (below_alloc (Below.refl _ w8) (.cells #[.string x.f0, .int .i64 x.f1, .int .i64 x.f2, .slice Ay x.f3.length cy, .string x.f4] 31)); have HI10 := Aside0.mk (below_alloc HI8.out (.cells #[.string x.f0, .int .i64 x.f1, .int .i64 x.f2, .slice Ay x.f3.length cy, .string x.f4] 31)); have HW10 := Aside0.mk (below_alloc HW8.out (.cells #[.string x.f0, .int .i64 x.f1, .int .i64 x.f2, .slice Ay x.f3.length cy, .string x.f4] 31)); have BKX10 := Aside0.mk (blk_alloc BKX8.out (.cells #[.string x.f0, .int .i64 x.f1, .int .i64 x.f2, .slice Ay x.f3.length cy, .string x.f4] 31)); have BKX11 := Aside0.mk (blk_below BKX10.out hb); have HS11 := Aside0.mk (below_step HS10.out hb); have HI11 := Aside0.mk (below_step HI10.out hb); have HW11 := Aside0.mk (below_step HW10.out hb); clear hb)
   | (go_at_call 22; refine (tree_Size.calls k A5 c5 l0 n _ (Kd.C_below HC5.out HI11.out) HL5.out Q6.out).mono ?_; rintro e w12 ⟨rfl, hb⟩; have BKX12 := Aside0.mk (blk_below BKX11.out hb); have HS12 := Aside0.mk (below_step HS11.out hb); have HI12 := Aside0.mk (below_step HI11.out hb); have HW12 := Aside0.mk (below_step HW11.out hb); clear hb)
   | (go_at_call 23; refine (satchelref08_Size.calls k A0 c0 l0 n _ (Kd.C_below HR0.out HW12.out) hc0 Q7.out).mono ?_; rintro e w13 ⟨rfl, hd⟩; have hb := Drawn0.below hd; have BKX13 := Aside0.mk (blk_below BKX12.out hb); have HS13 := Aside0.mk (below_step HS12.out hb); have HI13 := Aside0.mk (below_step HI12.out hb); have HW13 := Aside0.mk (below_step HW12.out hb); clear hb hd; have hl3 := (blk_cell BKX13.out 3).trans (show _ = some _ from rfl))
   | (go_at_call 24; refine (satchelkit_OverBytes.calls w4.heap.size _ _ (HX8.out.below HS13.out)).mono ?_; rintro e w14 ⟨rfl, ho, _⟩; have hb := ho.below (HX8.out.below HS13.out).base; have HI14 := Aside0.mk (HI13.out.trans (hb.mono (HI4.out.size))); have HW14 := Aside0.mk (HW13.out.trans (hb.mono (HW4.out.size))); clear hb ho)
   | (go_at_call 16; refine (satchelkit_SameTree.calls A5 c5 l0 A0 c0 l0 true _ (Kd.C_below HC5.out HI14.out) HL5.out (Kd.C_below HR0.out HW14.out) hc0 (by rw [sameTree_f, sameV_refl])).mono ?_; rintro e w16 ⟨rfl, hd⟩; have HW16 := Aside0.mk (below_step HW14.out (Drawn0.below hd)); clear hd)
   | (go_at_call 10; refine (satchellaw08_awake.calls k true _ Q8.out).mono ?_; rintro e w15 ⟨rfl, hb⟩; have HW15 := Aside0.mk (below_step HW16.out hb); clear hb))
  go_ret
  exact ⟨rfl, HW15.out⟩
set_option maxHeartbeats 2000000 in
theorem treeChecks.big (A0 : Option Addr) (c0 : Nat) (l0 : List (S31)) (p : ByteArray) (w : World) (hr0 : Kd.C k31 w A0 l0.length l0) (hc0 : l0.length ≤ c0) (K : Nat) (hbig : satchelkit_BigTree.f K l0 220 9000 = some true) (hp : p.size ≤ maxLen) :
  Calls Try.prog 4 #[.slice A0 l0.length c0, .string p] w fun e w' => e = .returned (.bool true) ∧ Below w.heap.size w w' := by
 obtain ⟨k, q8⟩ := awake_ev
 have Q8 := Aside0.mk (q8 k (Nat.le_refl _))
 have HBIG := Aside0.mk hbig
 have HR0 := Aside0.mk hr0
 clear hbig hr0 q8
 go_enter Try.func4, Try.ntmps4
 go_wp2_with (first
  | (go_at_call 12; refine (satchelkit_BigTree.calls K A0 c0 l0 220 9000 true _ HR0.out hc0 HBIG.out).mono ?_; rintro e w1 ⟨rfl, hd⟩; have HW1 := Aside0.mk (Drawn0.below hd); clear hd)
  | (go_at_call 10; refine (satchellaw08_awake.calls k true _ Q8.out).mono ?_; rintro e w15 ⟨rfl, hb⟩; have HW2 := Aside0.mk (below_step HW1.out hb); clear hb))
 go_ret
 exact ⟨rfl, HW2.out⟩
set_option maxHeartbeats 2000000 in
theorem treeChecks.long (A0 : Option Addr) (c0 : Nat) (l0 : List (S31)) (p : ByteArray) (w : World) (hr0 : Kd.C k31 w A0 l0.length l0) (hc0 : l0.length ≤ c0) (K : Nat) (hbig : satchelkit_BigTree.f K l0 220 9000 = some false) (hp : ¬ p.size ≤ 300) :
  Calls Try.prog 4 #[.slice A0 l0.length c0, .string p] w fun e w' => e = .returned (.bool true) ∧ Below w.heap.size w w' := by
 obtain ⟨k, q8⟩ := awake_ev
 have Q8 := Aside0.mk (q8 k (Nat.le_refl _))
 have HBIG := Aside0.mk hbig
 have HR0 := Aside0.mk hr0
 have hp2 : decide (300 < (p.size : Int)) = true := decide_eq_true (by omega)
 have hp3 : decide (300 < p.size) = true := decide_eq_true (by omega)
 clear hbig hr0 q8
 go_enter Try.func4, Try.ntmps4
 go_wp2_with (first
  | (go_at_call 12; refine (satchelkit_BigTree.calls K A0 c0 l0 220 9000 false _ HR0.out hc0 HBIG.out).mono ?_; rintro e w1 ⟨rfl, hd⟩; have HW1 := Aside0.mk (Drawn0.below hd); clear hd)
  | (go_at_call 10; refine (satchellaw08_awake.calls k true _ Q8.out).mono ?_; rintro e w15 ⟨rfl, hb⟩; have HW2 := Aside0.mk (below_step HW1.out hb); clear hb))
 go_ret
 exact ⟨rfl, HW2.out⟩
theorem treeChecks.walk (A0 : Option Addr) (c0 : Nat) (l0 : List (S31)) (p : ByteArray) (w : World) (hr0 : Kd.C k31 w A0 l0.length l0) (hc0 : l0.length ≤ c0) (hf0 : Fits l0) (hp : p.size ≤ maxLen) :
  Calls Try.prog 4 #[.slice A0 l0.length c0, .string p] w fun e w' => e = .returned (.bool true) ∧ Below w.heap.size w w' := by
 obtain ⟨b, ⟨K, hb⟩, hlen⟩ := big_ev l0 220 9000 (by decide)
 have hK := hb K (Nat.le_refl _)
 cases b with
 | true => exact treeChecks.big A0 c0 l0 p w hr0 hc0 K hK hp
 | false =>
  by_cases h : p.size ≤ 300
  ·exact treeChecks.main A0 c0 l0 p w hr0 hc0 hf0 h K hK (hlen rfl)
  ·exact treeChecks.long A0 c0 l0 p w hr0 hc0 K hK h
end Go.Proofs.Ytopkmchkfcjjmaa.X
end
