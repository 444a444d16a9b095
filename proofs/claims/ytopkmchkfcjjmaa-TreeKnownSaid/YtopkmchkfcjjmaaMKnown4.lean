/- Functions, one behind the other: a plain Lean function for each, and the proof that the call comes to its answer, whatever the world (conditions: what the arguments read as); and plain laws of them. -/
import Derived.Test.YtopkmchkfcjjmaaMKnown2
import Derived.Test.YtopkmchkfcjjmaaMKnown3
import Derived.ArgAppend
import Derived.BigRegion
/-! ## Satchellaw08Awake -/
section
namespace Go.Proofs.Ytopkmchkfcjjmaa.X
open Go.RowKit Go.Proofs.YtopkmchkfcjjmaaW.PrintWords Go.Proofs.YtopkmchkfcjjmaaW.PrintLast Go.Proofs.YtopkmchkfcjjmaaW.PrintMore
attribute [local go_sem] max2_int min2_int max_two min_two max_three min_three max_four min_four   -- for this text's walks alone
set_option linter.unusedVariables false
set_option linter.unusedSimpArgs false

attribute [local go_sem] str_gtr fld_fault0 fld_fault1
/-! ### satchellaw08_awake: function 10 -/
def satchellaw08_awake.f (k : Nat)  : Option (Bool) := (satchellaw08_sample.f).bind fun t138 => ((tree_Drop.f k t138 (⟨#[97]⟩ : ByteArray)).bind fun bt141 => ((satchellaw08_sample.f).bind fun t145 => ((satchellaw08_fails.f k t145 0 0).bind fun t148 => (if t148 = true then ((satchellaw08_sample.f).bind fun t149 => (if 1 ≤ (t149.length : Int) then ((satchellaw08_fails.f k (t149.drop 1) 6 0).bind fun t157 => (if t157 = true then (if bt141.2 = 0 then ((satchellaw08_sample.f).bind fun t158 => (if 2 ≤ (t158.length : Int) then ((satchelkit_SameTree.f bt141.1 (t158.drop 2)).bind fun t166 => (some t166)) else (none))) else (some false)) else (some false))) else (none))) else (some false)))))
theorem satchellaw08_awake.mono : ∀ k, LeO (satchellaw08_awake.f k ) (satchellaw08_awake.f (k + 1) ) := by
 intro  k
 unfold satchellaw08_awake.f
 repeat' first
   | (with_reducible exact satchellaw08_fails.mono _ _ _ _)
   | (with_reducible exact tree_Drop.mono _ _ _)
   | (with_reducible exact LeO.refl _)
   | (with_reducible exact LeO.none _)
   | (with_reducible refine LeO.ite ?_ ?_)
   | (with_reducible refine LeO.bind ?_ (fun _ => ?_))
   | exact satchellaw08_fails.mono _ _ _ _
   | exact tree_Drop.mono _ _ _
   | exact LeO.none _
   | refine LeO.ite ?_ ?_
   | refine LeO.bind ?_ (fun _ => ?_)
set_option maxHeartbeats 8000000 in
set_option maxRecDepth 100000 in
theorem satchellaw08_awake.calls (k : Nat)  (r : Bool) (w : World) (h : satchellaw08_awake.f k  = some r) :
  Calls Try.prog 10 #[] w fun e w' => e = .returned (.bool r) ∧ Below w.heap.size w w' := by
 have HB := Aside0.mk (Below.refl w.heap.size w)
 have H : ((satchellaw08_sample.f).bind fun t138 => ((tree_Drop.f k t138 (⟨#[97]⟩ : ByteArray)).bind fun bt141 => ((satchellaw08_sample.f).bind fun t145 => ((satchellaw08_fails.f k t145 0 0).bind fun t148 => (if t148 = true then ((satchellaw08_sample.f).bind fun t149 => (if 1 ≤ (t149.length : Int) then ((satchellaw08_fails.f k (t149.drop 1) 6 0).bind fun t157 => (if t157 = true then (if bt141.2 = 0 then ((satchellaw08_sample.f).bind fun t158 => (if 2 ≤ (t158.length : Int) then ((satchelkit_SameTree.f bt141.1 (t158.drop 2)).bind fun t166 => (some t166)) else (none))) else (some false)) else (some false))) else (none))) else (some false)))))) = some r := h
 clear h
 replace H := Option.bind_eq_some_iff.mp H
 obtain ⟨t138, A10, H⟩ := H
 replace H : ((tree_Drop.f k t138 (⟨#[97]⟩ : ByteArray)).bind fun bt141 => ((satchellaw08_sample.f).bind fun t145 => ((satchellaw08_fails.f k t145 0 0).bind fun t148 => (if t148 = true then ((satchellaw08_sample.f).bind fun t149 => (if 1 ≤ (t149.length : Int) then ((satchellaw08_fails.f k (t149.drop 1) 6 0).bind fun t157 => (if t157 = true then (if bt141.2 = 0 then ((satchellaw08_sample.f).bind fun t158 => (if 2 ≤ (t158.length : Int) then ((satchelkit_SameTree.f bt141.1 (t158.drop 2)).bind fun t166 => (some t166)) else (none))) else (some false)) else (some false))) else (none))) else (some false))))) = some r := H
 have A1 := Aside0.mk A10
 clear A10
 replace H := Option.bind_eq_some_iff.mp H
 obtain ⟨⟨t141, t142⟩, A20, H⟩ := H
 replace H : ((satchellaw08_sample.f).bind fun t145 => ((satchellaw08_fails.f k t145 0 0).bind fun t148 => (if t148 = true then ((satchellaw08_sample.f).bind fun t149 => (if 1 ≤ (t149.length : Int) then ((satchellaw08_fails.f k (t149.drop 1) 6 0).bind fun t157 => (if t157 = true then (if t142 = 0 then ((satchellaw08_sample.f).bind fun t158 => (if 2 ≤ (t158.length : Int) then ((satchelkit_SameTree.f t141 (t158.drop 2)).bind fun t166 => (some t166)) else (none))) else (some false)) else (some false))) else (none))) else (some false)))) = some r := H
 have A2 := Aside0.mk A20
 clear A20
 replace H := Option.bind_eq_some_iff.mp H
 obtain ⟨t145, A30, H⟩ := H
 replace H : ((satchellaw08_fails.f k t145 0 0).bind fun t148 => (if t148 = true then ((satchellaw08_sample.f).bind fun t149 => (if 1 ≤ (t149.length : Int) then ((satchellaw08_fails.f k (t149.drop 1) 6 0).bind fun t157 => (if t157 = true then (if t142 = 0 then ((satchellaw08_sample.f).bind fun t158 => (if 2 ≤ (t158.length : Int) then ((satchelkit_SameTree.f t141 (t158.drop 2)).bind fun t166 => (some t166)) else (none))) else (some false)) else (some false))) else (none))) else (some false))) = some r := H
 have A3 := Aside0.mk A30
 clear A30
 replace H := Option.bind_eq_some_iff.mp H
 obtain ⟨t148, A40, H⟩ := H
 replace H : (if t148 = true then ((satchellaw08_sample.f).bind fun t149 => (if 1 ≤ (t149.length : Int) then ((satchellaw08_fails.f k (t149.drop 1) 6 0).bind fun t157 => (if t157 = true then (if t142 = 0 then ((satchellaw08_sample.f).bind fun t158 => (if 2 ≤ (t158.length : Int) then ((satchelkit_SameTree.f t141 (t158.drop 2)).bind fun t166 => (some t166)) else (none))) else (some false)) else (some false))) else (none))) else (some false)) = some r := H
 have A4 := Aside0.mk A40
 clear A40
 by_cases c5 : t148 = true
 ·subst c5
  have H1 : ((satchellaw08_sample.f).bind fun t149 => (if 1 ≤ (t149.length : Int) then ((satchellaw08_fails.f k (t149.drop 1) 6 0).bind fun t157 => (if t157 = true then (if t142 = 0 then ((satchellaw08_sample.f).bind fun t158 => (if 2 ≤ (t158.length : Int) then ((satchelkit_SameTree.f t141 (t158.drop 2)).bind fun t166 => (some t166)) else (none))) else (some false)) else (some false))) else (none))) = some r := by rw [if_pos rfl] at H; exact H
  clear H
  have H := H1
  clear H1
  replace H := Option.bind_eq_some_iff.mp H
  obtain ⟨t149, A60, H⟩ := H
  replace H : (if 1 ≤ (t149.length : Int) then ((satchellaw08_fails.f k (t149.drop 1) 6 0).bind fun t157 => (if t157 = true then (if t142 = 0 then ((satchellaw08_sample.f).bind fun t158 => (if 2 ≤ (t158.length : Int) then ((satchelkit_SameTree.f t141 (t158.drop 2)).bind fun t166 => (some t166)) else (none))) else (some false)) else (some false))) else (none)) = some r := H
  have A6 := Aside0.mk A60
  clear A60
  by_cases c7 : 1 ≤ (t149.length : Int)
  ·rw [if_pos c7] at H
   have c7b0 := eq_true c7
   have c7b1 : decide (1 ≤ (t149.length : Int)) = true := decide_eq_true c7
   clear c7
   obtain ⟨y152, hy152⟩ : ∃ y_ : List (S31), y_ = (t149.drop 1) := ⟨_, rfl⟩
   replace H : ((satchellaw08_fails.f k y152 6 0).bind fun t157 => (if t157 = true then (if t142 = 0 then ((satchellaw08_sample.f).bind fun t158 => (if 2 ≤ (t158.length : Int) then ((satchelkit_SameTree.f t141 (t158.drop 2)).bind fun t166 => (some t166)) else (none))) else (some false)) else (some false))) = some r := by first | (rw [hy152]; with_reducible exact H) | (have H2_ := (Option.bind_some _ _).symm.trans H; rw [hy152]; with_reducible exact H2_) | (have H2_ := (Option.bind_some _ _).symm.trans H; with_reducible exact H2_) | with_reducible exact H | (rw [hy152]; exact H) | exact H
   have Ny152 := Aside0.mk hy152
   clear hy152
   replace H := Option.bind_eq_some_iff.mp H
   obtain ⟨t157, A80, H⟩ := H
   replace H : (if t157 = true then (if t142 = 0 then ((satchellaw08_sample.f).bind fun t158 => (if 2 ≤ (t158.length : Int) then ((satchelkit_SameTree.f t141 (t158.drop 2)).bind fun t166 => (some t166)) else (none))) else (some false)) else (some false)) = some r := H
   have A8 := Aside0.mk A80
   clear A80
   by_cases c9 : t157 = true
   ·subst c9
    have H1 : (if t142 = 0 then ((satchellaw08_sample.f).bind fun t158 => (if 2 ≤ (t158.length : Int) then ((satchelkit_SameTree.f t141 (t158.drop 2)).bind fun t166 => (some t166)) else (none))) else (some false)) = some r := by rw [if_pos rfl] at H; exact H
    clear H
    have H := H1
    clear H1
    by_cases c10 : t142 = 0
    ·rw [if_pos c10] at H
     have c10b0 : (t142 == 0) = true := beq_iff_eq.mpr c10
     have c10b1 : (t142 != 0) = false := bne_eq_false_iff_eq.mpr c10
     clear c10
     replace H := Option.bind_eq_some_iff.mp H
     obtain ⟨t158, A110, H⟩ := H
     replace H : (if 2 ≤ (t158.length : Int) then ((satchelkit_SameTree.f t141 (t158.drop 2)).bind fun t166 => (some t166)) else (none)) = some r := H
     have A11 := Aside0.mk A110
     clear A110
     by_cases c12 : 2 ≤ (t158.length : Int)
     ·rw [if_pos c12] at H
      have c12b0 := eq_true c12
      have c12b1 : decide (2 ≤ (t158.length : Int)) = true := decide_eq_true c12
      clear c12
      obtain ⟨y161, hy161⟩ : ∃ y_ : List (S31), y_ = (t158.drop 2) := ⟨_, rfl⟩
      replace H : ((satchelkit_SameTree.f t141 y161).bind fun t166 => (some t166)) = some r := by first | (rw [hy161]; with_reducible exact H) | (have H2_ := (Option.bind_some _ _).symm.trans H; rw [hy161]; with_reducible exact H2_) | (have H2_ := (Option.bind_some _ _).symm.trans H; with_reducible exact H2_) | with_reducible exact H | (rw [hy161]; exact H) | exact H
      have Ny161 := Aside0.mk hy161
      clear hy161
      replace H := Option.bind_eq_some_iff.mp H
      obtain ⟨t166, A130, H⟩ := H
      replace H : (some t166) = some r := H
      have A13 := Aside0.mk A130
      clear A130
      obtain rfl := Option.some.inj H
      go_enter Try.func10, Try.ntmps10
      go_wp2_with (first | ((with_reducible refine gate_callee (f := 35) rfl ?_); refine goesL_ (some 4) rfl rfl Try.func35 (by kernel_rfl) rfl #[] rfl (by (try simp only [List.map_toArray, List.map_cons, List.map_nil]); first | done | rfl | (simp only [List.length_drop, List.length_take]; rfl)) ?_; (with_reducible refine (satchellaw08_sample.calls  t138 _ A1.out).mono ?_); rintro e w14 ⟨v139, rfl, ho0, hb⟩; clear A1; refine ⟨_, rfl, ?_⟩; have n0_ := Aside0.mk (Kd.N_lower (Kd.N_mono (ok' := fun k_ => True) ho0 (fun k_ hk_ => trivial)) (below_size (by repeat (first | (with_reducible first | exact HB.out | apply below_alloc | apply pw_below_drewN | apply below_drew1) | exact HB.out)))); have n1_ := Aside0.mk (below_step (by repeat (first | (with_reducible first | exact HB.out | apply below_alloc | apply pw_below_drewN | apply below_drew1) | exact HB.out)) hb); clear HB; have HO140 := n0_; have HB := n1_; clear n0_ n1_; (try clear hb); (try clear hb2); (try clear hk); (try clear hi); (try clear ho0); obtain ⟨Ao15, co15, eo15⟩ := Kd.N_slice HO140.out; subst eo15) | ((with_reducible refine gate_callee (f := 32) rfl ?_); refine goesL_ (some 5) rfl rfl Try.func32 (by kernel_rfl) rfl #[.slice Ao15 t138.length co15, .string (⟨#[97]⟩ : ByteArray)] rfl (by (try simp only [List.map_toArray, List.map_cons, List.map_nil]); first | done | rfl | (simp only [List.length_drop, List.length_take]; rfl)) ?_; (with_reducible refine (tree_Drop.calls k _ _ t138 (⟨#[97]⟩ : ByteArray) t141 t142 _ ?side1 ?side2 A2.out).mono ?_); (case side1 => repeat (first | exact (Kd.N_reads' HO140.out).2.2 | (with_reducible refine Kd.C_alloc ?_ _) | (with_reducible refine Kd.C_drewN ?_ _) | (with_reducible refine Kd.C_drew ?_))); (case side2 => exact (Kd.N_reads' HO140.out).2.1); rintro e w16 ⟨v143, rfl, ho0, hb⟩; refine ⟨_, rfl, ?_⟩; have n0_ := Aside0.mk (Kd.N_elder' (by (with_reducible repeat (first | apply Kd.N_alloc | apply Kd.N_drewN | apply Kd.N_drew)); exact HO140.out) (by first | exact Kd.N_base ho0 | exact Kd.S_base ho0) hb); have n1_ := Aside0.mk (Kd.N_lower (Kd.N_mono (ok' := fun k_ => some k_ ≠ (.slice Ao15 t138.length co15 : Value).ownBlock) (Kd.S_N (Kd.S_bound ho0)) (fun k_ hk_ => (Kd.fresh' (Kd.N_lt (by (with_reducible repeat (first | apply Kd.N_alloc | apply Kd.N_drewN | apply Kd.N_drew)); exact HO140.out)) k_ hk_.2.1))) (below_size (by repeat (first | (with_reducible first | exact HB.out | apply below_alloc | apply pw_below_drewN | apply below_drew1) | exact HB.out)))); have n2_ := Aside0.mk (below_step (by repeat (first | (with_reducible first | exact HB.out | apply below_alloc | apply pw_below_drewN | apply below_drew1) | exact HB.out)) hb); clear HO140; clear HB; have HO140 := n0_; have HO144 := n1_; have HB := n2_; clear n0_ n1_ n2_; (try clear hb); (try clear hb2); (try clear hk); (try clear hi); (try clear ho0)) | ((with_reducible refine gate_callee (f := 35) rfl ?_); refine goesL_ (some 8) rfl rfl Try.func35 (by kernel_rfl) rfl #[] rfl (by (try simp only [List.map_toArray, List.map_cons, List.map_nil]); first | done | rfl | (simp only [List.length_drop, List.length_take]; rfl)) ?_; (with_reducible refine (satchellaw08_sample.calls  t145 _ A3.out).mono ?_); rintro e w17 ⟨v146, rfl, ho0, hb⟩; clear A3; refine ⟨_, rfl, ?_⟩; have n0_ := Aside0.mk (Kd.N_elder' (by (with_reducible repeat (first | apply Kd.N_alloc | apply Kd.N_drewN | apply Kd.N_drew)); exact HO140.out) (by first | exact Kd.N_base ho0 | exact Kd.S_base ho0) hb); have n1_ := Aside0.mk (Kd.N_elder' (by (with_reducible repeat (first | apply Kd.N_alloc | apply Kd.N_drewN | apply Kd.N_drew)); exact HO144.out) (by first | exact Kd.N_base ho0 | exact Kd.S_base ho0) hb); have n2_ := Aside0.mk (Kd.N_lower (Kd.N_mono (ok' := fun k_ => some k_ ≠ (.slice Ao15 t138.length co15 : Value).ownBlock ∧ some k_ ≠ (v143 : Value).ownBlock) ho0 (fun k_ hk_ => ⟨(Kd.fresh' (Kd.N_lt (by (with_reducible repeat (first | apply Kd.N_alloc | apply Kd.N_drewN | apply Kd.N_drew)); exact HO140.out)) k_ hk_), (Kd.fresh' (Kd.N_lt (by (with_reducible repeat (first | apply Kd.N_alloc | apply Kd.N_drewN | apply Kd.N_drew)); exact HO144.out)) k_ hk_)⟩)) (below_size (by repeat (first | (with_reducible first | exact HB.out | apply below_alloc | apply pw_below_drewN | apply below_drew1) | exact HB.out)))); have n3_ := Aside0.mk (below_step (by repeat (first | (with_reducible first | exact HB.out | apply below_alloc | apply pw_below_drewN | apply below_drew1) | exact HB.out)) hb); clear HO140; clear HO144; clear HB; have HO140 := n0_; have HO144 := n1_; have HO147 := n2_; have HB := n3_; clear n0_ n1_ n2_ n3_; (try clear hb); (try clear hb2); (try clear hk); (try clear hi); (try clear ho0); obtain ⟨Ao18, co18, eo18⟩ := Kd.N_slice HO147.out; subst eo18) | ((with_reducible refine gate_callee (f := 36) rfl ?_); refine goesL_ (some 9) rfl rfl Try.func36 (by kernel_rfl) rfl #[.slice Ao18 t145.length co18, .int .i64 0, .int .i64 0] rfl (by (try simp only [List.map_toArray, List.map_cons, List.map_nil]); first | done | rfl | (simp only [List.length_drop, List.length_take]; rfl)) ?_; (with_reducible refine (satchellaw08_fails.calls k _ _ t145 0 0 true _ ?side1 ?side2 A4.out).mono ?_); (case side1 => repeat (first | exact (Kd.N_reads' HO147.out).2.2 | (with_reducible refine Kd.C_alloc ?_ _) | (with_reducible refine Kd.C_drewN ?_ _) | (with_reducible refine Kd.C_drew ?_))); (case side2 => exact (Kd.N_reads' HO147.out).2.1); rintro e w19 ⟨rfl, hb⟩; refine ⟨_, rfl, ?_⟩; have n0_ := Aside0.mk (Kd.N_below (by (with_reducible repeat (first | apply Kd.N_alloc | apply Kd.N_drewN | apply Kd.N_drew)); exact HO140.out) hb); have n1_ := Aside0.mk (Kd.N_below (by (with_reducible repeat (first | apply Kd.N_alloc | apply Kd.N_drewN | apply Kd.N_drew)); exact HO144.out) hb); have n2_ := Aside0.mk (Kd.N_below (by (with_reducible repeat (first | apply Kd.N_alloc | apply Kd.N_drewN | apply Kd.N_drew)); exact HO147.out) hb); have n3_ := Aside0.mk (below_step (by repeat (first | (with_reducible first | exact HB.out | apply below_alloc | apply pw_below_drewN | apply below_drew1) | exact HB.out)) hb); clear HO140; clear HO144; clear HO147; clear HB; have HO140 := n0_; have HO144 := n1_; have HO147 := n2_; have HB := n3_; clear n0_ n1_ n2_ n3_; (try clear hb); (try clear hb2); (try clear hk); (try clear hi)) | (go_at_call 35; (with_reducible refine (satchellaw08_sample.calls  t149 _ A6.out).mono ?_); rintro e w20 ⟨v150, rfl, ho0, hb⟩; clear A6; have n0_ := Aside0.mk (Kd.N_elder' (by (with_reducible repeat (first | apply Kd.N_alloc | apply Kd.N_drewN | apply Kd.N_drew)); exact HO140.out) (by first | exact Kd.N_base ho0 | exact Kd.S_base ho0) hb); have n1_ := Aside0.mk (Kd.N_elder' (by (with_reducible repeat (first | apply Kd.N_alloc | apply Kd.N_drewN | apply Kd.N_drew)); exact HO144.out) (by first | exact Kd.N_base ho0 | exact Kd.S_base ho0) hb); have n2_ := Aside0.mk (Kd.N_elder' (by (with_reducible repeat (first | apply Kd.N_alloc | apply Kd.N_drewN | apply Kd.N_drew)); exact HO147.out) (by first | exact Kd.N_base ho0 | exact Kd.S_base ho0) hb); have n3_ := Aside0.mk (Kd.N_lower (Kd.N_mono (ok' := fun k_ => some k_ ≠ (.slice Ao15 t138.length co15 : Value).ownBlock ∧ some k_ ≠ (v143 : Value).ownBlock ∧ some k_ ≠ (.slice Ao18 t145.length co18 : Value).ownBlock) ho0 (fun k_ hk_ => ⟨(Kd.fresh' (Kd.N_lt (by (with_reducible repeat (first | apply Kd.N_alloc | apply Kd.N_drewN | apply Kd.N_drew)); exact HO140.out)) k_ hk_), (Kd.fresh' (Kd.N_lt (by (with_reducible repeat (first | apply Kd.N_alloc | apply Kd.N_drewN | apply Kd.N_drew)); exact HO144.out)) k_ hk_), (Kd.fresh' (Kd.N_lt (by (with_reducible repeat (first | apply Kd.N_alloc | apply Kd.N_drewN | apply Kd.N_drew)); exact HO147.out)) k_ hk_)⟩)) (below_size (by repeat (first | (with_reducible first | exact HB.out | apply below_alloc | apply pw_below_drewN | apply below_drew1) | exact HB.out)))); have n4_ := Aside0.mk (below_step (by repeat (first | (with_reducible first | exact HB.out | apply below_alloc | apply pw_below_drewN | apply below_drew1) | exact HB.out)) hb); clear HO140; clear HO144; clear HO147; clear HB; have HO140 := n0_; have HO144 := n1_; have HO147 := n2_; have HO151 := n3_; have HB := n4_; clear n0_ n1_ n2_ n3_ n4_; (try clear hb); (try clear hb2); (try clear hk); (try clear hi); (try clear ho0); obtain ⟨Ao22, co22, eo22⟩ := Kd.N_slice HO151.out; subst eo22; have q21 : (1 : Int) ≤ ((t149.length : Int) : Int) := of_decide_eq_true (by first | (with_reducible assumption) | assumption); obtain ⟨i021, hi021, _, hsz21, _⟩ := info_parts info31; have hroom21 : t149.length ≤ co22 := (Kd.N_reads' HO151.out).2.1; have hC21 : Kd.F k31 _ _ Ao22 t149.length t149 := (Kd.V_at (base := w.heap.size) (Kd.N_V HO151.out)).2.2; have hcut21 := cut_from (P := Try.prog) 22 31 .i64 Try.underlying22 hi021 5 hsz21 Ao22 t149.length co22 1 (by omega) q21; have hr21 := Kd.F_cut (m := (1 : Int).toNat) (c := co22) hC21 (by omega) hroom21; obtain ⟨A21, hA21⟩ : ∃ A1, A1 = (if co22 = (1 : Int).toNat then Ao22 else (Ao22 : Option Addr).map (·.add ((1 : Int).toNat * 5))) := ⟨_, rfl⟩; obtain ⟨c21, hc21⟩ : ∃ c1, c1 = co22 - (1 : Int).toNat := ⟨_, rfl⟩; have hy21 : y152.length = t149.length - (1 : Int).toNat := (by rw [Ny152.out, List.length_drop] <;> omega); rw [show (t149).drop (1 : Int).toNat = y152 from Ny152.out.symm] at hr21; replace hr21 : Kd.F k31 _ _ A21 y152.length y152 := (by rw [hA21]; exact hr21); rw [← hy21, ← hA21, ← hc21] at hcut21; have HO156 := Aside0.mk (show Kd.V k31 31 _ w.heap.size _ (.slice A21 y152.length c21) y152 from Kd.V_mk (by rw [hy21, hc21]; exact Nat.sub_le_sub_right hroom21 _) hr21); have HC156 := Aside0.mk (show y152.length ≤ c21 from by rw [hy21, hc21]; exact Nat.sub_le_sub_right hroom21 _); clear hr21 hC21 hroom21 hi021 hsz21 hc21; have KY21 := Aside0.mk hy21; have KA21 := Aside0.mk hA21; clear hy21 hA21; replace q21 := eq_true q21) | (go_at_call 36; (with_reducible refine (satchellaw08_fails.calls k _ _ y152 6 0 true _ ?side1 ?side2 A8.out).mono ?_); (case side1 => repeat (first | exact (Kd.V_reads' HO156.out).2.2 | (with_reducible refine Kd.C_alloc ?_ _) | (with_reducible refine Kd.C_drewN ?_ _) | (with_reducible refine Kd.C_drew ?_))); (case side2 => exact (Kd.V_reads' HO156.out).2.1); rintro e w23 ⟨rfl, hb⟩; have n0_ := Aside0.mk (Kd.N_below (by (with_reducible repeat (first | apply Kd.N_alloc | apply Kd.N_drewN | apply Kd.N_drew)); exact HO140.out) hb); have n1_ := Aside0.mk (Kd.N_below (by (with_reducible repeat (first | apply Kd.N_alloc | apply Kd.N_drewN | apply Kd.N_drew)); exact HO144.out) hb); have n2_ := Aside0.mk (Kd.N_below (by (with_reducible repeat (first | apply Kd.N_alloc | apply Kd.N_drewN | apply Kd.N_drew)); exact HO147.out) hb); have n3_ := Aside0.mk (Kd.N_below (by (with_reducible repeat (first | apply Kd.N_alloc | apply Kd.N_drewN | apply Kd.N_drew)); exact HO151.out) hb); have n4_ := Aside0.mk (Kd.V_below (by (with_reducible repeat (first | apply Kd.V_alloc | apply Kd.V_drewN | apply Kd.V_drew)); exact HO156.out) hb); have n5_ := Aside0.mk (below_step (by repeat (first | (with_reducible first | exact HB.out | apply below_alloc | apply pw_below_drewN | apply below_drew1) | exact HB.out)) hb); clear HO140; clear HO144; clear HO147; clear HO151; clear HO156; clear HB; have HO140 := n0_; have HO144 := n1_; have HO147 := n2_; have HO151 := n3_; have HO156 := n4_; have HB := n5_; clear n0_ n1_ n2_ n3_ n4_ n5_; (try clear hb); (try clear hb2); (try clear hk); (try clear hi)) | (go_at_call 35; (with_reducible refine (satchellaw08_sample.calls  t158 _ A11.out).mono ?_); rintro e w24 ⟨v159, rfl, ho0, hb⟩; clear A11; have n0_ := Aside0.mk (Kd.N_elder' (by (with_reducible repeat (first | apply Kd.N_alloc | apply Kd.N_drewN | apply Kd.N_drew)); exact HO140.out) (by first | exact Kd.N_base ho0 | exact Kd.S_base ho0) hb); have n1_ := Aside0.mk (Kd.N_elder' (by (with_reducible repeat (first | apply Kd.N_alloc | apply Kd.N_drewN | apply Kd.N_drew)); exact HO144.out) (by first | exact Kd.N_base ho0 | exact Kd.S_base ho0) hb); have n2_ := Aside0.mk (Kd.N_elder' (by (with_reducible repeat (first | apply Kd.N_alloc | apply Kd.N_drewN | apply Kd.N_drew)); exact HO147.out) (by first | exact Kd.N_base ho0 | exact Kd.S_base ho0) hb); have n3_ := Aside0.mk (Kd.N_elder' (by (with_reducible repeat (first | apply Kd.N_alloc | apply Kd.N_drewN | apply Kd.N_drew)); exact HO151.out) (by first | exact Kd.N_base ho0 | exact Kd.S_base ho0) hb); have n4_ := Aside0.mk (Kd.V_elder' (by (with_reducible repeat (first | apply Kd.V_alloc | apply Kd.V_drewN | apply Kd.V_drew)); exact HO156.out) (by first | exact Kd.N_base ho0 | exact Kd.S_base ho0) hb); have n5_ := Aside0.mk (Kd.N_lower (Kd.N_mono (ok' := fun k_ => some k_ ≠ (.slice Ao15 t138.length co15 : Value).ownBlock ∧ some k_ ≠ (v143 : Value).ownBlock ∧ some k_ ≠ (.slice Ao18 t145.length co18 : Value).ownBlock ∧ some k_ ≠ (.slice Ao22 t149.length co22 : Value).ownBlock) ho0 (fun k_ hk_ => ⟨(Kd.fresh' (Kd.N_lt (by (with_reducible repeat (first | apply Kd.N_alloc | apply Kd.N_drewN | apply Kd.N_drew)); exact HO140.out)) k_ hk_), (Kd.fresh' (Kd.N_lt (by (with_reducible repeat (first | apply Kd.N_alloc | apply Kd.N_drewN | apply Kd.N_drew)); exact HO144.out)) k_ hk_), (Kd.fresh' (Kd.N_lt (by (with_reducible repeat (first | apply Kd.N_alloc | apply Kd.N_drewN | apply Kd.N_drew)); exact HO147.out)) k_ hk_), (Kd.fresh' (Kd.N_lt (by (with_reducible repeat (first | apply Kd.N_alloc | apply Kd.N_drewN | apply Kd.N_drew)); exact HO151.out)) k_ hk_)⟩)) (below_size (by repeat (first | (with_reducible first | exact HB.out | apply below_alloc | apply pw_below_drewN | apply below_drew1) | exact HB.out)))); have n6_ := Aside0.mk (below_step (by repeat (first | (with_reducible first | exact HB.out | apply below_alloc | apply pw_below_drewN | apply below_drew1) | exact HB.out)) hb); clear HO140; clear HO144; clear HO147; clear HO151; clear HO156; clear HB; have HO140 := n0_; have HO144 := n1_; have HO147 := n2_; have HO151 := n3_; have HO156 := n4_; have HO160 := n5_; have HB := n6_; clear n0_ n1_ n2_ n3_ n4_ n5_ n6_; (try clear hb); (try clear hb2); (try clear hk); (try clear hi); (try clear ho0); obtain ⟨Ao26, co26, eo26⟩ := Kd.N_slice HO160.out; subst eo26; have q25 : (2 : Int) ≤ ((t158.length : Int) : Int) := of_decide_eq_true (by first | (with_reducible assumption) | assumption); obtain ⟨i025, hi025, _, hsz25, _⟩ := info_parts info31; have hroom25 : t158.length ≤ co26 := (Kd.N_reads' HO160.out).2.1; have hC25 : Kd.F k31 _ _ Ao26 t158.length t158 := (Kd.V_at (base := w.heap.size) (Kd.N_V HO160.out)).2.2; have hcut25 := cut_from (P := Try.prog) 22 31 .i64 Try.underlying22 hi025 5 hsz25 Ao26 t158.length co26 2 (by omega) q25; have hr25 := Kd.F_cut (m := (2 : Int).toNat) (c := co26) hC25 (by omega) hroom25; obtain ⟨A25, hA25⟩ : ∃ A1, A1 = (if co26 = (2 : Int).toNat then Ao26 else (Ao26 : Option Addr).map (·.add ((2 : Int).toNat * 5))) := ⟨_, rfl⟩; obtain ⟨c25, hc25⟩ : ∃ c1, c1 = co26 - (2 : Int).toNat := ⟨_, rfl⟩; have hy25 : y161.length = t158.length - (2 : Int).toNat := (by rw [Ny161.out, List.length_drop] <;> omega); rw [show (t158).drop (2 : Int).toNat = y161 from Ny161.out.symm] at hr25; replace hr25 : Kd.F k31 _ _ A25 y161.length y161 := (by rw [hA25]; exact hr25); rw [← hy25, ← hA25, ← hc25] at hcut25; have HO165 := Aside0.mk (show Kd.V k31 31 _ w.heap.size _ (.slice A25 y161.length c25) y161 from Kd.V_mk (by rw [hy25, hc25]; exact Nat.sub_le_sub_right hroom25 _) hr25); have HC165 := Aside0.mk (show y161.length ≤ c25 from by rw [hy25, hc25]; exact Nat.sub_le_sub_right hroom25 _); clear hr25 hC25 hroom25 hi025 hsz25 hc25; have KY25 := Aside0.mk hy25; have KA25 := Aside0.mk hA25; clear hy25 hA25; replace q25 := eq_true q25; obtain ⟨Ao27, co27, eo27⟩ := Kd.N_slice HO144.out; subst eo27) | (go_at_call 16; (with_reducible refine (satchelkit_SameTree.calls _ _ t141 _ _ y161 t166 _ ?side1 ?side2 ?side3 ?side4 A13.out).mono ?_); (case side1 => repeat (first | exact (Kd.N_reads' HO144.out).2.2 | (with_reducible refine Kd.C_alloc ?_ _) | (with_reducible refine Kd.C_drewN ?_ _) | (with_reducible refine Kd.C_drew ?_))); (case side2 => exact (Kd.N_reads' HO144.out).2.1); (case side3 => repeat (first | exact (Kd.V_reads' HO165.out).2.2 | (with_reducible refine Kd.C_alloc ?_ _) | (with_reducible refine Kd.C_drewN ?_ _) | (with_reducible refine Kd.C_drew ?_))); (case side4 => exact (Kd.V_reads' HO165.out).2.1); rintro e w' ⟨rfl, ⟨nd, rfl⟩⟩))
      go_ret
      exact ⟨by first | rfl | (simp [errW_none, errW_some] <;> rfl) | (simp [*, errW_none, errW_some] <;> rfl) | (simp [bt, *]; done) | (simp_all [bt]; done), by repeat (first | (with_reducible first | exact HB.out | apply below_alloc | apply pw_below_drewN | apply below_drew1) | exact HB.out)⟩
     ·rw [if_neg c12] at H
      exact absurd H (by simp)
    ·rw [if_neg c10] at H
     have c10b0 : (t142 == 0) = false := beq_eq_false_iff_ne.mpr c10
     have c10b1 : (t142 != 0) = true := bne_iff_ne.mpr c10
     obtain rfl := Option.some.inj H
     go_enter Try.func10, Try.ntmps10
     go_wp2_with (first | ((with_reducible refine gate_callee (f := 35) rfl ?_); refine goesL_ (some 4) rfl rfl Try.func35 (by kernel_rfl) rfl #[] rfl (by (try simp only [List.map_toArray, List.map_cons, List.map_nil]); first | done | rfl | (simp only [List.length_drop, List.length_take]; rfl)) ?_; (with_reducible refine (satchellaw08_sample.calls  t138 _ A1.out).mono ?_); rintro e w28 ⟨v139, rfl, ho0, hb⟩; clear A1; refine ⟨_, rfl, ?_⟩; have n0_ := Aside0.mk (Kd.N_lower (Kd.N_mono (ok' := fun k_ => True) ho0 (fun k_ hk_ => trivial)) (below_size (by repeat (first | (with_reducible first | exact HB.out | apply below_alloc | apply pw_below_drewN | apply below_drew1) | exact HB.out)))); have n1_ := Aside0.mk (below_step (by repeat (first | (with_reducible first | exact HB.out | apply below_alloc | apply pw_below_drewN | apply below_drew1) | exact HB.out)) hb); clear HB; have HO140 := n0_; have HB := n1_; clear n0_ n1_; (try clear hb); (try clear hb2); (try clear hk); (try clear hi); (try clear ho0); obtain ⟨Ao29, co29, eo29⟩ := Kd.N_slice HO140.out; subst eo29) | ((with_reducible refine gate_callee (f := 32) rfl ?_); refine goesL_ (some 5) rfl rfl Try.func32 (by kernel_rfl) rfl #[.slice Ao29 t138.length co29, .string (⟨#[97]⟩ : ByteArray)] rfl (by (try simp only [List.map_toArray, List.map_cons, List.map_nil]); first | done | rfl | (simp only [List.length_drop, List.length_take]; rfl)) ?_; (with_reducible refine (tree_Drop.calls k _ _ t138 (⟨#[97]⟩ : ByteArray) t141 t142 _ ?side1 ?side2 A2.out).mono ?_); (case side1 => repeat (first | exact (Kd.N_reads' HO140.out).2.2 | (with_reducible refine Kd.C_alloc ?_ _) | (with_reducible refine Kd.C_drewN ?_ _) | (with_reducible refine Kd.C_drew ?_))); (case side2 => exact (Kd.N_reads' HO140.out).2.1); rintro e w30 ⟨v143, rfl, ho0, hb⟩; refine ⟨_, rfl, ?_⟩; have n0_ := Aside0.mk (Kd.N_elder' (by (with_reducible repeat (first | apply Kd.N_alloc | apply Kd.N_drewN | apply Kd.N_drew)); exact HO140.out) (by first | exact Kd.N_base ho0 | exact Kd.S_base ho0) hb); have n1_ := Aside0.mk (Kd.N_lower (Kd.N_mono (ok' := fun k_ => some k_ ≠ (.slice Ao29 t138.length co29 : Value).ownBlock) (Kd.S_N (Kd.S_bound ho0)) (fun k_ hk_ => (Kd.fresh' (Kd.N_lt (by (with_reducible repeat (first | apply Kd.N_alloc | apply Kd.N_drewN | apply Kd.N_drew)); exact HO140.out)) k_ hk_.2.1))) (below_size (by repeat (first | (with_reducible first | exact HB.out | apply below_alloc | apply pw_below_drewN | apply below_drew1) | exact HB.out)))); have n2_ := Aside0.mk (below_step (by repeat (first | (with_reducible first | exact HB.out | apply below_alloc | apply pw_below_drewN | apply below_drew1) | exact HB.out)) hb); clear HO140; clear HB; have HO140 := n0_; have HO144 := n1_; have HB := n2_; clear n0_ n1_ n2_; (try clear hb); (try clear hb2); (try clear hk); (try clear hi); (try clear ho0)) | ((with_reducible refine gate_callee (f := 35) rfl ?_); refine goesL_ (some 8) rfl rfl Try.func35 (by kernel_rfl) rfl #[] rfl (by (try simp only [List.map_toArray, List.map_cons, List.map_nil]); first | done | rfl | (simp only [List.length_drop, List.length_take]; rfl)) ?_; (with_reducible refine (satchellaw08_sample.calls  t145 _ A3.out).mono ?_); rintro e w31 ⟨v146, rfl, ho0, hb⟩; clear A3; refine ⟨_, rfl, ?_⟩; have n0_ := Aside0.mk (Kd.N_elder' (by (with_reducible repeat (first | apply Kd.N_alloc | apply Kd.N_drewN | apply Kd.N_drew)); exact HO140.out) (by first | exact Kd.N_base ho0 | exact Kd.S_base ho0) hb); have n1_ := Aside0.mk (Kd.N_elder' (by (with_reducible repeat (first | apply Kd.N_alloc | apply Kd.N_drewN | apply Kd.N_drew)); exact HO144.out) (by first | exact Kd.N_base ho0 | exact Kd.S_base ho0) hb); have n2_ := Aside0.mk (Kd.N_lower (Kd.N_mono (ok' := fun k_ => some k_ ≠ (.slice Ao29 t138.length co29 : Value).ownBlock ∧ some k_ ≠ (v143 : Value).ownBlock) ho0 (fun k_ hk_ => ⟨(Kd.fresh' (Kd.N_lt (by (with_reducible repeat (first | apply Kd.N_alloc | apply Kd.N_drewN | apply Kd.N_drew)); exact HO140.out)) k_ hk_), (Kd.fresh' (Kd.N_lt (by (with_reducible repeat (first | apply Kd.N_alloc | apply Kd.N_drewN | apply Kd.N_drew)); exact HO144.out)) k_ hk_)⟩)) (below_size (by repeat (first | (with_reducible first | exact HB.out | apply below_alloc | apply pw_below_drewN | apply below_drew1) | exact HB.out)))); have n3_ := Aside0.mk (below_step (by repeat (first | (with_reducible first | exact HB.out | apply below_alloc | apply pw_below_drewN | apply below_drew1) | exact HB.out)) hb); clear HO140; clear HO144; clear HB; have HO140 := n0_; have HO144 := n1_; have HO147 := n2_; have HB := n3_; clear n0_ n1_ n2_ n3_; (try clear hb); (try clear hb2); (try clear hk); (try clear hi); (try clear ho0); obtain ⟨Ao32, co32, eo32⟩ := Kd.N_slice HO147.out; subst eo32) | ((with_reducible refine gate_callee (f := 36) rfl ?_); refine goesL_ (some 9) rfl rfl Try.func36 (by kernel_rfl) rfl #[.slice Ao32 t145.length co32, .int .i64 0, .int .i64 0] rfl (by (try simp only [List.map_toArray, List.map_cons, List.map_nil]); first | done | rfl | (simp only [List.length_drop, List.length_take]; rfl)) ?_; (with_reducible refine (satchellaw08_fails.calls k _ _ t145 0 0 true _ ?side1 ?side2 A4.out).mono ?_); (case side1 => repeat (first | exact (Kd.N_reads' HO147.out).2.2 | (with_reducible refine Kd.C_alloc ?_ _) | (with_reducible refine Kd.C_drewN ?_ _) | (with_reducible refine Kd.C_drew ?_))); (case side2 => exact (Kd.N_reads' HO147.out).2.1); rintro e w33 ⟨rfl, hb⟩; refine ⟨_, rfl, ?_⟩; have n0_ := Aside0.mk (Kd.N_below (by (with_reducible repeat (first | apply Kd.N_alloc | apply Kd.N_drewN | apply Kd.N_drew)); exact HO140.out) hb); have n1_ := Aside0.mk (Kd.N_below (by (with_reducible repeat (first | apply Kd.N_alloc | apply Kd.N_drewN | apply Kd.N_drew)); exact HO144.out) hb); have n2_ := Aside0.mk (Kd.N_below (by (with_reducible repeat (first | apply Kd.N_alloc | apply Kd.N_drewN | apply Kd.N_drew)); exact HO147.out) hb); have n3_ := Aside0.mk (below_step (by repeat (first | (with_reducible first | exact HB.out | apply below_alloc | apply pw_below_drewN | apply below_drew1) | exact HB.out)) hb); clear HO140; clear HO144; clear HO147; clear HB; have HO140 := n0_; have HO144 := n1_; have HO147 := n2_; have HB := n3_; clear n0_ n1_ n2_ n3_; (try clear hb); (try clear hb2); (try clear hk); (try clear hi)) | (go_at_call 35; (with_reducible refine (satchellaw08_sample.calls  t149 _ A6.out).mono ?_); rintro e w34 ⟨v150, rfl, ho0, hb⟩; clear A6; have n0_ := Aside0.mk (Kd.N_elder' (by (with_reducible repeat (first | apply Kd.N_alloc | apply Kd.N_drewN | apply Kd.N_drew)); exact HO140.out) (by first | exact Kd.N_base ho0 | exact Kd.S_base ho0) hb); have n1_ := Aside0.mk (Kd.N_elder' (by (with_reducible repeat (first | apply Kd.N_alloc | apply Kd.N_drewN | apply Kd.N_drew)); exact HO144.out) (by first | exact Kd.N_base ho0 | exact Kd.S_base ho0) hb); have n2_ := Aside0.mk (Kd.N_elder' (by (with_reducible repeat (first | apply Kd.N_alloc | apply Kd.N_drewN | apply Kd.N_drew)); exact HO147.out) (by first | exact Kd.N_base ho0 | exact Kd.S_base ho0) hb); have n3_ := Aside0.mk (Kd.N_lower (Kd.N_mono (ok' := fun k_ => some k_ ≠ (.slice Ao29 t138.length co29 : Value).ownBlock ∧ some k_ ≠ (v143 : Value).ownBlock ∧ some k_ ≠ (.slice Ao32 t145.length co32 : Value).ownBlock) ho0 (fun k_ hk_ => ⟨(Kd.fresh' (Kd.N_lt (by (with_reducible repeat (first | apply Kd.N_alloc | apply Kd.N_drewN | apply Kd.N_drew)); exact HO140.out)) k_ hk_), (Kd.fresh' (Kd.N_lt (by (with_reducible repeat (first | apply Kd.N_alloc | apply Kd.N_drewN | apply Kd.N_drew)); exact HO144.out)) k_ hk_), (Kd.fresh' (Kd.N_lt (by (with_reducible repeat (first | apply Kd.N_alloc | apply Kd.N_drewN | apply Kd.N_drew)); exact HO147.out)) k_ hk_)⟩)) (below_size (by repeat (first | (with_reducible first | exact HB.out | apply below_alloc | apply pw_below_drewN | apply below_drew1) | exact HB.out)))); have n4_ := Aside0.mk (below_step (by repeat (first | (with_reducible first | exact HB.out | apply below_alloc | apply pw_below_drewN | apply below_drew1) | exact HB.out)) hb); clear HO140; clear HO144; clear HO147; clear HB; have HO140 := n0_; have HO144 := n1_; have HO147 := n2_; have HO151 := n3_; have HB := n4_; clear n0_ n1_ n2_ n3_ n4_; (try clear hb); (try clear hb2); (try clear hk); (try clear hi); (try clear ho0); obtain ⟨Ao36, co36, eo36⟩ := Kd.N_slice HO151.out; subst eo36; have q35 : (1 : Int) ≤ ((t149.length : Int) : Int) := of_decide_eq_true (by first | (with_reducible assumption) | assumption); obtain ⟨i035, hi035, _, hsz35, _⟩ := info_parts info31; have hroom35 : t149.length ≤ co36 := (Kd.N_reads' HO151.out).2.1; have hC35 : Kd.F k31 _ _ Ao36 t149.length t149 := (Kd.V_at (base := w.heap.size) (Kd.N_V HO151.out)).2.2; have hcut35 := cut_from (P := Try.prog) 22 31 .i64 Try.underlying22 hi035 5 hsz35 Ao36 t149.length co36 1 (by omega) q35; have hr35 := Kd.F_cut (m := (1 : Int).toNat) (c := co36) hC35 (by omega) hroom35; obtain ⟨A35, hA35⟩ : ∃ A1, A1 = (if co36 = (1 : Int).toNat then Ao36 else (Ao36 : Option Addr).map (·.add ((1 : Int).toNat * 5))) := ⟨_, rfl⟩; obtain ⟨c35, hc35⟩ : ∃ c1, c1 = co36 - (1 : Int).toNat := ⟨_, rfl⟩; have hy35 : y152.length = t149.length - (1 : Int).toNat := (by rw [Ny152.out, List.length_drop] <;> omega); rw [show (t149).drop (1 : Int).toNat = y152 from Ny152.out.symm] at hr35; replace hr35 : Kd.F k31 _ _ A35 y152.length y152 := (by rw [hA35]; exact hr35); rw [← hy35, ← hA35, ← hc35] at hcut35; have HO156 := Aside0.mk (show Kd.V k31 31 _ w.heap.size _ (.slice A35 y152.length c35) y152 from Kd.V_mk (by rw [hy35, hc35]; exact Nat.sub_le_sub_right hroom35 _) hr35); have HC156 := Aside0.mk (show y152.length ≤ c35 from by rw [hy35, hc35]; exact Nat.sub_le_sub_right hroom35 _); clear hr35 hC35 hroom35 hi035 hsz35 hc35; have KY35 := Aside0.mk hy35; have KA35 := Aside0.mk hA35; clear hy35 hA35; replace q35 := eq_true q35) | (go_at_call 36; (with_reducible refine (satchellaw08_fails.calls k _ _ y152 6 0 true _ ?side1 ?side2 A8.out).mono ?_); (case side1 => repeat (first | exact (Kd.V_reads' HO156.out).2.2 | (with_reducible refine Kd.C_alloc ?_ _) | (with_reducible refine Kd.C_drewN ?_ _) | (with_reducible refine Kd.C_drew ?_))); (case side2 => exact (Kd.V_reads' HO156.out).2.1); rintro e w37 ⟨rfl, hb⟩; have n0_ := Aside0.mk (Kd.N_below (by (with_reducible repeat (first | apply Kd.N_alloc | apply Kd.N_drewN | apply Kd.N_drew)); exact HO140.out) hb); have n1_ := Aside0.mk (Kd.N_below (by (with_reducible repeat (first | apply Kd.N_alloc | apply Kd.N_drewN | apply Kd.N_drew)); exact HO144.out) hb); have n2_ := Aside0.mk (Kd.N_below (by (with_reducible repeat (first | apply Kd.N_alloc | apply Kd.N_drewN | apply Kd.N_drew)); exact HO147.out) hb); have n3_ := Aside0.mk (Kd.N_below (by (with_reducible repeat (first | apply Kd.N_alloc | apply Kd.N_drewN | apply Kd.N_drew)); exact HO151.out) hb); have n4_ := Aside0.mk (Kd.V_below (by (with_reducible repeat (first | apply Kd.V_alloc | apply Kd.V_drewN | apply Kd.V_drew)); exact HO156.out) hb); have n5_ := Aside0.mk (below_step (by repeat (first | (with_reducible first | exact HB.out | apply below_alloc | apply pw_below_drewN | apply below_drew1) | exact HB.out)) hb); clear HO140; clear HO144; clear HO147; clear HO151; clear HO156; clear HB; have HO140 := n0_; have HO144 := n1_; have HO147 := n2_; have HO151 := n3_; have HO156 := n4_; have HB := n5_; clear n0_ n1_ n2_ n3_ n4_ n5_; (try clear hb); (try clear hb2); (try clear hk); (try clear hi)))
     go_ret
     exact ⟨by first | rfl | (simp [errW_none, errW_some] <;> rfl) | (simp [*, errW_none, errW_some] <;> rfl) | (simp [bt, *]; done) | (simp_all [bt]; done), by repeat (first | (with_reducible first | exact HB.out | apply below_alloc | apply pw_below_drewN | apply below_drew1) | exact HB.out)⟩
   ·replace c9 := Bool.eq_false_iff.mpr c9
    subst c9
    have H1 : (some false) = some r := by rw [if_neg (show ¬ (false = true) by decide)] at H; exact H
    clear H
    have H := H1
    clear H1
    obtain rfl := Option.some.inj H
    go_enter Try.func10, Try.ntmps10
    go_wp2_with (first | ((with_reducible refine gate_callee (f := 35) rfl ?_); refine goesL_ (some 4) rfl rfl Try.func35 (by kernel_rfl) rfl #[] rfl (by (try simp only [List.map_toArray, List.map_cons, List.map_nil]); first | done | rfl | (simp only [List.length_drop, List.length_take]; rfl)) ?_; (with_reducible refine (satchellaw08_sample.calls  t138 _ A1.out).mono ?_); rintro e w38 ⟨v139, rfl, ho0, hb⟩; clear A1; refine ⟨_, rfl, ?_⟩; have n0_ := Aside0.mk (Kd.N_lower (Kd.N_mono (ok' := fun k_ => True) ho0 (fun k_ hk_ => trivial)) (below_size (by repeat (first | (with_reducible first | exact HB.out | apply below_alloc | apply pw_below_drewN | apply below_drew1) | exact HB.out)))); have n1_ := Aside0.mk (below_step (by repeat (first | (with_reducible first | exact HB.out | apply below_alloc | apply pw_below_drewN | apply below_drew1) | exact HB.out)) hb); clear HB; have HO140 := n0_; have HB := n1_; clear n0_ n1_; (try clear hb); (try clear hb2); (try clear hk); (try clear hi); (try clear ho0); obtain ⟨Ao39, co39, eo39⟩ := Kd.N_slice HO140.out; subst eo39) | ((with_reducible refine gate_callee (f := 32) rfl ?_); refine goesL_ (some 5) rfl rfl Try.func32 (by kernel_rfl) rfl #[.slice Ao39 t138.length co39, .string (⟨#[97]⟩ : ByteArray)] rfl (by (try simp only [List.map_toArray, List.map_cons, List.map_nil]); first | done | rfl | (simp only [List.length_drop, List.length_take]; rfl)) ?_; (with_reducible refine (tree_Drop.calls k _ _ t138 (⟨#[97]⟩ : ByteArray) t141 t142 _ ?side1 ?side2 A2.out).mono ?_); (case side1 => repeat (first | exact (Kd.N_reads' HO140.out).2.2 | (with_reducible refine Kd.C_alloc ?_ _) | (with_reducible refine Kd.C_drewN ?_ _) | (with_reducible refine Kd.C_drew ?_))); (case side2 => exact (Kd.N_reads' HO140.out).2.1); rintro e w40 ⟨v143, rfl, ho0, hb⟩; refine ⟨_, rfl, ?_⟩; have n0_ := Aside0.mk (Kd.N_elder' (by (with_reducible repeat (first | apply Kd.N_alloc | apply Kd.N_drewN | apply Kd.N_drew)); exact HO140.out) (by first | exact Kd.N_base ho0 | exact Kd.S_base ho0) hb); have n1_ := Aside0.mk (Kd.N_lower (Kd.N_mono (ok' := fun k_ => some k_ ≠ (.slice Ao39 t138.length co39 : Value).ownBlock) (Kd.S_N (Kd.S_bound ho0)) (fun k_ hk_ => (Kd.fresh' (Kd.N_lt (by (with_reducible repeat (first | apply Kd.N_alloc | apply Kd.N_drewN | apply Kd.N_drew)); exact HO140.out)) k_ hk_.2.1))) (below_size (by repeat (first | (with_reducible first | exact HB.out | apply below_alloc | apply pw_below_drewN | apply below_drew1) | exact HB.out)))); have n2_ := Aside0.mk (below_step (by repeat (first | (with_reducible first | exact HB.out | apply below_alloc | apply pw_below_drewN | apply below_drew1) | exact HB.out)) hb); clear HO140; clear HB; have HO140 := n0_; have HO144 := n1_; have HB := n2_; clear n0_ n1_ n2_; (try clear hb); (try clear hb2); (try clear hk); (try clear hi); (try clear ho0)) | ((with_reducible refine gate_callee (f := 35) rfl ?_); refine goesL_ (some 8) rfl rfl Try.func35 (by kernel_rfl) rfl #[] rfl (by (try simp only [List.map_toArray, List.map_cons, List.map_nil]); first | done | rfl | (simp only [List.length_drop, List.length_take]; rfl)) ?_; (with_reducible refine (satchellaw08_sample.calls  t145 _ A3.out).mono ?_); rintro e w41 ⟨v146, rfl, ho0, hb⟩; clear A3; refine ⟨_, rfl, ?_⟩; have n0_ := Aside0.mk (Kd.N_elder' (by (with_reducible repeat (first | apply Kd.N_alloc | apply Kd.N_drewN | apply Kd.N_drew)); exact HO140.out) (by first | exact Kd.N_base ho0 | exact Kd.S_base ho0) hb); have n1_ := Aside0.mk (Kd.N_elder' (by (with_reducible repeat (first | apply Kd.N_alloc | apply Kd.N_drewN | apply Kd.N_drew)); exact HO144.out) (by first | exact Kd.N_base ho0 | exact Kd.S_base ho0) hb); have n2_ := Aside0.mk (Kd.N_lower (Kd.N_mono (ok' := fun k_ => some k_ ≠ (.slice Ao39 t138.length co39 : Value).ownBlock ∧ some k_ ≠ (v143 : Value).ownBlock) ho0 (fun k_ hk_ => ⟨(Kd.fresh' (Kd.N_lt (by (with_reducible repeat (first | apply Kd.N_alloc | apply Kd.N_drewN | apply Kd.N_drew)); exact HO140.out)) k_ hk_), (Kd.fresh' (Kd.N_lt (by (with_reducible repeat (first | apply Kd.N_alloc | apply Kd.N_drewN | apply Kd.N_drew)); exact HO144.out)) k_ hk_)⟩)) (below_size (by repeat (first | (with_reducible first | exact HB.out | apply below_alloc | apply pw_below_drewN | apply below_drew1) | exact HB.out)))); have n3_ := Aside0.mk (below_step (by repeat (first | (with_reducible first | exact HB.out | apply below_alloc | apply pw_below_drewN | apply below_drew1) | exact HB.out)) hb); clear HO140; clear HO144; clear HB; have HO140 := n0_; have HO144 := n1_; have HO147 := n2_; have HB := n3_; clear n0_ n1_ n2_ n3_; (try clear hb); (try clear hb2); (try clear hk); (try clear hi); (try clear ho0); obtain ⟨Ao42, co42, eo42⟩ := Kd.N_slice HO147.out; subst eo42) | ((with_reducible refine gate_callee (f := 36) rfl ?_); refine goesL_ (some 9) rfl rfl Try.func36 (by kernel_rfl) rfl #[.slice Ao42 t145.length co42, .int .i64 0, .int .i64 0] rfl (by (try simp only [List.map_toArray, List.map_cons, List.map_nil]); first | done | rfl | (simp only [List.length_drop, List.length_take]; rfl)) ?_; (with_reducible refine (satchellaw08_fails.calls k _ _ t145 0 0 true _ ?side1 ?side2 A4.out).mono ?_); (case side1 => repeat (first | exact (Kd.N_reads' HO147.out).2.2 | (with_reducible refine Kd.C_alloc ?_ _) | (with_reducible refine Kd.C_drewN ?_ _) | (with_reducible refine Kd.C_drew ?_))); (case side2 => exact (Kd.N_reads' HO147.out).2.1); rintro e w43 ⟨rfl, hb⟩; refine ⟨_, rfl, ?_⟩; have n0_ := Aside0.mk (Kd.N_below (by (with_reducible repeat (first | apply Kd.N_alloc | apply Kd.N_drewN | apply Kd.N_drew)); exact HO140.out) hb); have n1_ := Aside0.mk (Kd.N_below (by (with_reducible repeat (first | apply Kd.N_alloc | apply Kd.N_drewN | apply Kd.N_drew)); exact HO144.out) hb); have n2_ := Aside0.mk (Kd.N_below (by (with_reducible repeat (first | apply Kd.N_alloc | apply Kd.N_drewN | apply Kd.N_drew)); exact HO147.out) hb); have n3_ := Aside0.mk (below_step (by repeat (first | (with_reducible first | exact HB.out | apply below_alloc | apply pw_below_drewN | apply below_drew1) | exact HB.out)) hb); clear HO140; clear HO144; clear HO147; clear HB; have HO140 := n0_; have HO144 := n1_; have HO147 := n2_; have HB := n3_; clear n0_ n1_ n2_ n3_; (try clear hb); (try clear hb2); (try clear hk); (try clear hi)) | (go_at_call 35; (with_reducible refine (satchellaw08_sample.calls  t149 _ A6.out).mono ?_); rintro e w44 ⟨v150, rfl, ho0, hb⟩; clear A6; have n0_ := Aside0.mk (Kd.N_elder' (by (with_reducible repeat (first | apply Kd.N_alloc | apply Kd.N_drewN | apply Kd.N_drew)); exact HO140.out) (by first | exact Kd.N_base ho0 | exact Kd.S_base ho0) hb); have n1_ := Aside0.mk (Kd.N_elder' (by (with_reducible repeat (first | apply Kd.N_alloc | apply Kd.N_drewN | apply Kd.N_drew)); exact HO144.out) (by first | exact Kd.N_base ho0 | exact Kd.S_base ho0) hb); have n2_ := Aside0.mk (Kd.N_elder' (by (with_reducible repeat (first | apply Kd.N_alloc | apply Kd.N_drewN | apply Kd.N_drew)); exact HO147.out) (by first | exact Kd.N_base ho0 | exact Kd.S_base ho0) hb); have n3_ := Aside0.mk (Kd.N_lower (Kd.N_mono (ok' := fun k_ => some k_ ≠ (.slice Ao39 t138.length co39 : Value).ownBlock ∧ some k_ ≠ (v143 : Value).ownBlock ∧ some k_ ≠ (.slice Ao42 t145.length co42 : Value).ownBlock) ho0 (fun k_ hk_ => ⟨(Kd.fresh' (Kd.N_lt (by (with_reducible repeat (first | apply Kd.N_alloc | apply Kd.N_drewN | apply Kd.N_drew)); exact HO140.out)) k_ hk_), (Kd.fresh' (Kd.N_lt (by (with_reducible repeat (first | apply Kd.N_alloc | apply Kd.N_drewN | apply Kd.N_drew)); exact HO144.out)) k_ hk_), (Kd.fresh' (Kd.N_lt (by (with_reducible repeat (first | apply Kd.N_alloc | apply Kd.N_drewN | apply Kd.N_drew)); exact HO147.out)) k_ hk_)⟩)) (below_size (by repeat (first | (with_reducible first | exact HB.out | apply below_alloc | apply pw_below_drewN | apply below_drew1) | exact HB.out)))); have n4_ := Aside0.mk (below_step (by repeat (first | (with_reducible first | exact HB.out | apply below_alloc | apply pw_below_drewN | apply below_drew1) | exact HB.out)) hb); clear HO140; clear HO144; clear HO147; clear HB; have HO140 := n0_; have HO144 := n1_; have HO147 := n2_; have HO151 := n3_; have HB := n4_; clear n0_ n1_ n2_ n3_ n4_; (try clear hb); (try clear hb2); (try clear hk); (try clear hi); (try clear ho0); obtain ⟨Ao46, co46, eo46⟩ := Kd.N_slice HO151.out; subst eo46; have q45 : (1 : Int) ≤ ((t149.length : Int) : Int) := of_decide_eq_true (by first | (with_reducible assumption) | assumption); obtain ⟨i045, hi045, _, hsz45, _⟩ := info_parts info31; have hroom45 : t149.length ≤ co46 := (Kd.N_reads' HO151.out).2.1; have hC45 : Kd.F k31 _ _ Ao46 t149.length t149 := (Kd.V_at (base := w.heap.size) (Kd.N_V HO151.out)).2.2; have hcut45 := cut_from (P := Try.prog) 22 31 .i64 Try.underlying22 hi045 5 hsz45 Ao46 t149.length co46 1 (by omega) q45; have hr45 := Kd.F_cut (m := (1 : Int).toNat) (c := co46) hC45 (by omega) hroom45; obtain ⟨A45, hA45⟩ : ∃ A1, A1 = (if co46 = (1 : Int).toNat then Ao46 else (Ao46 : Option Addr).map (·.add ((1 : Int).toNat * 5))) := ⟨_, rfl⟩; obtain ⟨c45, hc45⟩ : ∃ c1, c1 = co46 - (1 : Int).toNat := ⟨_, rfl⟩; have hy45 : y152.length = t149.length - (1 : Int).toNat := (by rw [Ny152.out, List.length_drop] <;> omega); rw [show (t149).drop (1 : Int).toNat = y152 from Ny152.out.symm] at hr45; replace hr45 : Kd.F k31 _ _ A45 y152.length y152 := (by rw [hA45]; exact hr45); rw [← hy45, ← hA45, ← hc45] at hcut45; have HO156 := Aside0.mk (show Kd.V k31 31 _ w.heap.size _ (.slice A45 y152.length c45) y152 from Kd.V_mk (by rw [hy45, hc45]; exact Nat.sub_le_sub_right hroom45 _) hr45); have HC156 := Aside0.mk (show y152.length ≤ c45 from by rw [hy45, hc45]; exact Nat.sub_le_sub_right hroom45 _); clear hr45 hC45 hroom45 hi045 hsz45 hc45; have KY45 := Aside0.mk hy45; have KA45 := Aside0.mk hA45; clear hy45 hA45; replace q45 := eq_true q45) | (go_at_call 36; (with_reducible refine (satchellaw08_fails.calls k _ _ y152 6 0 false _ ?side1 ?side2 A8.out).mono ?_); (case side1 => repeat (first | exact (Kd.V_reads' HO156.out).2.2 | (with_reducible refine Kd.C_alloc ?_ _) | (with_reducible refine Kd.C_drewN ?_ _) | (with_reducible refine Kd.C_drew ?_))); (case side2 => exact (Kd.V_reads' HO156.out).2.1); rintro e w47 ⟨rfl, hb⟩; have n0_ := Aside0.mk (Kd.N_below (by (with_reducible repeat (first | apply Kd.N_alloc | apply Kd.N_drewN | apply Kd.N_drew)); exact HO140.out) hb); have n1_ := Aside0.mk (Kd.N_below (by (with_reducible repeat (first | apply Kd.N_alloc | apply Kd.N_drewN | apply Kd.N_drew)); exact HO144.out) hb); have n2_ := Aside0.mk (Kd.N_below (by (with_reducible repeat (first | apply Kd.N_alloc | apply Kd.N_drewN | apply Kd.N_drew)); exact HO147.out) hb); have n3_ := Aside0.mk (Kd.N_below (by (with_reducible repeat (first | apply Kd.N_alloc | apply Kd.N_drewN | apply Kd.N_drew)); exact HO151.out) hb); have n4_ := Aside0.mk (Kd.V_below (by (with_reducible repeat (first | apply Kd.V_alloc | apply Kd.V_drewN | apply Kd.V_drew)); exact HO156.out) hb); have n5_ := Aside0.mk (below_step (by repeat (first | (with_reducible first | exact HB.out | apply below_alloc | apply pw_below_drewN | apply below_drew1) | exact HB.out)) hb); clear HO140; clear HO144; clear HO147; clear HO151; clear HO156; clear HB; have HO140 := n0_; have HO144 := n1_; have HO147 := n2_; have HO151 := n3_; have HO156 := n4_; have HB := n5_; clear n0_ n1_ n2_ n3_ n4_ n5_; (try clear hb); (try clear hb2); (try clear hk); (try clear hi)))
    go_ret
    exact ⟨by first | rfl | (simp [errW_none, errW_some] <;> rfl) | (simp [*, errW_none, errW_some] <;> rfl) | (simp [bt, *]; done) | (simp_all [bt]; done), by repeat (first | (with_reducible first | exact HB.out | apply below_alloc | apply pw_below_drewN | apply below_drew1) | exact HB.out)⟩
  ·rw [if_neg c7] at H
   exact absurd H (by simp)
 ·replace c5 := Bool.eq_false_iff.mpr c5
  subst c5
  have H1 : (some false) = some r := by rw [if_neg (show ¬ (false = true) by decide)] at H; exact H
  clear H
  have H := H1
  clear H1
  obtain rfl := Option.some.inj H
  go_enter Try.func10, Try.ntmps10
  go_wp2_with (first | ((with_reducible refine gate_callee (f := 35) rfl ?_); refine goesL_ (some 4) rfl rfl Try.func35 (by kernel_rfl) rfl #[] rfl (by (try simp only [List.map_toArray, List.map_cons, List.map_nil]); first | done | rfl | (simp only [List.length_drop, List.length_take]; rfl)) ?_; (with_reducible refine (satchellaw08_sample.calls  t138 _ A1.out).mono ?_); rintro e w48 ⟨v139, rfl, ho0, hb⟩; clear A1; refine ⟨_, rfl, ?_⟩; have n0_ := Aside0.mk (Kd.N_lower (Kd.N_mono (ok' := fun k_ => True) ho0 (fun k_ hk_ => trivial)) (below_size (by repeat (first | (with_reducible first | exact HB.out | apply below_alloc | apply pw_below_drewN | apply below_drew1) | exact HB.out)))); have n1_ := Aside0.mk (below_step (by repeat (first | (with_reducible first | exact HB.out | apply below_alloc | apply pw_below_drewN | apply below_drew1) | exact HB.out)) hb); clear HB; have HO140 := n0_; have HB := n1_; clear n0_ n1_; (try clear hb); (try clear hb2); (try clear hk); (try clear hi); (try clear ho0); obtain ⟨Ao49, co49, eo49⟩ := Kd.N_slice HO140.out; subst eo49) | ((with_reducible refine gate_callee (f := 32) rfl ?_); refine goesL_ (some 5) rfl rfl Try.func32 (by kernel_rfl) rfl #[.slice Ao49 t138.length co49, .string (⟨#[97]⟩ : ByteArray)] rfl (by (try simp only [List.map_toArray, List.map_cons, List.map_nil]); first | done | rfl | (simp only [List.length_drop, List.length_take]; rfl)) ?_; (with_reducible refine (tree_Drop.calls k _ _ t138 (⟨#[97]⟩ : ByteArray) t141 t142 _ ?side1 ?side2 A2.out).mono ?_); (case side1 => repeat (first | exact (Kd.N_reads' HO140.out).2.2 | (with_reducible refine Kd.C_alloc ?_ _) | (with_reducible refine Kd.C_drewN ?_ _) | (with_reducible refine Kd.C_drew ?_))); (case side2 => exact (Kd.N_reads' HO140.out).2.1); rintro e w50 ⟨v143, rfl, ho0, hb⟩; refine ⟨_, rfl, ?_⟩; have n0_ := Aside0.mk (Kd.N_elder' (by (with_reducible repeat (first | apply Kd.N_alloc | apply Kd.N_drewN | apply Kd.N_drew)); exact HO140.out) (by first | exact Kd.N_base ho0 | exact Kd.S_base ho0) hb); have n1_ := Aside0.mk (Kd.N_lower (Kd.N_mono (ok' := fun k_ => some k_ ≠ (.slice Ao49 t138.length co49 : Value).ownBlock) (Kd.S_N (Kd.S_bound ho0)) (fun k_ hk_ => (Kd.fresh' (Kd.N_lt (by (with_reducible repeat (first | apply Kd.N_alloc | apply Kd.N_drewN | apply Kd.N_drew)); exact HO140.out)) k_ hk_.2.1))) (below_size (by repeat (first | (with_reducible first | exact HB.out | apply below_alloc | apply pw_below_drewN | apply below_drew1) | exact HB.out)))); have n2_ := Aside0.mk (below_step (by repeat (first | (with_reducible first | exact HB.out | apply below_alloc | apply pw_below_drewN | apply below_drew1) | exact HB.out)) hb); clear HO140; clear HB; have HO140 := n0_; have HO144 := n1_; have HB := n2_; clear n0_ n1_ n2_; (try clear hb); (try clear hb2); (try clear hk); (try clear hi); (try clear ho0)) | ((with_reducible refine gate_callee (f := 35) rfl ?_); refine goesL_ (some 8) rfl rfl Try.func35 (by kernel_rfl) rfl #[] rfl (by (try simp only [List.map_toArray, List.map_cons, List.map_nil]); first | done | rfl | (simp only [List.length_drop, List.length_take]; rfl)) ?_; (with_reducible refine (satchellaw08_sample.calls  t145 _ A3.out).mono ?_); rintro e w51 ⟨v146, rfl, ho0, hb⟩; clear A3; refine ⟨_, rfl, ?_⟩; have n0_ := Aside0.mk (Kd.N_elder' (by (with_reducible repeat (first | apply Kd.N_alloc | apply Kd.N_drewN | apply Kd.N_drew)); exact HO140.out) (by first | exact Kd.N_base ho0 | exact Kd.S_base ho0) hb); have n1_ := Aside0.mk (Kd.N_elder' (by (with_reducible repeat (first | apply Kd.N_alloc | apply Kd.N_drewN | apply Kd.N_drew)); exact HO144.out) (by first | exact Kd.N_base ho0 | exact Kd.S_base ho0) hb); have n2_ := Aside0.mk (Kd.N_lower (Kd.N_mono (ok' := fun k_ => some k_ ≠ (.slice Ao49 t138.length co49 : Value).ownBlock ∧ some k_ ≠ (v143 : Value).ownBlock) ho0 (fun k_ hk_ => ⟨(Kd.fresh' (Kd.N_lt (by (with_reducible repeat (first | apply Kd.N_alloc | apply Kd.N_drewN | apply Kd.N_drew)); exact HO140.out)) k_ hk_), (Kd.fresh' (Kd.N_lt (by (with_reducible repeat (first | apply Kd.N_alloc | apply Kd.N_drewN | apply Kd.N_drew)); exact HO144.out)) k_ hk_)⟩)) (below_size (by repeat (first | (with_reducible first | exact HB.out | apply below_alloc | apply pw_below_drewN | apply below_drew1) | exact HB.out)))); have n3_ := Aside0.mk (below_step (by repeat (first | (with_reducible first | exact HB.out | apply below_alloc | apply pw_below_drewN | apply below_drew1) | exact HB.out)) hb); clear HO140; clear HO144; clear HB; have HO140 := n0_; have HO144 := n1_; have HO147 := n2_; have HB := n3_; clear n0_ n1_ n2_ n3_; (try clear hb); (try clear hb2); (try clear hk); (try clear hi); (try clear ho0); obtain ⟨Ao52, co52, eo52⟩ := Kd.N_slice HO147.out; subst eo52) | ((with_reducible refine gate_callee (f := 36) rfl ?_); refine goesL_ (some 9) rfl rfl Try.func36 (by kernel_rfl) rfl #[.slice Ao52 t145.length co52, .int .i64 0, .int .i64 0] rfl (by (try simp only [List.map_toArray, List.map_cons, List.map_nil]); first | done | rfl | (simp only [List.length_drop, List.length_take]; rfl)) ?_; (with_reducible refine (satchellaw08_fails.calls k _ _ t145 0 0 false _ ?side1 ?side2 A4.out).mono ?_); (case side1 => repeat (first | exact (Kd.N_reads' HO147.out).2.2 | (with_reducible refine Kd.C_alloc ?_ _) | (with_reducible refine Kd.C_drewN ?_ _) | (with_reducible refine Kd.C_drew ?_))); (case side2 => exact (Kd.N_reads' HO147.out).2.1); rintro e w53 ⟨rfl, hb⟩; refine ⟨_, rfl, ?_⟩; have n0_ := Aside0.mk (Kd.N_below (by (with_reducible repeat (first | apply Kd.N_alloc | apply Kd.N_drewN | apply Kd.N_drew)); exact HO140.out) hb); have n1_ := Aside0.mk (Kd.N_below (by (with_reducible repeat (first | apply Kd.N_alloc | apply Kd.N_drewN | apply Kd.N_drew)); exact HO144.out) hb); have n2_ := Aside0.mk (Kd.N_below (by (with_reducible repeat (first | apply Kd.N_alloc | apply Kd.N_drewN | apply Kd.N_drew)); exact HO147.out) hb); have n3_ := Aside0.mk (below_step (by repeat (first | (with_reducible first | exact HB.out | apply below_alloc | apply pw_below_drewN | apply below_drew1) | exact HB.out)) hb); clear HO140; clear HO144; clear HO147; clear HB; have HO140 := n0_; have HO144 := n1_; have HO147 := n2_; have HB := n3_; clear n0_ n1_ n2_ n3_; (try clear hb); (try clear hb2); (try clear hk); (try clear hi)))
  go_ret
  exact ⟨by first | rfl | (simp [errW_none, errW_some] <;> rfl) | (simp [*, errW_none, errW_some] <;> rfl) | (simp [bt, *]; done) | (simp_all [bt]; done), by repeat (first | (with_reducible first | exact HB.out | apply below_alloc | apply pw_below_drewN | apply below_drew1) | exact HB.out)⟩

end Go.Proofs.Ytopkmchkfcjjmaa.X
end

/-! ## SatchelkitSameTexts -/
section
namespace Go.Proofs.Ytopkmchkfcjjmaa.X
open Go.RowKit Go.Proofs.YtopkmchkfcjjmaaW.PrintWords Go.Proofs.YtopkmchkfcjjmaaW.PrintLast Go.Proofs.YtopkmchkfcjjmaaW.PrintMore
attribute [local go_sem] max2_int min2_int max_two min_two max_three min_three max_four min_four   -- for this text's walks alone
set_option linter.unusedVariables false
set_option linter.unusedSimpArgs false

attribute [local go_sem] str_gtr fld_fault0 fld_fault1
/-! ### satchelkit_SameTexts: function 27 -/
def satchelkit_SameTexts.l0 : Nat → List ByteArray → List ByteArray → Int → Option (Bool)
 | 0, _, _, _ => none
 | k + 1, x0, x1, x5 => if x5 < (x0.length : Int) then (if 0 ≤ x5 then (if x5 < (x1.length : Int) then (if (rdOf ByteArray.empty x0 x5).toList = (rdOf ByteArray.empty x1 x5).toList then (satchelkit_SameTexts.l0 k x0 x1 (wrap64 (x5 + 1))) else (some false)) else (none)) else (none)) else (some true)
def satchelkit_SameTexts.f (k : Nat) (l0 : List ByteArray) (l1 : List ByteArray) : Option (Bool) := if (l0.length : Int) = (l1.length : Int) then (satchelkit_SameTexts.l0 k l0 l1 0) else (some false)
theorem satchelkit_SameTexts.mono_l : ∀ k, (∀ y0 y1 y2, LeO (satchelkit_SameTexts.l0 k y0 y1 y2) (satchelkit_SameTexts.l0 (k + 1) y0 y1 y2))
 | 0 => fun _ _ _ r h => by simp [satchelkit_SameTexts.l0] at h
 | k + 1 => by
  have ih0 := satchelkit_SameTexts.mono_l k
  ·intro y0 y1 y2
   unfold satchelkit_SameTexts.l0
   repeat' first
   | (with_reducible exact ih0 _ _ _)
   | (with_reducible exact LeO.refl _)
   | (with_reducible exact LeO.none _)
   | (with_reducible refine LeO.ite ?_ ?_)
   | (with_reducible refine LeO.bind ?_ (fun _ => ?_))
   | exact ih0 _ _ _
   | exact LeO.none _
   | refine LeO.ite ?_ ?_
   | refine LeO.bind ?_ (fun _ => ?_)
theorem satchelkit_SameTexts.mono : ∀ a0 a1 k, LeO (satchelkit_SameTexts.f k a0 a1) (satchelkit_SameTexts.f (k + 1) a0 a1) := by
 intro a0 a1 k
 have ih0 := satchelkit_SameTexts.mono_l k
 unfold satchelkit_SameTexts.f
 repeat' first
   | (with_reducible exact ih0 _ _ _)
   | (with_reducible exact LeO.refl _)
   | (with_reducible exact LeO.none _)
   | (with_reducible refine LeO.ite ?_ ?_)
   | (with_reducible refine LeO.bind ?_ (fun _ => ?_))
   | exact ih0 _ _ _
   | exact LeO.none _
   | refine LeO.ite ?_ ?_
   | refine LeO.bind ?_ (fun _ => ?_)
set_option maxHeartbeats 8000000 in
set_option maxRecDepth 100000 in
theorem satchelkit_SameTexts.calls (k : Nat) (A0 : Option Addr) (c0 : Nat) (l0 : List ByteArray) (A1 : Option Addr) (c1 : Nat) (l1 : List ByteArray) (r : Bool) (w : World) (hr0 : Kd.C Kd.string w A0 l0.length l0) (hc0 : l0.length ≤ c0) (hr1 : Kd.C Kd.string w A1 l1.length l1) (hc1 : l1.length ≤ c1) (h : satchelkit_SameTexts.f k l0 l1 = some r) :
  Calls Try.prog 27 #[.slice A0 l0.length c0, .slice A1 l1.length c1] w fun e w' => e = .returned (.bool r) ∧ Drawn0 w w' := by
 have HR0 := Aside0.mk hr0
 have HC0 := Aside0.mk hc0
 clear hr0 hc0
 have HR1 := Aside0.mk hr1
 have HC1 := Aside0.mk hc1
 clear hr1 hc1
 have H : (if (l0.length : Int) = (l1.length : Int) then (satchelkit_SameTexts.l0 k l0 l1 0) else (some false)) = some r := h
 clear h
 by_cases c3 : (l0.length : Int) = (l1.length : Int)
 ·rw [if_pos c3] at H
  have c3b0 : ((l0.length : Int) == (l1.length : Int)) = true := beq_iff_eq.mpr c3
  have c3b1 : ((l0.length : Int) != (l1.length : Int)) = false := bne_eq_false_iff_eq.mpr c3
  have c3b2 : (l0.length == l1.length) = true := by first | simpa using c3 | (simp at c3 ⊢; omega)
  clear c3
  have H' := Aside0.mk H
  clear H
  go_enter Try.func27, Try.ntmps27
  go_wp2
  repeat (go_quiet (fail); try go_wp2)
  go_loopg [5] k (fun kq v5 w' => ∃ (x5_1 : Int), v5 = .int .i64 x5_1 ∧ Aside0 (satchelkit_SameTexts.l0 kq l0 l1 x5_1 = some r) ∧ Aside0 (kq ≤ k) ∧ Drawn0 w w')
  case atStart => exact ⟨(0), (by first | rfl | (simp; done) | (simp [*]; done)), H', ⟨Nat.le_refl _⟩, by repeat (first | exact Drawn0.refl _ | apply Drawn0.step)⟩
  case round =>
   clear H'
   try clear c1
   try clear c2
   try clear p2
   try clear c3
   try clear c3b0
   try clear c3b1
   try clear c3b2
   obtain ⟨x5_1, rfl, HA, HK1, ⟨m1, rfl⟩⟩ := hrel
   cases gk with
   | zero => exact absurd HA.out (by simp [satchelkit_SameTexts.l0])
   | succ k1 =>
    have H := HA.out
    clear HA
    simp only [satchelkit_SameTexts.l0] at H
    by_cases c4 : x5_1 < (l0.length : Int)
    ·rw [if_pos c4] at H
     have c4b0 : decide (x5_1 < (l0.length : Int)) = true := decide_eq_true c4
     clear c4
     by_cases c5 : 0 ≤ x5_1
     ·rw [if_pos c5] at H
      have c5b0 : decide (0 ≤ x5_1) = true := decide_eq_true c5
      clear c5
      by_cases c6 : x5_1 < (l1.length : Int)
      ·rw [if_pos c6] at H
       have c6b0 : decide (x5_1 < (l1.length : Int)) = true := decide_eq_true c6
       clear c6
       by_cases c7 : (rdOf ByteArray.empty l0 x5_1).toList = (rdOf ByteArray.empty l1 x5_1).toList
       ·rw [if_pos c7] at H
        have c7b0 : ((rdOf ByteArray.empty l0 x5_1).toList == (rdOf ByteArray.empty l1 x5_1).toList) = true := beq_iff_eq.mpr c7
        have c7b1 : ((rdOf ByteArray.empty l0 x5_1).toList != (rdOf ByteArray.empty l1 x5_1).toList) = false := bne_eq_false_iff_eq.mpr c7
        clear c7
        have H' := Aside0.mk H
        clear H
        have p371 : 0 ≤ (x5_1 : Int) := of_decide_eq_true (by first | (with_reducible assumption) | assumption)
        have q371 : x5_1 < (l0.length : Int) := of_decide_eq_true (by first | (with_reducible assumption) | assumption)
        obtain ⟨ad371, e371, hx371_0⟩ := Kd.at_string HR0.out x5_1 p371 q371
        cases e371
        replace p371 := eq_true p371
        replace q371 := eq_true q371
        have p372 : 0 ≤ (x5_1 : Int) := of_decide_eq_true (by first | (with_reducible assumption) | assumption)
        have q372 : x5_1 < (l1.length : Int) := of_decide_eq_true (by first | (with_reducible assumption) | assumption)
        obtain ⟨ad372, e372, hx372_0⟩ := Kd.at_string HR1.out x5_1 p372 q372
        cases e372
        replace p372 := eq_true p372
        replace q372 := eq_true q372
        go_wp2
        repeat (go_quiet (fail); try go_wp2)
        go_roundg k1
        case measure => have := HK1.out; omega
        case rel => exact ⟨(wrap64 (x5_1 + 1)), (by first | rfl | (simp; done) | (simp [*]; done)), H', ⟨by have := HK1.out; omega⟩, by repeat (first | exact Drawn0.refl _ | apply Drawn0.step)⟩
       ·rw [if_neg c7] at H
        have c7b0 : ((rdOf ByteArray.empty l0 x5_1).toList == (rdOf ByteArray.empty l1 x5_1).toList) = false := beq_eq_false_iff_ne.mpr c7
        have c7b1 : ((rdOf ByteArray.empty l0 x5_1).toList != (rdOf ByteArray.empty l1 x5_1).toList) = true := bne_iff_ne.mpr c7
        obtain rfl := Option.some.inj H
        have p371 : 0 ≤ (x5_1 : Int) := of_decide_eq_true (by first | (with_reducible assumption) | assumption)
        have q371 : x5_1 < (l0.length : Int) := of_decide_eq_true (by first | (with_reducible assumption) | assumption)
        obtain ⟨ad371, e371, hx371_0⟩ := Kd.at_string HR0.out x5_1 p371 q371
        cases e371
        replace p371 := eq_true p371
        replace q371 := eq_true q371
        have p372 : 0 ≤ (x5_1 : Int) := of_decide_eq_true (by first | (with_reducible assumption) | assumption)
        have q372 : x5_1 < (l1.length : Int) := of_decide_eq_true (by first | (with_reducible assumption) | assumption)
        obtain ⟨ad372, e372, hx372_0⟩ := Kd.at_string HR1.out x5_1 p372 q372
        cases e372
        replace p372 := eq_true p372
        replace q372 := eq_true q372
        go_wp2
        repeat (go_quiet (fail); try go_wp2)
        go_ret
        exact ⟨by first | rfl | (simp; done) | (simp [*]; done), by repeat (first | exact Drawn0.refl _ | apply Drawn0.step)⟩
      ·rw [if_neg c6] at H
       exact absurd H (by simp)
     ·rw [if_neg c5] at H
      exact absurd H (by simp)
    ·rw [if_neg c4] at H
     have c4b0 : decide (x5_1 < (l0.length : Int)) = false := decide_eq_false c4
     clear c4
     obtain rfl := Option.some.inj H
     go_wp2
     repeat (go_quiet (fail); try go_wp2)
     go_ret
     exact ⟨by first | rfl | (simp; done) | (simp [*]; done), by repeat (first | exact Drawn0.refl _ | apply Drawn0.step)⟩
 ·rw [if_neg c3] at H
  have c3b0 : ((l0.length : Int) == (l1.length : Int)) = false := beq_eq_false_iff_ne.mpr c3
  have c3b1 : ((l0.length : Int) != (l1.length : Int)) = true := bne_iff_ne.mpr c3
  have c3b2 : (l0.length == l1.length) = false := by first | simpa using c3 | (simp at c3 ⊢; omega)
  obtain rfl := Option.some.inj H
  go_enter Try.func27, Try.ntmps27
  go_wp2
  repeat (go_quiet (fail); try go_wp2)
  go_ret
  exact ⟨by first | rfl | (simp; done) | (simp [*]; done), by repeat (first | exact Drawn0.refl _ | apply Drawn0.step)⟩

end Go.Proofs.Ytopkmchkfcjjmaa.X
end

/-! ## WalkKnown -/
section
namespace Go.Proofs.Ytopkmchkfcjjmaa.X
open Go.RowKit Go.Proofs.YtopkmchkfcjjmaaW.PrintWords Go.Proofs.YtopkmchkfcjjmaaW.PrintLast Go.Proofs.YtopkmchkfcjjmaaW.PrintMore
set_option linter.unusedVariables false
set_option linter.unusedSimpArgs false
theorem drew_size (w : World) : w.drew.heap.size = w.heap.size := rfl
theorem Reps_nil0 {α : Type} {R : α → List Value → Prop} {size : Nat} : Reps R size ([] : List α) [] := ⟨by simp, fun j p hj => by cases hj⟩
def turnedL : List S31 := [⟨⟨#[99]⟩, 3, 0, [], ⟨#[97, 47, 98]⟩⟩, ⟨⟨#[97]⟩, 1, 493, [], ⟨#[]⟩⟩]
def dataL : List S31 := [⟨⟨#[97]⟩, 1, 493, [120], ⟨#[]⟩⟩]
def otherL : List S31 := [⟨⟨#[97]⟩, 1, 493, [], ⟨#[]⟩⟩, ⟨⟨#[97, 47, 98]⟩, 2, 420, [121], ⟨#[]⟩⟩, ⟨⟨#[100]⟩, 1, 0, [], ⟨#[]⟩⟩]
theorem known_drop : tree_Drop.f 40 sampleTree ⟨#[98]⟩ = some ([], 6) := by kernel_rfl
theorem known_put : tree_Put.f 40 sampleTree ⟨#[97]⟩ 2 0 [] ⟨#[]⟩ = some ([], 6) := by kernel_rfl
theorem known_diff : tree_Diff.f 40 sampleTree otherL = some ([⟨#[100]⟩], [⟨#[99]⟩], [⟨#[97, 47, 98]⟩]) := by kernel_rfl
theorem known_turned : satchellaw08_fails.f 40 turnedL 7 1 = some true := by kernel_rfl
theorem known_data : satchellaw08_fails.f 40 dataL 2 0 = some true := by kernel_rfl
theorem known_size : tree_Size.f 40 sampleTree = some 1 := by kernel_rfl
theorem known_awake : satchellaw08_awake.f 40 = some true := by kernel_rfl
/-- A row of one text, read out of its block. -/
theorem rowS_C {W : World} {g : Nat} {t : ByteArray} (h : W.heap[g]? = some (.cells #[.string t] 9 (0, 0))) : Kd.C Kd.string W (some ⟨g, 0, none⟩) 1 [t] := by
 have ho : W.ownsRow g 9 1 (.slice (some ⟨g, 0, none⟩) 1 1) 1 [.string t] := ⟨rfl, .inr ⟨g, 1, _, rfl, Nat.le_refl _, h, Nat.le_refl _, by decide, rfl, rfl⟩⟩
 obtain ⟨A, c, he, hC⟩ := own_reads_row (ps := [t]) (R := fun x c => Kd.string.K W x c) ho ⟨rfl, fun j p hj => by
  match j with
  | 0 => obtain rfl := Option.some.inj hj; exact rfl
  | j + 1 => cases hj⟩ rfl
 injection he with ha _ _
 rw [ha]
 exact hC
/-- A row of entries, read out of its block. -/
theorem rows_C {W : World} {g n cap : Nat} {cur : Array Value} {l : List (S31)} (h : W.heap[g]? = some (.cells cur 31 (0, 0))) (hc : cur.size = cap * 5) (hn : n ≤ cap) (hm : cap ≤ maxLen) (hl : l.length = n) (hr : Reps (fun x c => k31.K W x c) 5 l (cur.toList.take (n * 5))) : Kd.C k31 W (some ⟨g, 0, none⟩) n l := by
 have ho : W.ownsRow g 31 5 (.slice (some ⟨g, 0, none⟩) n cap) n (cur.toList.take (n * 5)) := ⟨by rw [List.length_take, Array.length_toList]; omega, .inr ⟨g, cap, cur, rfl, Nat.le_refl _, h, hn, hm, hc, rfl⟩⟩
 obtain ⟨A, c, he, _, hC⟩ := own_C (l := l) ho hr hl
 injection he with ha _ _
 rw [ha, ← hl]
 exact hC
theorem byte_C {W : World} {g : Nat} {x : Int} {t : TypeId} {fr : Nat × Nat} (h : W.heap[g]? = some (.cells #[.int .u8 x] t fr)) : Kd.C (Kd.int .u8) W (some ⟨g, 0, none⟩) ([x] : List Int).length [x] := one_byte W g x t fr (fun _ => True) trivial h W (fun _ _ _ => rfl)
theorem set_row_lit {W : World} {g : Nat} {cur : Array Value} {t : TypeId} (h : W.heap[g]? = some (.cells cur t (0, 0))) (o : Nat) (vs : List Value) (cur2 : Array Value) (hle : o + vs.length ≤ cur.size) (he : cur.toList.take o ++ vs ++ cur.toList.drop (o + vs.length) = cur2.toList) : (W.setCells g o vs).heap[g]? = some (.cells cur2 t (0, 0)) := by
 obtain ⟨cur', h1, _, h3⟩ := setCells_row vs o W cur h hle
 rw [h1, show cur' = cur2 from Array.ext' (h3.trans he)]
theorem setCells_below {w W : World} (hb : Below w.heap.size w W) {g : Nat} (hg : w.heap.size ≤ g) (o : Nat) (vs : List Value) : Below w.heap.size w (W.setCells g o vs) := by
 have s := setCells_same g vs o W
 exact ⟨s.1.trans hb.os, s.2.1.trans hb.tape, s.2.2.1.trans hb.output, by rw [s.2.2.2]; exact hb.size, fun k hk => (setCells_far _ _ k (by omega)).trans (hb.block k hk)⟩
theorem lit_below (W : World) (x : Int) : Below W.heap.size W ((W.alloc (.cells #[.int .u8 x] 5)).freeze ⟨W.heap.size, 1, none⟩ 1) := freeze_below ((Below.refl _ W).alloc (Nat.le_refl _) _) _ _ (Nat.le_refl _)
theorem lit_block (W : World) (x : Int) : ((W.alloc (.cells #[.int .u8 x] 5)).freeze ⟨W.heap.size, 1, none⟩ 1).heap[W.heap.size]? = some (.cells #[.int .u8 x] 5 (1, 2)) := by
 unfold World.freeze
 rw [if_neg (by decide)]
 simp only [Array.getElem?_modify, heap_alloc_new]
 rfl
theorem lit_size (W : World) (x : Int) : ((W.alloc (.cells #[.int .u8 x] 5)).freeze ⟨W.heap.size, 1, none⟩ 1).heap.size = W.heap.size + 1 := by
 unfold World.freeze
 rw [if_neg (by decide)]
 simp
theorem lit_conv (W : World) (x : Int) (b : Nat) (hb : W.heap.size = b) : (convert 29 29 (.slice (some ⟨b, 0, none⟩) 1 1)).run Try.prog (W.alloc (.cells #[.int .u8 x] 5)) = .ok (.slice (some ⟨b, 0, none⟩) 1 1) ((W.alloc (.cells #[.int .u8 x] 5)).freeze ⟨W.heap.size, 1, none⟩ 1) := by
 subst hb
 exact cv_lit W.heap.size 1 1 #[.int .u8 x] 5 (0, 0) (W.alloc (.cells #[.int .u8 x] 5)) (heap_alloc_new W _)
set_option maxHeartbeats 4000000 in
set_option maxRecDepth 100000 in
theorem treeKnown.walk (w : World) : Calls Try.prog 7 #[] w fun e w' => e = .returned (.bool true) ∧ Below w.heap.size w w' := by
 go_enter Try.func7, Try.ntmps7
 go_wp2_with (fail)
 go_region_with (go_at_call 35; (first | refine (satchellaw08_sample.calls4 _ (w.heap.size + 5) (by rw [sampleW_size, sampleW_size, drew_size])).mono ?_ | refine (satchellaw08_sample.calls4 _ (w.heap.size + 3) (by rw [sampleW_size, drew_size])).mono ?_ | refine (satchellaw08_sample.calls4 _ (w.heap.size + 1) (by rw [drew_size])).mono ?_); rintro e w' ⟨rfl, rfl⟩)
 obtain ⟨w3, hw3⟩ : ∃ w3, w3 = sampleW (sampleW (sampleW w.drew)) := ⟨_, rfl⟩
 rw [← hw3]
 have hs3 : w3.heap.size = w.heap.size + 6 := by rw [hw3, sampleW_size, sampleW_size, sampleW_size, drew_size]
 have T3 : w3.heap[w.heap.size + 1]? = some (.cells (sampleCells w.heap.size) 31 (0, 0)) := by rw [hw3]; exact sampleW_old _ (sampleW_old _ (sampleW_new w.drew))
 have D3 : w3.heap[w.heap.size + 3]? = some (.cells (sampleCells (w.heap.size + 2)) 31 (0, 0)) := by
  have h := sampleW_new (sampleW w.drew)
  rw [sampleW_size, drew_size] at h
  rw [hw3]; exact sampleW_old _ h
 have O3 : w3.heap[w.heap.size + 5]? = some (.cells (sampleCells (w.heap.size + 4)) 31 (0, 0)) := by
  have h := sampleW_new (sampleW (sampleW w.drew))
  rw [sampleW_size, sampleW_size, drew_size] at h
  rw [hw3]; exact h
 have P3 : w3.heap[w.heap.size + 4]? = some (.cells #[.int .u8 120] 5 (1, 2)) := by
  have h := sampleW_byte (sampleW (sampleW w.drew))
  rw [sampleW_size, sampleW_size, drew_size] at h
  rw [hw3]; exact h
 have HB3 : Below w.heap.size w w3 := by
  rw [hw3]
  exact below_step (below_step (below_step (below_drew (Below.refl _ w)) (sampleW_below w.drew)) (sampleW_below _)) (sampleW_below _)
 clear hw3
 -- region 2
 have hs4 : (sampleW w3.drew).heap.size = w.heap.size + 8 := by rw [sampleW_size, drew_size, hs3]
 have hs5 : (sampleW (sampleW w3.drew)).heap.size = w.heap.size + 10 := by rw [sampleW_size, sampleW_size, drew_size, hs3]
 have S4 : (sampleW w3.drew).heap[w.heap.size + 7]? = some (.cells (sampleCells (w.heap.size + 6)) 31 (0, 0)) := by
  have h := sampleW_new w3.drew
  rw [drew_size, hs3] at h
  exact h
 have S5 : (sampleW (sampleW w3.drew)).heap[w.heap.size + 7]? = some (.cells (sampleCells (w.heap.size + 6)) 31 (0, 0)) := sampleW_old _ S4
 have R5 : (sampleW (sampleW w3.drew)).heap[w.heap.size + 9]? = some (.cells (sampleCells (w.heap.size + 8)) 31 (0, 0)) := by
  have h := sampleW_new (sampleW w3.drew)
  rw [hs4] at h
  exact h
 have old5 : ∀ {k : Nat} {o : Obj}, w3.heap[k]? = some o → (sampleW (sampleW w3.drew)).heap[k]? = some o := fun h => sampleW_old _ (sampleW_old _ h)
 have HB5 : Below w.heap.size w (sampleW (sampleW w3.drew)) := by
  exact below_step (below_step (below_drew HB3) (sampleW_below _)) (sampleW_below _)
 have ha10 : (sampleW w3.drew).cell? ⟨w.heap.size + 7, 10, none⟩ = some (.string (⟨#[99]⟩ : ByteArray)) := (blk_cell S4 10).trans rfl
 have hb10 : (sampleW (sampleW w3.drew)).cell? ⟨w.heap.size + 7, 10, none⟩ = some (.string (⟨#[99]⟩ : ByteArray)) := (blk_cell S5 10).trans rfl
 have ha11 : (sampleW w3.drew).cell? ⟨w.heap.size + 7, 11, none⟩ = some (.int .i64 3) := (blk_cell S4 11).trans rfl
 have hb11 : (sampleW (sampleW w3.drew)).cell? ⟨w.heap.size + 7, 11, none⟩ = some (.int .i64 3) := (blk_cell S5 11).trans rfl
 have ha12 : (sampleW w3.drew).cell? ⟨w.heap.size + 7, 12, none⟩ = some (.int .i64 0) := (blk_cell S4 12).trans rfl
 have hb12 : (sampleW (sampleW w3.drew)).cell? ⟨w.heap.size + 7, 12, none⟩ = some (.int .i64 0) := (blk_cell S5 12).trans rfl
 have ha13 : (sampleW w3.drew).cell? ⟨w.heap.size + 7, 13, none⟩ = some (.slice none 0 0) := (blk_cell S4 13).trans rfl
 have hb13 : (sampleW (sampleW w3.drew)).cell? ⟨w.heap.size + 7, 13, none⟩ = some (.slice none 0 0) := (blk_cell S5 13).trans rfl
 have ha14 : (sampleW w3.drew).cell? ⟨w.heap.size + 7, 14, none⟩ = some (.string (⟨#[97, 47, 98]⟩ : ByteArray)) := (blk_cell S4 14).trans rfl
 have hb14 : (sampleW (sampleW w3.drew)).cell? ⟨w.heap.size + 7, 14, none⟩ = some (.string (⟨#[97, 47, 98]⟩ : ByteArray)) := (blk_cell S5 14).trans rfl
 have hc0 : (sampleW (sampleW w3.drew)).cell? ⟨w.heap.size + 9, 0, none⟩ = some (.string (⟨#[97]⟩ : ByteArray)) := (blk_cell R5 0).trans rfl
 have hc1 : (sampleW (sampleW w3.drew)).cell? ⟨w.heap.size + 9, 1, none⟩ = some (.int .i64 1) := (blk_cell R5 1).trans rfl
 have hc2 : (sampleW (sampleW w3.drew)).cell? ⟨w.heap.size + 9, 2, none⟩ = some (.int .i64 493) := (blk_cell R5 2).trans rfl
 have hc3 : (sampleW (sampleW w3.drew)).cell? ⟨w.heap.size + 9, 3, none⟩ = some (.slice none 0 0) := (blk_cell R5 3).trans rfl
 have hc4 : (sampleW (sampleW w3.drew)).cell? ⟨w.heap.size + 9, 4, none⟩ = some (.string (⟨#[]⟩ : ByteArray)) := (blk_cell R5 4).trans rfl
 have hd0 : (sampleW (sampleW w3.drew)).cell? ⟨w.heap.size + 1, 0, none⟩ = some (.string (⟨#[97]⟩ : ByteArray)) := (blk_cell (old5 T3) 0).trans rfl
 have hf0 : (sampleW (sampleW w3.drew)).frozen? ⟨w.heap.size + 1, 0, none⟩ = false := blk_frozen (old5 T3) 0
 have hd1 : (sampleW (sampleW w3.drew)).cell? ⟨w.heap.size + 1, 1, none⟩ = some (.int .i64 1) := (blk_cell (old5 T3) 1).trans rfl
 have hf1 : (sampleW (sampleW w3.drew)).frozen? ⟨w.heap.size + 1, 1, none⟩ = false := blk_frozen (old5 T3) 1
 have hd2 : (sampleW (sampleW w3.drew)).cell? ⟨w.heap.size + 1, 2, none⟩ = some (.int .i64 493) := (blk_cell (old5 T3) 2).trans rfl
 have hf2 : (sampleW (sampleW w3.drew)).frozen? ⟨w.heap.size + 1, 2, none⟩ = false := blk_frozen (old5 T3) 2
 have hd3 : (sampleW (sampleW w3.drew)).cell? ⟨w.heap.size + 1, 3, none⟩ = some (.slice none 0 0) := (blk_cell (old5 T3) 3).trans rfl
 have hf3 : (sampleW (sampleW w3.drew)).frozen? ⟨w.heap.size + 1, 3, none⟩ = false := blk_frozen (old5 T3) 3
 have hd4 : (sampleW (sampleW w3.drew)).cell? ⟨w.heap.size + 1, 4, none⟩ = some (.string (⟨#[]⟩ : ByteArray)) := (blk_cell (old5 T3) 4).trans rfl
 have hf4 : (sampleW (sampleW w3.drew)).frozen? ⟨w.heap.size + 1, 4, none⟩ = false := blk_frozen (old5 T3) 4
 have hd5 : (sampleW (sampleW w3.drew)).cell? ⟨w.heap.size + 1, 5, none⟩ = some (.string (⟨#[97, 47, 98]⟩ : ByteArray)) := (blk_cell (old5 T3) 5).trans rfl
 have hf5 : (sampleW (sampleW w3.drew)).frozen? ⟨w.heap.size + 1, 5, none⟩ = false := blk_frozen (old5 T3) 5
 have hd6 : (sampleW (sampleW w3.drew)).cell? ⟨w.heap.size + 1, 6, none⟩ = some (.int .i64 2) := (blk_cell (old5 T3) 6).trans rfl
 have hf6 : (sampleW (sampleW w3.drew)).frozen? ⟨w.heap.size + 1, 6, none⟩ = false := blk_frozen (old5 T3) 6
 have hd7 : (sampleW (sampleW w3.drew)).cell? ⟨w.heap.size + 1, 7, none⟩ = some (.int .i64 420) := (blk_cell (old5 T3) 7).trans rfl
 have hf7 : (sampleW (sampleW w3.drew)).frozen? ⟨w.heap.size + 1, 7, none⟩ = false := blk_frozen (old5 T3) 7
 have hd8 : (sampleW (sampleW w3.drew)).cell? ⟨w.heap.size + 1, 8, none⟩ = some (.slice (some ⟨w.heap.size, 0, none⟩) 1 1) := (blk_cell (old5 T3) 8).trans rfl
 have hf8 : (sampleW (sampleW w3.drew)).frozen? ⟨w.heap.size + 1, 8, none⟩ = false := blk_frozen (old5 T3) 8
 have hd9 : (sampleW (sampleW w3.drew)).cell? ⟨w.heap.size + 1, 9, none⟩ = some (.string (⟨#[]⟩ : ByteArray)) := (blk_cell (old5 T3) 9).trans rfl
 have hf9 : (sampleW (sampleW w3.drew)).frozen? ⟨w.heap.size + 1, 9, none⟩ = false := blk_frozen (old5 T3) 9
 go_wp2_with (fail)
 go_region_with (go_at_call 35; first | (refine (satchellaw08_sample.calls4 (sampleW w3.drew) (w.heap.size + 9) (by rw [hs4])).mono ?_; rintro e w' ⟨rfl, rfl⟩) | (refine (satchellaw08_sample.calls4 w3.drew (w.heap.size + 7) (by rw [drew_size, hs3])).mono ?_; rintro e w' ⟨rfl, rfl⟩))
 all_goals
  clear S4 S5 R5 ha10 hb10 ha11 hb11 ha12 hb12 ha13 hb13 ha14 hb14 hc0 hc1 hc2 hc3 hc4 hd0 hf0 hd1 hf1 hd2 hf2 hd3 hf3 hd4 hf4 hd5 hf5 hd6 hf6 hd7 hf7 hd8 hf8 hd9 hf9
  generalize hu : (World.setCell (World.setCell (World.setCell (World.setCell (World.setCell (World.setCell (World.setCell (World.setCell (World.setCell (World.setCell (sampleW (sampleW w3.drew)) ⟨w.heap.size + 1, 0, none⟩ (.string (⟨#[99]⟩ : ByteArray))) ⟨w.heap.size + 1, 1, none⟩ (.int .i64 3)) ⟨w.heap.size + 1, 2, none⟩ (.int .i64 0)) ⟨w.heap.size + 1, 3, none⟩ (.slice none 0 0)) ⟨w.heap.size + 1, 4, none⟩ (.string (⟨#[97, 47, 98]⟩ : ByteArray))) ⟨w.heap.size + 1, 5, none⟩ (.string (⟨#[97]⟩ : ByteArray))) ⟨w.heap.size + 1, 6, none⟩ (.int .i64 1)) ⟨w.heap.size + 1, 7, none⟩ (.int .i64 493)) ⟨w.heap.size + 1, 8, none⟩ (.slice none 0 0)) ⟨w.heap.size + 1, 9, none⟩ (.string (⟨#[]⟩ : ByteArray))) = u5
  replace hu : u5 = World.setCells (sampleW (sampleW w3.drew)) (w.heap.size + 1) 0 [.string (⟨#[99]⟩ : ByteArray), .int .i64 3, .int .i64 0, .slice none 0 0, .string (⟨#[97, 47, 98]⟩ : ByteArray), .string (⟨#[97]⟩ : ByteArray), .int .i64 1, .int .i64 493, .slice none 0 0, .string (⟨#[]⟩ : ByteArray)] := hu.symm.trans rfl
  have TU : u5.heap[w.heap.size + 1]? = some (.cells #[.string (⟨#[99]⟩ : ByteArray), .int .i64 3, .int .i64 0, .slice none 0 0, .string (⟨#[97, 47, 98]⟩ : ByteArray), .string (⟨#[97]⟩ : ByteArray), .int .i64 1, .int .i64 493, .slice none 0 0, .string (⟨#[]⟩ : ByteArray), .string (⟨#[99]⟩ : ByteArray), .int .i64 3, .int .i64 0, .slice none 0 0, .string (⟨#[97, 47, 98]⟩ : ByteArray)] 31 (0, 0)) := by rw [hu]; exact set_row_lit (old5 T3) 0 _ _ (by show 10 ≤ 15; decide) rfl
  have farU : ∀ {k : Nat} {o : Obj}, k ≠ w.heap.size + 1 → w3.heap[k]? = some o → u5.heap[k]? = some o := fun hk h => by rw [hu]; exact (setCells_far _ _ _ hk).trans (old5 h)
  have DU := farU (by omega) D3
  have OU := farU (by omega) O3
  have PU := farU (by omega) P3
  have hsU : u5.heap.size = w.heap.size + 10 := by rw [hu, (setCells_same _ _ _ _).2.2.2, hs5]
  have HBU : Below w.heap.size w u5 := by rw [hu]; exact setCells_below HB5 (by omega) _ _
  clear hu farU old5 T3 D3 O3 P3 HB5 HB3 hs3 hs4 hs5
  clear w3
  -- regions 3, 4: the bytes of two entries
  obtain ⟨u6, hu6⟩ : ∃ u, (u5.alloc (.cells #[.int .u8 120] 5)).freeze ⟨u5.heap.size, 1, none⟩ 1 = u := ⟨_, rfl⟩
  have cv6 := lit_conv u5 120 (w.heap.size + 10) hsU
  rw [hu6] at cv6
  have b6 := lit_below u5 120
  have e6 := lit_block u5 120
  have s6 := lit_size u5 120
  rw [hu6] at b6 e6 s6
  rw [hsU] at e6 s6
  have hD3 : u6.cell? ⟨w.heap.size + 3, 3, none⟩ = some (.slice none 0 0) := (blk_cell (blk_below DU b6) 3).trans rfl
  have hD3f : u6.frozen? ⟨w.heap.size + 3, 3, none⟩ = false := blk_frozen (blk_below DU b6) 3
  have HU6 := Aside0.mk hu6
  clear hu6
  have B6 := below_step HBU b6
  obtain ⟨v6, hv6⟩ : ∃ u, u = u6.setCell ⟨w.heap.size + 3, 3, none⟩ (.slice (some ⟨w.heap.size + 10, 0, none⟩) 1 1) := ⟨_, rfl⟩
  have Dv : v6.heap[w.heap.size + 3]? = some (.cells #[.string (⟨#[97]⟩ : ByteArray), .int .i64 1, .int .i64 493, .slice (some ⟨w.heap.size + 10, 0, none⟩) 1 1, .string (⟨#[]⟩ : ByteArray), .string (⟨#[97, 47, 98]⟩ : ByteArray), .int .i64 2, .int .i64 420, .slice (some ⟨w.heap.size + 2, 0, none⟩) 1 1, .string (⟨#[]⟩ : ByteArray), .string (⟨#[99]⟩ : ByteArray), .int .i64 3, .int .i64 0, .slice none 0 0, .string (⟨#[97, 47, 98]⟩ : ByteArray)] 31 (0, 0)) := by rw [hv6]; exact set_row_lit (blk_below DU b6) 3 [.slice (some ⟨w.heap.size + 10, 0, none⟩) 1 1] _ (by show 4 ≤ 15; decide) rfl
  have farV : ∀ {k : Nat} {o : Obj}, k ≠ w.heap.size + 3 → u5.heap[k]? = some o → v6.heap[k]? = some o := fun hk h => by rw [hv6]; exact (Below.heap_setCell u6 _ _ _ hk).trans (blk_below h b6)
  have Tv := farV (by omega) TU
  have Ov := farV (by omega) OU
  have Ev : v6.heap[w.heap.size + 10]? = some (.cells #[.int .u8 120] 5 (1, 2)) := by rw [hv6]; exact (Below.heap_setCell u6 _ _ _ (by simp)).trans e6
  have Bv : Below w.heap.size w v6 := by rw [hv6]; exact setCells_below B6 (by omega) 3 [.slice (some ⟨w.heap.size + 10, 0, none⟩) 1 1]
  have sv : v6.heap.size = w.heap.size + 10 + 1 := by rw [hv6]; exact (setCells_same (w.heap.size + 3) [.slice (some ⟨w.heap.size + 10, 0, none⟩) 1 1] 3 u6).2.2.2.trans s6
  obtain ⟨u7, hu7⟩ : ∃ u, (v6.alloc (.cells #[.int .u8 121] 5)).freeze ⟨v6.heap.size, 1, none⟩ 1 = u := ⟨_, rfl⟩
  have cv7 := lit_conv v6 121 (w.heap.size + 10 + 1) sv
  rw [hu7] at cv7
  have b7 := lit_below v6 121
  have e7 := lit_block v6 121
  have s7 := lit_size v6 121
  rw [hu7] at b7 e7 s7
  rw [sv] at e7 s7
  rw [hv6] at cv7
  have hO8 : u7.cell? ⟨w.heap.size + 5, 8, none⟩ = some (.slice (some ⟨w.heap.size + 4, 0, none⟩) 1 1) := (blk_cell (blk_below Ov b7) 8).trans rfl
  have hO8f : u7.frozen? ⟨w.heap.size + 5, 8, none⟩ = false := blk_frozen (blk_below Ov b7) 8
  obtain ⟨v7, hv7⟩ : ∃ u, u = u7.setCell ⟨w.heap.size + 5, 8, none⟩ (.slice (some ⟨w.heap.size + 10 + 1, 0, none⟩) 1 1) := ⟨_, rfl⟩
  have B7 := below_step Bv b7
  have O7 : v7.heap[w.heap.size + 5]? = some (.cells #[.string (⟨#[97]⟩ : ByteArray), .int .i64 1, .int .i64 493, .slice none 0 0, .string (⟨#[]⟩ : ByteArray), .string (⟨#[97, 47, 98]⟩ : ByteArray), .int .i64 2, .int .i64 420, .slice (some ⟨w.heap.size + 10 + 1, 0, none⟩) 1 1, .string (⟨#[]⟩ : ByteArray), .string (⟨#[99]⟩ : ByteArray), .int .i64 3, .int .i64 0, .slice none 0 0, .string (⟨#[97, 47, 98]⟩ : ByteArray)] 31 (0, 0)) := by rw [hv7]; exact set_row_lit (blk_below Ov b7) 8 [.slice (some ⟨w.heap.size + 10 + 1, 0, none⟩) 1 1] _ (by show 9 ≤ 15; decide) rfl
  have far7 : ∀ {k : Nat} {o : Obj}, k ≠ w.heap.size + 5 → u7.heap[k]? = some o → v7.heap[k]? = some o := fun hk h => by rw [hv7]; exact (Below.heap_setCell u7 _ _ _ hk).trans h
  have T7 := far7 (by omega) (blk_below Tv b7)
  have D7 := far7 (by omega) (blk_below Dv b7)
  have E7 := far7 (by omega) (blk_below Ev b7)
  have F7 := far7 (by omega) e7
  have B7v : Below w.heap.size w v7 := by rw [hv7]; exact setCells_below B7 (by omega) 8 [.slice (some ⟨w.heap.size + 10 + 1, 0, none⟩) 1 1]
  have s7v : v7.heap.size = w.heap.size + 10 + 1 + 1 := by rw [hv7]; exact (setCells_same (w.heap.size + 5) [.slice (some ⟨w.heap.size + 10 + 1, 0, none⟩) 1 1] 8 u7).2.2.2.trans s7
  clear TU DU OU PU Tv Ov Dv Ev farV far7 b6 b7 e6 e7 B6 B7 Bv HBU
  have HV6 := Aside0.mk hv6
  have HU7 := Aside0.mk hu7
  have HV7 := Aside0.mk hv7
  clear hv6 hu7 hv7
  -- region 5: an entry is appended, there is room
  obtain ⟨x9, hx9⟩ : ∃ u, u = v7.alloc (.cells #[.string (⟨#[100]⟩ : ByteArray), .int .i64 1, .int .i64 0, .slice none 0 0, .string (⟨#[]⟩ : ByteArray)] 31) := ⟨_, rfl⟩
  have n9 : x9.heap[w.heap.size + 10 + 1 + 1]? = some (.cells #[.string (⟨#[100]⟩ : ByteArray), .int .i64 1, .int .i64 0, .slice none 0 0, .string (⟨#[]⟩ : ByteArray)] 31 (0, 0)) := by rw [hx9, ← s7v]; exact heap_alloc_new v7 _
  have o9 : ∀ {k : Nat} {o : Obj}, v7.heap[k]? = some o → x9.heap[k]? = some o := fun h => by rw [hx9]; exact blk_alloc h _
  have B9 : Below w.heap.size w x9 := by rw [hx9]; exact below_alloc B7v _
  obtain ⟨i0, hi, hz0, hz1, hz2⟩ := info_parts info31
  have hap := run_append_room_cells (P := Try.prog) x9 22 22 31 i0 Try.underlying22 hi (w.heap.size + 5) 0 2 3 ⟨w.heap.size + 10 + 1 + 1, 0, none⟩ 1 1 [.string (⟨#[100]⟩ : ByteArray), .int .i64 1, .int .i64 0, .slice none 0 0, .string (⟨#[]⟩ : ByteArray)]
   (by rw [hz1]; rfl)
   (fun j u hj => by rw [show (⟨w.heap.size + 10 + 1 + 1, 0, none⟩ : Addr).add j = ⟨w.heap.size + 10 + 1 + 1, j, none⟩ by (simp [Addr.add]; exact fun h => h.symm), blk_cell n9]; simpa using hj)
   (by intro u hu; simp only [List.mem_cons, List.not_mem_nil, or_false] at hu; rcases hu with rfl | rfl | rfl | rfl | rfl <;> rfl) (by decide)
   (fun j hj => by rw [hz1, blk_cell (o9 O7), Array.getElem?_eq_getElem (by have hj2 : j < 5 := hj; show 0 + 2 * 5 + j < 15; omega)]; rfl)
   (fun j _ => blk_frozen (o9 O7) _)
  rw [hz1] at hap
  obtain ⟨u9, hu9⟩ : ∃ u, u = x9.setCells (w.heap.size + 5) 10 [.string (⟨#[100]⟩ : ByteArray), .int .i64 1, .int .i64 0, .slice none 0 0, .string (⟨#[]⟩ : ByteArray)] := ⟨_, rfl⟩
  replace hap : (Builtin.append_ #[22, 22] 22 #[.slice (some ⟨w.heap.size + 5, 0, none⟩) 2 3, .slice (some ⟨w.heap.size + 10 + 1 + 1, 0, none⟩) 1 1]).run Try.prog x9 = .ok (.slice (some ⟨w.heap.size + 5, 0, none⟩) 3 3) u9 := by rw [hu9]; exact hap
  have OC := set_row_lit (o9 O7) 10 [.string (⟨#[100]⟩ : ByteArray), .int .i64 1, .int .i64 0, .slice none 0 0, .string (⟨#[]⟩ : ByteArray)] (#[.string (⟨#[97]⟩ : ByteArray), .int .i64 1, .int .i64 493, .slice none 0 0, .string (⟨#[]⟩ : ByteArray), .string (⟨#[97, 47, 98]⟩ : ByteArray), .int .i64 2, .int .i64 420, .slice (some ⟨w.heap.size + 10 + 1, 0, none⟩) 1 1, .string (⟨#[]⟩ : ByteArray), .string (⟨#[100]⟩ : ByteArray), .int .i64 1, .int .i64 0, .slice none 0 0, .string (⟨#[]⟩ : ByteArray)]) (by show 15 ≤ 15; decide) rfl
  have far9 : ∀ {k : Nat} {o : Obj}, k ≠ w.heap.size + 5 → v7.heap[k]? = some o → u9.heap[k]? = some o := fun hk h => by rw [hu9]; exact (setCells_far _ _ _ hk).trans (o9 h)
  rw [← hu9] at OC
  have T9 := far9 (by omega) T7
  have D9 := far9 (by omega) D7
  have E9 := far9 (by omega) E7
  have F9 := far9 (by omega) F7
  have BU9 : Below w.heap.size w u9 := by rw [hu9]; exact setCells_below B9 (by omega) _ _
  have CT := Aside0.mk (rows_C (l := turnedL) (n := 2) (cap := 3) T9 rfl (by decide) (by decide) rfl (Reps.snoc (Reps.snoc (Reps_nil0) (show k31.K u9 ⟨⟨#[99]⟩, 3, 0, [], ⟨#[97, 47, 98]⟩⟩ _ from k31_mk u9 ⟨⟨#[99]⟩, 3, 0, [], ⟨#[97, 47, 98]⟩⟩ (Nat.le_refl 0) (Kd.C_nil _ _)) rfl) (show k31.K u9 ⟨⟨#[97]⟩, 1, 493, [], ⟨#[]⟩⟩ _ from k31_mk u9 ⟨⟨#[97]⟩, 1, 493, [], ⟨#[]⟩⟩ (Nat.le_refl 0) (Kd.C_nil _ _)) rfl))
  have CD := Aside0.mk (rows_C (l := dataL) (n := 1) (cap := 3) D9 rfl (by decide) (by decide) rfl (Reps.snoc (Reps_nil0) (show k31.K u9 ⟨⟨#[97]⟩, 1, 493, [120], ⟨#[]⟩⟩ _ from k31_mk u9 ⟨⟨#[97]⟩, 1, 493, [120], ⟨#[]⟩⟩ (Nat.le_refl 1) (byte_C E9)) rfl))
  have CO := Aside0.mk (rows_C (l := otherL) (n := 3) (cap := 3) OC rfl (by decide) (by decide) rfl (Reps.snoc (Reps.snoc (Reps.snoc (Reps_nil0) (show k31.K u9 ⟨⟨#[97]⟩, 1, 493, [], ⟨#[]⟩⟩ _ from k31_mk u9 ⟨⟨#[97]⟩, 1, 493, [], ⟨#[]⟩⟩ (Nat.le_refl 0) (Kd.C_nil _ _)) rfl) (show k31.K u9 ⟨⟨#[97, 47, 98]⟩, 2, 420, [121], ⟨#[]⟩⟩ _ from k31_mk u9 ⟨⟨#[97, 47, 98]⟩, 2, 420, [121], ⟨#[]⟩⟩ (Nat.le_refl 1) (byte_C F9)) rfl) (show k31.K u9 ⟨⟨#[100]⟩, 1, 0, [], ⟨#[]⟩⟩ _ from k31_mk u9 ⟨⟨#[100]⟩, 1, 0, [], ⟨#[]⟩⟩ (Nat.le_refl 0) (Kd.C_nil _ _)) rfl))
  have HB9 := Aside0.mk BU9
  rw [hx9, HV7.out] at hap
  clear OC T9 D9 E9 F9 far9 BU9 hx9 hu9 n9 o9 B9 hi hz0 hz1 hz2 T7 D7 E7 F7 O7 B7v s7v
  have HAP := Aside0.mk hap
  clear hap
  have QS10 := Aside0.mk (show satchellaw08_sample.f = some sampleTree from rfl)
  have QS12 := Aside0.mk (show satchellaw08_sample.f = some sampleTree from rfl)
  have QS14 := Aside0.mk (show satchellaw08_sample.f = some sampleTree from rfl)
  have QS20 := Aside0.mk (show satchellaw08_sample.f = some sampleTree from rfl)
  go_wp2_with (first
   | ((with_reducible refine gate_builtin (b := .append) (xs := #[.tmp 38, .tmp 40]) rfl ?_); refine append_event (v := .slice (some ⟨w.heap.size + 5, 0, none⟩) 3 3) (w1 := u9) rfl (.tmp 38) (.tmp 40) 22 22 rfl _ _ rfl rfl HAP.out ?_)
   | (go_at_call 35; have G_ := QS10; refine (satchellaw08_sample.calls sampleTree _ QS10.out).mono ?_; rintro e w10 ⟨v10, rfl, hn, hb⟩; obtain ⟨A10, c10, rfl⟩ := Kd.N_slice hn; have HC10 := Aside0.mk (Kd.N_reads' hn).2.2; have HL10 := Aside0.mk (Kd.N_reads' hn).2.1; have HX10 := Aside0.mk (below_step (Below.refl u9.heap.size u9) hb); clear hn hb; clear G_ QS10)
   | (go_at_call 32; refine (tree_Drop.calls 40 A10 c10 sampleTree ⟨#[98]⟩ [] 6 _ HC10.out HL10.out known_drop).mono ?_; rintro e w11 ⟨v11, rfl, hs, hb⟩; have HX11 := Aside0.mk (below_step HX10.out hb); obtain ⟨A11, c11, rfl⟩ := Kd.R_slice (Kd.S_R hs); clear hs hb)
   | (go_at_call 35; have G_ := QS12; refine (satchellaw08_sample.calls sampleTree _ QS12.out).mono ?_; rintro e w12 ⟨v12, rfl, hn, hb⟩; obtain ⟨A12, c12, rfl⟩ := Kd.N_slice hn; have HC12 := Aside0.mk (Kd.N_reads' hn).2.2; have HL12 := Aside0.mk (Kd.N_reads' hn).2.1; have HX12 := Aside0.mk (below_step HX11.out hb); clear hn hb; clear G_ QS12)
   | (go_at_call 30; refine (tree_Put.calls 40 A12 c12 sampleTree ⟨#[97]⟩ 2 0 none 0 [] ⟨#[]⟩ [] 6 _ HC12.out HL12.out (Kd.C_nil _ _) (Nat.le_refl _) known_put).mono ?_; rintro e w13 ⟨v13, rfl, hs, hb⟩; have HX13 := Aside0.mk (below_step HX12.out hb); obtain ⟨A13, c13, rfl⟩ := Kd.R_slice (Kd.S_R hs); clear hs hb)
   | (go_at_call 35; have G_ := QS14; refine (satchellaw08_sample.calls sampleTree _ QS14.out).mono ?_; rintro e w14 ⟨v14, rfl, hn, hb⟩; obtain ⟨A14, c14, rfl⟩ := Kd.N_slice hn; have HC14 := Aside0.mk (Kd.N_reads' hn).2.2; have HL14 := Aside0.mk (Kd.N_reads' hn).2.1; have HX14 := Aside0.mk (below_step HX13.out hb); clear hn hb; clear G_ QS14)
   | (go_at_call 25; refine (tree_Diff.calls 40 A14 c14 sampleTree (some ⟨w.heap.size + 5, 0, none⟩) 3 otherL _ _ _ _ HC14.out HL14.out (Kd.C_below CO.out HX14.out) (Nat.le_refl _) known_diff).mono ?_; rintro e w15 ⟨v15, v16, v17, rfl, h1, h2, h3, hb⟩; have HX15 := Aside0.mk (below_step HX14.out hb); obtain ⟨A15, c15, rfl⟩ := Kd.R_slice h1; obtain ⟨A16, c16, rfl⟩ := Kd.R_slice h2; obtain ⟨A17, c17, rfl⟩ := Kd.R_slice h3; have H15 := Aside0.mk (Kd.R_reads' h1).2; have H16 := Aside0.mk (Kd.R_reads' h2).2; have H17 := Aside0.mk (Kd.R_reads' h3).2; have HY15 := Aside0.mk (Below.refl w15.heap.size w15); clear h1 h2 h3 hb)
   | (go_at_call 36; have G_ := CT; refine (satchellaw08_fails.calls 40 (some ⟨w.heap.size + 1, 0, none⟩) 3 turnedL 7 1 true _ (Kd.C_below CT.out HX15.out) (by decide) known_turned).mono ?_; rintro e w18 ⟨rfl, hb⟩; have HX18 := Aside0.mk (below_step HX15.out hb); have HY18 := Aside0.mk (below_step HY15.out hb); clear hb; clear G_ CT)
   | (go_at_call 36; have G_ := CD; refine (satchellaw08_fails.calls 40 (some ⟨w.heap.size + 3, 0, none⟩) 3 dataL 2 0 true _ (Kd.C_below CD.out HX18.out) (by decide) known_data).mono ?_; rintro e w19 ⟨rfl, hb⟩; have HX19 := Aside0.mk (below_step HX18.out hb); have HY19 := Aside0.mk (below_step HY18.out hb); clear hb; clear G_ CD)
   | (go_at_call 35; have G_ := QS20; refine (satchellaw08_sample.calls sampleTree _ QS20.out).mono ?_; rintro e w20 ⟨v20, rfl, hn, hb⟩; obtain ⟨A20, c20, rfl⟩ := Kd.N_slice hn; have HC20 := Aside0.mk (Kd.N_reads' hn).2.2; have HL20 := Aside0.mk (Kd.N_reads' hn).2.1; have HX20 := Aside0.mk (below_step HX19.out hb); have HY20 := Aside0.mk (below_step HY19.out hb); clear hn hb; clear G_ QS20)
   | (go_at_call 22; refine (tree_Size.calls 40 A20 c20 sampleTree 1 _ HC20.out HL20.out known_size).mono ?_; rintro e w21 ⟨rfl, hb⟩; have HX21 := Aside0.mk (below_step HX20.out hb); have HY21 := Aside0.mk (below_step HY20.out hb); clear hb)
   | (go_at_call 10; refine (satchellaw08_awake.calls 40 true _ known_awake).mono ?_; rintro e w22 ⟨rfl, hb⟩; have HX22 := Aside0.mk (below_step HX21.out hb); have HY22 := Aside0.mk (below_step HY21.out hb); clear hb)
   | (go_at_call 27; have G_ := H15; refine (satchelkit_SameTexts.calls 40 A15 c15 [⟨#[100]⟩] (some ⟨w22.heap.size, 0, none⟩) 1 [⟨#[100]⟩] true _ (Kd.C_below H15.out.2 (below_alloc HY22.out (.cells #[.string (⟨#[100]⟩ : ByteArray)] 9))) H15.out.1 (rowS_C (heap_alloc_new w22 (.cells #[.string (⟨#[100]⟩ : ByteArray)] 9))) (Nat.le_refl _) (by kernel_rfl)).mono ?_; rintro e w23 ⟨rfl, hb⟩; have hb := Drawn0.below hb; have HX23 := Aside0.mk (below_step (below_alloc HX22.out (.cells #[.string (⟨#[100]⟩ : ByteArray)] 9)) hb); have HY23 := Aside0.mk (below_step (below_alloc HY22.out (.cells #[.string (⟨#[100]⟩ : ByteArray)] 9)) hb); clear hb; clear G_ H15)
   | (go_at_call 27; have G_ := H16; refine (satchelkit_SameTexts.calls 40 A16 c16 [⟨#[99]⟩] (some ⟨w23.heap.size, 0, none⟩) 1 [⟨#[99]⟩] true _ (Kd.C_below H16.out.2 (below_alloc HY23.out (.cells #[.string (⟨#[99]⟩ : ByteArray)] 9))) H16.out.1 (rowS_C (heap_alloc_new w23 (.cells #[.string (⟨#[99]⟩ : ByteArray)] 9))) (Nat.le_refl _) (by kernel_rfl)).mono ?_; rintro e w24 ⟨rfl, hb⟩; have hb := Drawn0.below hb; have HX24 := Aside0.mk (below_step (below_alloc HX23.out (.cells #[.string (⟨#[99]⟩ : ByteArray)] 9)) hb); have HY24 := Aside0.mk (below_step (below_alloc HY23.out (.cells #[.string (⟨#[99]⟩ : ByteArray)] 9)) hb); clear hb; clear G_ H16)
   | (go_at_call 27; have G_ := H17; refine (satchelkit_SameTexts.calls 40 A17 c17 [⟨#[97, 47, 98]⟩] (some ⟨w24.heap.size, 0, none⟩) 1 [⟨#[97, 47, 98]⟩] true _ (Kd.C_below H17.out.2 (below_alloc HY24.out (.cells #[.string (⟨#[97, 47, 98]⟩ : ByteArray)] 9))) H17.out.1 (rowS_C (heap_alloc_new w24 (.cells #[.string (⟨#[97, 47, 98]⟩ : ByteArray)] 9))) (Nat.le_refl _) (by kernel_rfl)).mono ?_; rintro e w25 ⟨rfl, hb⟩; have hb := Drawn0.below hb; have HX25 := Aside0.mk (below_step (below_alloc HX24.out (.cells #[.string (⟨#[97, 47, 98]⟩ : ByteArray)] 9)) hb); have HY25 := Aside0.mk (below_step (below_alloc HY24.out (.cells #[.string (⟨#[97, 47, 98]⟩ : ByteArray)] 9)) hb); clear hb; clear G_ H17))
  go_ret
  exact ⟨rfl, below_step HB9.out HX25.out⟩
end Go.Proofs.Ytopkmchkfcjjmaa.X
end
