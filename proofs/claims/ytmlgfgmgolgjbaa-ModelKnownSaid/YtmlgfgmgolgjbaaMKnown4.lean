/- Functions, one behind the other: a plain Lean function for each, and the proof that the call comes to its answer, whatever the world (conditions: what the arguments read as); and plain laws of them. -/
import Derived.Test.YtmlgfgmgolgjbaaMKnown2
import Derived.Test.YtmlgfgmgolgjbaaMKnown3
import Derived.BigRegion
import Derived.Shelf.SlIterI.Nil
import Derived.Shelf.SortM.Plain
import Derived.Shelf.SortM.SortNone
import Derived.Ground.GgzProg
import Derived.Ground.SlgmProg
import Derived.Test.YtmlgfgmgolgjbaaProg
/-! ## RetainSound -/
section
namespace Go.Proofs.Ytmlgfgmgolgjbaa.X
open Go.RowKit Go.Proofs.YtmlgfgmgolgjbaaW.PrintWords Go.Proofs.YtmlgfgmgolgjbaaW.PrintLast Go.Proofs.YtmlgfgmgolgjbaaW.PrintMore
attribute [local go_sem] max2_int min2_int max_two min_two max_three min_three max_four min_four   -- for this text's walks alone
set_option linter.unusedVariables false
set_option linter.unusedSimpArgs false

attribute [local go_sem] str_gtr fld_fault0 fld_fault1
/-! ### retain_Sound: function 59 -/
def retain_Sound.l0 : Nat → Int → List (S77) → Int → Int → Option (Bool)
 | 0, _, _, _, _ => none
 | k + 1, x3, x6, x7, x8 => if x8 < x7 then (if 0 ≤ x8 then (if x8 < (x6.length : Int) then (if ((rd_T77 x6 x8).f0) ≤ x3 then (some false) else (if ((rd_T77 x6 x8).f0) > 2147483647 then (some false) else ((retain_within.f ((rd_T77 x6 x8).f1) 0 2147483647).bind fun t166 => (if t166 = true then (retain_Sound.l0 k ((rd_T77 x6 x8).f0) x6 x7 (wrap64 (x8 + 1))) else (some false))))) else (none)) else (none)) else (some true)
def retain_Sound.f (k : Nat) (l0 : List (S77)) : Option (Bool) := retain_Sound.l0 k 0 l0 (l0.length : Int) 0
theorem retain_Sound.mono_l : ∀ k, (∀ y0 y1 y2 y3, LeO (retain_Sound.l0 k y0 y1 y2 y3) (retain_Sound.l0 (k + 1) y0 y1 y2 y3))
 | 0 => fun _ _ _ _ r h => by simp [retain_Sound.l0] at h
 | k + 1 => by
  have ih0 := retain_Sound.mono_l k
  ·intro y0 y1 y2 y3
   unfold retain_Sound.l0
   repeat' first
   | (with_reducible exact ih0 _ _ _ _)
   | (with_reducible exact LeO.refl _)
   | (with_reducible exact LeO.none _)
   | (with_reducible refine LeO.ite ?_ ?_)
   | (with_reducible refine LeO.bind ?_ (fun _ => ?_))
   | exact ih0 _ _ _ _
   | exact LeO.none _
   | refine LeO.ite ?_ ?_
   | refine LeO.bind ?_ (fun _ => ?_)
theorem retain_Sound.mono : ∀ a0 k, LeO (retain_Sound.f k a0) (retain_Sound.f (k + 1) a0) := by
 intro a0 k
 have ih0 := retain_Sound.mono_l k
 unfold retain_Sound.f
 repeat' first
   | (with_reducible exact ih0 _ _ _ _)
   | (with_reducible exact LeO.refl _)
   | (with_reducible exact LeO.none _)
   | (with_reducible refine LeO.ite ?_ ?_)
   | (with_reducible refine LeO.bind ?_ (fun _ => ?_))
   | exact ih0 _ _ _ _
   | exact LeO.none _
   | refine LeO.ite ?_ ?_
   | refine LeO.bind ?_ (fun _ => ?_)
set_option maxHeartbeats 8000000 in
set_option maxRecDepth 100000 in
theorem retain_Sound.calls (k : Nat) (A0 : Option Addr) (c0 : Nat) (l0 : List (S77)) (r : Bool) (w : World) (hr0 : Kd.C k77 w A0 l0.length l0) (hc0 : l0.length ≤ c0) (h : retain_Sound.f k l0 = some r) :
  Calls Try.prog 59 #[.slice A0 l0.length c0] w fun e w' => e = .returned (.bool r) ∧ Below w.heap.size w w' := by
 have hu77 := Try.underlying77
 have HR0 := Aside0.mk hr0
 have HC0 := Aside0.mk hc0
 clear hr0 hc0
 have HB := Aside0.mk (Below.refl w.heap.size w)
 have H : (retain_Sound.l0 k 0 l0 (l0.length : Int) 0) = some r := h
 clear h
 have H' := Aside0.mk H
 clear H
 go_enter Try.func59, Try.ntmps59
 go_wp2
 go_loopg [3, 8] k (fun kq v3 v8 w' => ∃ (x3_1 : Int) (x8_1 : Int), v3 = .int .i64 x3_1 ∧ v8 = .int .i64 x8_1 ∧ Aside0 (retain_Sound.l0 kq x3_1 l0 (l0.length : Int) x8_1 = some r) ∧ Aside0 (kq ≤ k) ∧ Aside0 (Below w.heap.size w w'))
 case atStart => exact ⟨(0), (0), (by first | rfl | (simp; done) | (simp [*]; done)), (by first | rfl | (simp; done) | (simp [*]; done)), H', ⟨Nat.le_refl _⟩, ⟨by repeat (first | (with_reducible first | exact HB.out | apply below_alloc | apply pw_below_drewN | apply below_drew1) | exact HB.out)⟩⟩
 case round =>
  clear H'
  obtain ⟨x3_1, x8_1, rfl, rfl, HA, HK1, HB⟩ := hrel
  cases gk with
  | zero => exact absurd HA.out (by simp [retain_Sound.l0])
  | succ k1 =>
   have H := HA.out
   clear HA
   simp only [retain_Sound.l0] at H
   by_cases c2 : x8_1 < (l0.length : Int)
   ·rw [if_pos c2] at H
    have c2b0 : decide (x8_1 < (l0.length : Int)) = true := decide_eq_true c2
    clear c2
    by_cases c3 : 0 ≤ x8_1
    ·rw [if_pos c3] at H
     have c3b0 : decide (0 ≤ x8_1) = true := decide_eq_true c3
     clear c3
     by_cases c4 : x8_1 < (l0.length : Int)
     ·rw [if_pos c4] at H
      have c4b0 : decide (x8_1 < (l0.length : Int)) = true := decide_eq_true c4
      clear c4
      by_cases c5 : ((rd_T77 l0 x8_1).f0) ≤ x3_1
      ·rw [if_pos c5] at H
       have c5b0 : decide (((rd_T77 l0 x8_1).f0) ≤ x3_1) = true := decide_eq_true c5
       clear c5
       obtain rfl := Option.some.inj H
       have p164 : 0 ≤ (x8_1 : Int) := of_decide_eq_true (by first | (with_reducible assumption) | assumption)
       have q164 : x8_1 < (l0.length : Int) := of_decide_eq_true (by first | (with_reducible assumption) | assumption)
       obtain ⟨ad164, e164, hx164_0, hx164_1⟩ := at_T77 HR0.out x8_1 p164 q164
       cases e164
       replace hx164_0 := (HB.out.cell (World.block_lt_of_cell? w _ hx164_0)).trans hx164_0
       replace hx164_1 := (HB.out.cell (World.block_lt_of_cell? w _ hx164_1)).trans hx164_1
       replace p164 := eq_true p164
       replace q164 := eq_true q164
       go_wp2_with (first | ((with_reducible refine gate_dst (N := 5) rfl ?_); refine box_event ?hg (N := 5) ?hd (cs := #[.int .i64 0, .int .i64 0]) (t := 77) ?hr ?_; (case hd => rfl); (case hg => rfl); (case hr => first | (go_simp; done) | (go_simp; rfl)); intro gb165 hg w6 hbox hb; have n0_ := Aside0.mk (below_step (by repeat (first | (with_reducible first | exact HB.out | apply below_alloc | apply pw_below_drewN | apply below_drew1) | exact HB.out)) hb); have n1_ := Aside0.mk (hbox); have n2_ := Aside0.mk ((by rw [hg]; exact (below_size (by repeat (first | (with_reducible first | exact HB.out | apply below_alloc | apply pw_below_drewN | apply below_drew1) | exact HB.out))) : w.heap.size ≤ gb165)); have n3_ := Aside0.mk ((by rw [hg]; exact (below_size (by repeat (first | (with_reducible first | exact HB.out | apply below_alloc | apply pw_below_drewN | apply below_drew1) | exact HB.out))) : w.heap.size ≤ gb165)); clear HB; have HB := n0_; have BK165 := n1_; have GW165 := n2_; have GE165 := n3_; clear n0_ n1_ n2_ n3_; clear hb hbox hg; have hcz7_0 : w6.cell? ⟨gb165, 0, none⟩ = some (.int .i64 0) := (blk_cell BK165.out 0).trans rfl; have hcz7_1 : w6.cell? ⟨gb165, 1, none⟩ = some (.int .i64 0) := (blk_cell BK165.out 1).trans rfl; have hfz7_0 := blk_frozen BK165.out 0; have hfz7_1 := blk_frozen BK165.out 1))
       go_ret
       exact ⟨by first | rfl | (simp [errW_none, errW_some] <;> rfl) | (simp [*, errW_none, errW_some] <;> rfl) | (simp [bt, *]; done) | (simp_all [bt]; done), by repeat (first | (with_reducible first | exact HB.out | apply below_alloc | apply pw_below_drewN | apply below_drew1 | refine below_set ?_ GE165.out) | exact HB.out)⟩
      ·rw [if_neg c5] at H
       have c5b0 : decide (((rd_T77 l0 x8_1).f0) ≤ x3_1) = false := decide_eq_false c5
       clear c5
       by_cases c8 : ((rd_T77 l0 x8_1).f0) > 2147483647
       ·rw [if_pos c8] at H
        have c8b0 : decide (2147483647 < ((rd_T77 l0 x8_1).f0)) = true := decide_eq_true c8
        clear c8
        obtain rfl := Option.some.inj H
        have p164 : 0 ≤ (x8_1 : Int) := of_decide_eq_true (by first | (with_reducible assumption) | assumption)
        have q164 : x8_1 < (l0.length : Int) := of_decide_eq_true (by first | (with_reducible assumption) | assumption)
        obtain ⟨ad164, e164, hx164_0, hx164_1⟩ := at_T77 HR0.out x8_1 p164 q164
        cases e164
        replace hx164_0 := (HB.out.cell (World.block_lt_of_cell? w _ hx164_0)).trans hx164_0
        replace hx164_1 := (HB.out.cell (World.block_lt_of_cell? w _ hx164_1)).trans hx164_1
        replace p164 := eq_true p164
        replace q164 := eq_true q164
        go_wp2_with (first | ((with_reducible refine gate_dst (N := 5) rfl ?_); refine box_event ?hg (N := 5) ?hd (cs := #[.int .i64 0, .int .i64 0]) (t := 77) ?hr ?_; (case hd => rfl); (case hg => rfl); (case hr => first | (go_simp; done) | (go_simp; rfl)); intro gb165 hg w9 hbox hb; have n0_ := Aside0.mk (below_step (by repeat (first | (with_reducible first | exact HB.out | apply below_alloc | apply pw_below_drewN | apply below_drew1) | exact HB.out)) hb); have n1_ := Aside0.mk (hbox); have n2_ := Aside0.mk ((by rw [hg]; exact (below_size (by repeat (first | (with_reducible first | exact HB.out | apply below_alloc | apply pw_below_drewN | apply below_drew1) | exact HB.out))) : w.heap.size ≤ gb165)); have n3_ := Aside0.mk ((by rw [hg]; exact (below_size (by repeat (first | (with_reducible first | exact HB.out | apply below_alloc | apply pw_below_drewN | apply below_drew1) | exact HB.out))) : w.heap.size ≤ gb165)); clear HB; have HB := n0_; have BK165 := n1_; have GW165 := n2_; have GE165 := n3_; clear n0_ n1_ n2_ n3_; clear hb hbox hg; have hcz10_0 : w9.cell? ⟨gb165, 0, none⟩ = some (.int .i64 0) := (blk_cell BK165.out 0).trans rfl; have hcz10_1 : w9.cell? ⟨gb165, 1, none⟩ = some (.int .i64 0) := (blk_cell BK165.out 1).trans rfl; have hfz10_0 := blk_frozen BK165.out 0; have hfz10_1 := blk_frozen BK165.out 1))
        go_ret
        exact ⟨by first | rfl | (simp [errW_none, errW_some] <;> rfl) | (simp [*, errW_none, errW_some] <;> rfl) | (simp [bt, *]; done) | (simp_all [bt]; done), by repeat (first | (with_reducible first | exact HB.out | apply below_alloc | apply pw_below_drewN | apply below_drew1 | refine below_set ?_ GE165.out) | exact HB.out)⟩
       ·rw [if_neg c8] at H
        have c8b0 : decide (2147483647 < ((rd_T77 l0 x8_1).f0)) = false := decide_eq_false c8
        clear c8
        replace H := Option.bind_eq_some_iff.mp H
        obtain ⟨t166, A110, H⟩ := H
        replace H : (if t166 = true then (retain_Sound.l0 k1 ((rd_T77 l0 x8_1).f0) l0 (l0.length : Int) (wrap64 (x8_1 + 1))) else (some false)) = some r := H
        have A11 := Aside0.mk A110
        clear A110
        by_cases c12 : t166 = true
        ·subst c12
         have H1 : (retain_Sound.l0 k1 ((rd_T77 l0 x8_1).f0) l0 (l0.length : Int) (wrap64 (x8_1 + 1))) = some r := by rw [if_pos rfl] at H; exact H
         clear H
         have H := H1
         clear H1
         have H' := Aside0.mk H
         clear H
         have p164 : 0 ≤ (x8_1 : Int) := of_decide_eq_true (by first | (with_reducible assumption) | assumption)
         have q164 : x8_1 < (l0.length : Int) := of_decide_eq_true (by first | (with_reducible assumption) | assumption)
         obtain ⟨ad164, e164, hx164_0, hx164_1⟩ := at_T77 HR0.out x8_1 p164 q164
         cases e164
         replace hx164_0 := (HB.out.cell (World.block_lt_of_cell? w _ hx164_0)).trans hx164_0
         replace hx164_1 := (HB.out.cell (World.block_lt_of_cell? w _ hx164_1)).trans hx164_1
         replace p164 := eq_true p164
         replace q164 := eq_true q164
         go_wp2_with (first | ((with_reducible refine gate_dst (N := 5) rfl ?_); refine box_event ?hg (N := 5) ?hd (cs := #[.int .i64 0, .int .i64 0]) (t := 77) ?hr ?_; (case hd => rfl); (case hg => rfl); (case hr => first | (go_simp; done) | (go_simp; rfl)); intro gb165 hg w13 hbox hb; have n0_ := Aside0.mk (below_step (by repeat (first | (with_reducible first | exact HB.out | apply below_alloc | apply pw_below_drewN | apply below_drew1) | exact HB.out)) hb); have n1_ := Aside0.mk (hbox); have n2_ := Aside0.mk ((by rw [hg]; exact (below_size (by repeat (first | (with_reducible first | exact HB.out | apply below_alloc | apply pw_below_drewN | apply below_drew1) | exact HB.out))) : w.heap.size ≤ gb165)); have n3_ := Aside0.mk ((by rw [hg]; exact (below_size (by repeat (first | (with_reducible first | exact HB.out | apply below_alloc | apply pw_below_drewN | apply below_drew1) | exact HB.out))) : w.heap.size ≤ gb165)); clear HB; have HB := n0_; have BK165 := n1_; have GW165 := n2_; have GE165 := n3_; clear n0_ n1_ n2_ n3_; clear hb hbox hg; have hcz14_0 : w13.cell? ⟨gb165, 0, none⟩ = some (.int .i64 0) := (blk_cell BK165.out 0).trans rfl; have hcz14_1 : w13.cell? ⟨gb165, 1, none⟩ = some (.int .i64 0) := (blk_cell BK165.out 1).trans rfl; have hfz14_0 := blk_frozen BK165.out 0; have hfz14_1 := blk_frozen BK165.out 1) | (go_at_call 72; (with_reducible refine (retain_within.calls ((rd_T77 l0 x8_1).f1) 0 2147483647 true _ A11.out).mono ?_); rintro e w' ⟨rfl, ⟨nd, rfl⟩⟩))
         go_roundg k1
         case measure => have := HK1.out; omega
         case rel => exact ⟨((rd_T77 l0 x8_1).f0), (wrap64 (x8_1 + 1)), (by first | rfl | (simp; done) | (simp [*]; done)), (by first | rfl | (simp; done) | (simp [*]; done)), H', ⟨by have := HK1.out; omega⟩, ⟨by repeat (first | (with_reducible first | exact HB.out | apply below_alloc | apply pw_below_drewN | apply below_drew1 | refine below_set ?_ GE165.out) | exact HB.out)⟩⟩
        ·replace c12 := Bool.eq_false_iff.mpr c12
         subst c12
         have H1 : (some false) = some r := by rw [if_neg (show ¬ (false = true) by decide)] at H; exact H
         clear H
         have H := H1
         clear H1
         obtain rfl := Option.some.inj H
         have p164 : 0 ≤ (x8_1 : Int) := of_decide_eq_true (by first | (with_reducible assumption) | assumption)
         have q164 : x8_1 < (l0.length : Int) := of_decide_eq_true (by first | (with_reducible assumption) | assumption)
         obtain ⟨ad164, e164, hx164_0, hx164_1⟩ := at_T77 HR0.out x8_1 p164 q164
         cases e164
         replace hx164_0 := (HB.out.cell (World.block_lt_of_cell? w _ hx164_0)).trans hx164_0
         replace hx164_1 := (HB.out.cell (World.block_lt_of_cell? w _ hx164_1)).trans hx164_1
         replace p164 := eq_true p164
         replace q164 := eq_true q164
         go_wp2_with (first | ((with_reducible refine gate_dst (N := 5) rfl ?_); refine box_event ?hg (N := 5) ?hd (cs := #[.int .i64 0, .int .i64 0]) (t := 77) ?hr ?_; (case hd => rfl); (case hg => rfl); (case hr => first | (go_simp; done) | (go_simp; rfl)); intro gb165 hg w15 hbox hb; have n0_ := Aside0.mk (below_step (by repeat (first | (with_reducible first | exact HB.out | apply below_alloc | apply pw_below_drewN | apply below_drew1) | exact HB.out)) hb); have n1_ := Aside0.mk (hbox); have n2_ := Aside0.mk ((by rw [hg]; exact (below_size (by repeat (first | (with_reducible first | exact HB.out | apply below_alloc | apply pw_below_drewN | apply below_drew1) | exact HB.out))) : w.heap.size ≤ gb165)); have n3_ := Aside0.mk ((by rw [hg]; exact (below_size (by repeat (first | (with_reducible first | exact HB.out | apply below_alloc | apply pw_below_drewN | apply below_drew1) | exact HB.out))) : w.heap.size ≤ gb165)); clear HB; have HB := n0_; have BK165 := n1_; have GW165 := n2_; have GE165 := n3_; clear n0_ n1_ n2_ n3_; clear hb hbox hg; have hcz16_0 : w15.cell? ⟨gb165, 0, none⟩ = some (.int .i64 0) := (blk_cell BK165.out 0).trans rfl; have hcz16_1 : w15.cell? ⟨gb165, 1, none⟩ = some (.int .i64 0) := (blk_cell BK165.out 1).trans rfl; have hfz16_0 := blk_frozen BK165.out 0; have hfz16_1 := blk_frozen BK165.out 1) | (go_at_call 72; (with_reducible refine (retain_within.calls ((rd_T77 l0 x8_1).f1) 0 2147483647 false _ A11.out).mono ?_); rintro e w' ⟨rfl, ⟨nd, rfl⟩⟩))
         go_ret
         exact ⟨by first | rfl | (simp [errW_none, errW_some] <;> rfl) | (simp [*, errW_none, errW_some] <;> rfl) | (simp [bt, *]; done) | (simp_all [bt]; done), by repeat (first | (with_reducible first | exact HB.out | apply below_alloc | apply pw_below_drewN | apply below_drew1 | refine below_set ?_ GE165.out) | exact HB.out)⟩
     ·rw [if_neg c4] at H
      exact absurd H (by simp)
    ·rw [if_neg c3] at H
     exact absurd H (by simp)
   ·rw [if_neg c2] at H
    have c2b0 : decide (x8_1 < (l0.length : Int)) = false := decide_eq_false c2
    clear c2
    obtain rfl := Option.some.inj H
    go_wp2
    go_ret
    exact ⟨by first | rfl | (simp [errW_none, errW_some] <;> rfl) | (simp [*, errW_none, errW_some] <;> rfl) | (simp [bt, *]; done) | (simp_all [bt]; done), by repeat (first | (with_reducible first | exact HB.out | apply below_alloc | apply pw_below_drewN | apply below_drew1) | exact HB.out)⟩

end Go.Proofs.Ytmlgfgmgolgjbaa.X
end

/-! ## mRetain -/
section
namespace Go.Proofs.Ytmlgfgmgolgjbaa.X
open Go.RowKit Go.Maps Go.Proofs.YtmlgfgmgolgjbaaW.PrintWords Go.Proofs.YtmlgfgmgolgjbaaW.PrintLast Go.Proofs.YtmlgfgmgolgjbaaW.PrintMore
set_option linter.unusedVariables false
set_option linter.unusedSimpArgs false
abbrev setE : Value → Option (DataW Unit × List MemPlace) := unitElem
set_option maxRecDepth 100000 in
theorem retain_ends.zero (A : Option Addr) (n c : Nat) (p0 p2 : Int) (w : World) :
  Calls Try.prog 60 #[.slice A n c, .agg #[.int .i64 p0, .int .i64 0, .int .i64 p2]] w fun e w' => ∃ b, e = .returned (.map (some b)) ∧ w.heap.size ≤ b ∧ w'.ownsMap Try.prog 3 setE b 0 (.map []) ∧ Below w.heap.size w w' := by
 have hmm := @run_makeMap Try.prog
 have hc1 : (((w.alloc (.cells #[.int .i64 p0, .int .i64 0, .int .i64 p2] 29)).alloc (.map #[] 0)).alloc (.map #[] 0)).cell? ⟨w.heap.size, 1, none⟩ = some (.int .i64 0) := (blk_cell (blk_alloc (blk_alloc (heap_alloc_new w _) _) _) 1).trans rfl
 go_enter Try.func60, Try.ntmps60
 go_wp2
 go_ret
 exact ⟨_, rfl, by simp, by
  have h1 := (World.ownsMap_made (w.alloc (.cells #[.int .i64 p0, .int .i64 0, .int .i64 p2] 29)) Try.prog 3 setE).alloc (.map #[] 0)
  rw [World.size_alloc] at h1
  exact h1, (((Below.refl _ w).alloc (Nat.le_refl _) _).alloc (by simp) _).alloc (by simp; omega) _⟩
theorem zero_unit (w : World) : (zeroValue 116).run Try.prog w = .ok (.agg #[]) w := by kernel_rfl
theorem set_look {w : World} {b n : Nat} {D : DataW Unit} (h : w.ownsMap Try.prog 3 setE b n D) {k : Int} (hk : (Lit.int .i64 k).wf = true) :
  (Instr.lookup 114 (.map (some b)) (.int .i64 k) true).run Try.prog w = .ok (.tuple #[.agg #[], .bool (Maps.has D (.int .i64 k))]) w := by
 obtain ⟨v, ps, hrun, hv⟩ := h.look_ok (int_keyed Try.underlying3) Try.underlying114 (zero_unit w) unitElem_mk (int_key hk)
 obtain ⟨rfl, _⟩ := unitElem_inv hv
 exact hrun
/-- What stays, by the ends that are told. -/
def staysV (D : DataW Unit) (num i len last : Int) : Bool := Maps.has D (.int .i64 num) || decide (i = len - 1) || decide (len - last ≤ i)
set_option maxHeartbeats 1000000 in
set_option maxRecDepth 100000 in
theorem told1.calls {B9 B3 B4 b nn : Nat} {D : DataW Unit} {A : Option Addr} {c : Nat} {xs : List S77} {last sp sps : Int} {w : World} (h9 : w.heap[B9]? = some (.cells #[.map (some b)] 114 (0, 0))) (h3 : w.heap[B3]? = some (.cells #[.slice A xs.length c] 75 (0, 0))) (h4 : w.heap[B4]? = some (.cells #[.int .i64 last, .int .i64 sp, .int .i64 sps] 29 (0, 0)))
  (hD : w.ownsMap Try.prog 3 setE b nn D) (hC : Kd.C k77 w A xs.length xs) (hlen : xs.length < 1000) {i : Nat} (hi : i < xs.length) (hl0 : 0 ≤ last) (hl1 : last ≤ 64) (hwf : (Lit.int .i64 (rd_T77 xs (i : Int)).f0).wf = true) {r : Bool} (hr : staysV D (rd_T77 xs (i : Int)).f0 (i : Int) (xs.length : Int) last = r) :
  Calls Try.prog 61 #[.int .i64 (i : Int), .pointer (some ⟨B9, 0, none⟩), .pointer (some ⟨B3, 0, none⟩), .pointer (some ⟨B4, 0, none⟩)] w fun e w' => e = .returned (.bool r) ∧ Below w.heap.size w w' := by
 have p_ : (0 : Int) ≤ (i : Int) := Int.natCast_nonneg i
 have q_ : (i : Int) < (xs.length : Int) := Int.ofNat_lt.2 hi
 obtain ⟨ad, rfl, hx0, hx1⟩ := at_T77 hC _ p_ q_
 rw [Int.toNat_natCast] at hx0 hx1
 obtain ⟨s, hs⟩ : ∃ s, rd_T77 xs (i : Int) = s := ⟨_, rfl⟩
 rw [hs] at hx0 hx1 hwf hr
 have hc9 : w.cell? ⟨B9, 0, none⟩ = some (.map (some b)) := (blk_cell h9 0).trans rfl
 have hc3 : w.cell? ⟨B3, 0, none⟩ = some (.slice (some ad) xs.length c) := (blk_cell h3 0).trans rfl
 have hc4 : w.cell? ⟨B4, 0, none⟩ = some (.int .i64 last) := (blk_cell h4 0).trans rfl
 have hB2 : Below w.heap.size w (w.alloc (.cells #[] 116)).drew := below_drew (below_alloc (Below.refl _ w) _)
 have hc92 : (w.alloc (.cells #[] 116)).drew.cell? ⟨B9, 0, none⟩ = some (.map (some b)) := (blk_cell (blk_below h9 hB2) 0).trans rfl
 have hc32 : (w.alloc (.cells #[] 116)).drew.cell? ⟨B3, 0, none⟩ = some (.slice (some ad) xs.length c) := (blk_cell (blk_below h3 hB2) 0).trans rfl
 have hc42 : (w.alloc (.cells #[] 116)).drew.cell? ⟨B4, 0, none⟩ = some (.int .i64 last) := (blk_cell (blk_below h4 hB2) 0).trans rfl
 have hx02 : (w.alloc (.cells #[] 116)).drew.cell? (ad.add (i * 2)) = some (.int .i64 s.f0) := by
  obtain ⟨ad2, e2, hy0, _⟩ := at_T77 (Kd.C_below hC hB2) _ p_ q_
  obtain rfl := Option.some.inj e2
  rw [Int.toNat_natCast, hs] at hy0
  exact hy0
 have hlk := set_look hD hwf
 have hlk1 := set_look hD.drew hwf
 have hlk2 := set_look (hD.alloc (.cells #[] 116)).drew hwf
 have hlk3 := set_look (hD.drew.alloc (.cells #[] 116)) hwf
 clear hs hC h9 h3 h4 hD hwf hx1 hB2
 unfold staysV at hr
 obtain ⟨h0, hh⟩ : ∃ h0, Maps.has D (.int .i64 s.f0) = h0 := ⟨_, rfl⟩
 rw [hh] at hlk hlk1 hlk2 hlk3 hr
 clear hh
 have hL : (xs.length : Int) < 1000 := by omega
 cases h0 with
 | true =>
  obtain rfl : true = r := by simpa using hr
  clear hr
  go_enter Try.func61, Try.ntmps61
  go_wp2
  go_region
  all_goals go_wp2
  all_goals go_ret
  all_goals exact ⟨rfl, by repeat (first | (with_reducible first | exact Below.refl _ _ | apply below_alloc | apply below_drew | apply pw_below_drewN | apply below_drew1) | exact Below.refl _ _)⟩
 | false =>
  by_cases e1 : (i : Int) = (xs.length : Int) - 1
  ·have b1 : ((i : Int) == (xs.length : Int) - 1) = true := by simpa using e1
   obtain rfl : true = r := by simpa [e1] using hr
   clear hr e1
   go_enter Try.func61, Try.ntmps61
   go_wp2
   go_region
   all_goals go_wp2
   all_goals go_ret
   all_goals exact ⟨rfl, by repeat (first | (with_reducible first | exact Below.refl _ _ | apply below_alloc | apply below_drew | apply pw_below_drewN | apply below_drew1) | exact Below.refl _ _)⟩
  ·have b1 : ((i : Int) == (xs.length : Int) - 1) = false := by simpa using e1
   obtain ⟨r2, hr2⟩ : ∃ r2, decide ((xs.length : Int) - last ≤ (i : Int)) = r2 := ⟨_, rfl⟩
   obtain rfl : r2 = r := by rw [← hr, ← hr2]; simp [e1]
   have b2 : decide ((i : Int) ≥ (xs.length : Int) - last) = r2 := hr2
   clear hr e1
   go_enter Try.func61, Try.ntmps61
   go_wp2
   go_region
   all_goals go_wp2
   all_goals go_ret
   all_goals exact ⟨by first | rfl | (rw [hr2]) | (simp [hr2]) | (simp [b2]), by repeat (first | (with_reducible first | exact Below.refl _ _ | apply below_alloc | apply below_drew | apply pw_below_drewN | apply below_drew1) | exact Below.refl _ _)⟩
end Go.Proofs.Ytmlgfgmgolgjbaa.X
end

/-! ## mTold -/
section
namespace Go.Proofs.Ytmlgfgmgolgjbaa.X
open Go.RowKit Go.Maps Go.Proofs.YtmlgfgmgolgjbaaW.PrintWords Go.Proofs.YtmlgfgmgolgjbaaW.PrintLast Go.Proofs.YtmlgfgmgolgjbaaW.PrintMore
set_option linter.unusedVariables false
set_option linter.unusedSimpArgs false
theorem infoI : (Try.prog.info? 3).map (fun i => (i.zero, i.size, i.bytes)) = some (some (.int .i64 0), 1, 8) := by kernel_rfl
/-- The numbers of the first i that go. -/
def goneTo (D : DataW Unit) (xs : List S77) (last : Int) : Nat → List Int
 | 0 => []
 | i + 1 => goneTo D xs last i ++ (if staysV D (rd_T77 xs (i : Int)).f0 (i : Int) (xs.length : Int) last = true then [] else [(rd_T77 xs (i : Int)).f0])
theorem goneTo_len (D : DataW Unit) (xs : List S77) (last : Int) : ∀ i, (goneTo D xs last i).length ≤ i
 | 0 => Nat.le_refl _
 | i + 1 => by
  have := goneTo_len D xs last i
  unfold goneTo
  rw [List.length_append]
  split <;> simp <;> omega
set_option maxHeartbeats 2000000 in
set_option maxRecDepth 100000 in
theorem told.core {A : Option Addr} {c : Nat} {xs : List S77} {last sp sps : Int} {w : World} (hC : Kd.C k77 w A xs.length xs) (hc : xs.length ≤ c) (hlen : xs.length < 1000) (hchk : retain_Check.f last sp sps = some 0) {ks : Nat} (hsnd : retain_Sound.f ks xs = some true) (hl0 : 0 ≤ last) (hl1 : last ≤ 64)
  (hwf : ∀ i : Nat, i < xs.length → (Lit.int .i64 (rd_T77 xs (i : Int)).f0).wf = true) (PD : DataW Unit → Prop)
  (hends : ∀ W, Below w.heap.size w W → Calls Try.prog 60 #[.slice A xs.length c, .agg #[.int .i64 last, .int .i64 sp, .int .i64 sps]] W fun e W' => ∃ b nn D, e = .returned (.map (some b)) ∧ W'.ownsMap Try.prog 3 setE b nn D ∧ PD D ∧ Below W.heap.size W W') :
  Calls Try.prog 43 #[.slice A xs.length c, .agg #[.int .i64 last, .int .i64 sp, .int .i64 sps], .bool false] w fun e w' => ∃ v D, e = .returned (.tuple #[v, .int .i64 0]) ∧ PD D ∧ Kd.R (Kd.int .i64) 3 w' w.heap.size (fun _ => True) v (goneTo D xs last xs.length) ∧ Below w.heap.size w w' := by
 have HC := Aside0.mk hC
 have CHK := Aside0.mk hchk
 have SND := Aside0.mk hsnd
 have WF := Aside0.mk hwf
 have ENDS := Aside0.mk hends
 have HB0 : Aside0 (Below w.heap.size w ((w.alloc (.cells #[.slice A xs.length c] 75)).alloc (.cells #[.int .i64 last, .int .i64 sp, .int .i64 sps] 29))) := ⟨((Below.refl _ w).alloc (Nat.le_refl _) _).alloc (by simp) _⟩
 have BX3 : Aside0 (((w.alloc (.cells #[.slice A xs.length c] 75)).alloc (.cells #[.int .i64 last, .int .i64 sp, .int .i64 sps] 29)).heap[w.heap.size]? = some (.cells #[.slice A xs.length c] 75 (0, 0))) := ⟨blk_alloc (heap_alloc_new w _) _⟩
 have BX4 : Aside0 (((w.alloc (.cells #[.slice A xs.length c] 75)).alloc (.cells #[.int .i64 last, .int .i64 sp, .int .i64 sps] 29)).heap[w.heap.size + 1]? = some (.cells #[.int .i64 last, .int .i64 sp, .int .i64 sps] 29 (0, 0))) := ⟨by
  have := heap_alloc_new (w.alloc (.cells #[.slice A xs.length c] 75)) (.cells #[.int .i64 last, .int .i64 sp, .int .i64 sps] 29)
  rw [World.size_alloc] at this
  exact this⟩
 have hcA : ((w.alloc (.cells #[.slice A xs.length c] 75)).alloc (.cells #[.int .i64 last, .int .i64 sp, .int .i64 sps] 29)).cell? ⟨w.heap.size + 1, 0, none⟩ = some (.int .i64 last) := (blk_cell BX4.out 0).trans rfl
 have hcB : ((w.alloc (.cells #[.slice A xs.length c] 75)).alloc (.cells #[.int .i64 last, .int .i64 sp, .int .i64 sps] 29)).cell? ⟨w.heap.size + 1, 1, none⟩ = some (.int .i64 sp) := (blk_cell BX4.out 1).trans rfl
 have hcC : ((w.alloc (.cells #[.slice A xs.length c] 75)).alloc (.cells #[.int .i64 last, .int .i64 sp, .int .i64 sps] 29)).cell? ⟨w.heap.size + 1, 2, none⟩ = some (.int .i64 sps) := (blk_cell BX4.out 2).trans rfl
 clear hC hchk hsnd hwf hends
 go_enter Try.func43, Try.ntmps43
 go_wp2_with (first
  | (go_at_call 58; refine (retain_Check.calls last sp sps 0 _ CHK.out).mono ?_; rintro e w1 ⟨rfl, hb⟩; have B1 := Aside0.mk (below_step HB0.out hb); have X31 := Aside0.mk (blk_below BX3.out hb); have X41 := Aside0.mk (blk_below BX4.out hb); have hc31 : w1.cell? ⟨w.heap.size, 0, none⟩ = some (.slice A xs.length c) := (blk_cell X31.out 0).trans rfl; clear hb hcA hcB hcC)
  | (go_at_call 59; refine (retain_Sound.calls ks A c xs true _ (Kd.C_below HC.out B1.out) hc SND.out).mono ?_; rintro e w2 ⟨rfl, hb⟩; have B2 := Aside0.mk (below_step B1.out hb); have X32 := Aside0.mk (blk_below X31.out hb); have X42 := Aside0.mk (blk_below X41.out hb); have hc32 : w2.cell? ⟨w.heap.size, 0, none⟩ = some (.slice A xs.length c) := (blk_cell X32.out 0).trans rfl; have hcA : w2.cell? ⟨w.heap.size + 1, 0, none⟩ = some (.int .i64 last) := (blk_cell X42.out 0).trans rfl; have hcB : w2.cell? ⟨w.heap.size + 1, 1, none⟩ = some (.int .i64 sp) := (blk_cell X42.out 1).trans rfl; have hcC : w2.cell? ⟨w.heap.size + 1, 2, none⟩ = some (.int .i64 sps) := (blk_cell X42.out 2).trans rfl; clear hb hc31)
  | (go_at_call 60; refine (ENDS.out _ B2.out).mono ?_; rintro e w3 ⟨b, nn, D, rfl, hD, hP, hb⟩; have B3 := Aside0.mk (below_step B2.out hb); have X33 := Aside0.mk (blk_below X32.out hb); have X43 := Aside0.mk (blk_below X42.out hb); have MD := Aside0.mk hD; have PDD := Aside0.mk hP; have hc33 : (w3.alloc (.cells #[.map (some b)] 114)).cell? ⟨w.heap.size, 0, none⟩ = some (.slice A xs.length c) := (blk_cell (blk_alloc X33.out _) 0).trans rfl; clear hb hD hP hc32 hcA hcB hcC))
 have X3 := Aside0.mk (blk_alloc X33.out (.cells #[.map (some b)] 114))
 have X4 := Aside0.mk (blk_alloc X43.out (.cells #[.map (some b)] 114))
 have X9 := Aside0.mk (heap_alloc_new w3 (.cells #[.map (some b)] 114))
 have MDA := Aside0.mk (MD.out.alloc (.cells #[.map (some b)] 114))
 have BA := Aside0.mk (below_alloc B3.out (.cells #[.map (some b)] 114))
 have R0 := Aside0.mk (Kd.R_nil (Kd.int .i64) 3 (w3.alloc (.cells #[.map (some b)] 114)) (w3.alloc (.cells #[.map (some b)] 114)).heap.size (fun _ => True))
 obtain ⟨B9, hB9⟩ : ∃ B9, B9 = w3.heap.size := ⟨_, rfl⟩
 rw [← hB9] at X9 ⊢
 clear hc33 hB9
 generalize (w3.alloc (.cells #[.map (some b)] 114)) = w4 at X3 X4 X9 MDA BA R0 ⊢
 go_loopw [11, 28] (fun v11 v28 wr => ∃ i : Nat, v28 = .int .i64 (i : Int) ∧ i ≤ xs.length ∧ Aside0 (Kd.R (Kd.int .i64) 3 wr w4.heap.size (fun _ => True) v11 (goneTo D xs last i)) ∧ Aside0 (Below w4.heap.size w4 wr)) (fun _ v28 _ => xs.length - (intOf v28).toNat)
 case atStart => exact ⟨0, rfl, Nat.zero_le _, R0, ⟨Below.refl _ _⟩⟩
 case round =>
  obtain ⟨i, rfl, hil, HR, HB⟩ := hrel
  by_cases hlt : i < xs.length
  ·have b1 : decide (i < xs.length) = true := decide_eq_true hlt
   have p_ := eq_true (Int.natCast_nonneg i)
   have q_ : ((i : Int) < (xs.length : Int)) = True := eq_true (by omega)
   have HBw := Aside0.mk (below_then BA.out BA.out.size HB.out)
   obtain ⟨ad, rfl, hx0, hx1⟩ := at_T77 (Kd.C_below HC.out HBw.out) (i : Int) (by omega) (by omega)
   rw [Int.toNat_natCast] at hx0 hx1
   obtain ⟨r, hr⟩ : ∃ r, staysV D (rd_T77 xs (i : Int)).f0 (i : Int) (xs.length : Int) last = r := ⟨_, rfl⟩
   have RR := Aside0.mk hr
   have WFI := Aside0.mk (WF.out i hlt)
   obtain ⟨s, hs⟩ : ∃ s, rd_T77 xs (i : Int) = s := ⟨_, rfl⟩
   rw [hs] at hx0 hx1
   have HS := Aside0.mk hs
   clear hs hr
   cases r with
   | true =>
    go_wp2_with (go_at_call 61; refine (told1.calls (i := i) (r := true) (blk_below X9.out (below_alloc HB.out (.cells #[.int .i64 s.f0, .int .i64 s.f1] 77))) (blk_below X3.out (below_alloc HB.out (.cells #[.int .i64 s.f0, .int .i64 s.f1] 77))) (blk_below X4.out (below_alloc HB.out (.cells #[.int .i64 s.f0, .int .i64 s.f1] 77))) (MDA.out.kept (grown_below (below_alloc HB.out (.cells #[.int .i64 s.f0, .int .i64 s.f1] 77))) (by simp)) (Kd.C_below HC.out (below_alloc HBw.out (.cells #[.int .i64 s.f0, .int .i64 s.f1] 77))) hlen hlt hl0 hl1 WFI.out RR.out).mono ?_; rintro e w5 ⟨rfl, hb⟩; have HB5 := Aside0.mk (below_step (below_alloc HB.out (.cells #[.int .i64 s.f0, .int .i64 s.f1] 77)) hb); have HBw5 := Aside0.mk (below_step (below_alloc HBw.out (.cells #[.int .i64 s.f0, .int .i64 s.f1] 77)) hb); have HR5 := Aside0.mk (Kd.R_below (Kd.R_alloc HR.out (.cells #[.int .i64 s.f0, .int .i64 s.f1] 77)) hb); have hbx0 : w5.cell? ⟨wr.heap.size, 0, none⟩ = some (.int .i64 s.f0) := (blk_cell (blk_below (heap_alloc_new wr (.cells #[.int .i64 s.f0, .int .i64 s.f1] 77)) hb) 0).trans rfl; clear hb)
    go_roundw
    case rel =>
     refine ⟨i + 1, by congr 1, by omega, ⟨?_⟩, HB5⟩
     have e1 : goneTo D xs last (i + 1) = goneTo D xs last i := by
      show goneTo D xs last i ++ _ = _
      rw [RR.out]; simp
     rw [e1]
     exact HR5.out
    case measure => simp [intOf]; omega
   | false =>
    go_wp2_with (first | (go_at_call 61; refine (told1.calls (i := i) (r := false) (blk_below X9.out (below_alloc HB.out (.cells #[.int .i64 s.f0, .int .i64 s.f1] 77))) (blk_below X3.out (below_alloc HB.out (.cells #[.int .i64 s.f0, .int .i64 s.f1] 77))) (blk_below X4.out (below_alloc HB.out (.cells #[.int .i64 s.f0, .int .i64 s.f1] 77))) (MDA.out.kept (grown_below (below_alloc HB.out (.cells #[.int .i64 s.f0, .int .i64 s.f1] 77))) (by simp)) (Kd.C_below HC.out (below_alloc HBw.out (.cells #[.int .i64 s.f0, .int .i64 s.f1] 77))) hlen hlt hl0 hl1 WFI.out RR.out).mono ?_; rintro e w5 ⟨rfl, hb⟩; have HB5 := Aside0.mk (below_step (below_alloc HB.out (.cells #[.int .i64 s.f0, .int .i64 s.f1] 77)) hb); have HBw5 := Aside0.mk (below_step (below_alloc HBw.out (.cells #[.int .i64 s.f0, .int .i64 s.f1] 77)) hb); have HR5 := Aside0.mk (Kd.R_below (Kd.R_alloc HR.out (.cells #[.int .i64 s.f0, .int .i64 s.f1] 77)) hb); have hbx0 : w5.cell? ⟨wr.heap.size, 0, none⟩ = some (.int .i64 s.f0) := (blk_cell (blk_below (heap_alloc_new wr (.cells #[.int .i64 s.f0, .int .i64 s.f1] 77)) hb) 0).trans rfl; clear hb) | ((with_reducible refine gate_builtin (b := .append) (xs := #[.tmp 38, .tmp 41]) rfl ?_); at_builtin; refine Kd.R_append (Kd.int .i64) (w0 := w4) (W := w5) w4.heap.size rfl (.tmp 38) (.tmp 41) 42 3 (.int .i64 0) 8 rfl Try.underlying42 infoI rfl (by decide) (by decide) u11 (goneTo D xs last i) s.f0 [.int .i64 s.f0] (fun _ => True) (fun _ => False) rfl (by first | rfl | (simp [Act.eval]; done)) ?aP (fun _ hk => hk.elim) (fun _ _ => trivial) ?aO ?aB ?aS ?aL ?_; (case aP => exact rfl); (case aO => exact HR5.out); (case aB => exact HB5.out); (case aS => exact HB5.out.size); (case aL => have := goneTo_len D xs last i; omega); intro v1 w9 hR hB hg hat; have HR9 := Aside0.mk hR; have HG9 := Aside0.mk hg; have HBB9 := Aside0.mk hB; clear hR hB hg hat))
    go_roundw
    case rel =>
     refine ⟨i + 1, by congr 1, by omega, ⟨?_⟩, ⟨?_⟩⟩
     ·have e1 : goneTo D xs last (i + 1) = goneTo D xs last i ++ [s.f0] := by
       show goneTo D xs last i ++ _ = _
       rw [RR.out, HS.out]; simp
      rw [e1]
      exact HR9.out
     ·exact HBB9.out
    case measure => simp [intOf]; omega
  ·have b1 : decide (i < xs.length) = false := decide_eq_false hlt
   have HR2 : Aside0 (Kd.R (Kd.int .i64) 3 wr w.heap.size (fun _ => True) u11 (goneTo D xs last xs.length)) := ⟨by have := Kd.R_lower HR.out BA.out.size; rwa [show i = xs.length by omega] at this⟩
   obtain ⟨A5, c5, e5⟩ := Kd.R_slice HR2.out
   obtain ⟨n5, hn5⟩ : ∃ n5, n5 = (goneTo D xs last xs.length).length := ⟨_, rfl⟩
   rw [← hn5] at e5
   clear hn5
   subst e5
   have HBw := Aside0.mk (below_then BA.out BA.out.size HB.out)
   go_wp2
   go_ret2
   exact ⟨_, D, rfl, PDD.out, HR2.out, HBw.out⟩
end Go.Proofs.Ytmlgfgmgolgjbaa.X
end

/-! ## mExpire -/
section
namespace Go.Proofs.Ytmlgfgmgolgjbaa.X
open Go.RowKit Go.Maps Go.Proofs.YtmlgfgmgolgjbaaW.PrintWords Go.Proofs.YtmlgfgmgolgjbaaW.PrintLast Go.Proofs.YtmlgfgmgolgjbaaW.PrintMore
set_option linter.unusedVariables false
set_option linter.unusedSimpArgs false
set_option maxRecDepth 100000 in
theorem retain_Go.core {A : Option Addr} {c : Nat} {xs : List S77} {last sp sps : Int} {w : World} (hC : Kd.C k77 w A xs.length xs) (hc : xs.length ≤ c) (hlen : xs.length < 1000) (hchk : retain_Check.f last sp sps = some 0) {ks : Nat} (hsnd : retain_Sound.f ks xs = some true) (hl0 : 0 ≤ last) (hl1 : last ≤ 64)
  (hwf : ∀ i : Nat, i < xs.length → (Lit.int .i64 (rd_T77 xs (i : Int)).f0).wf = true) (PD : DataW Unit → Prop)
  (hends : ∀ W, Below w.heap.size w W → Calls Try.prog 60 #[.slice A xs.length c, .agg #[.int .i64 last, .int .i64 sp, .int .i64 sps]] W fun e W' => ∃ b nn D, e = .returned (.map (some b)) ∧ W'.ownsMap Try.prog 3 setE b nn D ∧ PD D ∧ Below W.heap.size W W') :
  Calls Try.prog 30 #[.slice A xs.length c, .agg #[.int .i64 last, .int .i64 sp, .int .i64 sps]] w fun e w' => ∃ v D, e = .returned (.tuple #[v, .int .i64 0]) ∧ PD D ∧ Kd.R (Kd.int .i64) 3 w' w.heap.size (fun _ => True) v (goneTo D xs last xs.length) ∧ Below w.heap.size w w' := by
 have HC := Aside0.mk hC
 have CHK := Aside0.mk hchk
 have SND := Aside0.mk hsnd
 have WF := Aside0.mk hwf
 have ENDS := Aside0.mk hends
 have HB0 : Aside0 (Below w.heap.size w (w.alloc (.cells #[.int .i64 last, .int .i64 sp, .int .i64 sps] 29))) := ⟨(Below.refl _ w).alloc (Nat.le_refl _) _⟩
 clear hC hchk hsnd hwf hends
 go_enter Try.func30, Try.ntmps30
 go_wp2_with (go_at_call 43; refine (told.core (Kd.C_below HC.out HB0.out) hc hlen CHK.out SND.out hl0 hl1 WF.out PD (fun W hW => ENDS.out W (below_step HB0.out hW))).mono ?_; rintro e w1 ⟨v, D, rfl, hP, hR, hb⟩; have PDD := Aside0.mk hP; have R1 := Aside0.mk (Kd.R_lower hR HB0.out.size); have B1 := Aside0.mk (below_step HB0.out hb); clear hP hR hb)
 go_ret2
 exact ⟨_, D, rfl, PDD.out, R1.out, B1.out⟩
def toS (s : Sn) : S77 := ⟨s.1, s.2.2.1⟩
theorem infoSp : (Try.prog.info? 77).map (fun i => (i.zero, i.size, i.bytes)) = some (some (.agg #[.int .i64 0, .int .i64 0]), 2, 16) := by kernel_rfl
theorem R_went {w0 w w1 w2 : World} {mm mb N : Nat} {C C' : List Cl} {v : Value} {xs : List Int} (hR : Kd.R (Kd.int .i64) 3 w1 w.heap.size (fun _ => True) v xs) (h : Held w0 w mm mb N C) (hw : Went mb C C' w1 w2) : Kd.R (Kd.int .i64) 3 w2 w.heap.size (fun _ => True) v xs := by
 refine Kd.R_mono (Kd.R_move (Kd.R_bound hR) (fun k hk => (hw.off k (h.off_new hk.2.1 hk.2.2.1)).1)) (fun _ _ => trivial)
set_option maxHeartbeats 2000000 in
set_option maxRecDepth 100000 in
theorem model_Expire.hit {w0 w : World} {mm mb N : Nat} {C : List Cl} (h : Held w0 w mm mb N C) {k : Int} (hk : (Lit.int .i64 k).wf = true) {cl : Cl} (hcl : clOf C k = some cl) (hlen : cl.xs.length < 1000) {last sp sps : Int} (hchk : retain_Check.f last sp sps = some 0) {ks : Nat} (hsnd : retain_Sound.f ks (cl.xs.map toS) = some true) (hl0 : 0 ≤ last) (hl1 : last ≤ 64)
  (hwf : ∀ i : Nat, i < (cl.xs.map toS).length → (Lit.int .i64 (rd_T77 (cl.xs.map toS) (i : Int)).f0).wf = true) (PD : DataW Unit → Prop)
  (hends : ∀ W A c, Below w.heap.size w W → Kd.C k77 W A (cl.xs.map toS).length (cl.xs.map toS) → (cl.xs.map toS).length ≤ c → Calls Try.prog 60 #[.slice A (cl.xs.map toS).length c, .agg #[.int .i64 last, .int .i64 sp, .int .i64 sps]] W fun e W' => ∃ b nn D, e = .returned (.map (some b)) ∧ W'.ownsMap Try.prog 3 setE b nn D ∧ PD D ∧ Below W.heap.size W W') :
  Calls Try.prog 13 #[.pointer (some ⟨mm, 0, none⟩), .int .i64 k, .agg #[.int .i64 last, .int .i64 sp, .int .i64 sps]] w fun e w' => ∃ v D C', e = .returned (.tuple #[v, .int .i64 0]) ∧ PD D ∧ Kd.R (Kd.int .i64) 3 w' w.heap.size (fun _ => True) v (goneTo D (cl.xs.map toS) last (cl.xs.map toS).length) ∧
   Held w0 w' mm mb N C' ∧ Went mb C C' w w' ∧ getC C' k = (cl.xs.filter (fun s => decide (s.1 ∉ goneTo D (cl.xs.map toS) last (cl.xs.map toS).length)), cl.g) ∧ (∀ k', k' ≠ k → clOf C' k' = clOf C k') := by
 obtain ⟨hm, hkey⟩ := clOf_some hcl
 have hblk := (h.blk cl hm).2
 have hrow := h.row cl hm
 have hcl0 := hcl
 obtain ⟨kk, b, v, xs, g⟩ := cl
 dsimp only at *
 obtain ⟨A, c, rfl⟩ := Kd.R_slice hrow
 have H := Aside0.mk h
 have HCL := Aside0.mk hcl
 have CHK := Aside0.mk hchk
 have SND := Aside0.mk hsnd
 have WF := Aside0.mk hwf
 have ENDS := Aside0.mk hends
 have RW := Aside0.mk (Kd.R_reads' hrow).2.2
 have HB0 : Aside0 (Below w.heap.size w (w.alloc (.cells #[.int .i64 last, .int .i64 sp, .int .i64 sps] 29))) := ⟨(Below.refl _ w).alloc (Nat.le_refl _) _⟩
 have PB := Aside0.mk (heap_alloc_new w (.cells #[.int .i64 last, .int .i64 sp, .int .i64 sps] 29))
 have BK := Aside0.mk (blk_alloc hblk (.cells #[.int .i64 last, .int .i64 sp, .int .i64 sps] 29))
 have hcb0 : (w.alloc (.cells #[.int .i64 last, .int .i64 sp, .int .i64 sps] 29)).cell? ⟨b, 0, none⟩ = some (.slice A xs.length c) := (blk_cell BK.out 0).trans rfl
 clear h hcl hchk hsnd hwf hends hblk hrow hm hkey hcl0
 obtain ⟨L, hL⟩ : ∃ L, L = xs.map toS := ⟨_, rfl⟩
 rw [← hL] at SND WF ENDS ⊢
 have hLx : L.length = xs.length := by rw [hL, List.length_map]
 have LL := Aside0.mk hL
 have LX := Aside0.mk hLx
 have hlenL : L.length < 1000 := by omega
 clear hL hLx
 go_enter Try.func13, Try.ntmps13
 go_wp2_with (first
  | (go_at_call 26; refine (model_none.calls mm mb _ (H.out.after HB0.out).model).mono ?_; rintro e w1 ⟨rfl, hw⟩; subst hw)
  | (go_at_call 28; refine (model_of.hit (H.out.after HB0.out) hk HCL.out).mono ?_; rintro e w1 ⟨rfl, hw⟩; subst hw))
 have HP := Aside0.mk (H.out.after HB0.out)
 have RWP := Aside0.mk (Kd.C_below RW.out HB0.out)
 clear hcb0
 generalize (w.alloc (.cells #[.int .i64 last, .int .i64 sp, .int .i64 sps] 29)) = wP at HB0 PB BK HP RWP ⊢
 have R0 := Aside0.mk (Kd.R_nil k77 77 wP wP.heap.size (fun _ => True))
 go_loopw [9, 27] (fun v9 v27 wr => ∃ i : Nat, v27 = .int .i64 (i : Int) ∧ i ≤ xs.length ∧ Aside0 (Kd.R k77 77 wr wP.heap.size (fun _ => True) v9 ((xs.take i).map toS)) ∧ Aside0 (Below wP.heap.size wP wr)) (fun _ v27 _ => xs.length - (intOf v27).toNat)
 case atStart => exact ⟨0, rfl, Nat.zero_le _, by simpa using R0, ⟨Below.refl _ _⟩⟩
 case round =>
  obtain ⟨i, rfl, hil, HR, HB⟩ := hrel
  by_cases hlt : i < xs.length
  ·have b1 : decide (i < xs.length) = true := decide_eq_true hlt
   obtain ⟨ad, rfl, hx0, hx1, hx2, hx3⟩ := at_SnX (Kd.C_below RWP.out HB.out) i hlt (0, 0, 0, none, 0, 0)
   have es : xs.getD i (0, 0, 0, none, 0, 0) = xs[i] := by rw [List.getD_eq_getElem?_getD, List.getElem?_eq_getElem hlt]; rfl
   rw [es] at hx0 hx1 hx2 hx3
   have p_ := eq_true (Int.natCast_nonneg i)
   have q_ : ((i : Int) < (xs.length : Int)) = True := eq_true (by omega)
   obtain ⟨s, hs⟩ : ∃ s, s = xs[i] := ⟨_, rfl⟩
   rw [← hs] at hx0 hx1 hx2 hx3
   have HS := Aside0.mk hs
   clear es hs
   have hlen2 : ((xs.take i).map toS).length = i := by rw [List.length_map, List.length_take]; omega
   have HL := Aside0.mk hlen2
   have hl64 : i < 1000 := by omega
   clear hlen2
   go_wp2_with ((with_reducible refine gate_builtin (b := .append) (xs := #[.tmp 31, .tmp 37]) rfl ?_); at_builtin; refine Kd.R_append k77 (w0 := wP) (W := wr.alloc (.cells #[.int .i64 s.1, .int .i64 s.2.1, .int .i64 s.2.2.1, .slice s.2.2.2.1 s.2.2.2.2.1 s.2.2.2.2.2] 70)) wP.heap.size rfl (.tmp 31) (.tmp 37) 75 77 (.agg #[.int .i64 0, .int .i64 0]) 16 rfl Try.underlying75 infoSp rfl (by decide) (by decide) u9 ((xs.take i).map toS) (toS s) [.int .i64 s.1, .int .i64 s.2.2.1] (fun _ => True) (fun _ => False) rfl (by first | rfl | (simp [Act.eval]; done)) ?aP (fun _ hk => hk.elim) (fun _ _ => trivial) ?aO ?aB ?aS ?aL ?_; (case aP => exact k77_mkM _ _ _ (toS s)); (case aO => exact (Kd.R_alloc HR.out _)); (case aB => exact (below_alloc HB.out _)); (case aS => exact (below_alloc HB.out _).size); (case aL => rw [HL.out]; omega); intro v1 w9 hR hB hg hat; have HR9 := Aside0.mk hR; have HB9 := Aside0.mk hB; clear hR hB hg hat)
   go_roundw
   case rel =>
    refine ⟨i + 1, by congr 1, by omega, ⟨?_⟩, HB9⟩
    have e1 : (xs.take (i + 1)).map toS = (xs.take i).map toS ++ [toS s] := by
     rw [List.take_succ_eq_append_getElem hlt, List.map_append, ← HS.out]; rfl
    rw [e1]
    exact HR9.out
   case measure => simp [intOf]; omega
  ·have b1 : decide (i < xs.length) = false := decide_eq_false hlt
   have HR2 : Aside0 (Kd.R k77 77 wr wP.heap.size (fun _ => True) u9 L) := ⟨by have := HR.out; rwa [List.take_of_length_le (by omega), ← LL.out] at this⟩
   obtain ⟨A9, c9, e9⟩ := Kd.R_slice HR2.out
   subst e9
   have hc9 := (Kd.R_reads' HR2.out).2.1
   have HBw := Aside0.mk (below_then HB0.out HB0.out.size HB.out)
   have PBr := Aside0.mk (blk_below PB.out HB.out)
   have hp0 : wr.cell? ⟨w.heap.size, 0, none⟩ = some (.int .i64 last) := (blk_cell PBr.out 0).trans rfl
   have hp1 : wr.cell? ⟨w.heap.size, 1, none⟩ = some (.int .i64 sp) := (blk_cell PBr.out 1).trans rfl
   have hp2 : wr.cell? ⟨w.heap.size, 2, none⟩ = some (.int .i64 sps) := (blk_cell PBr.out 2).trans rfl
   go_wp2_with (go_at_call 30; refine (retain_Go.core (Kd.R_reads' HR2.out).2.2 hc9 hlenL CHK.out SND.out hl0 hl1 WF.out PD (fun W hW => ENDS.out W A9 c9 (below_step HBw.out hW) (Kd.C_below (Kd.R_reads' HR2.out).2.2 hW) hc9)).mono ?_; rintro e w6 ⟨v6, D, rfl, hP, hR, hb⟩; have PDD := Aside0.mk hP; have R6 := Aside0.mk (Kd.R_lower hR HBw.out.size); have B6 := Aside0.mk (below_step HBw.out hb); obtain ⟨A6, c6, rfl⟩ := Kd.R_slice hR; obtain ⟨G, hG⟩ : ∃ G, G = goneTo D L last L.length := (⟨_, rfl⟩); rw [← hG] at R6 ⊢; have GG := Aside0.mk hG; clear hP hR hb hp0 hp1 hp2 hG)
   have H6 := Aside0.mk (H.out.after B6.out)
   obtain ⟨W6, hW6⟩ : ∃ W6, W6 = w6 := ⟨_, rfl⟩
   have W0 := Aside0.mk hW6
   have WN0 : Aside0 (Went mb C C w6 w6) := ⟨Went.of_below (Below.refl _ _)⟩
   go_loopw [15, 51] (fun v15 v51 wx => ∃ (j : Nat) (C' : List Cl) (cl' : Cl), v51 = .int .i64 (j : Int) ∧ j ≤ G.length ∧ Aside0 (clOf C' k = some cl' ∧ cl'.b = b ∧ cl'.g = g ∧ cl'.xs = xs.filter (fun s => decide (s.1 ∉ G.take j))) ∧ Aside0 (Held w0 wx mm mb N C') ∧ Aside0 (Went mb C C' w6 wx) ∧ Aside0 (∀ k', k' ≠ k → clOf C' k' = clOf C k')) (fun _ v51 _ => G.length - (intOf v51).toNat)
   case atStart => exact ⟨0, C, _, rfl, Nat.zero_le _, ⟨HCL.out, rfl, rfl, (List.filter_eq_self.2 (fun s hs => by simp)).symm⟩, H6, WN0, ⟨fun _ _ => rfl⟩⟩
   case round =>
    obtain ⟨j, C', cl', rfl, hjl, HCJ, HJ, WJ, OJ⟩ := hrel
    have R6j := Aside0.mk (R_went R6.out H.out WJ.out)
    by_cases hlt2 : j < G.length
    ·have b2 : decide (j < G.length) = true := decide_eq_true hlt2
     have hj64 : j < 1000 := by have h1 := goneTo_len D L last L.length; rw [← GG.out] at h1; omega
     have p2_ := eq_true (Int.natCast_nonneg j)
     have q2_ : ((j : Int) < (G.length : Int)) = True := eq_true (by omega)
     obtain ⟨adg, cg, eg, _, hKg, hcg⟩ := Kd.C_get (Kd.R_reads' R6j.out).2.2 (0 : Int) (j : Int) (Int.natCast_nonneg j) (Int.ofNat_lt.2 hlt2)
     rw [Int.toNat_natCast] at hKg hcg
     have eGj : G.getD j 0 = G[j] := by rw [List.getD_eq_getElem?_getD, List.getElem?_eq_getElem hlt2]; rfl
     rw [eGj] at hKg
     obtain ⟨num, hnum⟩ : ∃ num, num = G[j] := ⟨_, rfl⟩
     rw [← hnum] at hKg
     have NUM := Aside0.mk hnum
     obtain rfl : cg = [.int .i64 num] := hKg
     have hg0 : wr.cell? (adg.add (j * 1)) = some (.int .i64 num) := hcg 0 _ rfl
     rw [Nat.mul_one] at hg0
     subst eg
     clear hcg eGj hnum
     obtain ⟨hc1, hc2, hc3, hc4⟩ := HCJ.out
     obtain ⟨hm2, _⟩ := clOf_some hc1
     have hblk2 := (HJ.out.blk cl' hm2).2
     have hrow2 := HJ.out.row cl' hm2
     obtain ⟨k2, b', v2, xs2, g2⟩ := cl'
     dsimp only at hc2 hc3 hc4 hblk2 hrow2
     subst hc2 hc3
     obtain ⟨A2, c2, rfl⟩ := Kd.R_slice hrow2
     have hlen3 : xs2.length < 1000 := by rw [hc4]; exact Nat.lt_of_le_of_lt (List.length_filter_le _ _) hlen
     have BK2 := Aside0.mk hblk2
     have RW2 := Aside0.mk hrow2
     have HC1 := Aside0.mk hc1
     have HC4 := Aside0.mk hc4
     clear hc1 hc4 hblk2 hrow2 hm2
     go_wp2_with (go_at_call 31; refine (shelf_drop.calls (n := num) BK2.out RW2.out hlen3).mono ?_; rintro e w8 ⟨⟨ve, rfl⟩, v8, hb8, hr8, ho8, hch8⟩; have CUT := Aside0.mk (HJ.out.cut HC1.out hb8 hr8 ho8 hch8); clear hb8 hr8 ho8 hch8)
     go_roundw
     case rel =>
      refine ⟨j + 1, _, ⟨k, b', v8, xs2.filter fun s => decide (s.1 ≠ num), g2⟩, by congr 1, by omega, ⟨clOf_new _ _ _ rfl, rfl, rfl, ?_⟩, ⟨CUT.out.1⟩, ⟨WJ.out.trans CUT.out.2⟩, ⟨fun k' hk' => ?_⟩⟩
      ·show (xs2.filter fun s => decide (s.1 ≠ num)) = _
       rw [HC4.out, List.filter_filter, List.take_succ_eq_append_getElem hlt2, ← NUM.out]
       refine List.filter_congr fun s hs => ?_
       by_cases a1 : s.1 = num <;> by_cases a2 : s.1 ∈ G.take j <;> simp [a1, a2] <;> simp_all
      ·rw [← OJ.out k' hk']
       rw [clOf_rest _ _ _ rfl hk']
     case measure => simp [intOf]; omega
    ·have b2 : decide (j < G.length) = false := decide_eq_false hlt2
     have hW : Aside0 (Went mb C C' w wr) := ⟨(Went.of_below B6.out).trans WJ.out⟩
     go_wp2
     go_ret2
     refine ⟨_, D, C', rfl, PDD.out, ?_, HJ.out, hW.out, ?_, OJ.out⟩
     ·rw [← GG.out]
      exact R6j.out
     ·have h1 := HCJ.out
      unfold getC
      rw [h1.1]
      show (cl'.xs, cl'.g) = _
      rw [h1.2.2.1, h1.2.2.2, List.take_of_length_le (by omega), ← GG.out]
end Go.Proofs.Ytmlgfgmgolgjbaa.X
end

/-! ## mLay -/
section
namespace Go.Proofs.Ytmlgfgmgolgjbaa.X
open Go.Proofs Go.Shelf
def lay_keysM_ren : Go.Shelf.Ren := ⟨fun | 7 => 35 | 10 => 52 | n => n, fun | 23 => 38 | 26 => 3 | 3 => 63 | 28 => 83 | 0 => 0 | 27 => 82 | 33 => 103 | 4 => 4 | n => n, fun | n => n⟩
theorem lay_keysM : Go.Proofs.SlLaysZI.n7 Try.prog lay_keysM_ren := {
 mixed := by kernel_rfl
 f7 := ⟨Try.f35.name, by decide, Try.func35.trans (congrArg some (by kernel_rfl))⟩
 f10 := ⟨Try.f52.name, by decide, Try.func52.trans (congrArg some (by kernel_rfl))⟩
 t0 := Try.underlying0
 a0 := Try.isAgg0
 z0 := Try.sizeOf0
 v0 := Try.zeroValue0
 t4 := Try.underlying4
 a4 := Try.isAgg4
 z4 := Try.sizeOf4
 v4 := Try.zeroValue4
 t23 := Try.underlying38
 a23 := Try.isAgg38
 z23 := Try.sizeOf38
 v23 := Try.zeroValue38
 t26 := Try.underlying3
 a26 := Try.isAgg3
 z26 := Try.sizeOf3
 v26 := Try.zeroValue3
 t27 := Try.underlying82
 a27 := Try.isAgg82
 z27 := Try.sizeOf82
 v27 := Try.zeroValue82
 t28 := Try.underlying83
 a28 := Try.isAgg83
 z28 := Try.sizeOf83
 v28 := Try.zeroValue83
 t33 := Try.underlying103
 a33 := Try.isAgg103
 z33 := Try.sizeOf103
 v33 := Try.zeroValue103 }
def lay_sortedM_ren : Go.Shelf.Ren := ⟨fun | 6 => 34 | 8 => 50 | 9 => 51 | 11 => 62 | 13 => 64 | 12 => 63 | 23 => 83 | 24 => 84 | 14 => 74 | 15 => 75 | 16 => 76 | 17 => 77 | 18 => 78 | 19 => 79 | 20 => 80 | 21 => 81 | 22 => 82 | 25 => 90 | 26 => 91 | 27 => 92 | 28 => 93 | 29 => 94 | 30 => 95 | 31 => 98 | n => n, fun | 26 => 3 | 28 => 83 | 24 => 42 | 0 => 0 | 3 => 3 | 37 => 121 | 48 => 138 | 50 => 140 | 4 => 4 | 40 => 132 | 39 => 131 | 45 => 110 | 5 => 5 | 9 => 9 | 51 => 147 | 55 => 151 | 57 => 154 | 58 => 155 | 33 => 103 | n => n, fun | n => n⟩
theorem lay_sortedM : Go.Proofs.SlLaysZI.n6 Try.prog lay_sortedM_ren := {
 mixed := by kernel_rfl
 f6 := ⟨Try.f34.name, by decide, Try.func34.trans (congrArg some (by kernel_rfl))⟩
 f8 := ⟨Try.f50.name, by decide, Try.func50.trans (congrArg some (by kernel_rfl))⟩
 f11 := ⟨Try.f62.name, by decide, Try.func62.trans (congrArg some (by kernel_rfl))⟩
 t0 := Try.underlying0
 a0 := Try.isAgg0
 z0 := Try.sizeOf0
 v0 := Try.zeroValue0
 t24 := Try.underlying42
 a24 := Try.isAgg42
 z24 := Try.sizeOf42
 v24 := Try.zeroValue42
 t26 := Try.underlying3
 a26 := Try.isAgg3
 z26 := Try.sizeOf3
 v26 := Try.zeroValue3
 t28 := Try.underlying83
 a28 := Try.isAgg83
 z28 := Try.sizeOf83
 v28 := Try.zeroValue83
 i26 := by kernel_rfl }
def lay_sortM_ren : Go.Shelf.Ren := ⟨fun | 5 => 51 | 8 => 64 | 7 => 63 | 19 => 83 | 20 => 84 | 10 => 74 | 11 => 75 | 12 => 76 | 13 => 77 | 14 => 78 | 15 => 79 | 16 => 80 | 17 => 81 | 18 => 82 | 30 => 90 | 31 => 91 | 32 => 92 | 33 => 93 | 34 => 94 | 35 => 95 | 40 => 98 | n => n, fun | 23 => 42 | 25 => 3 | 3 => 3 | 32 => 121 | 22 => 42 | 0 => 0 | 44 => 138 | 46 => 140 | 4 => 4 | 36 => 132 | 35 => 131 | 41 => 110 | 5 => 5 | 9 => 9 | 53 => 147 | 57 => 151 | 63 => 154 | 64 => 155 | n => n, fun | n => n⟩
theorem lay_sortM : Go.Proofs.SlLaysM.n5 Try.prog lay_sortM_ren := {
 mixed := by kernel_rfl
 f5 := ⟨Try.f51.name, by decide, Try.func51.trans (congrArg some (by kernel_rfl))⟩
 f7 := ⟨Try.f63.name, by decide, Try.func63.trans (congrArg some (by kernel_rfl))⟩
 f8 := Try.func64.trans (congrArg some (by kernel_rfl))
 f10 := ⟨Try.f74.name, by decide, Try.func74.trans (congrArg some (by kernel_rfl))⟩
 f11 := ⟨Try.f75.name, by decide, Try.func75.trans (congrArg some (by kernel_rfl))⟩
 f12 := ⟨Try.f76.name, by decide, Try.func76.trans (congrArg some (by kernel_rfl))⟩
 f13 := ⟨Try.f77.name, by decide, Try.func77.trans (congrArg some (by kernel_rfl))⟩
 f14 := ⟨Try.f78.name, by decide, Try.func78.trans (congrArg some (by kernel_rfl))⟩
 f15 := ⟨Try.f79.name, by decide, Try.func79.trans (congrArg some (by kernel_rfl))⟩
 f16 := ⟨Try.f80.name, by decide, Try.func80.trans (congrArg some (by kernel_rfl))⟩
 f17 := ⟨Try.f81.name, by decide, Try.func81.trans (congrArg some (by kernel_rfl))⟩
 f18 := ⟨Try.f82.name, by decide, Try.func82.trans (congrArg some (by kernel_rfl))⟩
 f19 := Try.func83.trans (congrArg some (by kernel_rfl))
 f20 := Try.func84.trans (congrArg some (by kernel_rfl))
 f30 := ⟨Try.f90.name, by decide, Try.func90.trans (congrArg some (by kernel_rfl))⟩
 f31 := Try.func91.trans (congrArg some (by kernel_rfl))
 f32 := Try.func92.trans (congrArg some (by kernel_rfl))
 f33 := ⟨Try.f93.name, by decide, Try.func93.trans (congrArg some (by kernel_rfl))⟩
 f34 := ⟨Try.f94.name, by decide, Try.func94.trans (congrArg some (by kernel_rfl))⟩
 f35 := ⟨Try.f95.name, by decide, Try.func95.trans (congrArg some (by kernel_rfl))⟩
 f40 := ⟨Try.f98.name, by decide, Try.func98.trans (congrArg some (by kernel_rfl))⟩
 t0 := Try.underlying0
 a0 := Try.isAgg0
 z0 := Try.sizeOf0
 v0 := Try.zeroValue0
 t3 := Try.underlying3
 a3 := Try.isAgg3
 z3 := Try.sizeOf3
 v3 := Try.zeroValue3
 t4 := Try.underlying4
 a4 := Try.isAgg4
 z4 := Try.sizeOf4
 v4 := Try.zeroValue4
 t5 := Try.underlying5
 a5 := Try.isAgg5
 z5 := Try.sizeOf5
 v5 := Try.zeroValue5
 t9 := Try.underlying9
 a9 := Try.isAgg9
 z9 := Try.sizeOf9
 v9 := Try.zeroValue9
 t22 := Try.underlying42
 a22 := Try.isAgg42
 z22 := Try.sizeOf42
 v22 := Try.zeroValue42
 t23 := Try.underlying42
 a23 := Try.isAgg42
 z23 := Try.sizeOf42
 v23 := Try.zeroValue42
 t25 := Try.underlying3
 a25 := Try.isAgg3
 z25 := Try.sizeOf3
 v25 := Try.zeroValue3
 t32 := Try.underlying121
 a32 := Try.isAgg121
 z32 := Try.sizeOf121
 v32 := Try.zeroValue121
 t35 := Try.underlying131
 a35 := Try.isAgg131
 z35 := Try.sizeOf131
 v35 := Try.zeroValue131
 t36 := Try.underlying132
 a36 := Try.isAgg132
 z36 := Try.sizeOf132
 v36 := Try.zeroValue132
 t41 := Try.underlying110
 a41 := Try.isAgg110
 z41 := Try.sizeOf110
 v41 := Try.zeroValue110
 t44 := Try.underlying138
 a44 := Try.isAgg138
 z44 := Try.sizeOf138
 v44 := Try.zeroValue138
 t46 := Try.underlying140
 a46 := Try.isAgg140
 z46 := Try.sizeOf140
 v46 := Try.zeroValue140
 t53 := Try.underlying147
 a53 := Try.isAgg147
 z53 := Try.sizeOf147
 v53 := Try.zeroValue147
 t57 := Try.underlying151
 a57 := Try.isAgg151
 z57 := Try.sizeOf151
 v57 := Try.zeroValue151
 t63 := Try.underlying154
 a63 := Try.isAgg154
 z63 := Try.sizeOf154
 v63 := Try.zeroValue154
 t64 := Try.underlying155
 a64 := Try.isAgg155
 z64 := Try.sizeOf155
 v64 := Try.zeroValue155 }
end Go.Proofs.Ytmlgfgmgolgjbaa.X
end

/-! ## mClients -/
section
namespace Go.Proofs.Ytmlgfgmgolgjbaa.X
open Go.RowKit Go.Maps Go.Sort Go.Shelf Go.Proofs.YtmlgfgmgolgjbaaW.PrintWords Go.Proofs.YtmlgfgmgolgjbaaW.PrintLast Go.Proofs.YtmlgfgmgolgjbaaW.PrintMore
set_option linter.unusedVariables false
set_option linter.unusedSimpArgs false
theorem lay_sortsM (m : Nat) : AnyZI.SortsIn Try.prog lay_sortedM_ren Fence.wide m :=
  ⟨fun blk off cap ss W hH hblk hsz => callsIn_wide.2 (AnyM.slices_Sort_int lay_sortM blk off cap ss W hH hblk hsz),
   fun p cap W => callsIn_wide.2 (AnyM.slices_Sort_int_none lay_sortM p cap W)⟩
theorem keys_perm {w0 w : World} {mm mb N : Nat} {C : List Cl} (h : Held w0 w mm mb N C) {ks : List Int} (hs : ks.Pairwise (· < ·)) (hm : ∀ k, k ∈ ks ↔ ((Lit.int .i64 k).wf = true ∧ (clOf C k).isSome = true)) :
    ∃ D : DataW Unit, w.ownsMap Try.prog 3 ptrE mb N D ∧ ks.Perm (intKeys D) := by
  obtain ⟨D, hD, hDl⟩ := h.map
  refine ⟨D, hD, CollectedI.perm (left := fun _ => false) ⟨hs.imp (fun hlt => Int.ne_of_lt hlt), fun x => ?_⟩ hD (int_keyed Try.underlying3) Try.underlying3 (fun _ => rfl)⟩
  rw [hm x]
  constructor
  · rintro ⟨hw, hc⟩
    obtain ⟨c, hc⟩ := Option.isSome_iff_exists.1 hc
    refine ⟨has_true_of_atKey (y := .lit (.int .i64 (c.b : Int))) (fun z => ?_), rfl⟩
    rw [hDl x hw z, hc]
  · rintro ⟨hh, _⟩
    have hx : x ∈ intKeys D := by
      obtain ⟨es, rfl, hko⟩ := hD.keysOf
      rw [has_eq, List.any_eq_true] at hh
      obtain ⟨p, hp, hsk⟩ := hh
      obtain ⟨v, hv⟩ := hko p hp
      obtain ⟨a, _, ha, _⟩ := Maps.keyOf_i64 Try.underlying3 hv
      rw [ha] at hsk
      exact List.mem_map.2 ⟨p, hp, (by rw [ha, show a = x from by simpa [Lit.sameKey] using hsk]; rfl)⟩
    have hw := intKeys_wf hD Try.underlying3 x hx
    refine ⟨hw, ?_⟩
    cases hc : clOf C x with
    | some c => rfl
    | none =>
      have := has_false_of_atKey (k := .int .i64 x) (D := D) (fun z => by rw [hDl x hw z, hc])
      rw [hh] at this; cases this
theorem sorted_self {ks : List Int} (hs : ks.Pairwise (· < ·)) : (ks.mergeSort fun x y => decide (x ≤ y)) = ks :=
  List.mergeSort_of_pairwise (hs.imp (fun hlt => by simpa using Int.le_of_lt hlt))
set_option maxHeartbeats 1000000 in
set_option maxRecDepth 100000 in
theorem model_Clients.calls {w0 w : World} {mm mb N : Nat} {C : List Cl} (h : Held w0 w mm mb N C) (hN : N < 1000000) {ks : List Int} (hs : ks.Pairwise (· < ·)) (hm : ∀ k, k ∈ ks ↔ ((Lit.int .i64 k).wf = true ∧ (clOf C k).isSome = true)) :
    Calls Try.prog 18 #[.pointer (some ⟨mm, 0, none⟩)] w fun e w' => ∃ v, e = .returned v ∧ Kd.R (Kd.int .i64) 3 w' w.heap.size (fun _ => True) v ks ∧ Below w.heap.size w w' := by
  obtain ⟨D, hown, hperm⟩ := keys_perm h hs hm
  have hmax : Maps.size D ≤ maxLen := by have := hown.size_le; simp only [maxLen]; omega
  have hbytes : Maps.size D * 8 ≤ 140737488355328 := by have := hown.size_le; omega
  have H := Aside0.mk h
  have HP := Aside0.mk hperm
  have HS := Aside0.mk hs
  have hcm : w.cell? ⟨mm, 0, none⟩ = some (.map (some mb)) := (blk_cell h.model 0).trans rfl
  refine (callsIn_wide (n := 6)).1 ?_
  have hbl := hown.lt
  have hseq : SeqGives Fence.wide 2 Try.prog 52 #[.pointer (some ⟨w.heap.size, 0, none⟩)] encZ (fun ss => ss.Perm (intKeys D)) (Maps.size D) (w.alloc (.cells #[.map (some mb)] 38)) :=
    AnyZI.keys_gives (ρ := lay_keysM_ren) { lay_keysM with } Fence.wide _ trivial rfl (by omega) w.heap.size mb N D _ (by simp) (by simp) (by
      obtain ⟨es, clock, hb, Ft, hs, hD⟩ := hown
      exact ⟨es, clock, (Below.heap_alloc _ _ mb hbl).trans hb, Ft, hs, hD⟩)
  have cK : ∀ m W, CallsIn Fence.wide 5 Try.prog 35 #[.map m] W fun e w' => e = .returned (.func (.func 52) #[] #[.pointer (some ⟨W.heap.size, 0, none⟩)]) ∧ w' = W.alloc (.cells #[.map m] 38) := fun m W => AnyZI.keys_in lay_keysM Fence.wide 5 trivial rfl m W
  have cS := AnyZI.sorted_in lay_sortedM Fence.wide 5 trivial trivial trivial trivial rfl (by omega) (lay_sortsM _) (enters_of Try.func51 (by kernel_rfl) rfl) 52 #[.pointer (some ⟨w.heap.size, 0, none⟩)] trivial (enters_of Try.func52 (by kernel_rfl) rfl) _ _ hmax hbytes _ hseq
  change CallsIn _ _ Try.prog 34 _ _ _ at cS
  have CS := Aside0.mk cS
  have hfK : Fence.wide.fn 35 := trivial
  have hfS : Fence.wide.fn 34 := trivial
  clear cS hseq hown hperm hmax hbytes h hs hm
  refine callsIn_of_wp Try.func18 rfl trivial ?_ rfl
  simp only [Try.ntmps18, List.size_toArray, List.length_cons, List.length_nil, Nat.reduceAdd, Nat.reduceSub, Array.replicate_succ, Array.replicate_zero, List.push_toArray, List.append_toArray, List.nil_append, List.cons_append]
  gi_wp2_with (first
    | (refine ⟨trivial, ?_⟩; gi_at_call 26; refine (callsIn_wide.2 (model_none.calls mm mb _ H.out.model)).mono ?_; rintro e w1 ⟨rfl, hw⟩; obtain rfl : w = w1 := hw.symm; clear hw)
    | (gi_at_call 26; refine (callsIn_wide.2 (model_none.calls mm mb _ H.out.model)).mono ?_; rintro e w1 ⟨rfl, hw⟩; obtain rfl : w = w1 := hw.symm; clear hw)
    | (gi_at_call 35; refine (cK _ _).mono ?_; rintro e w' ⟨rfl, rfl⟩)
    | (gi_at_call 34; refine CS.out.mono ?_; rintro e w' ⟨v, ss, rfl, hS, hrow, hnil, hb⟩; have HSS := Aside0.mk hS; have HRW := Aside0.mk hrow; have HBB := Aside0.mk hb; clear hS hrow hnil hb))
  go_ret
  have e1 : (ss.mergeSort fun x y => decide (x ≤ y)) = ks := (mergeSort_of_perm_i (HSS.out.trans HP.out.symm)).trans (sorted_self HS.out)
  have e2 : ss.length = ks.length := (HSS.out.trans HP.out.symm).length_eq
  have h2 := ownsRow_base_a (base' := w.heap.size) HRW.out (by simp)
  rw [e1, e2] at h2
  exact ⟨v, rfl, Kd.R_of_own (enc := Value.int .i64) (h1 := fun _ => rfl) h2 (fun _ _ => trivial), ((Below.refl _ w).alloc (Nat.le_refl _) _).trans (HBB.out.mono (by simp))⟩
end Go.Proofs.Ytmlgfgmgolgjbaa.X
end

/-! ## mThere -/
section
namespace Go.Proofs.Ytmlgfgmgolgjbaa.X
open Go.RowKit Go.Maps Go.Proofs.YtmlgfgmgolgjbaaW.PrintWords Go.Proofs.YtmlgfgmgolgjbaaW.PrintLast Go.Proofs.YtmlgfgmgolgjbaaW.PrintMore
set_option linter.unusedVariables false
set_option linter.unusedSimpArgs false
set_option maxHeartbeats 1000000 in
set_option maxRecDepth 100000 in
theorem model_Take.there0 {w0 w : World} {mm mb n : Nat} {C : List Cl} (h : Held w0 w mm mb n C) {k num cmd tick : Int} (A : Option Addr) (c : Nat) (l : List S89) (hC : Kd.C k89 w A l.length l) (hc : l.length ≤ c) (kf : Nat) (hfit : model_fits.f kf k num cmd tick l = some 0) {v : Value} {xs : List Sn} {g : Int} (hg : num ≤ g) (Tg : Nat → Prop)
  (hof : ∀ W, Below w.heap.size w W → Calls Try.prog 28 #[.pointer (some ⟨mm, 0, none⟩), .int .i64 k] W fun e w1 => ∃ cb, e = .returned (.pointer (some ⟨cb, 0, none⟩)) ∧ Below W.heap.size W w1 ∧ CliAt w0 w1 cb v xs g ∧ Tg cb) :
  Calls Try.prog 15 #[.pointer (some ⟨mm, 0, none⟩), .int .i64 k, .int .i64 num, .int .i64 cmd, .int .i64 tick, .slice A l.length c] w fun e w' => e = .returned (.int .i64 7) ∧ Below w.heap.size w w' := by
 have H := Aside0.mk h
 have HC := Aside0.mk hC
 have FIT := Aside0.mk hfit
 have OF := Aside0.mk hof
 have d1 : decide (num ≤ g) = true := decide_eq_true hg
 clear h hC hfit hof hg
 go_enter Try.func15, Try.ntmps15
 go_wp2_with (first
  | (go_at_call 26; refine (model_none.calls mm mb _ H.out.model).mono ?_; rintro e w1 ⟨rfl, hw⟩; obtain rfl : w = w1 := hw.symm; clear hw)
  | (go_at_call 27; refine (model_fits.calls kf k num cmd tick A c l 0 _ HC.out hc FIT.out).mono ?_; rintro e w1 ⟨rfl, hb⟩; have B1 := Aside0.mk hb; clear hb)
  | (go_at_call 28; refine (OF.out _ B1.out).mono ?_; rintro e w2 ⟨cb, rfl, hb, hcl, ht⟩; have B2 := Aside0.mk (below_step B1.out hb); have hc1 : w2.cell? ⟨cb, 1, none⟩ = some (.int .i64 g) := (blk_cell hcl.blk 1).trans rfl; clear hb hcl ht))
 go_ret
 exact ⟨rfl, B2.out⟩
theorem model_Take.there {w0 w : World} {mm mb n : Nat} {C : List Cl} (h : Held w0 w mm mb n C) {k num cmd tick : Int} (hk : (Lit.int .i64 k).wf = true) (A : Option Addr) (c : Nat) (l : List S89) (hC : Kd.C k89 w A l.length l) (hc : l.length ≤ c) (hfit : fitsV k num cmd tick l = 0) {xs : List Sn} {g : Int} (hget : getC C k = (xs, g)) (hg : num ≤ g) :
  Calls Try.prog 15 #[.pointer (some ⟨mm, 0, none⟩), .int .i64 k, .int .i64 num, .int .i64 cmd, .int .i64 tick, .slice A l.length c] w fun e w' => e = .returned (.int .i64 7) ∧ Below w.heap.size w w' := by
 obtain ⟨kf, h1⟩ := fits_ev k num cmd tick l
 rw [hfit] at h1
 cases hcl : clOf C k with
 | some cl =>
  have e1 : getC C k = (cl.xs, cl.g) := by unfold getC; rw [hcl]
  rw [hget] at e1
  obtain ⟨rfl, rfl⟩ := Prod.mk.inj e1
  exact model_Take.there0 h A c l hC hc kf (h1 kf (Nat.le_refl _)) hg (fun cb => cb = cl.b) (fun W hW => of_hit h hk hcl W hW)
 | none =>
  have e1 : getC C k = ([], 0) := by unfold getC; rw [hcl]
  rw [hget] at e1
  obtain ⟨rfl, rfl⟩ := Prod.mk.inj e1
  exact model_Take.there0 h A c l hC hc kf (h1 kf (Nat.le_refl _)) hg (fun cb => w.heap.size ≤ cb) (fun W hW => of_miss h hk hcl W hW)
theorem model_Take.nil {w0 w : World} {mm mb n : Nat} {C : List Cl} (h : Held w0 w mm mb n C) (hn : n < 1000000) {k num cmd tick : Int} (hk : (Lit.int .i64 k).wf = true) (hfit : fitsV k num cmd tick [] = 0) {xs : List Sn} {g : Int} (hget : getC C k = (xs, g)) (hg : g < num) (hx : xs.length < 64) :
  Calls Try.prog 15 #[.pointer (some ⟨mm, 0, none⟩), .int .i64 k, .int .i64 num, .int .i64 cmd, .int .i64 tick, .slice none 0 0] w fun e w' => e = .returned (.int .i64 0) ∧ ∃ C' t, Held w0 w' mm mb (n + 1) C' ∧ getC C' k = (xs ++ [(num, cmd, tick, t)], num) ∧ (∀ k', k' ≠ k → clOf C' k' = clOf C k') ∧ Went mb C C' w w' := by
 obtain ⟨kf, h1⟩ := fits_ev k num cmd tick []
 obtain ⟨kc, h3⟩ := mclone_ev [] (by decide) (fun e he => by cases he)
 rw [hfit] at h1
 refine (model_Take.calls h hn hk none 0 [] (fun _ => False) (fun _ hk => hk.elim) (Kd.F_nil _ _ _) (Nat.le_refl _) kf kc (h1 kf (Nat.le_refl _)) (h3 kc (Nat.le_refl _)) (by rw [hget]; exact hg) (by rw [hget]; exact hx)).mono ?_
 rintro e w' ⟨rfl, C', t, hH, g1, g2, g3, _⟩
 exact ⟨rfl, C', t, hH, by rw [g1, hget], g2, g3⟩
end Go.Proofs.Ytmlgfgmgolgjbaa.X
end

/-! ## SatchelkitSameInts -/
section
namespace Go.Proofs.Ytmlgfgmgolgjbaa.X
open Go.RowKit Go.Proofs.YtmlgfgmgolgjbaaW.PrintWords Go.Proofs.YtmlgfgmgolgjbaaW.PrintLast Go.Proofs.YtmlgfgmgolgjbaaW.PrintMore
attribute [local go_sem] max2_int min2_int max_two min_two max_three min_three max_four min_four   -- for this text's walks alone
set_option linter.unusedVariables false
set_option linter.unusedSimpArgs false

attribute [local go_sem] str_gtr fld_fault0 fld_fault1
/-! ### satchelkit_SameInts: function 20 -/
def satchelkit_SameInts.l0 : Nat → List Int → List Int → Int → Option (Bool)
 | 0, _, _, _ => none
 | k + 1, x0, x1, x5 => if x5 < (x0.length : Int) then (if 0 ≤ x5 then (if x5 < (x1.length : Int) then (if (rd x0 x5) = (rd x1 x5) then (satchelkit_SameInts.l0 k x0 x1 (wrap64 (x5 + 1))) else (some false)) else (none)) else (none)) else (some true)
def satchelkit_SameInts.f (k : Nat) (l0 : List Int) (l1 : List Int) : Option (Bool) := if (l0.length : Int) = (l1.length : Int) then (satchelkit_SameInts.l0 k l0 l1 0) else (some false)
theorem satchelkit_SameInts.mono_l : ∀ k, (∀ y0 y1 y2, LeO (satchelkit_SameInts.l0 k y0 y1 y2) (satchelkit_SameInts.l0 (k + 1) y0 y1 y2))
 | 0 => fun _ _ _ r h => by simp [satchelkit_SameInts.l0] at h
 | k + 1 => by
  have ih0 := satchelkit_SameInts.mono_l k
  ·intro y0 y1 y2
   unfold satchelkit_SameInts.l0
   repeat' first
   | (with_reducible exact ih0 _ _ _)
   | (with_reducible exact LeO.refl _)
   | (with_reducible exact LeO.none _)
   | (with_reducible refine LeO.ite ?_ ?_)
   | (with_reducible refine LeO.bind ?_ (fun _ => ?_))
   | exact ih0 _ _ _
   | exact LeO.none _
   | refine LeO.ite ?_ ?_
   | refine LeO.bind ?_ (fun _ => ?_)
theorem satchelkit_SameInts.mono : ∀ a0 a1 k, LeO (satchelkit_SameInts.f k a0 a1) (satchelkit_SameInts.f (k + 1) a0 a1) := by
 intro a0 a1 k
 have ih0 := satchelkit_SameInts.mono_l k
 unfold satchelkit_SameInts.f
 repeat' first
   | (with_reducible exact ih0 _ _ _)
   | (with_reducible exact LeO.refl _)
   | (with_reducible exact LeO.none _)
   | (with_reducible refine LeO.ite ?_ ?_)
   | (with_reducible refine LeO.bind ?_ (fun _ => ?_))
   | exact ih0 _ _ _
   | exact LeO.none _
   | refine LeO.ite ?_ ?_
   | refine LeO.bind ?_ (fun _ => ?_)
set_option maxHeartbeats 8000000 in
set_option maxRecDepth 100000 in
theorem satchelkit_SameInts.calls (k : Nat) (A0 : Option Addr) (c0 : Nat) (l0 : List Int) (A1 : Option Addr) (c1 : Nat) (l1 : List Int) (r : Bool) (w : World) (hr0 : Kd.C (Kd.int .i64) w A0 l0.length l0) (hc0 : l0.length ≤ c0) (hr1 : Kd.C (Kd.int .i64) w A1 l1.length l1) (hc1 : l1.length ≤ c1) (h : satchelkit_SameInts.f k l0 l1 = some r) :
  Calls Try.prog 20 #[.slice A0 l0.length c0, .slice A1 l1.length c1] w fun e w' => e = .returned (.bool r) ∧ Drawn0 w w' := by
 have HR0 := Aside0.mk hr0
 have HC0 := Aside0.mk hc0
 clear hr0 hc0
 have HR1 := Aside0.mk hr1
 have HC1 := Aside0.mk hc1
 clear hr1 hc1
 have H : (if (l0.length : Int) = (l1.length : Int) then (satchelkit_SameInts.l0 k l0 l1 0) else (some false)) = some r := h
 clear h
 by_cases c3 : (l0.length : Int) = (l1.length : Int)
 ·rw [if_pos c3] at H
  have c3b0 : ((l0.length : Int) == (l1.length : Int)) = true := beq_iff_eq.mpr c3
  have c3b1 : ((l0.length : Int) != (l1.length : Int)) = false := bne_eq_false_iff_eq.mpr c3
  have c3b2 : (l0.length == l1.length) = true := by first | simpa using c3 | (simp at c3 ⊢; omega)
  clear c3
  have H' := Aside0.mk H
  clear H
  go_enter Try.func20, Try.ntmps20
  go_wp2
  repeat (go_quiet (fail); try go_wp2)
  go_loopg [5] k (fun kq v5 w' => ∃ (x5_1 : Int), v5 = .int .i64 x5_1 ∧ Aside0 (satchelkit_SameInts.l0 kq l0 l1 x5_1 = some r) ∧ Aside0 (kq ≤ k) ∧ Drawn0 w w')
  case atStart => exact ⟨(0), (by first | rfl | (simp; done) | (simp [*]; done)), H', ⟨Nat.le_refl _⟩, by repeat (first | exact Drawn0.refl _ | apply Drawn0.step)⟩
  case round =>
   clear H'
   try clear c1
   try clear c2
   try clear p2
   try clear c3
   try clear c3b0
   try clear c3b1
   try clear c3b2
   obtain ⟨x5_1, rfl, HA, HK1, ⟨m1, rfl⟩⟩ := hrel
   cases gk with
   | zero => exact absurd HA.out (by simp [satchelkit_SameInts.l0])
   | succ k1 =>
    have H := HA.out
    clear HA
    simp only [satchelkit_SameInts.l0] at H
    by_cases c4 : x5_1 < (l0.length : Int)
    ·rw [if_pos c4] at H
     have c4b0 : decide (x5_1 < (l0.length : Int)) = true := decide_eq_true c4
     clear c4
     by_cases c5 : 0 ≤ x5_1
     ·rw [if_pos c5] at H
      have c5b0 : decide (0 ≤ x5_1) = true := decide_eq_true c5
      clear c5
      by_cases c6 : x5_1 < (l1.length : Int)
      ·rw [if_pos c6] at H
       have c6b0 : decide (x5_1 < (l1.length : Int)) = true := decide_eq_true c6
       clear c6
       by_cases c7 : (rd l0 x5_1) = (rd l1 x5_1)
       ·rw [if_pos c7] at H
        have c7b0 : ((rd l0 x5_1) == (rd l1 x5_1)) = true := beq_iff_eq.mpr c7
        have c7b1 : ((rd l0 x5_1) != (rd l1 x5_1)) = false := bne_eq_false_iff_eq.mpr c7
        clear c7
        have H' := Aside0.mk H
        clear H
        have p289 : 0 ≤ (x5_1 : Int) := of_decide_eq_true (by first | (with_reducible assumption) | assumption)
        have q289 : x5_1 < (l0.length : Int) := of_decide_eq_true (by first | (with_reducible assumption) | assumption)
        obtain ⟨ad289, e289, hx289_0⟩ := Kd.at_int HR0.out x5_1 p289 q289
        cases e289
        replace p289 := eq_true p289
        replace q289 := eq_true q289
        have p290 : 0 ≤ (x5_1 : Int) := of_decide_eq_true (by first | (with_reducible assumption) | assumption)
        have q290 : x5_1 < (l1.length : Int) := of_decide_eq_true (by first | (with_reducible assumption) | assumption)
        obtain ⟨ad290, e290, hx290_0⟩ := Kd.at_int HR1.out x5_1 p290 q290
        cases e290
        replace p290 := eq_true p290
        replace q290 := eq_true q290
        go_wp2
        repeat (go_quiet (fail); try go_wp2)
        go_roundg k1
        case measure => have := HK1.out; omega
        case rel => exact ⟨(wrap64 (x5_1 + 1)), (by first | rfl | (simp; done) | (simp [*]; done)), H', ⟨by have := HK1.out; omega⟩, by repeat (first | exact Drawn0.refl _ | apply Drawn0.step)⟩
       ·rw [if_neg c7] at H
        have c7b0 : ((rd l0 x5_1) == (rd l1 x5_1)) = false := beq_eq_false_iff_ne.mpr c7
        have c7b1 : ((rd l0 x5_1) != (rd l1 x5_1)) = true := bne_iff_ne.mpr c7
        obtain rfl := Option.some.inj H
        have p289 : 0 ≤ (x5_1 : Int) := of_decide_eq_true (by first | (with_reducible assumption) | assumption)
        have q289 : x5_1 < (l0.length : Int) := of_decide_eq_true (by first | (with_reducible assumption) | assumption)
        obtain ⟨ad289, e289, hx289_0⟩ := Kd.at_int HR0.out x5_1 p289 q289
        cases e289
        replace p289 := eq_true p289
        replace q289 := eq_true q289
        have p290 : 0 ≤ (x5_1 : Int) := of_decide_eq_true (by first | (with_reducible assumption) | assumption)
        have q290 : x5_1 < (l1.length : Int) := of_decide_eq_true (by first | (with_reducible assumption) | assumption)
        obtain ⟨ad290, e290, hx290_0⟩ := Kd.at_int HR1.out x5_1 p290 q290
        cases e290
        replace p290 := eq_true p290
        replace q290 := eq_true q290
        go_wp2
        repeat (go_quiet (fail); try go_wp2)
        go_ret
        exact ⟨by first | rfl | (simp; done) | (simp [*]; done), by repeat (first | exact Drawn0.refl _ | apply Drawn0.step)⟩
      ·rw [if_neg c6] at H
       exact absurd H (by simp)
     ·rw [if_neg c5] at H
      exact absurd H (by simp)
    ·rw [if_neg c4] at H
     have c4b0 : decide (x5_1 < (l0.length : Int)) = false := decide_eq_false c4
     clear c4
     obtain rfl := Option.some.inj H
     go_wp2
     repeat (go_quiet (fail); try go_wp2)
     go_ret
     exact ⟨by first | rfl | (simp; done) | (simp [*]; done), by repeat (first | exact Drawn0.refl _ | apply Drawn0.step)⟩
 ·rw [if_neg c3] at H
  have c3b0 : ((l0.length : Int) == (l1.length : Int)) = false := beq_eq_false_iff_ne.mpr c3
  have c3b1 : ((l0.length : Int) != (l1.length : Int)) = true := bne_iff_ne.mpr c3
  have c3b2 : (l0.length == l1.length) = false := by first | simpa using c3 | (simp at c3 ⊢; omega)
  obtain rfl := Option.some.inj H
  go_enter Try.func20, Try.ntmps20
  go_wp2
  repeat (go_quiet (fail); try go_wp2)
  go_ret
  exact ⟨by first | rfl | (simp; done) | (simp [*]; done), by repeat (first | exact Drawn0.refl _ | apply Drawn0.step)⟩

end Go.Proofs.Ytmlgfgmgolgjbaa.X
end

/-! ## mWalkKnown -/
section
namespace Go.Proofs.Ytmlgfgmgolgjbaa.X
open Go.RowKit Go.Maps Go.Proofs.YtmlgfgmgolgjbaaW.PrintWords Go.Proofs.YtmlgfgmgolgjbaaW.PrintLast Go.Proofs.YtmlgfgmgolgjbaaW.PrintMore
set_option linter.unusedVariables false
set_option linter.unusedSimpArgs false
/-- The model has client 7 alone. -/
structure Only (w0 W : World) (mm mb N : Nat) (C : List Cl) (xs : List Sn) (g : Int) : Prop where
  held : Held w0 W mm mb N C
  get : getC C 7 = (xs, g)
  rest : ∀ k, k ≠ 7 → clOf C k = none
theorem Only.after {w0 W W' : World} {mm mb N : Nat} {C : List Cl} {xs : List Sn} {g : Int} (h : Only w0 W mm mb N C xs g) (hb : Below W.heap.size W W') : Only w0 W' mm mb N C xs g := ⟨h.held.after hb, h.get, h.rest⟩
theorem Only.cl {w0 W : World} {mm mb N : Nat} {C : List Cl} {xs : List Sn} {g : Int} (h : Only w0 W mm mb N C xs g) (hg : g ≠ 0) : ∃ cl, clOf C 7 = some cl ∧ cl.xs = xs ∧ cl.g = g := by
 have h1 := h.get
 unfold getC at h1
 cases hc : clOf C 7 with
 | some cl => rw [hc] at h1; obtain ⟨rfl, rfl⟩ := Prod.mk.inj h1; exact ⟨cl, rfl, rfl, rfl⟩
 | none => rw [hc] at h1; exact absurd (Prod.mk.inj h1).2.symm hg
theorem kn_backs {w0 W : World} {mm mb N : Nat} {C : List Cl} {xs : List Sn} {g cmd num : Int} (h : Only w0 W mm mb N C xs g) (hn : N < 1000000) (hc1 : 1 ≤ cmd) (hc2 : cmd ≤ 1000) (hg0 : 0 ≤ g) (hg : g < 1000000) (hx : xs.length < 64) (hlast : lastCmd xs cmd = none) (hnum : g + 1 = num) :
  Calls Try.prog 19 #[.pointer (some ⟨mm, 0, none⟩), .int .i64 cmd, .int .i64 num] W fun e w' => e = .returned (.bool true) ∧ ∃ C' t, Only w0 w' mm mb (N + 1) C' (xs ++ [(num, cmd, 5, t)]) num ∧ TreeAt mb C' w' t sampleT := by
 refine (backs.miss' h.held hn hc1 hc2 h.get hg0 hg hx hlast hnum).mono ?_
 rintro e w' ⟨rfl, C', t, hH, g1, g2, _, g4⟩
 exact ⟨rfl, C', t, ⟨hH, g1, fun k hk => (g2 k hk).trans (h.rest k hk)⟩, g4⟩
theorem kn_get {w0 W : World} {mm mb N : Nat} {C : List Cl} {xs : List Sn} {g n : Int} (h : Only w0 W mm mb N C xs g) (hg : g ≠ 0) (hlen : xs.length < 1000) {i : Nat} (h1 : i < xs.length) (h2 : (xs.getD i zSn).1 = n) (h3 : ∀ j : Nat, j < i → (xs.getD j zSn).1 ≠ n) (ht : TreeAt mb C W (xs.getD i zSn).2.2.2 sampleT) :
  Calls Try.prog 14 #[.pointer (some ⟨mm, 0, none⟩), .int .i64 7, .int .i64 n] W fun e w' => ∃ v, e = .returned (.tuple #[v, .int .i64 0]) ∧ Below W.heap.size W w' := by
 obtain ⟨cl, hcl, rfl, rfl⟩ := h.cl hg
 obtain ⟨kc, h4⟩ := mclone_ev sampleT (by decide) sample_fits
 refine (model_Get.hit h.held seven hcl hlen h1 h2 h3 ht (h4 kc (Nat.le_refl _))).mono ?_
 rintro e w' ⟨v, rfl, _, hb⟩
 exact ⟨v, rfl, hb⟩
theorem kn_forget {w0 W : World} {mm mb N : Nat} {C : List Cl} {xs : List Sn} {g n : Int} (h : Only w0 W mm mb N C xs g) (hg : g ≠ 0) (hlen : xs.length < 1000) (hn1 : 1 ≤ n) (hn2 : n ≤ g) {ys : List Sn} (hys : (xs.filter fun s => decide (s.1 ≠ n)) = ys) :
  Calls Try.prog 16 #[.pointer (some ⟨mm, 0, none⟩), .int .i64 7, .int .i64 n] W fun e w' => e = .returned (.int .i64 0) ∧ ∃ C', Only w0 w' mm mb N C' ys g := by
 obtain ⟨cl, hcl, rfl, rfl⟩ := h.cl hg
 refine (model_Forget.hit h.held seven hcl hlen hn1 hn2).mono ?_
 rintro e w' ⟨rfl, v', hH, _⟩
 refine ⟨rfl, _, hH, ?_, fun k hk => ?_⟩
 ·unfold getC
  rw [clOf_new _ _ _ rfl, ← hys]
 ·rw [clOf_rest _ _ _ rfl hk]; exact h.rest k hk
theorem kn_nil {w0 W : World} {mm mb N : Nat} {C : List Cl} {xs : List Sn} {g num : Int} (h : Only w0 W mm mb N C xs g) (hn : N < 1000000) (hfit : fitsV 7 num 1 1 [] = 0) (hg : g < num) (hx : xs.length < 64) :
  Calls Try.prog 15 #[.pointer (some ⟨mm, 0, none⟩), .int .i64 7, .int .i64 num, .int .i64 1, .int .i64 1, .slice none 0 0] W fun e w' => e = .returned (.int .i64 0) ∧ ∃ C' t, Only w0 w' mm mb (N + 1) C' (xs ++ [(num, 1, 1, t)]) num := by
 refine (model_Take.nil h.held hn seven hfit h.get hg hx).mono ?_
 rintro e w' ⟨rfl, C', t, hH, g1, g2, _⟩
 exact ⟨rfl, C', t, hH, g1, fun k hk => (g2 k hk).trans (h.rest k hk)⟩
theorem kn_expire {w0 W : World} {mm mb N : Nat} {C : List Cl} {t1 t2 t3 : Option Addr × Nat × Nat} (h : Only w0 W mm mb N C [(1, 3, 5, t1), (3, 5, 5, t2), (9, 1, 1, t3)] 9) :
  Calls Try.prog 13 #[.pointer (some ⟨mm, 0, none⟩), .int .i64 7, .agg #[.int .i64 1, .int .i64 0, .int .i64 0]] W fun e w' => ∃ v C' ys, e = .returned (.tuple #[v, .int .i64 0]) ∧ Kd.R (Kd.int .i64) 3 w' W.heap.size (fun _ => True) v [1, 3] ∧ Only w0 w' mm mb N C' ys 9 := by
 obtain ⟨cl, hcl, hxs, hgg⟩ := h.cl (by decide)
 have hmap : cl.xs.map toS = [⟨1, 5⟩, ⟨3, 5⟩, ⟨9, 1⟩] := by rw [hxs]; rfl
 have hgone : ∀ D : DataW Unit, D = .map [] → goneTo D (cl.xs.map toS) 1 (cl.xs.map toS).length = [1, 3] := by
  rintro D rfl
  rw [hmap]
  decide
 refine (model_Expire.hit h.held seven hcl (by rw [hxs]; simp) (last := 1) (sp := 0) (sps := 0) (by rfl) (ks := 10) (by rw [hmap]; kernel_rfl) (by decide) (by decide) (by rw [hmap]; decide) (fun D => D = .map []) (fun W' A c hW hC hc => ?_)).mono ?_
 ·refine (retain_ends.zero A _ c 1 0 W').mono ?_
  rintro e w' ⟨b, rfl, _, hD, hb⟩
  exact ⟨b, 0, _, rfl, hD, rfl, hb⟩
 ·rintro e w' ⟨v, D, C', rfl, hD, hR, hH, _, g1, g2⟩
  rw [hgone D hD] at hR
  rw [hgg] at g1
  exact ⟨v, C', _, rfl, hR, hH, g1, fun k hk => (g2 k hk).trans (h.rest k hk)⟩
theorem kn_clients {w0 W : World} {mm mb N : Nat} {C : List Cl} {xs : List Sn} {g : Int} (h : Only w0 W mm mb N C xs g) (hg : g ≠ 0) (hN : N < 1000000) :
  Calls Try.prog 18 #[.pointer (some ⟨mm, 0, none⟩)] W fun e w' => ∃ v, e = .returned v ∧ Kd.R (Kd.int .i64) 3 w' W.heap.size (fun _ => True) v [7] ∧ Below W.heap.size W w' := by
 refine model_Clients.calls h.held hN (List.pairwise_singleton _ _) (fun k => ?_)
 constructor
 ·intro hk
  obtain rfl := List.mem_singleton.1 hk
  obtain ⟨cl, hcl, _⟩ := h.cl hg
  exact ⟨by decide, by rw [hcl]; rfl⟩
 ·rintro ⟨_, hs⟩
  by_cases e : k = 7
  ·rw [e]; simp
  ·rw [h.rest k e] at hs; cases hs
/-- A row of whole numbers, read out of its block. -/
theorem row_ints {W : World} {g : Nat} (xs : List Int) (hl : xs.length < 1000) (h : W.heap[g]? = some (.cells (xs.map (Value.int .i64)).toArray 3 (0, 0))) : Kd.C (Kd.int .i64) W (some ⟨g, 0, none⟩) xs.length xs := by
 refine ⟨rfl, by omega, fun _ => ⟨⟨g, 0, none⟩, rfl, fun j p hj => ⟨[.int .i64 p], rfl, rfl, fun i u hu => ?_⟩⟩⟩
 match i with
 | 0 =>
  obtain rfl : Value.int .i64 p = u := by simpa using hu
  have e : (⟨g, 0, none⟩ : Addr).add (j * 1 + 0) = ⟨g, j, none⟩ := by
   unfold Addr.add
   split
   ·rename_i h0; rw [show j = 0 by omega]
   ·simp
  show W.cell? ((⟨g, 0, none⟩ : Addr).add (j * 1 + 0)) = _
  rw [e, blk_cell h j]
  simp [hj]
 | i + 1 => simp at hu
theorem fit79 : fitsV 7 9 1 1 [] = 0 := by unfold fitsV; rw [if_pos (by omega)]; rfl
theorem fit73 : fitsV 7 3 1 1 [] = 0 := by unfold fitsV; rw [if_pos (by omega)]; rfl
set_option maxHeartbeats 4000000 in
set_option maxRecDepth 100000 in
theorem modelKnown.calls (w : World) : Calls Try.prog 5 #[] w fun e w' => e = .returned (.bool true) ∧ Below w.heap.size w w' := by
 have SI1 : Aside0 (satchelkit_SameInts.f 10 [1, 3] [1, 3] = some true) := ⟨by kernel_rfl⟩
 have SI2 : Aside0 (satchelkit_SameInts.f 10 [7] [7] = some true) := ⟨by kernel_rfl⟩
 have GATE1 := Aside0.mk True.intro
 go_enter Try.func5, Try.ntmps5
 go_wp2_with (first
  | (go_at_call 8; have G_ := GATE1; refine (model_New.calls _).mono ?_; rintro e w1 ⟨rfl, hw⟩; have H1 := Aside0.mk (show Only w w1 (w.heap.size + 1) w.heap.size 0 [] [] 0 from ⟨hw ▸ Held.new (Below.refl w.heap.size w), rfl, fun _ _ => rfl⟩); clear hw G_ GATE1)
  | (go_at_call 19; have G_ := H1; refine (kn_backs H1.out (by decide) (by decide) (by decide) (by decide) (by decide) (by decide) rfl rfl).mono ?_; rintro e w2 ⟨rfl, C2, t2, hH, _⟩; have H2 := Aside0.mk (show Only w w2 _ _ _ C2 [(1, 3, 5, t2)] 1 from hH); clear hH G_ H1)
  | (go_at_call 19; have G_ := H2; refine (kn_backs H2.out (by decide) (by decide) (by decide) (by decide) (by decide) (by simp) rfl rfl).mono ?_; rintro e w3 ⟨rfl, C3, t3, hH, hT⟩; have H3 := Aside0.mk (show Only w w3 _ _ _ C3 [(1, 3, 5, t2), (2, 4, 5, t3)] 2 from hH); have T3 := Aside0.mk hT; clear hH hT G_ H2)
  | (go_at_call 14; have G_ := H3; refine (kn_get (i := 1) H3.out (by decide) (by simp) (by simp) rfl (fun j hj => (by have e0 : j = 0 := (by omega); subst e0; exact (by decide : ((1 : Int) ≠ 2)))) T3.out).mono ?_; rintro e w4 ⟨v4, rfl, hb⟩; have H4 := Aside0.mk (H3.out.after hb); clear hb G_ H3)
  | (go_at_call 16; have G_ := H4; refine (kn_forget H4.out (by decide) (by simp) (by decide) (by decide) (ys := [(1, 3, 5, t2)]) rfl).mono ?_; rintro e w5 ⟨rfl, C5, hH⟩; have H5 := Aside0.mk hH; clear hH G_ H4)
  | (go_at_call 16; have G_ := H5; refine (kn_forget H5.out (by decide) (by simp) (by decide) (by decide) (ys := [(1, 3, 5, t2)]) rfl).mono ?_; rintro e w6 ⟨rfl, C6, hH⟩; have H6 := Aside0.mk hH; clear hH G_ H5)
  | (go_at_call 16; have G_ := H6; refine (model_Forget.miss H6.out.held seven H6.out.get (.inr (by decide))).mono ?_; rintro e w7 ⟨rfl, hb⟩; have H7 := Aside0.mk (H6.out.after hb); clear hb G_ H6)
  | (go_at_call 14; have G_ := H7; refine (model_Get.miss H7.out.held seven H7.out.get (by simp) (fun j hj => (by have e0 : j = 0 := (by simp at hj; omega); subst e0; exact (by decide : ((1 : Int) ≠ 2))))).mono ?_; rintro e w8 ⟨rfl, hb⟩; have H8 := Aside0.mk (H7.out.after hb); clear hb G_ H7)
  | (go_at_call 19; have G_ := H8; refine (kn_backs H8.out (by decide) (by decide) (by decide) (by decide) (by decide) (by simp) rfl rfl).mono ?_; rintro e w9 ⟨rfl, C9, t9, hH, _⟩; have H9 := Aside0.mk (show Only w w9 _ _ _ C9 [(1, 3, 5, t2), (3, 5, 5, t9)] 3 from hH); clear hH G_ H8)
  | (go_at_call 15; have G_ := H9; refine (model_Take.there H9.out.held seven none 0 [] (Kd.C_nil _ _) (Nat.le_refl _) fit73 H9.out.get (by decide)).mono ?_; rintro e wA ⟨rfl, hb⟩; have HA := Aside0.mk (H9.out.after hb); clear hb G_ H9)
  | (go_at_call 15; have G_ := HA; refine (kn_nil HA.out (by decide) fit79 (by decide) (by simp)).mono ?_; rintro e wB ⟨rfl, CB, tB, hH⟩; have HB := Aside0.mk (show Only w wB _ _ _ CB [(1, 3, 5, t2), (3, 5, 5, t9), (9, 1, 1, tB)] 9 from hH); clear hH G_ HA)
  | (go_at_call 13; have G_ := HB; refine (kn_expire HB.out).mono ?_; rintro e wC ⟨vC, CC, yC, rfl, hR, hH⟩; obtain ⟨AC, cC, rfl⟩ := Kd.R_slice hR; have RC := Aside0.mk (Kd.R_reads' hR); have HC := Aside0.mk hH; clear hR hH G_ HB)
  | (go_at_call 7; have G_ := HC; refine (awake.calls _).mono ?_; rintro e wD ⟨rfl, hb⟩; have HD := Aside0.mk (HC.out.after hb); have RD := Aside0.mk (Kd.C_below RC.out.2.2 hb); clear hb G_ HC)
  | (go_at_call 20; have G_ := RD; refine (satchelkit_SameInts.calls 10 AC cC [1, 3] _ 2 [1, 3] true _ (Kd.C_alloc RD.out _) RC.out.2.1 (row_ints [1, 3] (by decide) (heap_alloc_new wD _)) (Nat.le_refl _) SI1.out).mono ?_; rintro e wE ⟨rfl, hd⟩; have HE := Aside0.mk (HD.out.after (below_step (below_alloc (Below.refl _ wD) _) (Drawn0.below hd))); clear hd G_ RD HD)
  | (go_at_call 18; have G_ := HE; refine (kn_clients HE.out (by decide) (by decide)).mono ?_; rintro e wF ⟨vF, rfl, hR, hb⟩; obtain ⟨AF, cF, rfl⟩ := Kd.R_slice hR; have RF := Aside0.mk (Kd.R_reads' hR); have HF := Aside0.mk (HE.out.after hb); clear hR hb G_ HE)
  | (go_at_call 20; have G_ := RF; refine (satchelkit_SameInts.calls 10 AF cF [7] _ 1 [7] true _ (Kd.C_alloc RF.out.2.2 _) RF.out.2.1 (row_ints [7] (by decide) (heap_alloc_new wF _)) (Nat.le_refl _) SI2.out).mono ?_; rintro e wG ⟨rfl, hd⟩; have HG := Aside0.mk (HF.out.after (below_step (below_alloc (Below.refl _ wF) _) (Drawn0.below hd))); clear hd G_ RF HF))
 go_ret
 exact ⟨rfl, HG.out.held.below⟩
end Go.Proofs.Ytmlgfgmgolgjbaa.X
end
