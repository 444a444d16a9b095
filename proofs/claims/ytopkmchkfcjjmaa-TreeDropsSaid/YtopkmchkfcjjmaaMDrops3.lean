/- Functions, one behind the other: a plain Lean function for each, and the proof that the call comes to its answer, whatever the world (conditions: what the arguments read as); and plain laws of them. -/
import Derived.Test.YtopkmchkfcjjmaaMDrops2
import Derived.Lib.LazyBuf
import Derived.Laws.Append
import Derived.Deep.RegionWith
import Derived.StillTailTactics
import Derived.Laws.Entries
/-! ## TreeCheck -/
section
namespace Go.Proofs.Ytopkmchkfcjjmaa.X
open Go.RowKit Go.Proofs.YtopkmchkfcjjmaaW.PrintWords Go.Proofs.YtopkmchkfcjjmaaW.PrintLast Go.Proofs.YtopkmchkfcjjmaaW.PrintMore
attribute [local go_sem] max2_int min2_int max_two min_two max_three min_three max_four min_four   -- for this text's walks alone
set_option linter.unusedVariables false
set_option linter.unusedSimpArgs false

attribute [local go_sem] str_gtr fld_fault0 fld_fault1
/-! ### tree_Check: function 11 -/
mutual
def tree_Check.l0 : Nat → List (S31) → List (S31) → Int → Int → Option (Int × Int)
 | 0, _, _, _, _ => none
 | k + 1, x0, x14, x15, x16 => if x16 < x15 then (if 0 ≤ x16 then (if x16 < (x14.length : Int) then ((tree_one.f k ((rd_T31 x14 x16).f0) ((rd_T31 x14 x16).f1) ((rd_T31 x14 x16).f2) ((rd_T31 x14 x16).f3) ((rd_T31 x14 x16).f4)).bind fun t124 => (if t124 = 0 then (if x16 > 0 then (if 0 ≤ (wrap64 (x16 - 1)) then (if (wrap64 (x16 - 1)) < (x0.length : Int) then ((path_Compare.f k ((rd_T31 x0 (wrap64 (x16 - 1))).f0) ((rd_T31 x14 x16).f0)).bind fun t126 => (tree_Check.j1 k x0 x16 x14 x15 x16 (decide (t126 ≥ 0)) ((rd_T31 x14 x16).f0) ((rd_T31 x14 x16).f1) ((rd_T31 x14 x16).f2) ((rd_T31 x14 x16).f3) ((rd_T31 x14 x16).f4))) else (none)) else (none)) else (tree_Check.j1 k x0 x16 x14 x15 x16 false ((rd_T31 x14 x16).f0) ((rd_T31 x14 x16).f1) ((rd_T31 x14 x16).f2) ((rd_T31 x14 x16).f3) ((rd_T31 x14 x16).f4))) else (some (t124, x16)))) else (none)) else (none)) else (some (0, 0))
def tree_Check.j1 : Nat → List (S31) → Int → List (S31) → Int → Int → Bool → ByteArray → Int → Int → List Int → ByteArray → Option (Int × Int)
 | 0, _, _, _, _, _, _, _, _, _, _, _ => none
 | k + 1, x0, x4, x14, x15, x16, x40, x124000, x124001, x124002, x124003, x124004 => if x40 = true then (some (7, x4)) else ((path_Parent.f k x124000).bind fun bt127 => (if bt127.2 = true then (if 0 ≤ x4 then (if x4 ≤ (x0.length : Int) then ((tree_place.f k (x0.take (x4 : Int).toNat) bt127.1).bind fun bt133 => (if bt133.2 = true then (if 0 ≤ bt133.1 then (if bt133.1 < (x0.length : Int) then (if ((rd_T31 x0 bt133.1).f1) = 1 then (tree_Check.l0 k x0 x14 x15 (wrap64 (x16 + 1))) else (some (6, x4))) else (none)) else (none)) else (some (6, x4)))) else (none)) else (none)) else (tree_Check.l0 k x0 x14 x15 (wrap64 (x16 + 1)))))
end
def tree_Check.f (k : Nat) (l0 : List (S31)) : Option (Int × Int) := if (l0.length : Int) > 200 then (some (3, 0)) else (tree_Check.l0 k l0 l0 (l0.length : Int) 0)
theorem tree_Check.mono_l : ∀ k, (∀ y0 y1 y2 y3, LeO (tree_Check.l0 k y0 y1 y2 y3) (tree_Check.l0 (k + 1) y0 y1 y2 y3)) ∧ (∀ y0 y1 y2 y3 y4 y5 y6 y7 y8 y9 y10, LeO (tree_Check.j1 k y0 y1 y2 y3 y4 y5 y6 y7 y8 y9 y10) (tree_Check.j1 (k + 1) y0 y1 y2 y3 y4 y5 y6 y7 y8 y9 y10))
 | 0 => ⟨fun _ _ _ _ r h => by simp [tree_Check.l0] at h, fun _ _ _ _ _ _ _ _ _ _ _ r h => by simp [tree_Check.j1] at h⟩
 | k + 1 => by
  obtain ⟨ih0, ih1⟩ := tree_Check.mono_l k
  refine ⟨?_, ?_⟩
  ·intro y0 y1 y2 y3
   unfold tree_Check.l0
   repeat' first
   | (with_reducible exact ih0 _ _ _ _)
   | (with_reducible exact ih1 _ _ _ _ _ _ _ _ _ _ _)
   | (with_reducible exact path_Compare.mono _ _ _)
   | (with_reducible exact path_Parent.mono _ _)
   | (with_reducible exact tree_one.mono _ _ _ _ _ _)
   | (with_reducible exact tree_place.mono _ _ _)
   | (with_reducible exact LeO.refl _)
   | (with_reducible exact LeO.none _)
   | (with_reducible refine LeO.ite ?_ ?_)
   | (with_reducible refine LeO.bind ?_ (fun _ => ?_))
   | exact ih0 _ _ _ _
   | exact ih1 _ _ _ _ _ _ _ _ _ _ _
   | exact path_Compare.mono _ _ _
   | exact path_Parent.mono _ _
   | exact tree_one.mono _ _ _ _ _ _
   | exact tree_place.mono _ _ _
   | exact LeO.none _
   | refine LeO.ite ?_ ?_
   | refine LeO.bind ?_ (fun _ => ?_)
  ·intro y0 y1 y2 y3 y4 y5 y6 y7 y8 y9 y10
   unfold tree_Check.j1
   repeat' first
   | (with_reducible exact ih0 _ _ _ _)
   | (with_reducible exact ih1 _ _ _ _ _ _ _ _ _ _ _)
   | (with_reducible exact path_Compare.mono _ _ _)
   | (with_reducible exact path_Parent.mono _ _)
   | (with_reducible exact tree_one.mono _ _ _ _ _ _)
   | (with_reducible exact tree_place.mono _ _ _)
   | (with_reducible exact LeO.refl _)
   | (with_reducible exact LeO.none _)
   | (with_reducible refine LeO.ite ?_ ?_)
   | (with_reducible refine LeO.bind ?_ (fun _ => ?_))
   | exact ih0 _ _ _ _
   | exact ih1 _ _ _ _ _ _ _ _ _ _ _
   | exact path_Compare.mono _ _ _
   | exact path_Parent.mono _ _
   | exact tree_one.mono _ _ _ _ _ _
   | exact tree_place.mono _ _ _
   | exact LeO.none _
   | refine LeO.ite ?_ ?_
   | refine LeO.bind ?_ (fun _ => ?_)
theorem tree_Check.mono : ∀ a0 k, LeO (tree_Check.f k a0) (tree_Check.f (k + 1) a0) := by
 intro a0 k
 obtain ⟨ih0, ih1⟩ := tree_Check.mono_l k
 unfold tree_Check.f
 repeat' first
   | (with_reducible exact ih0 _ _ _ _)
   | (with_reducible exact ih1 _ _ _ _ _ _ _ _ _ _ _)
   | (with_reducible exact path_Compare.mono _ _ _)
   | (with_reducible exact path_Parent.mono _ _)
   | (with_reducible exact tree_one.mono _ _ _ _ _ _)
   | (with_reducible exact tree_place.mono _ _ _)
   | (with_reducible exact LeO.refl _)
   | (with_reducible exact LeO.none _)
   | (with_reducible refine LeO.ite ?_ ?_)
   | (with_reducible refine LeO.bind ?_ (fun _ => ?_))
   | exact ih0 _ _ _ _
   | exact ih1 _ _ _ _ _ _ _ _ _ _ _
   | exact path_Compare.mono _ _ _
   | exact path_Parent.mono _ _
   | exact tree_one.mono _ _ _ _ _ _
   | exact tree_place.mono _ _ _
   | exact LeO.none _
   | refine LeO.ite ?_ ?_
   | refine LeO.bind ?_ (fun _ => ?_)
def tree_Check.T9 : Bool × List (List Nat × List Nat) := (true, [([], []), ([0], [0]), ([1], [1]), ([2], [2]), ([2], [2]), ([4, 2], [2, 4]), ([3, 5, 2], [2, 3, 5]), ([6, 2], [2, 6]), ([7, 2], [2, 7]), ([2], [2]), ([9, 2], [2, 9]), ([8, 10, 2, 2], [2, 8, 10]), ([11, 2], [2, 11]), ([2, 12], [2, 12])])
def tree_Check.B9 : List Nat := [0, 1, 3, 7, 7, 23, 63, 127, 255, 7, 519, 2047, 4095, 8191]
theorem tree_Check.tab9 : rtab .any (opsOf Try.f11 9) = tree_Check.T9 := by kernel_rfl
theorem tree_Check.bits9 : waitsOk tree_Check.T9.2 tree_Check.B9 = true := by kernel_rfl
set_option maxHeartbeats 8000000 in
set_option maxRecDepth 100000 in
theorem tree_Check.calls (k : Nat) (A0 : Option Addr) (c0 : Nat) (l0 : List (S31)) (r1 : Int) (r2 : Int) (w : World) (hr0 : Kd.C k31 w A0 l0.length l0) (hc0 : l0.length ≤ c0) (h : tree_Check.f k l0 = some (r1, r2)) :
  Calls Try.prog 11 #[.slice A0 l0.length c0] w fun e w' => e = .returned (.tuple #[.int .i64 r1, .int .i64 r2]) ∧ Below w.heap.size w w' := by
 have hu31 := Try.underlying31
 have HR0 := Aside0.mk hr0
 have HC0 := Aside0.mk hc0
 clear hr0 hc0
 have HB := Aside0.mk (Below.refl w.heap.size w)
 have H : (if (l0.length : Int) > 200 then (some (3, 0)) else (tree_Check.l0 k l0 l0 (l0.length : Int) 0)) = some (r1, r2) := h
 clear h
 by_cases c2 : (l0.length : Int) > 200
 ·rw [if_pos c2] at H
  have c2b0 : decide (200 < (l0.length : Int)) = true := decide_eq_true c2
  have c2b1 : decide (200 < l0.length) = true := decide_eq_true (by omega)
  clear c2
  simp only [Option.some.injEq, Prod.mk.injEq] at H
  obtain ⟨rfl, rfl⟩ := H
  go_enter Try.func11, Try.ntmps11
  go_wp2
  go_ret2
  exact ⟨by first | rfl | (simp [errW_none, errW_some] <;> rfl) | (simp [*, errW_none, errW_some] <;> rfl) | (simp [bt, *]; done) | (simp_all [bt]; done), by repeat (first | (with_reducible first | exact HB.out | apply below_alloc | apply pw_below_drewN | apply below_drew1) | exact HB.out)⟩
 ·rw [if_neg c2] at H
  have c2b0 : decide (200 < (l0.length : Int)) = false := decide_eq_false c2
  have c2b1 : decide (200 < l0.length) = false := decide_eq_false (by omega)
  clear c2
  have H' := Aside0.mk H
  clear H
  go_enter Try.func11, Try.ntmps11
  go_wp2
  go_loopg [16] k (fun kq v16 w' => ∃ (x16_1 : Int), v16 = .int .i64 x16_1 ∧ Aside0 (tree_Check.l0 kq l0 l0 (l0.length : Int) x16_1 = some (r1, r2)) ∧ Aside0 (kq ≤ k) ∧ Aside0 (Below w.heap.size w w'))
  case atStart => exact ⟨(0), (by first | rfl | (simp; done) | (simp [*]; done)), H', ⟨Nat.le_refl _⟩, ⟨by repeat (first | (with_reducible first | exact HB.out | apply below_alloc | apply pw_below_drewN | apply below_drew1) | exact HB.out)⟩⟩
  case round =>
   clear H'
   try clear c1
   try clear c2
   try clear c2b0
   try clear c2b1
   try clear p2
   obtain ⟨x16_1, rfl, HA, HK1, HB⟩ := hrel
   cases gk with
   | zero => exact absurd HA.out (by simp [tree_Check.l0])
   | succ k1 =>
    have H := HA.out
    clear HA
    simp only [tree_Check.l0] at H
    by_cases c3 : x16_1 < (l0.length : Int)
    ·rw [if_pos c3] at H
     have c3b0 : decide (x16_1 < (l0.length : Int)) = true := decide_eq_true c3
     clear c3
     by_cases c4 : 0 ≤ x16_1
     ·rw [if_pos c4] at H
      have c4b0 : decide (0 ≤ x16_1) = true := decide_eq_true c4
      clear c4
      by_cases c5 : x16_1 < (l0.length : Int)
      ·rw [if_pos c5] at H
       have c5b0 : decide (x16_1 < (l0.length : Int)) = true := decide_eq_true c5
       clear c5
       replace H := Option.bind_eq_some_iff.mp H
       obtain ⟨t124, A60, H⟩ := H
       replace H : (if t124 = 0 then (if x16_1 > 0 then (if 0 ≤ (wrap64 (x16_1 - 1)) then (if (wrap64 (x16_1 - 1)) < (l0.length : Int) then ((path_Compare.f k1 ((rd_T31 l0 (wrap64 (x16_1 - 1))).f0) ((rd_T31 l0 x16_1).f0)).bind fun t126 => (tree_Check.j1 k1 l0 x16_1 l0 (l0.length : Int) x16_1 (decide (t126 ≥ 0)) ((rd_T31 l0 x16_1).f0) ((rd_T31 l0 x16_1).f1) ((rd_T31 l0 x16_1).f2) ((rd_T31 l0 x16_1).f3) ((rd_T31 l0 x16_1).f4))) else (none)) else (none)) else (tree_Check.j1 k1 l0 x16_1 l0 (l0.length : Int) x16_1 false ((rd_T31 l0 x16_1).f0) ((rd_T31 l0 x16_1).f1) ((rd_T31 l0 x16_1).f2) ((rd_T31 l0 x16_1).f3) ((rd_T31 l0 x16_1).f4))) else (some (t124, x16_1))) = some (r1, r2) := H
       have A6 := Aside0.mk A60
       clear A60
       by_cases c7 : t124 = 0
       ·rw [if_pos c7] at H
        have c7b0 : (t124 == 0) = true := beq_iff_eq.mpr c7
        have c7b1 : (t124 != 0) = false := bne_eq_false_iff_eq.mpr c7
        clear c7
        have HC8 := Aside0.mk H
        clear H
        have p122 : 0 ≤ (x16_1 : Int) := of_decide_eq_true (by first | (with_reducible assumption) | assumption)
        have q122 : x16_1 < (l0.length : Int) := of_decide_eq_true (by first | (with_reducible assumption) | assumption)
        obtain ⟨ad122, A122_3, c122_3, e122, hx122_0, hx122_1, hx122_2, hx122_3, hx122_4, hl122_3, hi122_3⟩ := at_T31 HR0.out x16_1 p122 q122
        cases e122
        replace hx122_0 := (HB.out.cell (World.block_lt_of_cell? w _ hx122_0)).trans hx122_0
        replace hx122_1 := (HB.out.cell (World.block_lt_of_cell? w _ hx122_1)).trans hx122_1
        replace hx122_2 := (HB.out.cell (World.block_lt_of_cell? w _ hx122_2)).trans hx122_2
        replace hx122_3 := (HB.out.cell (World.block_lt_of_cell? w _ hx122_3)).trans hx122_3
        replace hx122_4 := (HB.out.cell (World.block_lt_of_cell? w _ hx122_4)).trans hx122_4
        have HR122_3 := Aside0.mk hi122_3
        have HC122_3 := Aside0.mk hl122_3
        clear hi122_3 hl122_3
        replace p122 := eq_true p122
        replace q122 := eq_true q122
        go_upto_region 9 with (first | ((with_reducible refine gate_dst (N := 5) rfl ?_); refine box_event ?hg (N := 5) ?hd (cs := #[.string (⟨#[]⟩ : ByteArray), .int .i64 0, .int .i64 0, .slice none 0 0, .string (⟨#[]⟩ : ByteArray)]) (t := 31) ?hr ?_; (case hd => rfl); (case hg => rfl); (case hr => first | (go_simp; done) | (go_simp; rfl)); intro gb123 hg w9 hbox hb; have n0_ := Aside0.mk (below_step (by repeat (first | (with_reducible first | exact HB.out | apply below_alloc | apply pw_below_drewN | apply below_drew1) | exact HB.out)) hb); have n1_ := Aside0.mk (hbox); have n2_ := Aside0.mk ((by rw [hg]; exact (below_size (by repeat (first | (with_reducible first | exact HB.out | apply below_alloc | apply pw_below_drewN | apply below_drew1) | exact HB.out))) : w.heap.size ≤ gb123)); have n3_ := Aside0.mk ((by rw [hg]; exact (below_size (by repeat (first | (with_reducible first | exact HB.out | apply below_alloc | apply pw_below_drewN | apply below_drew1) | exact HB.out))) : w.heap.size ≤ gb123)); clear HB; have HB := n0_; have BK123 := n1_; have GW123 := n2_; have GE123 := n3_; clear n0_ n1_ n2_ n3_; clear hb hbox hg; have hcz10_0 : w9.cell? ⟨gb123, 0, none⟩ = some (.string (⟨#[]⟩ : ByteArray)) := (blk_cell BK123.out 0).trans rfl; have hcz10_1 : w9.cell? ⟨gb123, 1, none⟩ = some (.int .i64 0) := (blk_cell BK123.out 1).trans rfl; have hcz10_2 : w9.cell? ⟨gb123, 2, none⟩ = some (.int .i64 0) := (blk_cell BK123.out 2).trans rfl; have hcz10_3 : w9.cell? ⟨gb123, 3, none⟩ = some (.slice none 0 0) := (blk_cell BK123.out 3).trans rfl; have hcz10_4 : w9.cell? ⟨gb123, 4, none⟩ = some (.string (⟨#[]⟩ : ByteArray)) := (blk_cell BK123.out 4).trans rfl; have hfz10_0 := blk_frozen BK123.out 0; have hfz10_1 := blk_frozen BK123.out 1; have hfz10_2 := blk_frozen BK123.out 2; have hfz10_3 := blk_frozen BK123.out 3; have hfz10_4 := blk_frozen BK123.out 4) | ((with_reducible refine gate_callee (f := 39) rfl ?_); refine goesL_ (some 22) rfl rfl Try.func39 (by kernel_rfl) rfl #[.agg #[.string ((rd_T31 l0 x16_1).f0), .int .i64 ((rd_T31 l0 x16_1).f1), .int .i64 ((rd_T31 l0 x16_1).f2), .slice A122_3 ((rd_T31 l0 x16_1).f3).length c122_3, .string ((rd_T31 l0 x16_1).f4)]] rfl (by (try simp only [List.map_toArray, List.map_cons, List.map_nil]); first | done | rfl | (simp only [List.length_drop, List.length_take]; rfl)) ?_; (with_reducible refine (tree_one.calls k1 ((rd_T31 l0 x16_1).f0) ((rd_T31 l0 x16_1).f1) ((rd_T31 l0 x16_1).f2) _ _ ((rd_T31 l0 x16_1).f3) ((rd_T31 l0 x16_1).f4) t124 _ ?side1 ?side2 A6.out).mono ?_); (case side1 => exact Kd.C_below HR122_3.out (by repeat (first | (with_reducible first | exact HB.out | apply below_alloc | apply pw_below_drewN | apply below_drew1 | refine below_set ?_ GE123.out) | exact HB.out))); (case side2 => exact HC122_3.out); rintro e w11 ⟨rfl, hb⟩; refine ⟨_, rfl, ?_⟩; have n0_ := Aside0.mk (blk_below (g := gb123) (o := .cells #[.string ((rd_T31 l0 x16_1).f0), .int .i64 ((rd_T31 l0 x16_1).f1), .int .i64 ((rd_T31 l0 x16_1).f2), .slice A122_3 ((rd_T31 l0 x16_1).f3).length c122_3, .string ((rd_T31 l0 x16_1).f4)] 31 (0, 0)) (by (with_reducible repeat (first | refine blk_drewN ?_ _ | refine blk_drew ?_ | refine blk_alloc ?_ _)); refine blk_put (cs := #[.string ((rd_T31 l0 x16_1).f0), .int .i64 ((rd_T31 l0 x16_1).f1), .int .i64 ((rd_T31 l0 x16_1).f2), .slice A122_3 ((rd_T31 l0 x16_1).f3).length c122_3, .string (⟨#[]⟩ : ByteArray)]) ?_ 4 _ rfl; (with_reducible repeat (first | refine blk_drewN ?_ _ | refine blk_drew ?_ | refine blk_alloc ?_ _)); refine blk_put (cs := #[.string ((rd_T31 l0 x16_1).f0), .int .i64 ((rd_T31 l0 x16_1).f1), .int .i64 ((rd_T31 l0 x16_1).f2), .slice none 0 0, .string (⟨#[]⟩ : ByteArray)]) ?_ 3 _ rfl; (with_reducible repeat (first | refine blk_drewN ?_ _ | refine blk_drew ?_ | refine blk_alloc ?_ _)); refine blk_put (cs := #[.string ((rd_T31 l0 x16_1).f0), .int .i64 ((rd_T31 l0 x16_1).f1), .int .i64 0, .slice none 0 0, .string (⟨#[]⟩ : ByteArray)]) ?_ 2 _ rfl; (with_reducible repeat (first | refine blk_drewN ?_ _ | refine blk_drew ?_ | refine blk_alloc ?_ _)); refine blk_put (cs := #[.string ((rd_T31 l0 x16_1).f0), .int .i64 0, .int .i64 0, .slice none 0 0, .string (⟨#[]⟩ : ByteArray)]) ?_ 1 _ rfl; (with_reducible repeat (first | refine blk_drewN ?_ _ | refine blk_drew ?_ | refine blk_alloc ?_ _)); refine blk_put (cs := #[.string (⟨#[]⟩ : ByteArray), .int .i64 0, .int .i64 0, .slice none 0 0, .string (⟨#[]⟩ : ByteArray)]) ?_ 0 _ rfl; (with_reducible repeat (first | refine blk_drewN ?_ _ | refine blk_drew ?_ | refine blk_alloc ?_ _)); exact BK123.out) hb); have n1_ := Aside0.mk (below_step (by repeat (first | (with_reducible first | exact HB.out | apply below_alloc | apply pw_below_drewN | apply below_drew1 | refine below_set ?_ GE123.out) | exact HB.out)) hb); clear BK123; clear HB; have BK123 := n0_; have HB := n1_; clear n0_ n1_; (try clear hb); (try clear hb2); (try clear hk); (try clear hi)))
        (try simp only [Act.put, List.setIfInBounds_toArray, List.set_cons_zero, List.set_cons_succ])
        go_cut [40] (fun v40 wc => ∃ (kq : Nat) (x40_7 : Bool), v40 = .bool x40_7 ∧ Aside0 (tree_Check.j1 kq l0 x16_1 l0 (l0.length : Int) x16_1 x40_7 ((rd_T31 l0 x16_1).f0) ((rd_T31 l0 x16_1).f1) ((rd_T31 l0 x16_1).f2) ((rd_T31 l0 x16_1).f3) ((rd_T31 l0 x16_1).f4) = some (r1, r2)) ∧ Aside0 (kq ≤ k1) ∧ Aside0 (wc.heap[gb123]? = some (.cells #[.string ((rd_T31 l0 x16_1).f0), .int .i64 ((rd_T31 l0 x16_1).f1), .int .i64 ((rd_T31 l0 x16_1).f2), (.slice A122_3 ((rd_T31 l0 x16_1).f3).length c122_3), .string ((rd_T31 l0 x16_1).f4)] 31 (0, 0))) ∧ Aside0 (Below w.heap.size w wc))
        case first =>
         have H := HC8.out
         clear HC8
         by_cases c12 : x16_1 > 0
         ·rw [if_pos c12] at H
          have c12b0 : decide (0 < x16_1) = true := decide_eq_true c12
          clear c12
          (first | rw [c12b0] | (simp only [i64_w, i32_w]; rw [c12b0]) | skip)
          obtain ⟨ji13, hji13⟩ : ∃ j_ : Int, (wrap64 (x16_1 - 1)) = j_ := ⟨_, rfl⟩
          replace H : (if 0 ≤ (ji13) then (if (ji13) < (l0.length : Int) then ((path_Compare.f k1 ((rd_T31 l0 (ji13)).f0) ((rd_T31 l0 x16_1).f0)).bind fun t126 => (tree_Check.j1 k1 l0 x16_1 l0 (l0.length : Int) x16_1 (decide (t126 ≥ 0)) ((rd_T31 l0 x16_1).f0) ((rd_T31 l0 x16_1).f1) ((rd_T31 l0 x16_1).f2) ((rd_T31 l0 x16_1).f3) ((rd_T31 l0 x16_1).f4))) else (none)) else (none)) = some (r1, r2) := by first | (rw [hji13] at H; exact H) | (simp only [hji13] at H ⊢; exact H)
          have hji13w : (IntKind.i64.wrap (x16_1 - 1)) = ji13 := (i64_w _).trans hji13
          by_cases c14 : 0 ≤ (ji13)
          ·rw [if_pos c14] at H
           have c14b0 : decide (0 ≤ (ji13)) = true := decide_eq_true c14
           clear c14
           by_cases c15 : (ji13) < (l0.length : Int)
           ·rw [if_pos c15] at H
            have c15b0 : decide ((ji13) < (l0.length : Int)) = true := decide_eq_true c15
            clear c15
            replace H := Option.bind_eq_some_iff.mp H
            obtain ⟨t126, A160, H⟩ := H
            replace H : (tree_Check.j1 k1 l0 x16_1 l0 (l0.length : Int) x16_1 (decide (t126 ≥ 0)) ((rd_T31 l0 x16_1).f0) ((rd_T31 l0 x16_1).f1) ((rd_T31 l0 x16_1).f2) ((rd_T31 l0 x16_1).f3) ((rd_T31 l0 x16_1).f4)) = some (r1, r2) := H
            have A16 := Aside0.mk A160
            clear A160
            have H' := Aside0.mk H
            clear H
            try go_wp2
            have n0_ := Aside0.mk (blk_drew BK123.out)
            have n1_ := Aside0.mk (below_drew1 HB.out)
            clear BK123
            clear HB
            have BK123 := n0_
            have HB := n1_
            clear n0_ n1_
            have p125 : 0 ≤ ((ji13) : Int) := of_decide_eq_true (by first | (with_reducible assumption) | assumption)
            have q125 : (ji13) < (l0.length : Int) := of_decide_eq_true (by first | (with_reducible assumption) | assumption)
            obtain ⟨ad125, A125_3, c125_3, e125, hx125_0, hx125_1, hx125_2, hx125_3, hx125_4, hl125_3, hi125_3⟩ := at_T31 HR0.out (ji13) p125 q125
            have hw125_4 := hx125_4
            have hw125_3 := hx125_3
            have hw125_2 := hx125_2
            have hw125_1 := hx125_1
            have hw125_0 := hx125_0
            obtain rfl : ad122 = ad125 := (by injection e125)
            replace hx125_0 := (HB.out.cell (World.block_lt_of_cell? w _ hx125_0)).trans hx125_0
            replace hx125_1 := (HB.out.cell (World.block_lt_of_cell? w _ hx125_1)).trans hx125_1
            replace hx125_2 := (HB.out.cell (World.block_lt_of_cell? w _ hx125_2)).trans hx125_2
            replace hx125_3 := (HB.out.cell (World.block_lt_of_cell? w _ hx125_3)).trans hx125_3
            replace hx125_4 := (HB.out.cell (World.block_lt_of_cell? w _ hx125_4)).trans hx125_4
            have HR125_3 := Aside0.mk hi125_3
            have HC125_3 := Aside0.mk hl125_3
            clear hi125_3 hl125_3
            replace p125 := eq_true p125
            replace q125 := eq_true q125
            refine start_ (n := 14) (S := fun w' => w'.cell? ⟨gb123, 0, none⟩ = some (.string ((rd_T31 l0 x16_1).f0)) ∧ w'.cell? ⟨gb123, 1, none⟩ = some (.int .i64 ((rd_T31 l0 x16_1).f1)) ∧ w'.cell? ⟨gb123, 2, none⟩ = some (.int .i64 ((rd_T31 l0 x16_1).f2)) ∧ w'.cell? ⟨gb123, 3, none⟩ = some (.slice A122_3 ((rd_T31 l0 x16_1).f3).length c122_3) ∧ w'.cell? ⟨gb123, 4, none⟩ = some (.string ((rd_T31 l0 x16_1).f4)) ∧ w'.cell? (ad122.add (((ji13)).toNat * 5)) = some (.string ((rd_T31 l0 (ji13)).f0)) ∧ w'.cell? ⟨(ad122.add (((ji13)).toNat * 5)).block, (ad122.add (((ji13)).toNat * 5)).off + 1, none⟩ = some (.int .i64 ((rd_T31 l0 (ji13)).f1)) ∧ w'.cell? ⟨(ad122.add (((ji13)).toNat * 5)).block, (ad122.add (((ji13)).toNat * 5)).off + 2, none⟩ = some (.int .i64 ((rd_T31 l0 (ji13)).f2)) ∧ w'.cell? ⟨(ad122.add (((ji13)).toNat * 5)).block, (ad122.add (((ji13)).toNat * 5)).off + 3, none⟩ = some (.slice A125_3 ((rd_T31 l0 (ji13)).f3).length c125_3) ∧ w'.cell? ⟨(ad122.add (((ji13)).toNat * 5)).block, (ad122.add (((ji13)).toNat * 5)).off + 4, none⟩ = some (.string ((rd_T31 l0 (ji13)).f4))) (ds := []) #[false, false, false, false, false, false, false, false, false, false, false, false, false, false] (by kernel_rfl) rfl rfl ⟨(blk_cell BK123.out 0).trans rfl, (blk_cell BK123.out 1).trans rfl, (blk_cell BK123.out 2).trans rfl, (blk_cell BK123.out 3).trans rfl, (blk_cell BK123.out 4).trans rfl, ((HB.out.cell (World.block_lt_of_cell? w _ hw125_0)).trans hw125_0), ((HB.out.cell (World.block_lt_of_cell? w _ hw125_1)).trans hw125_1), ((HB.out.cell (World.block_lt_of_cell? w _ hw125_2)).trans hw125_2), ((HB.out.cell (World.block_lt_of_cell? w _ hw125_3)).trans hw125_3), ((HB.out.cell (World.block_lt_of_cell? w _ hw125_4)).trans hw125_4)⟩ (fun hHeld => ?_); refine with_tabW tree_Check.tab9 tree_Check.bits9 (fun HT_ HW_ => ?_)
            generalize w11.drew = w17 at BK123 HB HR125_3 hx125_0 hx125_1 hx125_2 hx125_3 hx125_4 hHeld ⊢
            refine pure_ (i := 0) (N := some 27) (v := ?_) (a' := ?_) #[true, false, false, false, false, false, false, false, false, false, false, false, false, false] rfl rfl (any_of HT_.out (by kernel_rfl)) (fun _ _ _ h => h) (Or.inl ⟨by rfl, ?_⟩) ?_ ?_
            rotate_left
            ·intro w'
             go_simp
             with_reducible rfl
            rotate_left
            ·simp only [Act.put, List.setIfInBounds_toArray, List.set_cons_zero, List.set_cons_succ, i64_w, i32_w]
             rfl
            refine pure_ (i := 1) (N := some 28) (v := ?_) (a' := ?_) #[true, true, false, false, false, false, false, false, false, false, false, false, false, false] rfl rfl (any_of HT_.out (by kernel_rfl)) (fun _ _ _ h => h) (Or.inl ⟨by rfl, ?_⟩) ?_ ?_
            rotate_left
            ·intro w'
             go_simp
             with_reducible rfl
            rotate_left
            ·simp only [Act.put, List.setIfInBounds_toArray, List.set_cons_zero, List.set_cons_succ, i64_w, i32_w]
             rfl
            refine pure_ (i := 2) (N := some 29) (v := ?_) (a' := ?_) #[true, true, true, false, false, false, false, false, false, false, false, false, false, false] rfl rfl (any_of HT_.out (by kernel_rfl)) (fun _ _ _ h => h) (Or.inl ⟨by rfl, ?_⟩) ?_ ?_
            rotate_left
            ·intro w'
             go_simp
             with_reducible rfl
            rotate_left
            ·simp only [Act.put, List.setIfInBounds_toArray, List.set_cons_zero, List.set_cons_succ, i64_w, i32_w]
             rfl
            refine pure_ (i := 3) (N := some 30) (v := ?_) (a' := ?_) #[true, true, true, true, false, false, false, false, false, false, false, false, false, false] rfl rfl (any_of HT_.out (by kernel_rfl)) (fun _ _ _ h => h) (Or.inl ⟨by rfl, ?_⟩) ?_ ?_
            rotate_left
            ·intro w'
             go_simp
             with_reducible rfl
            rotate_left
            ·simp only [Act.put, List.setIfInBounds_toArray, List.set_cons_zero, List.set_cons_succ, i64_w, i32_w]
             rfl
            refine pure_ (i := 4) (N := some 31) (v := ?_) (a' := ?_) #[true, true, true, true, true, false, false, false, false, false, false, false, false, false] rfl rfl (any_of HT_.out (by kernel_rfl)) (fun _ _ _ h => h) (Or.inl ⟨by rfl, ?_⟩) ?_ ?_
            rotate_left
            ·intro w'
             go_simp
             with_reducible rfl
            rotate_left
            ·simp only [Act.put, List.setIfInBounds_toArray, List.set_cons_zero, List.set_cons_succ, i64_w, i32_w]
             rfl
            refine pure_ (i := 5) (N := some 32) (v := ?_) (a' := ?_) #[true, true, true, true, true, true, false, false, false, false, false, false, false, false] rfl rfl (any_of HT_.out (by kernel_rfl)) (fun _ _ _ h => h) (Or.inl ⟨by rfl, ?_⟩) ?_ ?_
            rotate_left
            ·intro w'
             go_simp
             with_reducible rfl
            rotate_left
            ·simp only [Act.put, List.setIfInBounds_toArray, List.set_cons_zero, List.set_cons_succ, i64_w, i32_w]
             rfl
            refine pure_ (i := 6) (N := some 33) (v := ?_) (a' := ?_) #[true, true, true, true, true, true, true, false, false, false, false, false, false, false] rfl rfl (any_of HT_.out (by kernel_rfl)) (fun _ _ _ h => h) (Or.inl ⟨by rfl, ?_⟩) ?_ ?_
            rotate_left
            ·intro w'
             go_simp
             with_reducible rfl
            rotate_left
            ·simp only [Act.put, List.setIfInBounds_toArray, List.set_cons_zero, List.set_cons_succ, i64_w, i32_w]
             rfl
            refine pure_ (i := 7) (N := some 34) (v := ?_) (a' := ?_) #[true, true, true, true, true, true, true, true, false, false, false, false, false, false] rfl rfl (any_of HT_.out (by kernel_rfl)) (fun _ _ _ h => h) (Or.inl ⟨by rfl, ?_⟩) ?_ ?_
            rotate_left
            ·intro w'
             go_simp
             with_reducible rfl
            rotate_left
            ·simp only [Act.put, List.setIfInBounds_toArray, List.set_cons_zero, List.set_cons_succ, i64_w, i32_w]
             rfl
            refine pure_ (i := 9) (N := some 36) (v := ?_) (a' := ?_) #[true, true, true, true, true, true, true, true, false, true, false, false, false, false] rfl rfl (any_of HT_.out (by kernel_rfl)) (fun _ _ _ h => h) (Or.inl ⟨by rfl, ?_⟩) ?_ ?_
            rotate_left
            ·intro w'
             go_simp
             with_reducible rfl
            rotate_left
            ·simp only [Act.put, List.setIfInBounds_toArray, List.set_cons_zero, List.set_cons_succ, i64_w, i32_w]
             rfl
            refine take_ (i := 8) (N := some 35) (v := ?_) (a' := ?_) #[true, true, true, true, true, true, true, true, true, true, false, false, false, false] rfl rfl (take_ofW HT_.out HW_.out (by kernel_rfl)) (fun _ _ _ h => h) (Or.inl ⟨by rfl, ?_⟩) hHeld ?_ ?_
            rotate_left
            ·rintro w' ⟨s0, s1, s2, s3, s4, s5, s6, s7, s8, s9⟩
             go_simp
             with_reducible rfl
            rotate_left
            ·simp only [Act.put, List.setIfInBounds_toArray, List.set_cons_zero, List.set_cons_succ, i64_w, i32_w]
             rfl
            refine take_ (i := 10) (N := some 37) (v := ?_) (a' := ?_) #[true, true, true, true, true, true, true, true, true, true, true, false, false, false] rfl rfl (take_ofW HT_.out HW_.out (by kernel_rfl)) (fun _ _ _ h => h) (Or.inl ⟨by rfl, ?_⟩) hHeld ?_ ?_
            rotate_left
            ·rintro w' ⟨s0, s1, s2, s3, s4, s5, s6, s7, s8, s9⟩
             go_simp
             with_reducible rfl
            rotate_left
            ·simp only [Act.put, List.setIfInBounds_toArray, List.set_cons_zero, List.set_cons_succ, i64_w, i32_w]
             rfl
            refine one_ (i := 11) (N := some 38) #[true, true, true, true, true, true, true, true, true, true, true, true, false, false] rfl rfl (one_of HT_.out (by kernel_rfl)) (by decide) (fun K hK => ?_)
            refine goes_ Try.func17 (by kernel_rfl) rfl #[.string ((rd_T31 l0 (ji13)).f0), .string ((rd_T31 l0 x16_1).f0)] (by rfl) rfl rfl (by (try simp only [List.map_toArray, List.map_cons, List.map_nil]); first | done | (simp only [hji13]; rfl) | rfl | (simp only [List.length_drop, List.length_take]; rfl)) ?_
            with_reducible refine (path_Compare.calls k1 ((rd_T31 l0 (ji13)).f0) ((rd_T31 l0 x16_1).f0) t126 _ A16.out).mono ?_
            rintro e w18 ⟨rfl, hb⟩
            refine ⟨_, rfl, ?_⟩
            have n0_ := Aside0.mk (blk_below (g := gb123) (o := .cells #[.string ((rd_T31 l0 x16_1).f0), .int .i64 ((rd_T31 l0 x16_1).f1), .int .i64 ((rd_T31 l0 x16_1).f2), .slice A122_3 ((rd_T31 l0 x16_1).f3).length c122_3, .string ((rd_T31 l0 x16_1).f4)] 31 (0, 0)) (by (with_reducible repeat (first | refine blk_drewN ?_ _ | refine blk_drew ?_ | refine blk_alloc ?_ _)); exact BK123.out) hb)
            have n1_ := Aside0.mk (below_step (by repeat (first | (with_reducible first | exact HB.out | apply below_alloc | apply pw_below_drewN | apply below_drew1 | refine below_set ?_ GE123.out) | exact HB.out)) hb)
            clear BK123
            clear HB
            have BK123 := n0_
            have HB := n1_
            clear n0_ n1_
            (try clear hb)
            (try clear hb2)
            (try clear hk)
            (try clear hi)
            refine hK.out _ _ ⟨(blk_cell BK123.out 0).trans rfl, (blk_cell BK123.out 1).trans rfl, (blk_cell BK123.out 2).trans rfl, (blk_cell BK123.out 3).trans rfl, (blk_cell BK123.out 4).trans rfl, ((HB.out.cell (World.block_lt_of_cell? w _ hw125_0)).trans hw125_0), ((HB.out.cell (World.block_lt_of_cell? w _ hw125_1)).trans hw125_1), ((HB.out.cell (World.block_lt_of_cell? w _ hw125_2)).trans hw125_2), ((HB.out.cell (World.block_lt_of_cell? w _ hw125_3)).trans hw125_3), ((HB.out.cell (World.block_lt_of_cell? w _ hw125_4)).trans hw125_4)⟩ (fun hHeld => ?_)
            clear hK K
            refine norm_ (a' := ?_) ?_ ?_
            rotate_left
            ·show Act.put _ (some 38) _ = _
             simp only [Act.put, List.setIfInBounds_toArray, List.set_cons_zero, List.set_cons_succ, i64_w, i32_w]
             rfl
            refine pure_ (i := 12) (N := some 39) (v := ?_) (a' := ?_) #[true, true, true, true, true, true, true, true, true, true, true, true, true, false] rfl rfl (any_of HT_.out (by kernel_rfl)) (fun _ _ _ h => h) (Or.inl ⟨by rfl, ?_⟩) ?_ ?_
            rotate_left
            ·intro w'
             go_simp
             with_reducible rfl
            rotate_left
            ·simp only [Act.put, List.setIfInBounds_toArray, List.set_cons_zero, List.set_cons_succ, i64_w, i32_w]
             rfl
            refine pure_ (i := 13) (N := some 40) (v := ?_) (a' := ?_) #[true, true, true, true, true, true, true, true, true, true, true, true, true, true] rfl rfl (any_of HT_.out (by kernel_rfl)) (fun _ _ _ h => h) (Or.inl ⟨by rfl, ?_⟩) ?_ ?_
            rotate_left
            ·intro w'
             go_simp
             with_reducible rfl
            rotate_left
            ·simp only [Act.put, List.setIfInBounds_toArray, List.set_cons_zero, List.set_cons_succ, i64_w, i32_w]
             rfl
            refine done_ (done_of HT_.out (by kernel_rfl)) ?_
            try go_wp2
            go_meet
            case rel => exact ⟨_, (decide (t126 ≥ 0)), (by first | rfl | (simp; done) | (simp [*]; done)), H', ⟨by have := HK1.out; first | omega | exact Nat.le_refl _⟩, ⟨by (with_reducible repeat (first | refine blk_drewN ?_ _ | refine blk_drew ?_ | refine blk_alloc ?_ _)); exact BK123.out⟩, ⟨by repeat (first | (with_reducible first | exact HB.out | apply below_alloc | apply pw_below_drewN | apply below_drew1 | refine below_set ?_ GE123.out) | exact HB.out)⟩⟩
           ·rw [if_neg c15] at H
            exact absurd H (by simp)
          ·rw [if_neg c14] at H
           exact absurd H (by simp)
         ·rw [if_neg c12] at H
          have c12b0 : decide (0 < x16_1) = false := decide_eq_false c12
          clear c12
          (first | rw [c12b0] | (simp only [i64_w, i32_w]; rw [c12b0]) | skip)
          have H' := Aside0.mk H
          clear H
          try go_wp2
          have n0_ := Aside0.mk (blk_drew BK123.out)
          have n1_ := Aside0.mk (below_drew1 HB.out)
          clear BK123
          clear HB
          have BK123 := n0_
          have HB := n1_
          clear n0_ n1_
          refine start_ (n := 14) (S := fun w' => True) (ds := []) #[false, false, false, false, false, false, false, false, false, false, false, false, false, false] (by kernel_rfl) rfl rfl trivial (fun hHeld => ?_); refine with_tabW tree_Check.tab9 tree_Check.bits9 (fun HT_ HW_ => ?_)
          generalize w11.drew = w19 at BK123 HB hHeld ⊢
          refine pure_ (i := 0) (N := some 27) (v := ?_) (a' := ?_) #[true, false, false, false, false, false, false, false, false, false, false, false, false, false] rfl rfl (any_of HT_.out (by kernel_rfl)) (fun _ _ _ h => h) (Or.inl ⟨by rfl, ?_⟩) ?_ ?_
          rotate_left
          ·intro w'
           go_simp
           with_reducible rfl
          rotate_left
          ·simp only [Act.put, List.setIfInBounds_toArray, List.set_cons_zero, List.set_cons_succ, i64_w, i32_w]
           rfl
          refine pure_ (i := 1) (N := some 28) (v := ?_) (a' := ?_) #[true, true, false, false, false, false, false, false, false, false, false, false, false, false] rfl rfl (any_of HT_.out (by kernel_rfl)) (fun _ _ _ h => h) (Or.inl ⟨by rfl, ?_⟩) ?_ ?_
          rotate_left
          ·intro w'
           go_simp
           with_reducible rfl
          rotate_left
          ·simp only [Act.put, List.setIfInBounds_toArray, List.set_cons_zero, List.set_cons_succ, i64_w, i32_w]
           rfl
          refine pure_ (i := 2) (N := some 29) (v := ?_) (a' := ?_) #[true, true, true, false, false, false, false, false, false, false, false, false, false, false] rfl rfl (any_of HT_.out (by kernel_rfl)) (fun _ _ _ h => h) (Or.inl ⟨by rfl, ?_⟩) ?_ ?_
          rotate_left
          ·intro w'
           go_simp
           with_reducible rfl
          rotate_left
          ·simp only [Act.put, List.setIfInBounds_toArray, List.set_cons_zero, List.set_cons_succ, i64_w, i32_w]
           rfl
          refine pure_ (i := 3) (N := some 30) (v := undef) (a' := ?_) #[true, true, true, true, false, false, false, false, false, false, false, false, false, false] rfl rfl (any_of HT_.out (by kernel_rfl)) (fun _ _ _ h => h) (Or.inr ⟨by rfl, rfl⟩) ?_ ?_
          rotate_left
          ·simp only [Act.put, List.setIfInBounds_toArray, List.set_cons_zero, List.set_cons_succ, i64_w, i32_w]
           rfl
          refine pure_ (i := 4) (N := some 31) (v := undef) (a' := ?_) #[true, true, true, true, true, false, false, false, false, false, false, false, false, false] rfl rfl (any_of HT_.out (by kernel_rfl)) (fun _ _ _ h => h) (Or.inr ⟨by rfl, rfl⟩) ?_ ?_
          rotate_left
          ·simp only [Act.put, List.setIfInBounds_toArray, List.set_cons_zero, List.set_cons_succ, i64_w, i32_w]
           rfl
          refine pure_ (i := 5) (N := some 32) (v := undef) (a' := ?_) #[true, true, true, true, true, true, false, false, false, false, false, false, false, false] rfl rfl (any_of HT_.out (by kernel_rfl)) (fun _ _ _ h => h) (Or.inr ⟨by rfl, rfl⟩) ?_ ?_
          rotate_left
          ·simp only [Act.put, List.setIfInBounds_toArray, List.set_cons_zero, List.set_cons_succ, i64_w, i32_w]
           rfl
          refine pure_ (i := 6) (N := some 33) (v := undef) (a' := ?_) #[true, true, true, true, true, true, true, false, false, false, false, false, false, false] rfl rfl (any_of HT_.out (by kernel_rfl)) (fun _ _ _ h => h) (Or.inr ⟨by rfl, rfl⟩) ?_ ?_
          rotate_left
          ·simp only [Act.put, List.setIfInBounds_toArray, List.set_cons_zero, List.set_cons_succ, i64_w, i32_w]
           rfl
          refine pure_ (i := 7) (N := some 34) (v := undef) (a' := ?_) #[true, true, true, true, true, true, true, true, false, false, false, false, false, false] rfl rfl (any_of HT_.out (by kernel_rfl)) (fun _ _ _ h => h) (Or.inr ⟨by rfl, rfl⟩) ?_ ?_
          rotate_left
          ·simp only [Act.put, List.setIfInBounds_toArray, List.set_cons_zero, List.set_cons_succ, i64_w, i32_w]
           rfl
          refine pure_ (i := 8) (N := some 35) (v := undef) (a' := ?_) #[true, true, true, true, true, true, true, true, true, false, false, false, false, false] rfl rfl (any_of HT_.out (by kernel_rfl)) (fun _ _ _ h => h) (Or.inr ⟨by rfl, rfl⟩) ?_ ?_
          rotate_left
          ·simp only [Act.put, List.setIfInBounds_toArray, List.set_cons_zero, List.set_cons_succ, i64_w, i32_w]
           rfl
          refine pure_ (i := 9) (N := some 36) (v := undef) (a' := ?_) #[true, true, true, true, true, true, true, true, true, true, false, false, false, false] rfl rfl (any_of HT_.out (by kernel_rfl)) (fun _ _ _ h => h) (Or.inr ⟨by rfl, rfl⟩) ?_ ?_
          rotate_left
          ·simp only [Act.put, List.setIfInBounds_toArray, List.set_cons_zero, List.set_cons_succ, i64_w, i32_w]
           rfl
          refine pure_ (i := 10) (N := some 37) (v := undef) (a' := ?_) #[true, true, true, true, true, true, true, true, true, true, true, false, false, false] rfl rfl (any_of HT_.out (by kernel_rfl)) (fun _ _ _ h => h) (Or.inr ⟨by rfl, rfl⟩) ?_ ?_
          rotate_left
          ·simp only [Act.put, List.setIfInBounds_toArray, List.set_cons_zero, List.set_cons_succ, i64_w, i32_w]
           rfl
          refine pure_ (i := 11) (N := some 38) (v := undef) (a' := ?_) #[true, true, true, true, true, true, true, true, true, true, true, true, false, false] rfl rfl (any_of HT_.out (by kernel_rfl)) (fun _ _ _ h => h) (Or.inr ⟨by rfl, rfl⟩) ?_ ?_
          rotate_left
          ·simp only [Act.put, List.setIfInBounds_toArray, List.set_cons_zero, List.set_cons_succ, i64_w, i32_w]
           rfl
          refine pure_ (i := 12) (N := some 39) (v := undef) (a' := ?_) #[true, true, true, true, true, true, true, true, true, true, true, true, true, false] rfl rfl (any_of HT_.out (by kernel_rfl)) (fun _ _ _ h => h) (Or.inr ⟨by rfl, rfl⟩) ?_ ?_
          rotate_left
          ·simp only [Act.put, List.setIfInBounds_toArray, List.set_cons_zero, List.set_cons_succ, i64_w, i32_w]
           rfl
          refine pure_ (i := 13) (N := some 40) (v := ?_) (a' := ?_) #[true, true, true, true, true, true, true, true, true, true, true, true, true, true] rfl rfl (any_of HT_.out (by kernel_rfl)) (fun _ _ _ h => h) (Or.inl ⟨by rfl, ?_⟩) ?_ ?_
          rotate_left
          ·intro w'
           go_simp
           with_reducible rfl
          rotate_left
          ·simp only [Act.put, List.setIfInBounds_toArray, List.set_cons_zero, List.set_cons_succ, i64_w, i32_w]
           rfl
          refine done_ (done_of HT_.out (by kernel_rfl)) ?_
          try go_wp2
          go_meet
          case rel => exact ⟨_, (false), (by first | rfl | (simp; done) | (simp [*]; done)), H', ⟨by have := HK1.out; first | omega | exact Nat.le_refl _⟩, ⟨by (with_reducible repeat (first | refine blk_drewN ?_ _ | refine blk_drew ?_ | refine blk_alloc ?_ _)); exact BK123.out⟩, ⟨by repeat (first | (with_reducible first | exact HB.out | apply below_alloc | apply pw_below_drewN | apply below_drew1 | refine below_set ?_ GE123.out) | exact HB.out)⟩⟩
        case rest =>
         clear HC8
         try clear c1
         try clear p1
         try clear q1
         try clear hx1
         try clear c2
         try clear c2b0
         try clear c2b1
         try clear p2
         try clear c3
         try clear c3b0
         try clear c4
         try clear c4b0
         try clear c5
         try clear c5b0
         try clear p6
         try clear c7
         try clear c7b0
         try clear c7b1
         try clear c11
         try clear c12
         try clear c12b0
         try clear p12
         try clear q12
         try clear hx12
         try clear c14
         try clear c14b0
         try clear c15
         try clear c15b0
         try clear c17
         try clear hcz10_0
         try clear hcz10_1
         try clear hcz10_2
         try clear hcz10_3
         try clear hcz10_4
         try clear hfz10_0
         try clear hfz10_1
         try clear hfz10_2
         try clear hfz10_3
         try clear hfz10_4
         try clear hx122_0
         try clear hx122_1
         try clear hx122_2
         try clear hx122_3
         try clear hx122_4
         try clear hx125_0
         try clear hx125_1
         try clear hx125_2
         try clear hx125_3
         try clear hx125_4
         try clear p122
         try clear p125
         try clear p2
         try clear q122
         try clear q125
         obtain ⟨kq, x40_7, rfl, HA, HJ7, BK123, HB⟩ := hcut
         cases kq with
         | zero => exact absurd HA.out (by simp [tree_Check.j1])
         | succ kj7 =>
          have H := HA.out
          clear HA
          simp only [tree_Check.j1] at H
          by_cases c20 : x40_7 = true
          ·subst c20
           have H1 : (some (7, x16_1)) = some (r1, r2) := by rw [if_pos rfl] at H; exact H
           clear H
           have H := H1
           clear H1
           simp only [Option.some.injEq, Prod.mk.injEq] at H
           obtain ⟨rfl, rfl⟩ := H
           go_wp2
           go_ret2
           exact ⟨by first | rfl | (simp [errW_none, errW_some] <;> rfl) | (simp [*, errW_none, errW_some] <;> rfl) | (simp [bt, *]; done) | (simp_all [bt]; done), by repeat (first | (with_reducible first | exact HB.out | apply below_alloc | apply pw_below_drewN | apply below_drew1 | refine below_set ?_ GE123.out) | exact HB.out)⟩
          ·replace c20 := Bool.eq_false_iff.mpr c20
           subst c20
           have H1 : ((path_Parent.f kj7 ((rd_T31 l0 x16_1).f0)).bind fun bt127 => (if bt127.2 = true then (if 0 ≤ x16_1 then (if x16_1 ≤ (l0.length : Int) then ((tree_place.f kj7 (l0.take (x16_1 : Int).toNat) bt127.1).bind fun bt133 => (if bt133.2 = true then (if 0 ≤ bt133.1 then (if bt133.1 < (l0.length : Int) then (if ((rd_T31 l0 bt133.1).f1) = 1 then (tree_Check.l0 kj7 l0 l0 (l0.length : Int) (wrap64 (x16_1 + 1))) else (some (6, x16_1))) else (none)) else (none)) else (some (6, x16_1)))) else (none)) else (none)) else (tree_Check.l0 kj7 l0 l0 (l0.length : Int) (wrap64 (x16_1 + 1))))) = some (r1, r2) := by rw [if_neg (show ¬ (false = true) by decide)] at H; exact H
           clear H
           have H := H1
           clear H1
           replace H := Option.bind_eq_some_iff.mp H
           obtain ⟨⟨t127, t128⟩, A210, H⟩ := H
           replace H : (if t128 = true then (if 0 ≤ x16_1 then (if x16_1 ≤ (l0.length : Int) then ((tree_place.f kj7 (l0.take (x16_1 : Int).toNat) t127).bind fun bt133 => (if bt133.2 = true then (if 0 ≤ bt133.1 then (if bt133.1 < (l0.length : Int) then (if ((rd_T31 l0 bt133.1).f1) = 1 then (tree_Check.l0 kj7 l0 l0 (l0.length : Int) (wrap64 (x16_1 + 1))) else (some (6, x16_1))) else (none)) else (none)) else (some (6, x16_1)))) else (none)) else (none)) else (tree_Check.l0 kj7 l0 l0 (l0.length : Int) (wrap64 (x16_1 + 1)))) = some (r1, r2) := H
           have A21 := Aside0.mk A210
           clear A210
           by_cases c22 : t128 = true
           ·subst c22
            have H1 : (if 0 ≤ x16_1 then (if x16_1 ≤ (l0.length : Int) then ((tree_place.f kj7 (l0.take (x16_1 : Int).toNat) t127).bind fun bt133 => (if bt133.2 = true then (if 0 ≤ bt133.1 then (if bt133.1 < (l0.length : Int) then (if ((rd_T31 l0 bt133.1).f1) = 1 then (tree_Check.l0 kj7 l0 l0 (l0.length : Int) (wrap64 (x16_1 + 1))) else (some (6, x16_1))) else (none)) else (none)) else (some (6, x16_1)))) else (none)) else (none)) = some (r1, r2) := by rw [if_pos rfl] at H; exact H
            clear H
            have H := H1
            clear H1
            by_cases c23 : 0 ≤ x16_1
            ·rw [if_pos c23] at H
             have c23b0 := eq_true c23
             have c23b1 : decide (0 ≤ x16_1) = true := decide_eq_true c23
             clear c23
             by_cases c24 : x16_1 ≤ (l0.length : Int)
             ·rw [if_pos c24] at H
              have c24b0 := eq_true c24
              have c24b1 : decide (x16_1 ≤ (l0.length : Int)) = true := decide_eq_true c24
              clear c24
              obtain ⟨y129, hy129⟩ : ∃ y_ : List (S31), y_ = (l0.take (x16_1 : Int).toNat) := ⟨_, rfl⟩
              replace H : ((tree_place.f kj7 y129 t127).bind fun bt133 => (if bt133.2 = true then (if 0 ≤ bt133.1 then (if bt133.1 < (l0.length : Int) then (if ((rd_T31 l0 bt133.1).f1) = 1 then (tree_Check.l0 kj7 l0 l0 (l0.length : Int) (wrap64 (x16_1 + 1))) else (some (6, x16_1))) else (none)) else (none)) else (some (6, x16_1)))) = some (r1, r2) := by first | (rw [hy129]; with_reducible exact H) | (have H2_ := (Option.bind_some _ _).symm.trans H; rw [hy129]; with_reducible exact H2_) | (have H2_ := (Option.bind_some _ _).symm.trans H; with_reducible exact H2_) | with_reducible exact H | (rw [hy129]; exact H) | exact H
              have Ny129 := Aside0.mk hy129
              clear hy129
              replace H := Option.bind_eq_some_iff.mp H
              obtain ⟨⟨t133, t134⟩, A250, H⟩ := H
              replace H : (if t134 = true then (if 0 ≤ t133 then (if t133 < (l0.length : Int) then (if ((rd_T31 l0 t133).f1) = 1 then (tree_Check.l0 kj7 l0 l0 (l0.length : Int) (wrap64 (x16_1 + 1))) else (some (6, x16_1))) else (none)) else (none)) else (some (6, x16_1))) = some (r1, r2) := H
              have A25 := Aside0.mk A250
              clear A250
              by_cases c26 : t134 = true
              ·subst c26
               have H1 : (if 0 ≤ t133 then (if t133 < (l0.length : Int) then (if ((rd_T31 l0 t133).f1) = 1 then (tree_Check.l0 kj7 l0 l0 (l0.length : Int) (wrap64 (x16_1 + 1))) else (some (6, x16_1))) else (none)) else (none)) = some (r1, r2) := by rw [if_pos rfl] at H; exact H
               clear H
               have H := H1
               clear H1
               by_cases c27 : 0 ≤ t133
               ·rw [if_pos c27] at H
                have c27b0 : decide (0 ≤ t133) = true := decide_eq_true c27
                clear c27
                by_cases c28 : t133 < (l0.length : Int)
                ·rw [if_pos c28] at H
                 have c28b0 : decide (t133 < (l0.length : Int)) = true := decide_eq_true c28
                 clear c28
                 by_cases c29 : ((rd_T31 l0 t133).f1) = 1
                 ·rw [if_pos c29] at H
                  have c29b0 : (((rd_T31 l0 t133).f1) == 1) = true := beq_iff_eq.mpr c29
                  have c29b1 : (((rd_T31 l0 t133).f1) != 1) = false := bne_eq_false_iff_eq.mpr c29
                  clear c29
                  have H' := Aside0.mk H
                  clear H
                  have hcz30_0 : wc.cell? ⟨gb123, 0, none⟩ = some (.string ((rd_T31 l0 x16_1).f0)) := (blk_cell BK123.out 0).trans rfl
                  have hcz30_1 : wc.cell? ⟨gb123, 1, none⟩ = some (.int .i64 ((rd_T31 l0 x16_1).f1)) := (blk_cell BK123.out 1).trans rfl
                  have hcz30_2 : wc.cell? ⟨gb123, 2, none⟩ = some (.int .i64 ((rd_T31 l0 x16_1).f2)) := (blk_cell BK123.out 2).trans rfl
                  have hcz30_3 : wc.cell? ⟨gb123, 3, none⟩ = some (.slice A122_3 ((rd_T31 l0 x16_1).f3).length c122_3) := (blk_cell BK123.out 3).trans rfl
                  have hcz30_4 : wc.cell? ⟨gb123, 4, none⟩ = some (.string ((rd_T31 l0 x16_1).f4)) := (blk_cell BK123.out 4).trans rfl
                  have hfz30_0 := blk_frozen BK123.out 0
                  have hfz30_1 := blk_frozen BK123.out 1
                  have hfz30_2 := blk_frozen BK123.out 2
                  have hfz30_3 := blk_frozen BK123.out 3
                  have hfz30_4 := blk_frozen BK123.out 4
                  go_wp2_with (first | ((with_reducible refine gate_callee (f := 15) rfl ?_); refine goesL_ (some 45) rfl rfl Try.func15 (by kernel_rfl) rfl #[.string ((rd_T31 l0 x16_1).f0)] rfl (by (try simp only [List.map_toArray, List.map_cons, List.map_nil]); first | done | rfl | (simp only [List.length_drop, List.length_take]; rfl)) ?_; (with_reducible refine (path_Parent.calls kj7 ((rd_T31 l0 x16_1).f0) t127 true _ A21.out).mono ?_); rintro e w31 ⟨rfl, hb⟩; refine ⟨_, rfl, ?_⟩; have n0_ := Aside0.mk (blk_below (g := gb123) (o := .cells #[.string ((rd_T31 l0 x16_1).f0), .int .i64 ((rd_T31 l0 x16_1).f1), .int .i64 ((rd_T31 l0 x16_1).f2), .slice A122_3 ((rd_T31 l0 x16_1).f3).length c122_3, .string ((rd_T31 l0 x16_1).f4)] 31 (0, 0)) (by (with_reducible repeat (first | refine blk_drewN ?_ _ | refine blk_drew ?_ | refine blk_alloc ?_ _)); exact BK123.out) hb); have n1_ := Aside0.mk (below_step (by repeat (first | (with_reducible first | exact HB.out | apply below_alloc | apply pw_below_drewN | apply below_drew1 | refine below_set ?_ GE123.out) | exact HB.out)) hb); clear BK123; clear HB; have BK123 := n0_; have HB := n1_; clear n0_ n1_; (try clear hb); (try clear hb2); (try clear hk); (try clear hi); have q32 : (x16_1 : Int) ≤ ((l0.length : Int) : Int) := of_decide_eq_true (by first | (with_reducible assumption) | assumption); obtain ⟨i032, hi032, _, hsz32, _⟩ := info_parts info31; have hroom32 : l0.length ≤ c0 := HC0.out; have hC32 : Kd.C k31 _ (some ad122) l0.length l0 := HR0.out; have hcut32 := cut_to (P := Try.prog) 22 31 .i64 Try.underlying22 hi032 (some ad122) l0.length c0 x16_1 (of_decide_eq_true (by first | (with_reducible assumption) | assumption)) q32 hroom32; have hr32 := Kd.C_take (m := (x16_1 : Int).toNat) hC32 (by omega); have hy32 : y129.length = (x16_1 : Int).toNat := (by rw [Ny129.out, List.length_take]; omega); rw [← Ny129.out] at hr32; rw [← hy32] at hcut32; have HR132 := Aside0.mk hr32; have HC132 := Aside0.mk (show y129.length ≤ c0 from by omega); clear hr32 hC32 hroom32 hi032 hsz32; have KY32 := Aside0.mk hy32; clear hy32; replace q32 := eq_true q32) | ((with_reducible refine gate_callee (f := 40) rfl ?_); refine goesL_ (some 54) rfl rfl Try.func40 (by kernel_rfl) rfl #[.slice (some ad122) y129.length c0, .string t127] rfl (by (try simp only [List.map_toArray, List.map_cons, List.map_nil]); first | done | rfl | (simp only [List.length_drop, List.length_take]; rfl)) ?_; (with_reducible refine (tree_place.calls kj7 _ _ y129 t127 t133 true _ ?side1 ?side2 A25.out).mono ?_); (case side1 => repeat (first | exact (Kd.C_below HR132.out HB.out) | (with_reducible refine Kd.C_alloc ?_ _) | (with_reducible refine Kd.C_drewN ?_ _) | (with_reducible refine Kd.C_drew ?_))); (case side2 => exact HC132.out); rintro e w33 ⟨rfl, hb⟩; refine ⟨_, rfl, ?_⟩; have n0_ := Aside0.mk (blk_below (g := gb123) (o := .cells #[.string ((rd_T31 l0 x16_1).f0), .int .i64 ((rd_T31 l0 x16_1).f1), .int .i64 ((rd_T31 l0 x16_1).f2), .slice A122_3 ((rd_T31 l0 x16_1).f3).length c122_3, .string ((rd_T31 l0 x16_1).f4)] 31 (0, 0)) (by (with_reducible repeat (first | refine blk_drewN ?_ _ | refine blk_drew ?_ | refine blk_alloc ?_ _)); exact BK123.out) hb); have n1_ := Aside0.mk (below_step (by repeat (first | (with_reducible first | exact HB.out | apply below_alloc | apply pw_below_drewN | apply below_drew1 | refine below_set ?_ GE123.out) | exact HB.out)) hb); clear BK123; clear HB; have BK123 := n0_; have HB := n1_; clear n0_ n1_; (try clear hb); (try clear hb2); (try clear hk); (try clear hi); have p135 : 0 ≤ (t133 : Int) := of_decide_eq_true (by first | (with_reducible assumption) | assumption); have q135 : t133 < (l0.length : Int) := of_decide_eq_true (by first | (with_reducible assumption) | assumption); obtain ⟨ad135, A135_3, c135_3, e135, hx135_0, hx135_1, hx135_2, hx135_3, hx135_4, hl135_3, hi135_3⟩ := at_T31 HR0.out t133 p135 q135; obtain rfl : ad122 = ad135 := (by injection e135); replace hx135_0 := (HB.out.cell (World.block_lt_of_cell? w _ hx135_0)).trans hx135_0; replace hx135_1 := (HB.out.cell (World.block_lt_of_cell? w _ hx135_1)).trans hx135_1; replace hx135_2 := (HB.out.cell (World.block_lt_of_cell? w _ hx135_2)).trans hx135_2; replace hx135_3 := (HB.out.cell (World.block_lt_of_cell? w _ hx135_3)).trans hx135_3; replace hx135_4 := (HB.out.cell (World.block_lt_of_cell? w _ hx135_4)).trans hx135_4; have HR135_3 := Aside0.mk hi135_3; have HC135_3 := Aside0.mk hl135_3; clear hi135_3 hl135_3; replace p135 := eq_true p135; replace q135 := eq_true q135))
                  go_roundg kj7
                  case measure => have := HK1.out; have := HJ7.out; omega
                  case rel => exact ⟨(wrap64 (x16_1 + 1)), (by first | rfl | (simp; done) | (simp [*]; done)), H', ⟨by have := HK1.out; have := HJ7.out; omega⟩, ⟨by repeat (first | (with_reducible first | exact HB.out | apply below_alloc | apply pw_below_drewN | apply below_drew1 | refine below_set ?_ GE123.out) | exact HB.out)⟩⟩
                 ·rw [if_neg c29] at H
                  have c29b0 : (((rd_T31 l0 t133).f1) == 1) = false := beq_eq_false_iff_ne.mpr c29
                  have c29b1 : (((rd_T31 l0 t133).f1) != 1) = true := bne_iff_ne.mpr c29
                  simp only [Option.some.injEq, Prod.mk.injEq] at H
                  obtain ⟨rfl, rfl⟩ := H
                  have hcz34_0 : wc.cell? ⟨gb123, 0, none⟩ = some (.string ((rd_T31 l0 x16_1).f0)) := (blk_cell BK123.out 0).trans rfl
                  have hcz34_1 : wc.cell? ⟨gb123, 1, none⟩ = some (.int .i64 ((rd_T31 l0 x16_1).f1)) := (blk_cell BK123.out 1).trans rfl
                  have hcz34_2 : wc.cell? ⟨gb123, 2, none⟩ = some (.int .i64 ((rd_T31 l0 x16_1).f2)) := (blk_cell BK123.out 2).trans rfl
                  have hcz34_3 : wc.cell? ⟨gb123, 3, none⟩ = some (.slice A122_3 ((rd_T31 l0 x16_1).f3).length c122_3) := (blk_cell BK123.out 3).trans rfl
                  have hcz34_4 : wc.cell? ⟨gb123, 4, none⟩ = some (.string ((rd_T31 l0 x16_1).f4)) := (blk_cell BK123.out 4).trans rfl
                  have hfz34_0 := blk_frozen BK123.out 0
                  have hfz34_1 := blk_frozen BK123.out 1
                  have hfz34_2 := blk_frozen BK123.out 2
                  have hfz34_3 := blk_frozen BK123.out 3
                  have hfz34_4 := blk_frozen BK123.out 4
                  go_wp2_with (first | ((with_reducible refine gate_callee (f := 15) rfl ?_); refine goesL_ (some 45) rfl rfl Try.func15 (by kernel_rfl) rfl #[.string ((rd_T31 l0 x16_1).f0)] rfl (by (try simp only [List.map_toArray, List.map_cons, List.map_nil]); first | done | rfl | (simp only [List.length_drop, List.length_take]; rfl)) ?_; (with_reducible refine (path_Parent.calls kj7 ((rd_T31 l0 x16_1).f0) t127 true _ A21.out).mono ?_); rintro e w35 ⟨rfl, hb⟩; refine ⟨_, rfl, ?_⟩; have n0_ := Aside0.mk (blk_below (g := gb123) (o := .cells #[.string ((rd_T31 l0 x16_1).f0), .int .i64 ((rd_T31 l0 x16_1).f1), .int .i64 ((rd_T31 l0 x16_1).f2), .slice A122_3 ((rd_T31 l0 x16_1).f3).length c122_3, .string ((rd_T31 l0 x16_1).f4)] 31 (0, 0)) (by (with_reducible repeat (first | refine blk_drewN ?_ _ | refine blk_drew ?_ | refine blk_alloc ?_ _)); exact BK123.out) hb); have n1_ := Aside0.mk (below_step (by repeat (first | (with_reducible first | exact HB.out | apply below_alloc | apply pw_below_drewN | apply below_drew1 | refine below_set ?_ GE123.out) | exact HB.out)) hb); clear BK123; clear HB; have BK123 := n0_; have HB := n1_; clear n0_ n1_; (try clear hb); (try clear hb2); (try clear hk); (try clear hi); have q36 : (x16_1 : Int) ≤ ((l0.length : Int) : Int) := of_decide_eq_true (by first | (with_reducible assumption) | assumption); obtain ⟨i036, hi036, _, hsz36, _⟩ := info_parts info31; have hroom36 : l0.length ≤ c0 := HC0.out; have hC36 : Kd.C k31 _ (some ad122) l0.length l0 := HR0.out; have hcut36 := cut_to (P := Try.prog) 22 31 .i64 Try.underlying22 hi036 (some ad122) l0.length c0 x16_1 (of_decide_eq_true (by first | (with_reducible assumption) | assumption)) q36 hroom36; have hr36 := Kd.C_take (m := (x16_1 : Int).toNat) hC36 (by omega); have hy36 : y129.length = (x16_1 : Int).toNat := (by rw [Ny129.out, List.length_take]; omega); rw [← Ny129.out] at hr36; rw [← hy36] at hcut36; have HR132 := Aside0.mk hr36; have HC132 := Aside0.mk (show y129.length ≤ c0 from by omega); clear hr36 hC36 hroom36 hi036 hsz36; have KY36 := Aside0.mk hy36; clear hy36; replace q36 := eq_true q36) | ((with_reducible refine gate_callee (f := 40) rfl ?_); refine goesL_ (some 54) rfl rfl Try.func40 (by kernel_rfl) rfl #[.slice (some ad122) y129.length c0, .string t127] rfl (by (try simp only [List.map_toArray, List.map_cons, List.map_nil]); first | done | rfl | (simp only [List.length_drop, List.length_take]; rfl)) ?_; (with_reducible refine (tree_place.calls kj7 _ _ y129 t127 t133 true _ ?side1 ?side2 A25.out).mono ?_); (case side1 => repeat (first | exact (Kd.C_below HR132.out HB.out) | (with_reducible refine Kd.C_alloc ?_ _) | (with_reducible refine Kd.C_drewN ?_ _) | (with_reducible refine Kd.C_drew ?_))); (case side2 => exact HC132.out); rintro e w37 ⟨rfl, hb⟩; refine ⟨_, rfl, ?_⟩; have n0_ := Aside0.mk (blk_below (g := gb123) (o := .cells #[.string ((rd_T31 l0 x16_1).f0), .int .i64 ((rd_T31 l0 x16_1).f1), .int .i64 ((rd_T31 l0 x16_1).f2), .slice A122_3 ((rd_T31 l0 x16_1).f3).length c122_3, .string ((rd_T31 l0 x16_1).f4)] 31 (0, 0)) (by (with_reducible repeat (first | refine blk_drewN ?_ _ | refine blk_drew ?_ | refine blk_alloc ?_ _)); exact BK123.out) hb); have n1_ := Aside0.mk (below_step (by repeat (first | (with_reducible first | exact HB.out | apply below_alloc | apply pw_below_drewN | apply below_drew1 | refine below_set ?_ GE123.out) | exact HB.out)) hb); clear BK123; clear HB; have BK123 := n0_; have HB := n1_; clear n0_ n1_; (try clear hb); (try clear hb2); (try clear hk); (try clear hi); have p135 : 0 ≤ (t133 : Int) := of_decide_eq_true (by first | (with_reducible assumption) | assumption); have q135 : t133 < (l0.length : Int) := of_decide_eq_true (by first | (with_reducible assumption) | assumption); obtain ⟨ad135, A135_3, c135_3, e135, hx135_0, hx135_1, hx135_2, hx135_3, hx135_4, hl135_3, hi135_3⟩ := at_T31 HR0.out t133 p135 q135; obtain rfl : ad122 = ad135 := (by injection e135); replace hx135_0 := (HB.out.cell (World.block_lt_of_cell? w _ hx135_0)).trans hx135_0; replace hx135_1 := (HB.out.cell (World.block_lt_of_cell? w _ hx135_1)).trans hx135_1; replace hx135_2 := (HB.out.cell (World.block_lt_of_cell? w _ hx135_2)).trans hx135_2; replace hx135_3 := (HB.out.cell (World.block_lt_of_cell? w _ hx135_3)).trans hx135_3; replace hx135_4 := (HB.out.cell (World.block_lt_of_cell? w _ hx135_4)).trans hx135_4; have HR135_3 := Aside0.mk hi135_3; have HC135_3 := Aside0.mk hl135_3; clear hi135_3 hl135_3; replace p135 := eq_true p135; replace q135 := eq_true q135))
                  go_ret2
                  exact ⟨by first | rfl | (simp [errW_none, errW_some] <;> rfl) | (simp [*, errW_none, errW_some] <;> rfl) | (simp [bt, *]; done) | (simp_all [bt]; done), by repeat (first | (with_reducible first | exact HB.out | apply below_alloc | apply pw_below_drewN | apply below_drew1 | refine below_set ?_ GE123.out) | exact HB.out)⟩
                ·rw [if_neg c28] at H
                 exact absurd H (by simp)
               ·rw [if_neg c27] at H
                exact absurd H (by simp)
              ·replace c26 := Bool.eq_false_iff.mpr c26
               subst c26
               have H1 : (some (6, x16_1)) = some (r1, r2) := by rw [if_neg (show ¬ (false = true) by decide)] at H; exact H
               clear H
               have H := H1
               clear H1
               simp only [Option.some.injEq, Prod.mk.injEq] at H
               obtain ⟨rfl, rfl⟩ := H
               have hcz38_0 : wc.cell? ⟨gb123, 0, none⟩ = some (.string ((rd_T31 l0 x16_1).f0)) := (blk_cell BK123.out 0).trans rfl
               have hcz38_1 : wc.cell? ⟨gb123, 1, none⟩ = some (.int .i64 ((rd_T31 l0 x16_1).f1)) := (blk_cell BK123.out 1).trans rfl
               have hcz38_2 : wc.cell? ⟨gb123, 2, none⟩ = some (.int .i64 ((rd_T31 l0 x16_1).f2)) := (blk_cell BK123.out 2).trans rfl
               have hcz38_3 : wc.cell? ⟨gb123, 3, none⟩ = some (.slice A122_3 ((rd_T31 l0 x16_1).f3).length c122_3) := (blk_cell BK123.out 3).trans rfl
               have hcz38_4 : wc.cell? ⟨gb123, 4, none⟩ = some (.string ((rd_T31 l0 x16_1).f4)) := (blk_cell BK123.out 4).trans rfl
               have hfz38_0 := blk_frozen BK123.out 0
               have hfz38_1 := blk_frozen BK123.out 1
               have hfz38_2 := blk_frozen BK123.out 2
               have hfz38_3 := blk_frozen BK123.out 3
               have hfz38_4 := blk_frozen BK123.out 4
               go_wp2_with (first | ((with_reducible refine gate_callee (f := 15) rfl ?_); refine goesL_ (some 45) rfl rfl Try.func15 (by kernel_rfl) rfl #[.string ((rd_T31 l0 x16_1).f0)] rfl (by (try simp only [List.map_toArray, List.map_cons, List.map_nil]); first | done | rfl | (simp only [List.length_drop, List.length_take]; rfl)) ?_; (with_reducible refine (path_Parent.calls kj7 ((rd_T31 l0 x16_1).f0) t127 true _ A21.out).mono ?_); rintro e w39 ⟨rfl, hb⟩; refine ⟨_, rfl, ?_⟩; have n0_ := Aside0.mk (blk_below (g := gb123) (o := .cells #[.string ((rd_T31 l0 x16_1).f0), .int .i64 ((rd_T31 l0 x16_1).f1), .int .i64 ((rd_T31 l0 x16_1).f2), .slice A122_3 ((rd_T31 l0 x16_1).f3).length c122_3, .string ((rd_T31 l0 x16_1).f4)] 31 (0, 0)) (by (with_reducible repeat (first | refine blk_drewN ?_ _ | refine blk_drew ?_ | refine blk_alloc ?_ _)); exact BK123.out) hb); have n1_ := Aside0.mk (below_step (by repeat (first | (with_reducible first | exact HB.out | apply below_alloc | apply pw_below_drewN | apply below_drew1 | refine below_set ?_ GE123.out) | exact HB.out)) hb); clear BK123; clear HB; have BK123 := n0_; have HB := n1_; clear n0_ n1_; (try clear hb); (try clear hb2); (try clear hk); (try clear hi); have q40 : (x16_1 : Int) ≤ ((l0.length : Int) : Int) := of_decide_eq_true (by first | (with_reducible assumption) | assumption); obtain ⟨i040, hi040, _, hsz40, _⟩ := info_parts info31; have hroom40 : l0.length ≤ c0 := HC0.out; have hC40 : Kd.C k31 _ (some ad122) l0.length l0 := HR0.out; have hcut40 := cut_to (P := Try.prog) 22 31 .i64 Try.underlying22 hi040 (some ad122) l0.length c0 x16_1 (of_decide_eq_true (by first | (with_reducible assumption) | assumption)) q40 hroom40; have hr40 := Kd.C_take (m := (x16_1 : Int).toNat) hC40 (by omega); have hy40 : y129.length = (x16_1 : Int).toNat := (by rw [Ny129.out, List.length_take]; omega); rw [← Ny129.out] at hr40; rw [← hy40] at hcut40; have HR132 := Aside0.mk hr40; have HC132 := Aside0.mk (show y129.length ≤ c0 from by omega); clear hr40 hC40 hroom40 hi040 hsz40; have KY40 := Aside0.mk hy40; clear hy40; replace q40 := eq_true q40) | ((with_reducible refine gate_callee (f := 40) rfl ?_); refine goesL_ (some 54) rfl rfl Try.func40 (by kernel_rfl) rfl #[.slice (some ad122) y129.length c0, .string t127] rfl (by (try simp only [List.map_toArray, List.map_cons, List.map_nil]); first | done | rfl | (simp only [List.length_drop, List.length_take]; rfl)) ?_; (with_reducible refine (tree_place.calls kj7 _ _ y129 t127 t133 false _ ?side1 ?side2 A25.out).mono ?_); (case side1 => repeat (first | exact (Kd.C_below HR132.out HB.out) | (with_reducible refine Kd.C_alloc ?_ _) | (with_reducible refine Kd.C_drewN ?_ _) | (with_reducible refine Kd.C_drew ?_))); (case side2 => exact HC132.out); rintro e w41 ⟨rfl, hb⟩; refine ⟨_, rfl, ?_⟩; have n0_ := Aside0.mk (blk_below (g := gb123) (o := .cells #[.string ((rd_T31 l0 x16_1).f0), .int .i64 ((rd_T31 l0 x16_1).f1), .int .i64 ((rd_T31 l0 x16_1).f2), .slice A122_3 ((rd_T31 l0 x16_1).f3).length c122_3, .string ((rd_T31 l0 x16_1).f4)] 31 (0, 0)) (by (with_reducible repeat (first | refine blk_drewN ?_ _ | refine blk_drew ?_ | refine blk_alloc ?_ _)); exact BK123.out) hb); have n1_ := Aside0.mk (below_step (by repeat (first | (with_reducible first | exact HB.out | apply below_alloc | apply pw_below_drewN | apply below_drew1 | refine below_set ?_ GE123.out) | exact HB.out)) hb); clear BK123; clear HB; have BK123 := n0_; have HB := n1_; clear n0_ n1_; (try clear hb); (try clear hb2); (try clear hk); (try clear hi)))
               go_ret2
               exact ⟨by first | rfl | (simp [errW_none, errW_some] <;> rfl) | (simp [*, errW_none, errW_some] <;> rfl) | (simp [bt, *]; done) | (simp_all [bt]; done), by repeat (first | (with_reducible first | exact HB.out | apply below_alloc | apply pw_below_drewN | apply below_drew1 | refine below_set ?_ GE123.out) | exact HB.out)⟩
             ·rw [if_neg c24] at H
              exact absurd H (by simp)
            ·rw [if_neg c23] at H
             exact absurd H (by simp)
           ·replace c22 := Bool.eq_false_iff.mpr c22
            subst c22
            have H1 : (tree_Check.l0 kj7 l0 l0 (l0.length : Int) (wrap64 (x16_1 + 1))) = some (r1, r2) := by rw [if_neg (show ¬ (false = true) by decide)] at H; exact H
            clear H
            have H := H1
            clear H1
            have H' := Aside0.mk H
            clear H
            have hcz42_0 : wc.cell? ⟨gb123, 0, none⟩ = some (.string ((rd_T31 l0 x16_1).f0)) := (blk_cell BK123.out 0).trans rfl
            have hcz42_1 : wc.cell? ⟨gb123, 1, none⟩ = some (.int .i64 ((rd_T31 l0 x16_1).f1)) := (blk_cell BK123.out 1).trans rfl
            have hcz42_2 : wc.cell? ⟨gb123, 2, none⟩ = some (.int .i64 ((rd_T31 l0 x16_1).f2)) := (blk_cell BK123.out 2).trans rfl
            have hcz42_3 : wc.cell? ⟨gb123, 3, none⟩ = some (.slice A122_3 ((rd_T31 l0 x16_1).f3).length c122_3) := (blk_cell BK123.out 3).trans rfl
            have hcz42_4 : wc.cell? ⟨gb123, 4, none⟩ = some (.string ((rd_T31 l0 x16_1).f4)) := (blk_cell BK123.out 4).trans rfl
            have hfz42_0 := blk_frozen BK123.out 0
            have hfz42_1 := blk_frozen BK123.out 1
            have hfz42_2 := blk_frozen BK123.out 2
            have hfz42_3 := blk_frozen BK123.out 3
            have hfz42_4 := blk_frozen BK123.out 4
            go_wp2_with (first | ((with_reducible refine gate_callee (f := 15) rfl ?_); refine goesL_ (some 45) rfl rfl Try.func15 (by kernel_rfl) rfl #[.string ((rd_T31 l0 x16_1).f0)] rfl (by (try simp only [List.map_toArray, List.map_cons, List.map_nil]); first | done | rfl | (simp only [List.length_drop, List.length_take]; rfl)) ?_; (with_reducible refine (path_Parent.calls kj7 ((rd_T31 l0 x16_1).f0) t127 false _ A21.out).mono ?_); rintro e w43 ⟨rfl, hb⟩; refine ⟨_, rfl, ?_⟩; have n0_ := Aside0.mk (blk_below (g := gb123) (o := .cells #[.string ((rd_T31 l0 x16_1).f0), .int .i64 ((rd_T31 l0 x16_1).f1), .int .i64 ((rd_T31 l0 x16_1).f2), .slice A122_3 ((rd_T31 l0 x16_1).f3).length c122_3, .string ((rd_T31 l0 x16_1).f4)] 31 (0, 0)) (by (with_reducible repeat (first | refine blk_drewN ?_ _ | refine blk_drew ?_ | refine blk_alloc ?_ _)); exact BK123.out) hb); have n1_ := Aside0.mk (below_step (by repeat (first | (with_reducible first | exact HB.out | apply below_alloc | apply pw_below_drewN | apply below_drew1 | refine below_set ?_ GE123.out) | exact HB.out)) hb); clear BK123; clear HB; have BK123 := n0_; have HB := n1_; clear n0_ n1_; (try clear hb); (try clear hb2); (try clear hk); (try clear hi)))
            go_roundg kj7
            case measure => have := HK1.out; have := HJ7.out; omega
            case rel => exact ⟨(wrap64 (x16_1 + 1)), (by first | rfl | (simp; done) | (simp [*]; done)), H', ⟨by have := HK1.out; have := HJ7.out; omega⟩, ⟨by repeat (first | (with_reducible first | exact HB.out | apply below_alloc | apply pw_below_drewN | apply below_drew1 | refine below_set ?_ GE123.out) | exact HB.out)⟩⟩
       ·rw [if_neg c7] at H
        have c7b0 : (t124 == 0) = false := beq_eq_false_iff_ne.mpr c7
        have c7b1 : (t124 != 0) = true := bne_iff_ne.mpr c7
        simp only [Option.some.injEq, Prod.mk.injEq] at H
        obtain ⟨rfl, rfl⟩ := H
        have p122 : 0 ≤ (x16_1 : Int) := of_decide_eq_true (by first | (with_reducible assumption) | assumption)
        have q122 : x16_1 < (l0.length : Int) := of_decide_eq_true (by first | (with_reducible assumption) | assumption)
        obtain ⟨ad122, A122_3, c122_3, e122, hx122_0, hx122_1, hx122_2, hx122_3, hx122_4, hl122_3, hi122_3⟩ := at_T31 HR0.out x16_1 p122 q122
        cases e122
        replace hx122_0 := (HB.out.cell (World.block_lt_of_cell? w _ hx122_0)).trans hx122_0
        replace hx122_1 := (HB.out.cell (World.block_lt_of_cell? w _ hx122_1)).trans hx122_1
        replace hx122_2 := (HB.out.cell (World.block_lt_of_cell? w _ hx122_2)).trans hx122_2
        replace hx122_3 := (HB.out.cell (World.block_lt_of_cell? w _ hx122_3)).trans hx122_3
        replace hx122_4 := (HB.out.cell (World.block_lt_of_cell? w _ hx122_4)).trans hx122_4
        have HR122_3 := Aside0.mk hi122_3
        have HC122_3 := Aside0.mk hl122_3
        clear hi122_3 hl122_3
        replace p122 := eq_true p122
        replace q122 := eq_true q122
        go_wp2_with (first | ((with_reducible refine gate_dst (N := 5) rfl ?_); refine box_event ?hg (N := 5) ?hd (cs := #[.string (⟨#[]⟩ : ByteArray), .int .i64 0, .int .i64 0, .slice none 0 0, .string (⟨#[]⟩ : ByteArray)]) (t := 31) ?hr ?_; (case hd => rfl); (case hg => rfl); (case hr => first | (go_simp; done) | (go_simp; rfl)); intro gb123 hg w44 hbox hb; have n0_ := Aside0.mk (below_step (by repeat (first | (with_reducible first | exact HB.out | apply below_alloc | apply pw_below_drewN | apply below_drew1) | exact HB.out)) hb); have n1_ := Aside0.mk (hbox); have n2_ := Aside0.mk ((by rw [hg]; exact (below_size (by repeat (first | (with_reducible first | exact HB.out | apply below_alloc | apply pw_below_drewN | apply below_drew1) | exact HB.out))) : w.heap.size ≤ gb123)); have n3_ := Aside0.mk ((by rw [hg]; exact (below_size (by repeat (first | (with_reducible first | exact HB.out | apply below_alloc | apply pw_below_drewN | apply below_drew1) | exact HB.out))) : w.heap.size ≤ gb123)); clear HB; have HB := n0_; have BK123 := n1_; have GW123 := n2_; have GE123 := n3_; clear n0_ n1_ n2_ n3_; clear hb hbox hg; have hcz45_0 : w44.cell? ⟨gb123, 0, none⟩ = some (.string (⟨#[]⟩ : ByteArray)) := (blk_cell BK123.out 0).trans rfl; have hcz45_1 : w44.cell? ⟨gb123, 1, none⟩ = some (.int .i64 0) := (blk_cell BK123.out 1).trans rfl; have hcz45_2 : w44.cell? ⟨gb123, 2, none⟩ = some (.int .i64 0) := (blk_cell BK123.out 2).trans rfl; have hcz45_3 : w44.cell? ⟨gb123, 3, none⟩ = some (.slice none 0 0) := (blk_cell BK123.out 3).trans rfl; have hcz45_4 : w44.cell? ⟨gb123, 4, none⟩ = some (.string (⟨#[]⟩ : ByteArray)) := (blk_cell BK123.out 4).trans rfl; have hfz45_0 := blk_frozen BK123.out 0; have hfz45_1 := blk_frozen BK123.out 1; have hfz45_2 := blk_frozen BK123.out 2; have hfz45_3 := blk_frozen BK123.out 3; have hfz45_4 := blk_frozen BK123.out 4) | ((with_reducible refine gate_callee (f := 39) rfl ?_); refine goesL_ (some 22) rfl rfl Try.func39 (by kernel_rfl) rfl #[.agg #[.string ((rd_T31 l0 x16_1).f0), .int .i64 ((rd_T31 l0 x16_1).f1), .int .i64 ((rd_T31 l0 x16_1).f2), .slice A122_3 ((rd_T31 l0 x16_1).f3).length c122_3, .string ((rd_T31 l0 x16_1).f4)]] rfl (by (try simp only [List.map_toArray, List.map_cons, List.map_nil]); first | done | rfl | (simp only [List.length_drop, List.length_take]; rfl)) ?_; (with_reducible refine (tree_one.calls k1 ((rd_T31 l0 x16_1).f0) ((rd_T31 l0 x16_1).f1) ((rd_T31 l0 x16_1).f2) _ _ ((rd_T31 l0 x16_1).f3) ((rd_T31 l0 x16_1).f4) t124 _ ?side1 ?side2 A6.out).mono ?_); (case side1 => exact Kd.C_below HR122_3.out (by repeat (first | (with_reducible first | exact HB.out | apply below_alloc | apply pw_below_drewN | apply below_drew1 | refine below_set ?_ GE123.out) | exact HB.out))); (case side2 => exact HC122_3.out); rintro e w46 ⟨rfl, hb⟩; refine ⟨_, rfl, ?_⟩; have n0_ := Aside0.mk (blk_below (g := gb123) (o := .cells #[.string ((rd_T31 l0 x16_1).f0), .int .i64 ((rd_T31 l0 x16_1).f1), .int .i64 ((rd_T31 l0 x16_1).f2), .slice A122_3 ((rd_T31 l0 x16_1).f3).length c122_3, .string ((rd_T31 l0 x16_1).f4)] 31 (0, 0)) (by (with_reducible repeat (first | refine blk_drewN ?_ _ | refine blk_drew ?_ | refine blk_alloc ?_ _)); refine blk_put (cs := #[.string ((rd_T31 l0 x16_1).f0), .int .i64 ((rd_T31 l0 x16_1).f1), .int .i64 ((rd_T31 l0 x16_1).f2), .slice A122_3 ((rd_T31 l0 x16_1).f3).length c122_3, .string (⟨#[]⟩ : ByteArray)]) ?_ 4 _ rfl; (with_reducible repeat (first | refine blk_drewN ?_ _ | refine blk_drew ?_ | refine blk_alloc ?_ _)); refine blk_put (cs := #[.string ((rd_T31 l0 x16_1).f0), .int .i64 ((rd_T31 l0 x16_1).f1), .int .i64 ((rd_T31 l0 x16_1).f2), .slice none 0 0, .string (⟨#[]⟩ : ByteArray)]) ?_ 3 _ rfl; (with_reducible repeat (first | refine blk_drewN ?_ _ | refine blk_drew ?_ | refine blk_alloc ?_ _)); refine blk_put (cs := #[.string ((rd_T31 l0 x16_1).f0), .int .i64 ((rd_T31 l0 x16_1).f1), .int .i64 0, .slice none 0 0, .string (⟨#[]⟩ : ByteArray)]) ?_ 2 _ rfl; (with_reducible repeat (first | refine blk_drewN ?_ _ | refine blk_drew ?_ | refine blk_alloc ?_ _)); refine blk_put (cs := #[.string ((rd_T31 l0 x16_1).f0), .int .i64 0, .int .i64 0, .slice none 0 0, .string (⟨#[]⟩ : ByteArray)]) ?_ 1 _ rfl; (with_reducible repeat (first | refine blk_drewN ?_ _ | refine blk_drew ?_ | refine blk_alloc ?_ _)); refine blk_put (cs := #[.string (⟨#[]⟩ : ByteArray), .int .i64 0, .int .i64 0, .slice none 0 0, .string (⟨#[]⟩ : ByteArray)]) ?_ 0 _ rfl; (with_reducible repeat (first | refine blk_drewN ?_ _ | refine blk_drew ?_ | refine blk_alloc ?_ _)); exact BK123.out) hb); have n1_ := Aside0.mk (below_step (by repeat (first | (with_reducible first | exact HB.out | apply below_alloc | apply pw_below_drewN | apply below_drew1 | refine below_set ?_ GE123.out) | exact HB.out)) hb); clear BK123; clear HB; have BK123 := n0_; have HB := n1_; clear n0_ n1_; (try clear hb); (try clear hb2); (try clear hk); (try clear hi)))
        go_ret2
        exact ⟨by first | rfl | (simp [errW_none, errW_some] <;> rfl) | (simp [*, errW_none, errW_some] <;> rfl) | (simp [bt, *]; done) | (simp_all [bt]; done), by repeat (first | (with_reducible first | exact HB.out | apply below_alloc | apply pw_below_drewN | apply below_drew1 | refine below_set ?_ GE123.out) | exact HB.out)⟩
      ·rw [if_neg c5] at H
       exact absurd H (by simp)
     ·rw [if_neg c4] at H
      exact absurd H (by simp)
    ·rw [if_neg c3] at H
     have c3b0 : decide (x16_1 < (l0.length : Int)) = false := decide_eq_false c3
     clear c3
     simp only [Option.some.injEq, Prod.mk.injEq] at H
     obtain ⟨rfl, rfl⟩ := H
     go_wp2
     go_ret2
     exact ⟨by first | rfl | (simp [errW_none, errW_some] <;> rfl) | (simp [*, errW_none, errW_some] <;> rfl) | (simp [bt, *]; done) | (simp_all [bt]; done), by repeat (first | (with_reducible first | exact HB.out | apply below_alloc | apply pw_below_drewN | apply below_drew1) | exact HB.out)⟩

end Go.Proofs.Ytopkmchkfcjjmaa.X
end

/-! ## SlicesCloneEntry -/
section
namespace Go.Proofs.Ytopkmchkfcjjmaa.X
open Go.RowKit Go.Proofs.YtopkmchkfcjjmaaW.PrintWords Go.Proofs.YtopkmchkfcjjmaaW.PrintLast Go.Proofs.YtopkmchkfcjjmaaW.PrintMore
attribute [local go_sem] max2_int min2_int max_two min_two max_three min_three max_four min_four   -- for this text's walks alone
set_option linter.unusedVariables false
set_option linter.unusedSimpArgs false

attribute [local go_sem] str_gtr fld_fault0 fld_fault1
/-! ### slices_Clone_Entry: function 55 -/
def api_Entry_55.f (l0 : List (S31)) : Option ((List (S31))) := if l0.length < 1954687338268 then some l0 else none
set_option maxHeartbeats 8000000 in
set_option maxRecDepth 100000 in
theorem api_Entry_55.calls (P0_ : Nat → Prop) (A0 : Option Addr) (c0 : Nat) (l0 : List (S31)) (r : List (S31)) (w : World) (hs0 : Kd.V k31 31 w w.heap.size (fun k_ => P0_ k_) (.slice A0 l0.length c0) l0) (h : api_Entry_55.f l0 = some r) :
  Calls Try.prog 55 #[.slice A0 l0.length c0] w fun e w' => ∃ v0_ : Value, e = .returned (v0_) ∧ Kd.N k31 31 w' w.heap.size (fun k_ => (P0_ k_ ∨ w.heap.size ≤ k_)) v0_ r ∧ Below w.heap.size w w' := by
 have HO0 := Aside0.mk (show Kd.V k31 31 w w.heap.size (fun k_ => (P0_ k_ ∨ w.heap.size ≤ k_)) (.slice A0 l0.length c0) l0 from Kd.V_mono hs0 (fun k_ hk => .inl hk))
 have HB := Aside0.mk (Below.refl w.heap.size w)
 unfold api_Entry_55.f at h
 by_cases c2 : l0.length < 1954687338268
 ·rw [if_pos c2] at h
  obtain rfl := Option.some.inj h
  clear h hs0
  have heq := fun (w : World) => run_eql_slice_nil w 22 31 A0 l0.length c0 Try.underlying22
  cases A0 with
  | none =>
   have hl : l0 = [] := by
    obtain ⟨_, _, h3⟩ := Kd.F_now (Kd.V_F HO0.out)
    rcases Nat.eq_zero_or_pos l0.length with h0 | h0
    ·exact List.eq_nil_of_length_eq_zero h0
    ·obtain ⟨ad, h4, _⟩ := h3 h0
     cases h4
   subst hl
   clear heq
   have heq := fun (w : World) => run_eql_slice_nil w 22 31 none 0 c0 Try.underlying22
   go_enter Try.func55, Try.ntmps55
   go_wp2
   go_ret
   exact ⟨_, rfl, Kd.R_N (Kd.R_nil _ _ _ _ _), Below.refl _ _⟩
  | some ad =>
   have LMc2 := Aside0.mk (show ([] : List (S31)).length + l0.length < 1954687338268 by simpa using c2)
   clear c2
   obtain ⟨yA, hyA⟩ : ∃ y_ : List (S31), y_ = [] := ⟨_, rfl⟩
   obtain ⟨yB, hyB⟩ : ∃ y_ : List (S31), y_ = (yA ++ l0) := ⟨_, rfl⟩
   have hyC : yB = l0 := by rw [hyB, hyA]; rfl
   have NyC := Aside0.mk hyC
   rw [← hyA] at LMc2
   have NyA := Aside0.mk hyA
   have NyB := Aside0.mk hyB
   clear hyA hyB hyC
   go_enter Try.func55, Try.ntmps55
   go_wp2_with (first | ((with_reducible refine gate_dst (N := 5) rfl ?_); refine Kd.N_lit k31 _ 31 ?hg (N' := 5) ?hd (xs := ([] : List (S31))) (inner := []) (ok := (fun k_ => (P0_ k_ ∨ w.heap.size ≤ k_))) (okp := (fun k_ => (P0_ k_ ∨ w.heap.size ≤ k_))) ?hr ?hp (fun _ hk => hk) ((show ∀ k_, w.heap.size ≤ k_ → (fun k_ => (P0_ k_ ∨ w.heap.size ≤ k_)) k_ from fun k_ hk => (.inr (Nat.le_trans (below_size (by repeat (first | (with_reducible first | exact HB.out | apply below_alloc | apply pw_below_drewN | apply below_drew1) | exact HB.out))) hk))) _ (Nat.le_refl _)) (Below.refl _ _) (Nat.le_refl _) (by simp) ?_; (case hd => rfl); (case hg => rfl); (case hr => first | (go_simp; done) | (go_simp; rfl)); (case hp => exact (Reps.none _ _)); intro v253 w3 ho4 hb hg_ hnew_; clear hg_ hnew_; (first | rw [← NyA.out] at ho4 | (simp only [Int.reduceToNat] at ho4; rw [← NyA.out] at ho4)); have n0_ := Aside0.mk (Kd.V_elder' (by (with_reducible repeat (first | apply Kd.V_alloc | apply Kd.V_drewN | apply Kd.V_drew)); exact HO0.out) (by first | exact Kd.N_base ho4 | exact Kd.S_base ho4) hb); have n1_ := Aside0.mk (Kd.N_lower ho4 (below_size (by repeat (first | (with_reducible first | exact HB.out | apply below_alloc | apply pw_below_drewN | apply below_drew1) | exact HB.out)))); have n2_ := Aside0.mk (below_step (by repeat (first | (with_reducible first | exact HB.out | apply below_alloc | apply pw_below_drewN | apply below_drew1) | exact HB.out)) hb); clear HO0; clear HB; have HO0 := n0_; have HO254 := n1_; have HB := n2_; clear n0_ n1_ n2_; clear hb ho4) | ((with_reducible refine gate_builtin (b := .append) (xs := #[.tmp 5, .tmp 6]) rfl ?_); at_builtin; refine Kd.N_append_rows k31 (w0 := w) w.heap.size rfl (.tmp 5) (.tmp 6) 22 31 (.agg #[(.string ⟨#[]⟩), (.int .i64 0), (.int .i64 0), (.slice none 0 0), (.string ⟨#[]⟩)]) 72 rfl Try.underlying22 info31 rfl (by decide) (by omega) v253 yA l0 _ _ _ (fun k_ => (P0_ k_ ∨ w.heap.size ≤ k_)) (fun k_ => ((fun k_ => (P0_ k_ ∨ w.heap.size ≤ k_))) k_ ∧ some k_ ≠ (v253 : Value).ownBlock) rfl rfl ?aO ?aR (fun _ hk => hk) ?aF ?aB ?aS ?aL ?_; (case aR => exact (by skip; exact Kd.V_F (Kd.V_mono (ok' := (fun k_ => ((fun k_ => (P0_ k_ ∨ w.heap.size ≤ k_))) k_ ∧ some k_ ≠ (v253 : Value).ownBlock)) (HO0.out) (fun k_ hk => ⟨hk.1, hk.2⟩)))); (case aB => exact (by repeat (first | (with_reducible first | exact HB.out | apply below_alloc | apply pw_below_drewN | apply below_drew1) | exact HB.out))); (case aF => exact (fun k_ hk => (.inr (Nat.le_trans (below_size (by repeat (first | (with_reducible first | exact HB.out | apply below_alloc | apply pw_below_drewN | apply below_drew1) | exact HB.out))) hk)))); (case aO => exact (by (with_reducible repeat (first | apply Kd.N_alloc | apply Kd.N_drewN | apply Kd.N_drew)); exact HO254.out)); (case aS => exact (below_size (by repeat (first | (with_reducible first | exact HB.out | apply below_alloc | apply pw_below_drewN | apply below_drew1) | exact HB.out)))); (case aL => have := LMc2.out; omega); intro v256 w5 ho hb hg hat; rw [← NyB.out] at ho; have n0_ := Aside0.mk (Kd.V_afterv (ok := (fun k_ => (P0_ k_ ∨ w.heap.size ≤ k_))) (by (with_reducible repeat (first | apply Kd.V_alloc | apply Kd.V_drewN | apply Kd.V_drew)); exact HO0.out) hg hat); have n1_ := Aside0.mk (hb); have n2_ := Aside0.mk (ho); clear HO0; clear HB; clear HO254; have HO0 := n0_; have HB := n1_; have HO257 := n2_; clear n0_ n1_ n2_; clear ho hb hg hat))
   go_ret
   exact ⟨_, rfl, by rw [← NyC.out]; (with_reducible repeat (first | apply Kd.N_alloc | apply Kd.N_drewN | apply Kd.N_drew)); exact HO257.out, by repeat (first | (with_reducible first | exact HB.out | apply below_alloc | apply pw_below_drewN | apply below_drew1) | exact HB.out)⟩
 ·rw [if_neg c2] at h
  cases h

end Go.Proofs.Ytopkmchkfcjjmaa.X
end

/-! ## SlicesCloneByteByte -/
section
namespace Go.Proofs.Ytopkmchkfcjjmaa.X
open Go.RowKit Go.Proofs.YtopkmchkfcjjmaaW.PrintWords Go.Proofs.YtopkmchkfcjjmaaW.PrintLast Go.Proofs.YtopkmchkfcjjmaaW.PrintMore
attribute [local go_sem] max2_int min2_int max_two min_two max_three min_three max_four min_four   -- for this text's walks alone
set_option linter.unusedVariables false
set_option linter.unusedSimpArgs false

attribute [local go_sem] str_gtr fld_fault0 fld_fault1
/-! ### slices_Clone_byte_byte: function 64 -/
def slices_Clone_byte_byte.f (l0 : List Int) : Option (List Int) := if l0.length < 140737488355328 then some l0 else none
/-- All cells of a row's block, its room too, hold bytes. -/
def Full8 (w : World) (v : Value) : Prop := ∀ g, v.ownBlock = some g → ∃ cur : Array Value, w.heap[g]? = some (.cells cur 5 (0, 0)) ∧ ∀ u ∈ cur.toList, ∃ z : Int, u = .int .u8 z
theorem Full8.nil (w : World) : Full8 w (.slice none 0 0) := fun g hg => by simp [Value.ownBlock] at hg
theorem Full8.step {w w1 : World} {v : Value} (h : Full8 w v) (hm : ∀ k, v.ownBlock = some k → k < w.heap.size → w1.heap[k]? = w.heap[k]?) : Full8 w1 v := fun g hg => by
 obtain ⟨cur, h1, h2⟩ := h g hg
 exact ⟨cur, (hm g hg (blk_lt h1)).trans h1, h2⟩
theorem Full8.below {w w1 : World} {v : Value} (h : Full8 w v) (hb : Below w.heap.size w w1) : Full8 w1 v := h.step fun k _ hk => hb.block k hk
theorem Full8.far {w : World} {v : Value} (h : Full8 w v) {p : Addr} (hp : ∀ k, v.ownBlock = some k → k ≠ p.block) (u : Value) : Full8 (w.setCell p u) v := h.step fun k hk _ => Below.heap_setCell w p u k (hp k hk)
/-- A row of whole numbers out of the block that it owns. -/
theorem own_to_R {w : World} {base e n : Nat} {k : IntKind} {v : Value} {xs : List Int} (hn : xs.length = n) (h : w.ownsRow base e 1 v n (nums k xs)) : Kd.R (Kd.int k) e w base (fun _ => True) v xs := by
 subst hn
 exact Kd.R_of_own h (fun _ _ => trivial)
set_option maxHeartbeats 8000000 in
set_option maxRecDepth 100000 in
theorem slices_Clone_byte_byte.calls2 (A0 : Option Addr) (c0 : Nat) (l0 : List Int) (r : List Int) (w : World) (hr0 : Kd.C (Kd.int .u8) w A0 l0.length l0) (hc0 : l0.length ≤ c0) (h : slices_Clone_byte_byte.f l0 = some r) :
  Calls Try.prog 64 #[.slice A0 l0.length c0] w fun e w' => ∃ v0_ : Value, e = .returned (v0_) ∧ Kd.R (Kd.int .u8) 5 w' w.heap.size (fun _ => True) v0_ r ∧ Full8 w' v0_ ∧ Below w.heap.size w w' := by
 unfold slices_Clone_byte_byte.f at h
 by_cases c2 : l0.length < 140737488355328
 ·rw [if_pos c2] at h
  obtain rfl := Option.some.inj h
  clear h
  cases A0 with
  | none =>
   have hl : l0 = [] := by
    obtain ⟨_, _, h3⟩ := hr0
    rcases Nat.eq_zero_or_pos l0.length with h0 | h0
    ·exact List.eq_nil_of_length_eq_zero h0
    ·obtain ⟨ad, h4, _⟩ := h3 h0
     cases h4
   subst hl
   clear hr0 hc0
   have heq := fun (w : World) => run_eql_slice_nil w 29 5 none 0 c0 Try.underlying29
   go_enter Try.func64, Try.ntmps64
   go_wp2
   go_ret
   exact ⟨_, rfl, Kd.R_nil _ _ _ _ _, Full8.nil _, Below.refl _ _⟩
  | some ad =>
   obtain ⟨i0, hi, hz0, hz1, hz2⟩ := info_parts info5
   by_cases hl : l0 = []
   ·subst hl
    have hap := run_append_room_cells (P := Try.prog) (w.alloc (.cells #[] 5)) 29 29 5 i0 Try.underlying29 hi w.heap.size 0 0 0 ad 0 c0 [] (by simp) (fun j u hj => by simp at hj) (fun u hu => by simp at hu) (by omega) (fun j hj => by simp at hj) (fun j hj => by simp at hj)
    have HAP := Aside0.mk hap
    clear hap hr0 hc0
    have HAP2 : (Builtin.append_ #[29, 29] 29 #[.slice (some ⟨w.heap.size, 0, none⟩) 0 0, .slice (some ad) 0 c0]).run Try.prog (w.alloc (.cells #[] 5)) = .ok (.slice (some ⟨w.heap.size, 0, none⟩) 0 0) (w.alloc (.cells #[] 5)) := HAP.out
    have HAP := Aside0.mk HAP2
    clear HAP2
    have heq := fun (w : World) => run_eql_slice_nil w 29 5 (some ad) 0 c0 Try.underlying29
    go_enter Try.func64, Try.ntmps64
    go_wp2_with ((with_reducible refine gate_builtin (b := .append) (xs := #[.tmp 5, .tmp 6]) rfl ?_); refine append_event (v := .slice (some ⟨w.heap.size, 0, none⟩) 0 0) (w1 := w.alloc (.cells #[] 5)) rfl (.tmp 5) (.tmp 6) 29 29 rfl _ _ rfl rfl HAP.out ?_)
    go_ret
    have hnew := heap_alloc_new w (.cells #[] 5)
    refine ⟨_, rfl, own_to_R (xs := ([] : List Int)) rfl (by rw [show (.cells #[] 5 : Obj) = .cells #[] 5 (0, 0) from rfl] at hnew; exact ⟨rfl, .inr ⟨w.heap.size, 0, #[], rfl, Nat.le_refl _, hnew, Nat.le_refl _, by decide, rfl, rfl⟩⟩), fun g hg => ?_, (Below.refl _ _).alloc (Nat.le_refl _) _⟩
    obtain rfl := Option.some.inj hg
    exact ⟨#[], hnew, fun u hu => by simp at hu⟩
   ·have hpos : 0 < l0.length := List.length_pos_iff.2 hl
    obtain ⟨ad', e, hcell⟩ := hr0.2.2 hpos
    obtain rfl := Option.some.inj e
    have hnews : ∀ j u, (nums .u8 l0)[j]? = some u → (w.alloc (.cells #[] 5)).cell? (ad.add j) = some u := by
     intro j u hj
     have hjl : j < l0.length := by have := (List.getElem?_eq_some_iff.1 hj).1; rwa [nums_length] at this
     have hu : u = .int .u8 l0[j] := by
      unfold nums at hj
      rw [List.getElem?_map, List.getElem?_eq_getElem hjl] at hj
      exact (Option.some.inj hj).symm
     subst hu
     obtain ⟨c, h1, h2, h3⟩ := hcell j l0[j] (List.getElem?_eq_getElem hjl)
     have h4 := h3 0 (.int .u8 l0[j]) (by rw [h2]; rfl)
     rw [show j * (Kd.int .u8).sz + 0 = j from by show j * 1 + 0 = j; omega] at h4
     rw [show (w.alloc (.cells #[] 5)).cell? (ad.add j) = w.cell? (ad.add j) from ((Below.refl _ w).alloc (Nat.le_refl _) (.cells #[] 5)).cell (World.block_lt_of_cell? w _ h4)]
     exact h4
    have hap := run_append_grow (P := Try.prog) (w.alloc (.cells #[] 5)) 29 29 5 i0 (.int .u8 0) Try.underlying29 hi hz0 ⟨w.heap.size, 0, none⟩ 0 0 [] (by simp) (fun j u hj => by simp at hj) ad l0.length c0 (nums .u8 l0) (by rw [nums_length, hz1, Nat.mul_one]) hnews (by omega) (by omega) (growslice_fits (by omega) (by rw [hz2]; omega))
    obtain ⟨gc, hgc⟩ : ∃ gc, gc = grownCap (w.alloc (.cells #[] 5)) (0 + l0.length) 0 5 := ⟨_, rfl⟩
    have hge : l0.length ≤ gc := by rw [hgc]; have := grownCap_ge (w.alloc (.cells #[] 5)) (0 + l0.length) 0 5; omega
    have hmx : gc ≤ maxLen := by rw [hgc]; exact grownCap_le_maxLen _ _ _ _ (by unfold maxLen; omega)
    rw [← hgc] at hap
    obtain ⟨cur, hcur⟩ : ∃ cur : Array Value, cur = ([] : List Value).toArray ++ (nums .u8 l0).toArray ++ Builtin.zeroCells (Value.int .u8 0).cells (gc - (0 + l0.length)) := ⟨_, rfl⟩
    rw [← hcur] at hap
    have hsz : cur.size = gc := by rw [hcur]; simp [nums_length, size_zeroCells, Value.cells]; omega
    have htk : cur.toList.take l0.length = nums .u8 l0 := by
     rw [hcur]
     simp only [Array.toList_append, List.nil_append]
     rw [List.take_left' (by rw [nums_length])]
    have hfull : ∀ u ∈ cur.toList, ∃ z : Int, u = .int .u8 z := by
     intro u hu
     rw [hcur] at hu
     simp only [Array.toList_append, List.nil_append, List.mem_append] at hu
     rcases hu with hu | hu
     ·obtain ⟨z, _, rfl⟩ := List.mem_map.1 hu
      exact ⟨z, rfl⟩
     ·simp only [Builtin.zeroCells, Array.toList_map, List.mem_map] at hu
      obtain ⟨q, _, rfl⟩ := hu
      refine ⟨0, ?_⟩
      simp [Value.cells, Nat.mod_one]
    clear hcur hgc
    have HAP := Aside0.mk hap
    have HGE := Aside0.mk hge
    have HMX := Aside0.mk hmx
    have HSZ := Aside0.mk hsz
    have HTK := Aside0.mk htk
    have HFL := Aside0.mk hfull
    clear hap hge hmx hsz htk hfull hr0 hc0 hcell hnews
    have hap : (Builtin.append_ #[29, 29] 29 #[.slice (some ⟨w.heap.size, 0, none⟩) 0 0, .slice (some ad) l0.length c0]).run Try.prog (w.alloc (.cells #[] 5)) = .ok (.slice (some ⟨w.heap.size + 1, 0, none⟩) l0.length gc) ((w.alloc (.cells #[] 5)).drew.alloc (.cells cur 5)) := by
     have h := HAP.out
     rw [Nat.zero_add, World.size_alloc] at h
     exact h
    replace HAP := Aside0.mk hap
    clear hap
    have heq := fun (w : World) => run_eql_slice_nil w 29 5 (some ad) l0.length c0 Try.underlying29
    go_enter Try.func64, Try.ntmps64
    go_wp2_with ((with_reducible refine gate_builtin (b := .append) (xs := #[.tmp 5, .tmp 6]) rfl ?_); refine append_event (v := .slice (some ⟨w.heap.size + 1, 0, none⟩) l0.length gc) (w1 := (w.alloc (.cells #[] 5)).drew.alloc (.cells cur 5)) rfl (.tmp 5) (.tmp 6) 29 29 rfl _ _ rfl rfl HAP.out ?_)
    go_ret
    have hnew : ((w.alloc (.cells #[] 5)).drew.alloc (.cells cur 5)).heap[w.heap.size + 1]? = some (.cells cur 5 (0, 0)) := by
     have h := heap_alloc_new (w.alloc (.cells #[] 5)).drew (.cells cur 5)
     rwa [show (w.alloc (.cells #[] 5)).drew.heap.size = w.heap.size + 1 from World.size_alloc _ _] at h
    refine ⟨_, rfl, own_to_R (xs := l0) rfl ⟨by rw [nums_length, Nat.mul_one], .inr ⟨w.heap.size + 1, gc, cur, rfl, by omega, hnew, HGE.out, HMX.out, by rw [HSZ.out, Nat.mul_one], by rw [Nat.mul_one]; exact HTK.out⟩⟩, fun g hg => ?_, ((below_drew ((Below.refl _ w).alloc (Nat.le_refl _) _)).alloc (by show w.heap.size ≤ (w.alloc _).heap.size; simp) _)⟩
    obtain rfl := Option.some.inj hg
    exact ⟨cur, hnew, HFL.out⟩
 ·rw [if_neg c2] at h
  cases h
theorem slices_Clone_byte_byte.calls (A0 : Option Addr) (c0 : Nat) (l0 : List Int) (r : List Int) (w : World) (hr0 : Kd.C (Kd.int .u8) w A0 l0.length l0) (hc0 : l0.length ≤ c0) (h : slices_Clone_byte_byte.f l0 = some r) :
  Calls Try.prog 64 #[.slice A0 l0.length c0] w fun e w' => ∃ v0_ : Value, e = .returned (v0_) ∧ Kd.R (Kd.int .u8) 5 w' w.heap.size (fun _ => True) v0_ r ∧ Below w.heap.size w w' :=
 (slices_Clone_byte_byte.calls2 A0 c0 l0 r w hr0 hc0 h).mono fun e w' ⟨v, h1, h2, _, h4⟩ => ⟨v, h1, h2, h4⟩

end Go.Proofs.Ytopkmchkfcjjmaa.X
end

/-! ## TreeClone -/
section
namespace Go.Proofs.Ytopkmchkfcjjmaa.X
open Go.RowKit Go.Proofs.YtopkmchkfcjjmaaW.PrintWords Go.Proofs.YtopkmchkfcjjmaaW.PrintLast Go.Proofs.YtopkmchkfcjjmaaW.PrintMore
attribute [local go_sem] max2_int min2_int max_two min_two max_three min_three max_four min_four   -- for this text's walks alone
set_option linter.unusedVariables false
set_option linter.unusedSimpArgs false

attribute [local go_sem] str_gtr fld_fault0 fld_fault1
/-! ### tree_clone: function 41 -/
def tree_clone.l0 : Nat → List (S31) → Int → Int → Option ((List (S31)))
 | 0, _, _, _ => none
 | k + 1, x3, x8, x9 => if x9 < x8 then (if 0 ≤ x9 then (if x9 < (x3.length : Int) then ((slices_Clone_byte_byte.f ((rd_T31 x3 x9).f3)).bind fun t140 => (tree_clone.l0 k (x3.set (x9 : Int).toNat (⟨(rd_T31 x3 x9).f0, (rd_T31 x3 x9).f1, (rd_T31 x3 x9).f2, t140, (rd_T31 x3 x9).f4⟩ : S31)) x8 (wrap64 (x9 + 1)))) else (none)) else (none)) else (some x3)
def tree_clone.f (k : Nat) (l0 : List (S31)) : Option ((List (S31))) := (api_Entry_55.f l0).bind fun t136 => (tree_clone.l0 k t136 (t136.length : Int) 0)
theorem tree_clone.mono_l : ∀ k, (∀ y0 y1 y2, LeO (tree_clone.l0 k y0 y1 y2) (tree_clone.l0 (k + 1) y0 y1 y2))
 | 0 => fun _ _ _ r h => by simp [tree_clone.l0] at h
 | k + 1 => by
  have ih0 := tree_clone.mono_l k
  ·intro y0 y1 y2
   unfold tree_clone.l0
   repeat' first
   | (with_reducible exact ih0 _ _ _)
   | (with_reducible exact LeO.refl _)
   | (with_reducible exact LeO.none _)
   | (with_reducible refine LeO.ite ?_ ?_)
   | (with_reducible refine LeO.bind ?_ (fun _ => ?_))
   | exact ih0 _ _ _
   | exact LeO.none _
   | refine LeO.ite ?_ ?_
   | refine LeO.bind ?_ (fun _ => ?_)
theorem tree_clone.mono : ∀ a0 k, LeO (tree_clone.f k a0) (tree_clone.f (k + 1) a0) := by
 intro a0 k
 have ih0 := tree_clone.mono_l k
 unfold tree_clone.f
 repeat' first
   | (with_reducible exact ih0 _ _ _)
   | (with_reducible exact LeO.refl _)
   | (with_reducible exact LeO.none _)
   | (with_reducible refine LeO.ite ?_ ?_)
   | (with_reducible refine LeO.bind ?_ (fun _ => ?_))
   | exact ih0 _ _ _
   | exact LeO.none _
   | refine LeO.ite ?_ ?_
   | refine LeO.bind ?_ (fun _ => ?_)
/-- Of the first i entries of a row the bytes are rows of the call's own, each apart from the others. -/
def OwnUpTo (w : World) (base : Nat) (A : Option Addr) (l : List (S31)) (i : Int) : Prop :=
 ∃ f : Nat → Nat, ∀ ad : Addr, A = some ad → ∀ j : Nat, (j : Int) < i → j < l.length → ∃ vj : Value, w.cell? ⟨ad.block, ad.off + (j * 5 + 3), none⟩ = some vj ∧ Kd.R (Kd.int .u8) 5 w base (fun k => k ≠ ad.block ∧ f k = j) vj (rd_T31 l (j : Int)).f3 ∧ Full8 w vj
/-- Of a row's entries the bytes' blocks hold bytes, their room too. -/
def FullRow (w : World) (v : Value) (l : List (S31)) : Prop := ∀ (ad : Addr) (n c : Nat), v = .slice (some ad) n c → ∀ j : Nat, j < l.length → ∃ vj : Value, w.cell? ⟨ad.block, ad.off + (j * 5 + 3), none⟩ = some vj ∧ Full8 w vj
theorem OwnUpTo.start (w : World) (base : Nat) (A : Option Addr) (l : List (S31)) : OwnUpTo w base A l 0 := ⟨fun _ => 0, fun ad _ j hj => by omega⟩
theorem OwnUpTo.below {w w1 : World} {base : Nat} {A : Option Addr} {l : List (S31)} {i : Int} (h : OwnUpTo w base A l i) (hb : Below w.heap.size w w1) : OwnUpTo w1 base A l i := by
 obtain ⟨f, h⟩ := h
 refine ⟨f, fun ad ha j hj hl => ?_⟩
 obtain ⟨vj, hc, hr, hf⟩ := h ad ha j hj hl
 exact ⟨vj, (hb.cell (World.block_lt_of_cell? w _ hc)).trans hc, Kd.R_below hr hb, hf.below hb⟩
theorem rd_set_same (l : List (S31)) (i : Nat) (x : S31) (h : i < l.length) : rd_T31 (l.set i x) (i : Int) = x := by
 unfold rd_T31
 rw [Int.toNat_natCast, List.getD_eq_getElem?_getD, List.getElem?_set_self h]
 rfl
theorem rd_set_other (l : List (S31)) (i j : Nat) (x : S31) (h : i ≠ j) : rd_T31 (l.set i x) (j : Int) = rd_T31 l (j : Int) := by
 unfold rd_T31
 rw [Int.toNat_natCast, List.getD_eq_getElem?_getD, List.getElem?_set_ne h, List.getD_eq_getElem?_getD]
/-- One entry more: its bytes' copy is stored. -/
theorem OwnUpTo.step {wr w : World} {base g : Nat} {l : List (S31)} {i : Int} {v u : Value} {x : S31} (h : OwnUpTo wr base (some ⟨g, 0, none⟩) l i) (hb : Below wr.heap.size wr w) (hv : Kd.R (Kd.int .u8) 5 w wr.heap.size (fun _ => True) v x.f3) (hfu : Full8 w v)
  (hg : g < wr.heap.size) (h0 : 0 ≤ i) (hbase : base ≤ wr.heap.size) (hc : w.cell? ⟨g, i.toNat * 5 + 3, none⟩ = some u) : OwnUpTo (w.setCell ⟨g, i.toNat * 5 + 3, none⟩ v) base (some ⟨g, 0, none⟩) (l.set i.toNat x) (i + 1) := by
 obtain ⟨f, h⟩ := h
 refine ⟨fun k => if wr.heap.size ≤ k then i.toNat else f k, fun ad ha j hj hl => ?_⟩
 obtain rfl := Option.some.inj ha
 rw [List.length_set] at hl
 by_cases e : j = i.toNat
 ·subst e
  refine ⟨v, ?_, ?_, hfu.far (p := ⟨g, i.toNat * 5 + 3, none⟩) (fun k hk e => by have := Kd.R_base hv k hk; have e2 : k = g := e; omega) v⟩
  ·rw [Nat.zero_add]
   exact World.cell?_setCell_same' w ⟨g, i.toNat * 5 + 3, none⟩ v (by rw [hc]; rfl)
  ·rw [rd_set_same l i.toNat x hl]
   have h1 := Kd.R_mono (ok' := fun k => k ≠ g ∧ (if wr.heap.size ≤ k then i.toNat else f k) = i.toNat) (Kd.R_bound hv) (fun k hk => ⟨fun e => by have := hk.2.1; omega, if_pos hk.2.1⟩)
   exact Kd.R_lower (Kd.R_far (p := ⟨g, i.toNat * 5 + 3, none⟩) h1 (fun k hk => hk.1) v) hbase
 ·obtain ⟨vj, hcj, hr, hf⟩ := h ⟨g, 0, none⟩ rfl j (by omega) hl
  refine ⟨vj, ?_, ?_, (hf.below hb).far (p := ⟨g, i.toNat * 5 + 3, none⟩) (fun k hk => (hr.1 k hk).1) v⟩
  ·show (w.setCell ⟨g, i.toNat * 5 + 3, none⟩ v).cell? ⟨g, 0 + (j * 5 + 3), none⟩ = some vj
   rw [World.cell?_setCell_other w ⟨g, i.toNat * 5 + 3, none⟩ ⟨g, 0 + (j * 5 + 3), none⟩ v (fun e2 => e (by injection e2; omega))]
   exact (hb.cell (World.block_lt_of_cell? wr _ hcj)).trans hcj
  ·rw [rd_set_other l i.toNat j x (fun e2 => e e2.symm)]
   have h1 := Kd.R_below (Kd.R_mono (ok' := fun k => k ≠ g ∧ (if wr.heap.size ≤ k then i.toNat else f k) = j) (Kd.R_bound hr) (fun k hk => ⟨hk.1.1, by have := hk.2.2.1; rw [if_neg (by omega)]; exact hk.1.2⟩)) hb
   exact Kd.R_far (p := ⟨g, i.toNat * 5 + 3, none⟩) h1 (fun k hk => hk.1) v
/-- All of them: a row whose entries' bytes are the call's own, each apart. -/
theorem OwnUpTo.done {w : World} {base n c : Nat} {ok : Nat → Prop} {A : Option Addr} {l : List (S31)} {i : Int} (hN : Kd.N k31 31 w base ok (.slice A n c) l) (hO : OwnUpTo w base A l i) (hi : (l.length : Int) ≤ i) : Kd.S k31 31 w base (fun k => base ≤ k) (.slice A n c) l := by
 obtain ⟨f, hO⟩ := hO
 have hbase := Kd.N_base hN
 have hget : ∀ ad, A = some ad → ∀ j, j < l.length → _ := fun ad ha j hj => hO ad ha j (by omega) hj
 have hn := (Kd.N_reads' hN).1
 obtain ⟨h0, rows, hrl, hR, hF⟩ := hN
 obtain ⟨hr0, inner, hown, hreps⟩ := hR
 have hlz : l.zipIdx.length = l.length := List.length_zipIdx
 refine ⟨f, fun k hk => hbase k hk, inner, by rw [hlz, ← hrl]; exact hown, by rw [hlz, ← hrl]; exact hreps.1, fun j p hj => ?_⟩
 have hjl : j < l.length := by rw [← hlz]; exact (List.getElem?_eq_some_iff.1 hj).1
 have hp : p = (l[j], j) := by
  rw [List.getElem?_zipIdx, Nat.zero_add, List.getElem?_eq_getElem hjl] at hj
  exact (Option.some.inj hj).symm
 subst hp
 have hjr : j < rows.length := by omega
 have hrow := hreps.2 j rows[j] (List.getElem?_eq_getElem hjr)
 obtain ⟨hch, hlen, _⟩ := hrow
 have hFK := hF j l[j] rows[j] (List.getElem?_eq_getElem hjl) (List.getElem?_eq_getElem hjr)
 obtain ⟨A3, c3, hcs, _, _⟩ := k31_openF hFK
 -- where the row lies
 rcases hown.2 with ⟨hv, hz⟩ | ⟨g, cap, cur, hv, hg, hh, hnc, hcm, hcs2, htk⟩
 ·exact absurd hjr (by omega)
 ·injection hv with hA _ _
  obtain ⟨vj, hc, hRj, _⟩ := hget ⟨g, 0, none⟩ hA j hjl
  have hcell : w.cell? ⟨g, 0 + (j * 5 + 3), none⟩ = some (.slice A3 l[j].f3.length c3) := by
   rw [Nat.zero_add, blk_cell hh]
   have e1 : ((inner.drop (j * 5)).take 5)[3]? = some (.slice A3 l[j].f3.length c3) := by
    show ((inner.drop (j * (Kd.raw k31.sz).sz)).take (Kd.raw k31.sz).sz)[3]? = _
    rw [hch, hcs]; rfl
   rw [List.getElem?_take_of_lt (by omega), List.getElem?_drop, ← htk, List.getElem?_take_of_lt (by have : rows.length * 5 = rows.length * (Kd.raw k31.sz).sz := rfl; omega), Array.getElem?_toList] at e1
   exact e1
  have hvj : vj = .slice A3 l[j].f3.length c3 := Option.some.inj (hc.symm.trans hcell)
  show k31.M w base (fun k => (base ≤ k ∧ some k ≠ (Value.slice A n c).ownBlock) ∧ f k = j) l[j] ((inner.drop (j * 5)).take 5)
  rw [show (inner.drop (j * 5)).take 5 = rows[j] from hch, hcs]
  refine k31_mkM w base _ l[j] ?_
  rw [← hvj]
  rw [show rd_T31 l (j : Int) = l[j] by unfold rd_T31; rw [Int.toNat_natCast, List.getD_eq_getElem?_getD, List.getElem?_eq_getElem hjl]; rfl] at hRj
  refine Kd.R_mono (Kd.R_bound hRj) (fun k hk => ⟨⟨hk.2.1, ?_⟩, hk.1.2⟩)
  rw [hA]
  intro e
  exact hk.1.1 (Option.some.inj e)
theorem OwnUpTo.full {w : World} {base n c : Nat} {A : Option Addr} {l : List (S31)} {i : Int} (hO : OwnUpTo w base A l i) (hi : (l.length : Int) ≤ i) : FullRow w (.slice A n c) l := by
 obtain ⟨f, hO⟩ := hO
 intro ad n' c' he j hj
 injection he with he _ _
 obtain ⟨vj, hc, _, hf⟩ := hO ad he j (by omega) hj
 exact ⟨vj, hc, hf⟩
theorem FullRow.below {w w1 : World} {v : Value} {l : List (S31)} (h : FullRow w v l) (hb : Below w.heap.size w w1) : FullRow w1 v l := fun ad n c he j hj => by
 obtain ⟨vj, hc, hf⟩ := h ad n c he j hj
 exact ⟨vj, (hb.cell (World.block_lt_of_cell? w _ hc)).trans hc, hf.below hb⟩
set_option maxHeartbeats 8000000 in
set_option maxRecDepth 100000 in
theorem tree_clone.calls2 (k : Nat) (A0 : Option Addr) (c0 : Nat) (l0 : List (S31)) (r : List (S31)) (w : World) (hr0 : Kd.C k31 w A0 l0.length l0) (hc0 : l0.length ≤ c0) (h : tree_clone.f k l0 = some r) :
  Calls Try.prog 41 #[.slice A0 l0.length c0] w fun e w' => ∃ v0_ : Value, e = .returned (v0_) ∧ Kd.S k31 31 w' w.heap.size (fun _ => True) v0_ r ∧ FullRow w' v0_ r ∧ Below w.heap.size w w' := by
 obtain ⟨P0_, hs0⟩ : ∃ P0_ : Nat → Prop, Kd.V k31 31 w w.heap.size (fun k_ => P0_ k_) (.slice A0 l0.length c0) l0 := ⟨fun k => k < w.heap.size, Kd.V_mk hc0 (Kd.C_F k31_heap hr0)⟩
 clear hr0
 clear hc0
 have HO0 := Aside0.mk (show Kd.V k31 31 w w.heap.size (fun k_ => (P0_ k_ ∨ w.heap.size ≤ k_)) (.slice A0 l0.length c0) l0 from Kd.V_mono hs0 (fun k_ hk => .inl hk))
 have HB := Aside0.mk (Below.refl w.heap.size w)
 have H : ((api_Entry_55.f l0).bind fun t136 => (tree_clone.l0 k t136 (t136.length : Int) 0)) = some r := h
 clear h
 replace H := Option.bind_eq_some_iff.mp H
 obtain ⟨t136, A20, H⟩ := H
 replace H : (tree_clone.l0 k t136 (t136.length : Int) 0) = some r := H
 have A2 := Aside0.mk A20
 clear A20
 have H' := Aside0.mk H
 clear H
 go_enter Try.func41, Try.ntmps41
 go_wp2_with (first | ((with_reducible refine gate_callee (f := 55) rfl ?_); refine goesL_ (some 6) rfl rfl Try.func55 (by kernel_rfl) rfl #[.slice A0 l0.length c0] rfl (by (try simp only [List.map_toArray, List.map_cons, List.map_nil]); first | done | rfl | (simp only [List.length_drop, List.length_take]; rfl)) ?_; (with_reducible refine (api_Entry_55.calls (fun k_ => (P0_ k_ ∨ w.heap.size ≤ k_)) _ _ l0 t136 _ ?side1 A2.out).mono ?_); (case side1 => exact HO0.out); rintro e w3 ⟨v137, rfl, ho0, hb⟩; refine ⟨_, rfl, ?_⟩; have n0_ := Aside0.mk (Kd.V_elder' (by (with_reducible repeat (first | apply Kd.V_alloc | apply Kd.V_drewN | apply Kd.V_drew)); exact HO0.out) (by first | exact Kd.N_base ho0 | exact Kd.S_base ho0) hb); have n1_ := Aside0.mk (Kd.N_lower (Kd.N_mono (ok' := fun k_ => (P0_ k_ ∨ w.heap.size ≤ k_)) ho0 (fun k_ hk_ => Or.elim hk_ (fun hs_ => hs_) (fun hn_ => (.inr (Nat.le_trans (below_size (by repeat (first | (with_reducible first | exact HB.out | apply below_alloc | apply pw_below_drewN | apply below_drew1) | exact HB.out))) hn_))))) (below_size (by repeat (first | (with_reducible first | exact HB.out | apply below_alloc | apply pw_below_drewN | apply below_drew1) | exact HB.out)))); have n2_ := Aside0.mk (below_step (by repeat (first | (with_reducible first | exact HB.out | apply below_alloc | apply pw_below_drewN | apply below_drew1) | exact HB.out)) hb); clear HO0; clear HB; have HO0 := n0_; have HO138 := n1_; have HB := n2_; clear n0_ n1_ n2_; (try clear hb); (try clear hb2); (try clear hk); (try clear hi); (try clear ho0); obtain ⟨Ao4, co4, eo4⟩ := Kd.N_slice HO138.out; subst eo4))
 go_loopg [9] k (fun kq v9 w' => ∃ (x3_1 : List (S31)) (x9_1 : Int), v9 = .int .i64 x9_1 ∧ Aside0 (tree_clone.l0 kq x3_1 (t136.length : Int) x9_1 = some r) ∧ Aside0 (kq ≤ k) ∧ Aside0 (Kd.N k31 31 w' w.heap.size (fun k_ => (P0_ k_ ∨ w.heap.size ≤ k_)) (.slice Ao4 t136.length co4) x3_1) ∧ Aside0 (OwnUpTo w' w.heap.size Ao4 x3_1 x9_1) ∧ Aside0 (Below w.heap.size w w'))
 case atStart => exact ⟨(t136), (0), (by first | rfl | (simp; done) | (simp [*]; done)), H', ⟨Nat.le_refl _⟩, ⟨by (with_reducible repeat (first | apply Kd.N_alloc | apply Kd.N_drewN | apply Kd.N_drew)); exact HO138.out⟩, ⟨OwnUpTo.start _ _ _ _⟩, ⟨by repeat (first | (with_reducible first | exact HB.out | apply below_alloc | apply pw_below_drewN | apply below_drew1) | exact HB.out)⟩⟩
 case round =>
  clear H'
  try clear p2
  try clear c4
  obtain ⟨x3_1, x9_1, rfl, HA, HK1, HO_3, HOW, HB⟩ := hrel
  have HBW := Aside0.mk (below_size HB.out)
  have KN := HO_3
  have hl3_1 := (Kd.N_reads' HO_3.out).1
  rw [hl3_1] at HO_3
  (try simp only [hl3_1])
  cases gk with
  | zero => exact absurd HA.out (by simp [tree_clone.l0])
  | succ k1 =>
   have H := HA.out
   clear HA
   simp only [tree_clone.l0] at H
   by_cases c5 : x9_1 < (t136.length : Int)
   ·rw [if_pos c5] at H
    have c5b0 : decide (x9_1 < (t136.length : Int)) = true := decide_eq_true c5
    have c5b0z : decide (x9_1 < (x3_1.length : Int)) = true := by rw [← hl3_1]; exact c5b0
    have c5b0z : decide (x9_1 < (x3_1.length : Int)) = true := by rw [← hl3_1]; exact c5b0
    clear c5
    by_cases c6 : 0 ≤ x9_1
    ·rw [if_pos c6] at H
     have c6b0 : decide (0 ≤ x9_1) = true := decide_eq_true c6
     clear c6
     by_cases c7 : x9_1 < (x3_1.length : Int)
     ·rw [if_pos c7] at H
      have c7b0 : decide (x9_1 < (x3_1.length : Int)) = true := decide_eq_true c7
      clear c7
      replace H := Option.bind_eq_some_iff.mp H
      obtain ⟨t140, A80, H⟩ := H
      replace H : (tree_clone.l0 k1 (x3_1.set (x9_1 : Int).toNat (⟨(rd_T31 x3_1 x9_1).f0, (rd_T31 x3_1 x9_1).f1, (rd_T31 x3_1 x9_1).f2, t140, (rd_T31 x3_1 x9_1).f4⟩ : S31)) (t136.length : Int) (wrap64 (x9_1 + 1))) = some r := H
      have A8 := Aside0.mk A80
      clear A80
      obtain ⟨y143, hy143⟩ : ∃ y_ : List (S31), y_ = (x3_1.set (x9_1 : Int).toNat (⟨(rd_T31 x3_1 x9_1).f0, (rd_T31 x3_1 x9_1).f1, (rd_T31 x3_1 x9_1).f2, t140, (rd_T31 x3_1 x9_1).f4⟩ : S31)) := ⟨_, rfl⟩
      replace H : (tree_clone.l0 k1 y143 (t136.length : Int) (wrap64 (x9_1 + 1))) = some r := by first | (rw [hy143]; with_reducible exact H) | (have H2_ := (Option.bind_some _ _).symm.trans H; rw [hy143]; with_reducible exact H2_) | (have H2_ := (Option.bind_some _ _).symm.trans H; with_reducible exact H2_) | with_reducible exact H | (rw [hy143]; exact H) | exact H
      have Ny143 := Aside0.mk hy143
      clear hy143
      have H' := Aside0.mk H
      clear H
      have p139 : 0 ≤ (x9_1 : Int) := of_decide_eq_true (by first | (with_reducible assumption) | assumption)
      have q139 : x9_1 < (x3_1.length : Int) := of_decide_eq_true (by first | (with_reducible assumption) | assumption)
      obtain ⟨ad139, A139_3, c139_3, e139, hx139_0, hx139_1, hx139_2, hx139_3, hx139_4, hl139_3, hi139_3⟩ := at_T31 (Kd.N_reads' HO_3.out).2.2 x9_1 p139 q139
      cases e139
      obtain ⟨ce139, hce139, hMe139, hcc139⟩ := Kd.N_get HO_3.out z31 x9_1 p139 (by first | exact q139 | exact of_decide_eq_true (by first | (with_reducible assumption) | assumption) | (have e_ := (Kd.N_reads' HO_3.out).1; omega))
      obtain ⟨ua139_3, uc139_3, rfl, ul139_3, ge139_3⟩ := k31_openF hMe139
      have hv139_3 := hcc139 3 _ rfl
      rw [add_field _ _ 3 (by omega)] at hv139_3
      replace hv139_3 := Option.some.inj (hv139_3.symm.trans hx139_3)
      injection hv139_3 with hva_ hvn_ hvc_
      rw [hva_] at ge139_3
      rw [hvc_] at ul139_3
      have HL139_3 := Aside0.mk (show Kd.V (Kd.int .u8) 5 _ w.heap.size _ _ ((rd_T31 x3_1 x9_1).f3) from Kd.V_mk ul139_3 ge139_3)
      clear hva_ hvn_ hvc_ ge139_3 ul139_3
      clear hcc139 hce139
      have HR139_3 := Aside0.mk hi139_3
      have HC139_3 := Aside0.mk hl139_3
      clear hi139_3 hl139_3
      replace p139 := eq_true p139
      replace q139 := eq_true q139
      go_wp2_with (first | ((with_reducible refine gate_callee (f := 64) rfl ?_); refine goesL_ (some 19) rfl rfl Try.func64 (by kernel_rfl) rfl #[.slice A139_3 ((rd_T31 x3_1 x9_1).f3).length c139_3] rfl (by (try simp only [List.map_toArray, List.map_cons, List.map_nil]); first | done | rfl | (simp only [List.length_drop, List.length_take]; rfl)) ?_; (with_reducible refine (slices_Clone_byte_byte.calls2 _ _ ((rd_T31 x3_1 x9_1).f3) t140 _ ?side1 ?side2 A8.out).mono ?_); (case side1 => repeat (first | exact (by repeat (first | (with_reducible exact HR139_3.out) | (with_reducible refine Kd.C_alloc ?_ _) | (with_reducible refine Kd.C_drewN ?_ _) | (with_reducible refine Kd.C_drew ?_) | exact HR139_3.out)) | (with_reducible refine Kd.C_alloc ?_ _) | (with_reducible refine Kd.C_drewN ?_ _) | (with_reducible refine Kd.C_drew ?_))); (case side2 => exact HC139_3.out); rintro e w10 ⟨v141, rfl, ho0, hfu0, hb⟩; have KF := Aside0.mk hfu0; clear hfu0; refine ⟨_, rfl, ?_⟩; have KR := Aside0.mk ho0; have KB := Aside0.mk hb; have n0_ := Aside0.mk (Kd.N_elder' (by (with_reducible repeat (first | apply Kd.N_alloc | apply Kd.N_drewN | apply Kd.N_drew)); exact HO_3.out) (Kd.R_base ho0) hb); have n1_ := Aside0.mk (Kd.V_elder' (by (with_reducible repeat (first | apply Kd.V_alloc | apply Kd.V_drewN | apply Kd.V_drew)); exact HL139_3.out) (Kd.R_base ho0) hb); have n2_ := Aside0.mk (Kd.R_lower (Kd.R_newM (M := fun k_ => (w.heap.size ≤ k_)) ho0 (below_size (by repeat (first | (with_reducible first | exact HB.out | apply below_alloc | apply pw_below_drewN | apply below_drew1) | exact HB.out))) (fun k_ h_ => h_)) (below_size (by repeat (first | (with_reducible first | exact HB.out | apply below_alloc | apply pw_below_drewN | apply below_drew1) | exact HB.out)))); have n3_ := Aside0.mk (Kd.C_below (by repeat (first | (with_reducible exact HR139_3.out) | (with_reducible refine Kd.C_alloc ?_ _) | (with_reducible refine Kd.C_drewN ?_ _) | (with_reducible refine Kd.C_drew ?_) | exact HR139_3.out)) hb); have n4_ := Aside0.mk (below_step (by repeat (first | (with_reducible first | exact HB.out | apply below_alloc | apply pw_below_drewN | apply below_drew1) | exact HB.out)) hb); clear HO_3; clear HL139_3; clear HR139_3; clear HB; have HO_3 := n0_; have HL139_3 := n1_; have HO142 := n2_; have HR139_3 := n3_; have HB := n4_; clear n0_ n1_ n2_ n3_ n4_; (try clear hb); (try clear hb2); (try clear hk); (try clear hi); (try clear ho0); have p9 : 0 ≤ (x9_1 : Int) := of_decide_eq_true (by first | (with_reducible assumption) | assumption); have q9 : (x9_1 : Int) < ((x3_1.length : Int) : Int) := of_decide_eq_true (by first | (with_reducible assumption) | assumption); obtain ⟨go9, co9, eo9, gb9, gl9, cl9, HG9⟩ := Kd.N_form HO_3.out (by omega); (first | cases eo9 | (injection eo9 with ea_ en_ ec_; (first | subst ea_ | (injection ea_ with ea_; subst ea_)); subst ec_; clear en_)); have GB9 := Aside0.mk gb9; have GL9 := Aside0.mk (show go9 < wr.heap.size from by obtain ⟨g_, c_, e_, _, l_, _⟩ := Kd.N_form KN.out (by omega); injection e_ with a_ _ _; injection a_ with a_; injection a_ with b_ _ _; rw [b_]; exact l_); have GG9 := Aside0.mk HG9; clear gb9 gl9 HG9; (first | simp only [add_plain] at hx139_0 | skip); (first | simp only [add_plain] at hx139_1 | skip); (first | simp only [add_plain] at hx139_2 | skip); (first | simp only [add_plain] at hx139_3 | skip); (first | simp only [add_plain] at hx139_4 | skip); obtain ⟨ce9, hcl9, hM9, hcc9, hfr9⟩ := Kd.N_elem HO_3.out z31 (x9_1 : Int) p9 q9; obtain ⟨ua9_3, uc9_3, rfl, ul9_3, ge9_3⟩ := k31_openF hM9; have hx9_0 : w10.cell? ⟨go9, (x9_1 : Int).toNat * 5, none⟩ = some (.string ((rd_T31 x3_1 x9_1).f0)) := hcc9 0 _ rfl; have hx9_1 : w10.cell? ⟨go9, (x9_1 : Int).toNat * 5 + 1, none⟩ = some (.int .i64 ((rd_T31 x3_1 x9_1).f1)) := hcc9 1 _ rfl; have hx9_2 : w10.cell? ⟨go9, (x9_1 : Int).toNat * 5 + 2, none⟩ = some (.int .i64 ((rd_T31 x3_1 x9_1).f2)) := hcc9 2 _ rfl; have hx9_3 : w10.cell? ⟨go9, (x9_1 : Int).toNat * 5 + 3, none⟩ = some (.slice ua9_3 ((rd_T31 x3_1 x9_1).f3).length uc9_3) := hcc9 3 _ rfl; have hx9_4 : w10.cell? ⟨go9, (x9_1 : Int).toNat * 5 + 4, none⟩ = some (.string ((rd_T31 x3_1 x9_1).f4)) := hcc9 4 _ rfl; have HX3 := Aside0.mk hx9_3; have hf9_0 : w10.frozen? ⟨go9, (x9_1 : Int).toNat * 5, none⟩ = false := hfr9 0; have hf9_1 : w10.frozen? ⟨go9, (x9_1 : Int).toNat * 5 + 1, none⟩ = false := hfr9 1; have hf9_2 : w10.frozen? ⟨go9, (x9_1 : Int).toNat * 5 + 2, none⟩ = false := hfr9 2; have hf9_3 : w10.frozen? ⟨go9, (x9_1 : Int).toNat * 5 + 3, none⟩ = false := hfr9 3; have hf9_4 : w10.frozen? ⟨go9, (x9_1 : Int).toNat * 5 + 4, none⟩ = false := hfr9 4; clear hcl9 hcc9 hfr9 hM9; replace p9 := eq_true p9; replace q9 := eq_true q9; have HX11 := Aside0.mk (show Kd.N k31 31 w10 w.heap.size (fun k_ => (P0_ k_ ∨ w.heap.size ≤ k_)) (.slice (some ⟨go9, 0, none⟩) x3_1.length co4) x3_1 from (by (with_reducible repeat (first | apply Kd.N_alloc | apply Kd.N_drewN | apply Kd.N_drew)); exact Kd.N_mono HO_3.out (fun _ hk => hk.1))); obtain ⟨ce11, hcl11, hM11, hcc11, hfr11⟩ := Kd.N_elem HX11.out z31 (x9_1 : Int) (of_decide_eq_true (by first | (with_reducible assumption) | assumption)) (by have h_ : (x9_1 : Int) < ((x3_1.length : Int) : Int) := of_decide_eq_true (by first | (with_reducible assumption) | assumption); first | exact h_ | (have e_ := (Kd.N_reads' HO_3.out).1; omega) | simpa using h_); obtain ⟨ua11_3, uc11_3, rfl, ul11_3, ge11_3⟩ := k31_openF hM11; have HP11 := Kd.N_seg HX11.out (x9_1 : Int) (of_decide_eq_true (by first | (with_reducible assumption) | assumption)) (by have h_ : (x9_1 : Int) < ((x3_1.length : Int) : Int) := of_decide_eq_true (by first | (with_reducible assumption) | assumption); first | exact h_ | (have e_ := (Kd.N_reads' HO_3.out).1; omega) | simpa using h_) (seg := [v141]) (j := 3) hcl11 hcc11 (show 4 ≤ 5 from by decide) (x' := (⟨(rd_T31 x3_1 x9_1).f0, (rd_T31 x3_1 x9_1).f1, (rd_T31 x3_1 x9_1).f2, t140, (rd_T31 x3_1 x9_1).f4⟩ : S31)) (entry_mkFv _ _ (⟨(rd_T31 x3_1 x9_1).f0, (rd_T31 x3_1 x9_1).f1, (rd_T31 x3_1 x9_1).f2, t140, (rd_T31 x3_1 x9_1).f4⟩ : S31) _ (Kd.R_mono (ok' := (fun k_ => ((fun k_ => (P0_ k_ ∨ w.heap.size ≤ k_))) k_ ∧ k_ ≠ go9)) (Kd.R_apart' (HO142.out) (Kd.N_typed HO_3.out) (by decide)) (fun k_ hk => ⟨(.inr (hk.1.1)), fun e_ => (hk.2) (by rw [e_]; rfl)⟩))) (fun _ hk => hk); have hx11_3 := hcc11 3 _ rfl; (try simp only [show (k31).sz = 5 from rfl, Nat.mul_one, Nat.add_zero] at hx11_3); have hf11_3 := hfr11 3; (try simp only [show (k31).sz = 5 from rfl, Nat.mul_one, Nat.add_zero] at hf11_3); clear hcl11 hcc11 hfr11 hM11) | ((with_reducible refine gate_store (t := 29) (p := 21) rfl ?_); refine store_event (t := 29) (p := 21) (v := ?vo_w12) (w1 := (w10.setCell ⟨go9, (x9_1 : Int).toNat * 5 + 3, none⟩ (v141))) ?hg ?ho ?hn ?hr ?_; (case ho => rfl); (case hg => rfl); (case hn => rfl); (case hr => first | (obtain ⟨A_, c_, rfl⟩ := Kd.R_slice HO142.out; first | (go_simp; done) | (go_simp; rfl)) | (go_simp; done) | (go_simp; rfl)); intro w12 hw; have hg : w10.grownBy w12 (some go9) := (by rw [hw]; exact HP11.2); have HOW2 := Aside0.mk (show OwnUpTo w12 w.heap.size (some ⟨go9, 0, none⟩) y143 (x9_1 + 1) from by rw [hw, Ny143.out]; exact OwnUpTo.step HOW.out KB.out KR.out KF.out GL9.out (of_decide_eq_true (by first | (with_reducible assumption) | assumption)) HBW.out HX3.out); have hp_ : Kd.N k31 31 w12 w.heap.size (fun k_ => (P0_ k_ ∨ w.heap.size ≤ k_)) (.slice (some ⟨go9, 0, none⟩) x3_1.length co4) y143 := (by rw [hw, Ny143.out]; exact HP11.1); clear HP11; have n0_ := Aside0.mk (hp_); have n1_ := Aside0.mk (Kd.V_afterv (v := (.slice (some ⟨go9, 0, none⟩) x3_1.length co4)) (v1 := (.slice (some ⟨go9, 0, none⟩) x3_1.length co4)) (ok := (fun k_ => (P0_ k_ ∨ w.heap.size ≤ k_) ∧ some k_ ≠ (v141 : Value).ownBlock)) (by (with_reducible repeat (first | apply Kd.V_alloc | apply Kd.V_drewN | apply Kd.V_drew)); exact Kd.V_mono HL139_3.out (fun _ hk => ⟨⟨hk.1.1, hk.2⟩, hk.1.2⟩)) hg (.inl rfl)); have n2_ := Aside0.mk ((by rw [hw]; exact below_set (HB.out) GB9.out : Below w.heap.size w w12)); clear HO_3; clear HL139_3; clear HB; clear HO142; have HO_3 := n0_; have HL139_3 := n1_; have HB := n2_; clear n0_ n1_ n2_; clear hg hw hp_))
      (try simp only [← hl3_1])
      go_roundg k1
      case measure => have := HK1.out; omega
      case rel => exact ⟨(y143), (wrap64 (x9_1 + 1)), (by first | rfl | (simp; done) | (simp [*]; done)), H', ⟨by have := HK1.out; omega⟩, ⟨by (try simp only [hl3_1]); (with_reducible repeat (first | apply Kd.N_alloc | apply Kd.N_drewN | apply Kd.N_drew)); exact HO_3.out⟩, ⟨by rw [show wrap64 (x9_1 + 1) = x9_1 + 1 from by have := Kd.C_max (Kd.N_reads' KN.out).2.2; unfold wrap64; have q_ : x9_1 < (x3_1.length : Int) := of_decide_eq_true (by first | (with_reducible assumption) | assumption); have p_ : 0 ≤ x9_1 := of_decide_eq_true (by first | (with_reducible assumption) | assumption); omega]; exact HOW2.out⟩, ⟨by repeat (first | (with_reducible first | exact HB.out | apply below_alloc | apply pw_below_drewN | apply below_drew1) | exact HB.out)⟩⟩
     ·rw [if_neg c7] at H
      exact absurd H (by simp)
    ·rw [if_neg c6] at H
     exact absurd H (by simp)
   ·rw [if_neg c5] at H
    have c5b0 : decide (x9_1 < (t136.length : Int)) = false := decide_eq_false c5
    have c5b0z : decide (x9_1 < (x3_1.length : Int)) = false := by rw [← hl3_1]; exact c5b0
    have c5b0z : decide (x9_1 < (x3_1.length : Int)) = false := by rw [← hl3_1]; exact c5b0
    clear c5
    obtain rfl := Option.some.inj H
    go_wp2
    go_ret
    exact ⟨_, rfl, Kd.S_mono (OwnUpTo.done HO_3.out HOW.out (by have := (Kd.N_reads' HO_3.out).1; have q_ := of_decide_eq_false c5b0; omega)) (fun _ _ => trivial), OwnUpTo.full HOW.out (by have := (Kd.N_reads' HO_3.out).1; have q_ := of_decide_eq_false c5b0; omega), HB.out⟩
theorem tree_clone.calls (k : Nat) (A0 : Option Addr) (c0 : Nat) (l0 : List (S31)) (r : List (S31)) (w : World) (hr0 : Kd.C k31 w A0 l0.length l0) (hc0 : l0.length ≤ c0) (h : tree_clone.f k l0 = some r) :
  Calls Try.prog 41 #[.slice A0 l0.length c0] w fun e w' => ∃ v0_ : Value, e = .returned (v0_) ∧ Kd.S k31 31 w' w.heap.size (fun _ => True) v0_ r ∧ Below w.heap.size w w' :=
 (tree_clone.calls2 k A0 c0 l0 r w hr0 hc0 h).mono fun e w' ⟨v, h1, h2, _, h4⟩ => ⟨v, h1, h2, h4⟩

end Go.Proofs.Ytopkmchkfcjjmaa.X
end

/-! ## TreeFind -/
section
namespace Go.Proofs.Ytopkmchkfcjjmaa.X
open Go.RowKit Go.Proofs.YtopkmchkfcjjmaaW.PrintWords Go.Proofs.YtopkmchkfcjjmaaW.PrintLast Go.Proofs.YtopkmchkfcjjmaaW.PrintMore
attribute [local go_sem] max2_int min2_int max_two min_two max_three min_three max_four min_four   -- for this text's walks alone
set_option linter.unusedVariables false
set_option linter.unusedSimpArgs false

attribute [local go_sem] str_gtr fld_fault0 fld_fault1
/-! ### tree_Find: function 14 -/
def tree_Find.f (k : Nat) (l0 : List (S31)) (a1 : ByteArray) : Option (ByteArray × Int × Int × List Int × ByteArray × Bool) := (tree_Check.f k l0).bind fun bt171 => (if bt171.1 = 0 then ((tree_place.f k l0 a1).bind fun bt173 => (if bt173.2 = true then (if 0 ≤ bt173.1 then (if bt173.1 ≤ (wrap64 (bt173.1 + 1)) then (if (wrap64 (bt173.1 + 1)) ≤ (l0.length : Int) then ((tree_clone.f k ((l0.take ((wrap64 (bt173.1 + 1)) : Int).toNat).drop (bt173.1 : Int).toNat)).bind fun t179 => (if 0 < (t179.length : Int) then (some ((rd_T31 t179 0).f0, (rd_T31 t179 0).f1, (rd_T31 t179 0).f2, (rd_T31 t179 0).f3, (rd_T31 t179 0).f4, true)) else (none))) else (none)) else (none)) else (none)) else (some ((⟨#[]⟩ : ByteArray), 0, 0, ([] : List Int), (⟨#[]⟩ : ByteArray), false)))) else (some ((⟨#[]⟩ : ByteArray), 0, 0, ([] : List Int), (⟨#[]⟩ : ByteArray), false)))
theorem tree_Find.mono : ∀ a0 a1 k, LeO (tree_Find.f k a0 a1) (tree_Find.f (k + 1) a0 a1) := by
 intro a0 a1 k
 unfold tree_Find.f
 repeat' first
   | (with_reducible exact tree_Check.mono _ _)
   | (with_reducible exact tree_clone.mono _ _)
   | (with_reducible exact tree_place.mono _ _ _)
   | (with_reducible exact LeO.refl _)
   | (with_reducible exact LeO.none _)
   | (with_reducible refine LeO.ite ?_ ?_)
   | (with_reducible refine LeO.bind ?_ (fun _ => ?_))
   | exact tree_Check.mono _ _
   | exact tree_clone.mono _ _
   | exact tree_place.mono _ _ _
   | exact LeO.none _
   | refine LeO.ite ?_ ?_
   | refine LeO.bind ?_ (fun _ => ?_)
set_option maxHeartbeats 8000000 in
set_option maxRecDepth 100000 in
theorem tree_Find.calls (k : Nat) (A0 : Option Addr) (c0 : Nat) (l0 : List (S31)) (a1 : ByteArray) (r1 : ByteArray) (r2 : Int) (r3 : Int) (r4 : List Int) (r5 : ByteArray) (r6 : Bool) (w : World) (hr0 : Kd.C k31 w A0 l0.length l0) (hc0 : l0.length ≤ c0) (h : tree_Find.f k l0 a1 = some (r1, r2, r3, r4, r5, r6)) :
  Calls Try.prog 14 #[.slice A0 l0.length c0, .string a1] w fun e w' => ∃ v3_ : Value, e = .returned (.tuple #[.agg #[.string r1, .int .i64 r2, .int .i64 r3, v3_, .string r5], .bool r6]) ∧ Kd.R (Kd.int .u8) 5 w' w.heap.size (fun _ => True) v3_ r4 ∧ Below w.heap.size w w' := by
 have hu31 := Try.underlying31
 have HR0 := Aside0.mk hr0
 have HC0 := Aside0.mk hc0
 clear hr0 hc0
 have HB := Aside0.mk (Below.refl w.heap.size w)
 have H : ((tree_Check.f k l0).bind fun bt171 => (if bt171.1 = 0 then ((tree_place.f k l0 a1).bind fun bt173 => (if bt173.2 = true then (if 0 ≤ bt173.1 then (if bt173.1 ≤ (wrap64 (bt173.1 + 1)) then (if (wrap64 (bt173.1 + 1)) ≤ (l0.length : Int) then ((tree_clone.f k ((l0.take ((wrap64 (bt173.1 + 1)) : Int).toNat).drop (bt173.1 : Int).toNat)).bind fun t179 => (if 0 < (t179.length : Int) then (some ((rd_T31 t179 0).f0, (rd_T31 t179 0).f1, (rd_T31 t179 0).f2, (rd_T31 t179 0).f3, (rd_T31 t179 0).f4, true)) else (none))) else (none)) else (none)) else (none)) else (some ((⟨#[]⟩ : ByteArray), 0, 0, ([] : List Int), (⟨#[]⟩ : ByteArray), false)))) else (some ((⟨#[]⟩ : ByteArray), 0, 0, ([] : List Int), (⟨#[]⟩ : ByteArray), false)))) = some (r1, r2, r3, r4, r5, r6) := h
 clear h
 replace H := Option.bind_eq_some_iff.mp H
 obtain ⟨⟨t171, t172⟩, A30, H⟩ := H
 replace H : (if t171 = 0 then ((tree_place.f k l0 a1).bind fun bt173 => (if bt173.2 = true then (if 0 ≤ bt173.1 then (if bt173.1 ≤ (wrap64 (bt173.1 + 1)) then (if (wrap64 (bt173.1 + 1)) ≤ (l0.length : Int) then ((tree_clone.f k ((l0.take ((wrap64 (bt173.1 + 1)) : Int).toNat).drop (bt173.1 : Int).toNat)).bind fun t179 => (if 0 < (t179.length : Int) then (some ((rd_T31 t179 0).f0, (rd_T31 t179 0).f1, (rd_T31 t179 0).f2, (rd_T31 t179 0).f3, (rd_T31 t179 0).f4, true)) else (none))) else (none)) else (none)) else (none)) else (some ((⟨#[]⟩ : ByteArray), 0, 0, ([] : List Int), (⟨#[]⟩ : ByteArray), false)))) else (some ((⟨#[]⟩ : ByteArray), 0, 0, ([] : List Int), (⟨#[]⟩ : ByteArray), false))) = some (r1, r2, r3, r4, r5, r6) := H
 have A3 := Aside0.mk A30
 clear A30
 by_cases c4 : t171 = 0
 ·rw [if_pos c4] at H
  have c4b0 : (t171 == 0) = true := beq_iff_eq.mpr c4
  have c4b1 : (t171 != 0) = false := bne_eq_false_iff_eq.mpr c4
  clear c4
  replace H := Option.bind_eq_some_iff.mp H
  obtain ⟨⟨t173, t174⟩, A50, H⟩ := H
  replace H : (if t174 = true then (if 0 ≤ t173 then (if t173 ≤ (wrap64 (t173 + 1)) then (if (wrap64 (t173 + 1)) ≤ (l0.length : Int) then ((tree_clone.f k ((l0.take ((wrap64 (t173 + 1)) : Int).toNat).drop (t173 : Int).toNat)).bind fun t179 => (if 0 < (t179.length : Int) then (some ((rd_T31 t179 0).f0, (rd_T31 t179 0).f1, (rd_T31 t179 0).f2, (rd_T31 t179 0).f3, (rd_T31 t179 0).f4, true)) else (none))) else (none)) else (none)) else (none)) else (some ((⟨#[]⟩ : ByteArray), 0, 0, ([] : List Int), (⟨#[]⟩ : ByteArray), false))) = some (r1, r2, r3, r4, r5, r6) := H
  have A5 := Aside0.mk A50
  clear A50
  by_cases c6 : t174 = true
  ·subst c6
   have H1 : (if 0 ≤ t173 then (if t173 ≤ (wrap64 (t173 + 1)) then (if (wrap64 (t173 + 1)) ≤ (l0.length : Int) then ((tree_clone.f k ((l0.take ((wrap64 (t173 + 1)) : Int).toNat).drop (t173 : Int).toNat)).bind fun t179 => (if 0 < (t179.length : Int) then (some ((rd_T31 t179 0).f0, (rd_T31 t179 0).f1, (rd_T31 t179 0).f2, (rd_T31 t179 0).f3, (rd_T31 t179 0).f4, true)) else (none))) else (none)) else (none)) else (none)) = some (r1, r2, r3, r4, r5, r6) := by rw [if_pos rfl] at H; exact H
   clear H
   have H := H1
   clear H1
   by_cases c7 : 0 ≤ t173
   ·rw [if_pos c7] at H
    have c7b0 := eq_true c7
    have c7b1 : decide (0 ≤ t173) = true := decide_eq_true c7
    clear c7
    by_cases c8 : t173 ≤ (wrap64 (t173 + 1))
    ·rw [if_pos c8] at H
     have c8b0 := eq_true c8
     have c8b1 : decide (t173 ≤ (wrap64 (t173 + 1))) = true := decide_eq_true c8
     by_cases c9 : (wrap64 (t173 + 1)) ≤ (l0.length : Int)
     ·rw [if_pos c9] at H
      have c9b0 := eq_true c9
      have c9b1 : decide ((wrap64 (t173 + 1)) ≤ (l0.length : Int)) = true := decide_eq_true c9
      obtain ⟨y175, hy175⟩ : ∃ y_ : List (S31), y_ = ((l0.take ((wrap64 (t173 + 1)) : Int).toNat).drop (t173 : Int).toNat) := ⟨_, rfl⟩
      replace H : ((tree_clone.f k y175).bind fun t179 => (if 0 < (t179.length : Int) then (some ((rd_T31 t179 0).f0, (rd_T31 t179 0).f1, (rd_T31 t179 0).f2, (rd_T31 t179 0).f3, (rd_T31 t179 0).f4, true)) else (none))) = some (r1, r2, r3, r4, r5, r6) := by first | (rw [hy175]; with_reducible exact H) | (have H2_ := (Option.bind_some _ _).symm.trans H; rw [hy175]; with_reducible exact H2_) | (have H2_ := (Option.bind_some _ _).symm.trans H; with_reducible exact H2_) | with_reducible exact H | (rw [hy175]; exact H) | exact H
      have Ny175 := Aside0.mk hy175
      clear hy175
      replace H := Option.bind_eq_some_iff.mp H
      obtain ⟨t179, A100, H⟩ := H
      replace H : (if 0 < (t179.length : Int) then (some ((rd_T31 t179 0).f0, (rd_T31 t179 0).f1, (rd_T31 t179 0).f2, (rd_T31 t179 0).f3, (rd_T31 t179 0).f4, true)) else (none)) = some (r1, r2, r3, r4, r5, r6) := H
      have A10 := Aside0.mk A100
      clear A100
      by_cases c11 : 0 < (t179.length : Int)
      ·rw [if_pos c11] at H
       have c11b0 : decide (0 < (t179.length : Int)) = true := decide_eq_true c11
       have c11b1 : decide (0 < t179.length) = true := decide_eq_true (by omega)
       clear c11
       simp only [Option.some.injEq, Prod.mk.injEq] at H
       obtain ⟨rfl, rfl, rfl, rfl, rfl, rfl⟩ := H
       go_enter Try.func14, Try.ntmps14
       go_wp2_with (first | ((with_reducible refine gate_dst (N := 4) rfl ?_); refine box_event ?hg (N := 4) ?hd (cs := #[.string (⟨#[]⟩ : ByteArray), .int .i64 0, .int .i64 0, .slice none 0 0, .string (⟨#[]⟩ : ByteArray)]) (t := 31) ?hr ?_; (case hd => rfl); (case hg => rfl); (case hr => first | (go_simp; done) | (go_simp; rfl)); intro gb170 hg w12 hbox hb; have n0_ := Aside0.mk (below_step (by repeat (first | (with_reducible first | exact HB.out | apply below_alloc | apply pw_below_drewN | apply below_drew1) | exact HB.out)) hb); have n1_ := Aside0.mk (hbox); have n2_ := Aside0.mk ((by rw [hg]; exact (below_size (by repeat (first | (with_reducible first | exact HB.out | apply below_alloc | apply pw_below_drewN | apply below_drew1) | exact HB.out))) : w.heap.size ≤ gb170)); have n3_ := Aside0.mk ((by rw [hg]; exact (below_size (by repeat (first | (with_reducible first | exact HB.out | apply below_alloc | apply pw_below_drewN | apply below_drew1) | exact HB.out))) : w.heap.size ≤ gb170)); clear HB; have HB := n0_; have BK170 := n1_; have GW170 := n2_; have GE170 := n3_; clear n0_ n1_ n2_ n3_; clear hb hbox hg) | ((with_reducible refine gate_callee (f := 11) rfl ?_); refine goesL_ (some 12) rfl rfl Try.func11 (by kernel_rfl) rfl #[.slice A0 l0.length c0] rfl (by (try simp only [List.map_toArray, List.map_cons, List.map_nil]); first | done | rfl | (simp only [List.length_drop, List.length_take]; rfl)) ?_; (with_reducible refine (tree_Check.calls k _ _ l0 t171 t172 _ ?side1 ?side2 A3.out).mono ?_); (case side1 => repeat (first | exact (Kd.C_below HR0.out HB.out) | (with_reducible refine Kd.C_alloc ?_ _) | (with_reducible refine Kd.C_drewN ?_ _) | (with_reducible refine Kd.C_drew ?_))); (case side2 => exact HC0.out); rintro e w13 ⟨rfl, hb⟩; refine ⟨_, rfl, ?_⟩; have n0_ := Aside0.mk (blk_below (g := gb170) (o := .cells #[.string (⟨#[]⟩ : ByteArray), .int .i64 0, .int .i64 0, .slice none 0 0, .string (⟨#[]⟩ : ByteArray)] 31 (0, 0)) (by (with_reducible repeat (first | refine blk_drewN ?_ _ | refine blk_drew ?_ | refine blk_alloc ?_ _)); exact BK170.out) hb); have n1_ := Aside0.mk (below_step (by repeat (first | (with_reducible first | exact HB.out | apply below_alloc | apply pw_below_drewN | apply below_drew1 | refine below_set ?_ GE170.out) | exact HB.out)) hb); clear BK170; clear HB; have BK170 := n0_; have HB := n1_; clear n0_ n1_; (try clear hb); (try clear hb2); (try clear hk); (try clear hi)) | ((with_reducible refine gate_callee (f := 40) rfl ?_); refine goesL_ (some 21) rfl rfl Try.func40 (by kernel_rfl) rfl #[.slice A0 l0.length c0, .string a1] rfl (by (try simp only [List.map_toArray, List.map_cons, List.map_nil]); first | done | rfl | (simp only [List.length_drop, List.length_take]; rfl)) ?_; (with_reducible refine (tree_place.calls k _ _ l0 a1 t173 true _ ?side1 ?side2 A5.out).mono ?_); (case side1 => repeat (first | exact (Kd.C_below HR0.out HB.out) | (with_reducible refine Kd.C_alloc ?_ _) | (with_reducible refine Kd.C_drewN ?_ _) | (with_reducible refine Kd.C_drew ?_))); (case side2 => exact HC0.out); rintro e w14 ⟨rfl, hb⟩; refine ⟨_, rfl, ?_⟩; have n0_ := Aside0.mk (blk_below (g := gb170) (o := .cells #[.string (⟨#[]⟩ : ByteArray), .int .i64 0, .int .i64 0, .slice none 0 0, .string (⟨#[]⟩ : ByteArray)] 31 (0, 0)) (by (with_reducible repeat (first | refine blk_drewN ?_ _ | refine blk_drew ?_ | refine blk_alloc ?_ _)); exact BK170.out) hb); have n1_ := Aside0.mk (below_step (by repeat (first | (with_reducible first | exact HB.out | apply below_alloc | apply pw_below_drewN | apply below_drew1 | refine below_set ?_ GE170.out) | exact HB.out)) hb); clear BK170; clear HB; have BK170 := n0_; have HB := n1_; clear n0_ n1_; (try clear hb); (try clear hb2); (try clear hk); (try clear hi); have q15 : ((wrap64 (t173 + 1)) : Int) ≤ ((l0.length : Int) : Int) := of_decide_eq_true (by first | (with_reducible assumption) | assumption); obtain ⟨i015, hi015, _, hsz15, _⟩ := info_parts info31; have hroom15 : l0.length ≤ c0 := HC0.out; have hC15 : Kd.C k31 _ A0 l0.length l0 := HR0.out; have ql15 : (t173 : Int) ≤ ((wrap64 (t173 + 1)) : Int) := of_decide_eq_true (by first | (with_reducible assumption) | assumption); have q015 : (0 : Int) ≤ (t173 : Int) := of_decide_eq_true (by first | (with_reducible assumption) | assumption); have hcut15 := cut_mid (P := Try.prog) 22 31 .i64 .i64 Try.underlying22 hi015 5 hsz15 A0 l0.length c0 t173 (wrap64 (t173 + 1)) q015 ql15 q15 hroom15; have hr15 := Kd.C_mid (lo := (t173 : Int).toNat) (hi := ((wrap64 (t173 + 1)) : Int).toNat) (c := c0) hC15 (by omega) (by omega) hroom15; obtain ⟨A15, hA15⟩ : ∃ A1, A1 = (if c0 = (t173 : Int).toNat then A0 else (A0 : Option Addr).map (·.add ((t173 : Int).toNat * 5))) := ⟨_, rfl⟩; obtain ⟨c15, hc15⟩ : ∃ c1, c1 = c0 - (t173 : Int).toNat := ⟨_, rfl⟩; have hy15 : y175.length = ((wrap64 (t173 + 1)) : Int).toNat - (t173 : Int).toNat := (by rw [Ny175.out, List.length_drop, List.length_take] <;> omega); rw [show ((l0).take ((wrap64 (t173 + 1)) : Int).toNat).drop (t173 : Int).toNat = y175 from Ny175.out.symm] at hr15; replace hr15 : Kd.C k31 _ A15 y175.length y175 := (by rw [hA15]; exact hr15); rw [← hy15, ← hA15, ← hc15] at hcut15; have HR178 := Aside0.mk hr15; have HC178 := Aside0.mk (show y175.length ≤ c15 from by rw [hy15, hc15]; exact Nat.sub_le_sub_right (Nat.le_trans (by omega) hroom15) _); clear hr15 hC15 hroom15 hi015 hsz15 hc15; have KY15 := Aside0.mk hy15; have KA15 := Aside0.mk hA15; clear hy15 hA15; replace q15 := eq_true q15) | ((with_reducible refine gate_callee (f := 41) rfl ?_); refine goesL_ (some 32) rfl rfl Try.func41 (by kernel_rfl) rfl #[.slice A15 y175.length c15] rfl (by (try simp only [List.map_toArray, List.map_cons, List.map_nil]); first | done | rfl | (simp only [List.length_drop, List.length_take]; rfl)) ?_; (with_reducible refine (tree_clone.calls k _ _ y175 t179 _ ?side1 ?side2 A10.out).mono ?_); (case side1 => repeat (first | exact (Kd.C_below HR178.out HB.out) | (with_reducible refine Kd.C_alloc ?_ _) | (with_reducible refine Kd.C_drewN ?_ _) | (with_reducible refine Kd.C_drew ?_))); (case side2 => exact HC178.out); rintro e w16 ⟨v180, rfl, ho0, hb⟩; refine ⟨_, rfl, ?_⟩; have n0_ := Aside0.mk (Kd.S_lower (Kd.S_newB ho0 (g := gb170) (o := .cells #[.string (⟨#[]⟩ : ByteArray), .int .i64 0, .int .i64 0, .slice none 0 0, .string (⟨#[]⟩ : ByteArray)] 31 (0, 0)) (by (with_reducible repeat (first | refine blk_drewN ?_ _ | refine blk_drew ?_ | refine blk_alloc ?_ _)); exact BK170.out)) (below_size (by repeat (first | (with_reducible first | exact HB.out | apply below_alloc | apply pw_below_drewN | apply below_drew1 | refine below_set ?_ GE170.out) | exact HB.out)))); have n1_ := Aside0.mk (blk_below (g := gb170) (o := .cells #[.string (⟨#[]⟩ : ByteArray), .int .i64 0, .int .i64 0, .slice none 0 0, .string (⟨#[]⟩ : ByteArray)] 31 (0, 0)) (by (with_reducible repeat (first | refine blk_drewN ?_ _ | refine blk_drew ?_ | refine blk_alloc ?_ _)); exact BK170.out) hb); have n2_ := Aside0.mk (below_step (by repeat (first | (with_reducible first | exact HB.out | apply below_alloc | apply pw_below_drewN | apply below_drew1 | refine below_set ?_ GE170.out) | exact HB.out)) hb); clear BK170; clear HB; have HO181 := n0_; have BK170 := n1_; have HB := n2_; clear n0_ n1_ n2_; (try clear hb); (try clear hb2); (try clear hk); (try clear hi); (try clear ho0); obtain ⟨Ao17, co17, eo17⟩ := Kd.S_slice HO181.out; subst eo17; have p182 : 0 ≤ (0 : Int) := (by omega); have q182 : 0 < (t179.length : Int) := of_decide_eq_true (by first | (with_reducible assumption) | assumption); obtain ⟨ad182, A182_3, c182_3, e182, hx182_0, hx182_1, hx182_2, hx182_3, hx182_4, hl182_3, hi182_3⟩ := at_T31 (Kd.S_reads' HO181.out).2.2 0 p182 q182; cases e182; obtain ⟨ce182, hce182, hMe182, hcc182⟩ := Kd.S_get HO181.out z31 0 p182 (by first | exact q182 | exact of_decide_eq_true (by first | (with_reducible assumption) | assumption) | (have e_ := (Kd.S_reads' HO181.out).1; omega)); obtain ⟨ve182_3, rfl, ge182_3⟩ := k31_openM hMe182; have hv182_3 := hcc182 3 _ rfl; rw [add_field _ _ 3 (by omega)] at hv182_3; replace hv182_3 := Option.some.inj (hv182_3.symm.trans hx182_3); rw [hv182_3] at ge182_3; have HL182_3 := Aside0.mk (show Kd.R (Kd.int .u8) 5 _ _ _ _ ((rd_T31 t179 0).f3) from ge182_3); clear hv182_3 ge182_3; clear hcc182 hce182; have qi182 : (0 < t179.length) = True := eq_true (by omega); (try rw [show ((0 : Int)).toNat = 0 from rfl] at hx182_0); (try rw [show 0 * 5 = 0 from rfl] at hx182_0); (try rw [Addr.add_zero'] at hx182_0); (try rw [show ((0 : Int)).toNat = 0 from rfl] at hx182_1); (try rw [show 0 * 5 = 0 from rfl] at hx182_1); (try rw [Addr.add_zero'] at hx182_1); (try rw [show ((0 : Int)).toNat = 0 from rfl] at hx182_2); (try rw [show 0 * 5 = 0 from rfl] at hx182_2); (try rw [Addr.add_zero'] at hx182_2); (try rw [show ((0 : Int)).toNat = 0 from rfl] at hx182_3); (try rw [show 0 * 5 = 0 from rfl] at hx182_3); (try rw [Addr.add_zero'] at hx182_3); (try rw [show ((0 : Int)).toNat = 0 from rfl] at hx182_4); (try rw [show 0 * 5 = 0 from rfl] at hx182_4); (try rw [Addr.add_zero'] at hx182_4); have HR182_3 := Aside0.mk hi182_3; have HC182_3 := Aside0.mk hl182_3; clear hi182_3 hl182_3; replace p182 := eq_true p182; replace q182 := eq_true q182; have hcz18_0 : w16.cell? ⟨gb170, 0, none⟩ = some (.string (⟨#[]⟩ : ByteArray)) := (blk_cell BK170.out 0).trans rfl; have hcz18_1 : w16.cell? ⟨gb170, 1, none⟩ = some (.int .i64 0) := (blk_cell BK170.out 1).trans rfl; have hcz18_2 : w16.cell? ⟨gb170, 2, none⟩ = some (.int .i64 0) := (blk_cell BK170.out 2).trans rfl; have hcz18_3 : w16.cell? ⟨gb170, 3, none⟩ = some (.slice none 0 0) := (blk_cell BK170.out 3).trans rfl; have hcz18_4 : w16.cell? ⟨gb170, 4, none⟩ = some (.string (⟨#[]⟩ : ByteArray)) := (blk_cell BK170.out 4).trans rfl; have hfz18_0 := blk_frozen BK170.out 0; have hfz18_1 := blk_frozen BK170.out 1; have hfz18_2 := blk_frozen BK170.out 2; have hfz18_3 := blk_frozen BK170.out 3; have hfz18_4 := blk_frozen BK170.out 4))
       refine bodyPost_ret (results_ct rfl _ _ gb170 31 #[.string ((rd_T31 t179 0).f0), .int .i64 ((rd_T31 t179 0).f1), .int .i64 ((rd_T31 t179 0).f2), .slice A182_3 ((rd_T31 t179 0).f3).length c182_3, .string ((rd_T31 t179 0).f4)] (0, 0) _ rfl (by (with_reducible repeat (first | refine blk_drewN ?_ _ | refine blk_drew ?_ | refine blk_alloc ?_ _)); refine blk_put (cs := #[.string ((rd_T31 t179 0).f0), .int .i64 ((rd_T31 t179 0).f1), .int .i64 ((rd_T31 t179 0).f2), .slice A182_3 ((rd_T31 t179 0).f3).length c182_3, .string (⟨#[]⟩ : ByteArray)]) ?_ 4 _ rfl; (with_reducible repeat (first | refine blk_drewN ?_ _ | refine blk_drew ?_ | refine blk_alloc ?_ _)); refine blk_put (cs := #[.string ((rd_T31 t179 0).f0), .int .i64 ((rd_T31 t179 0).f1), .int .i64 ((rd_T31 t179 0).f2), .slice none 0 0, .string (⟨#[]⟩ : ByteArray)]) ?_ 3 _ rfl; (with_reducible repeat (first | refine blk_drewN ?_ _ | refine blk_drew ?_ | refine blk_alloc ?_ _)); refine blk_put (cs := #[.string ((rd_T31 t179 0).f0), .int .i64 ((rd_T31 t179 0).f1), .int .i64 0, .slice none 0 0, .string (⟨#[]⟩ : ByteArray)]) ?_ 2 _ rfl; (with_reducible repeat (first | refine blk_drewN ?_ _ | refine blk_drew ?_ | refine blk_alloc ?_ _)); refine blk_put (cs := #[.string ((rd_T31 t179 0).f0), .int .i64 0, .int .i64 0, .slice none 0 0, .string (⟨#[]⟩ : ByteArray)]) ?_ 1 _ rfl; (with_reducible repeat (first | refine blk_drewN ?_ _ | refine blk_drew ?_ | refine blk_alloc ?_ _)); refine blk_put (cs := #[.string (⟨#[]⟩ : ByteArray), .int .i64 0, .int .i64 0, .slice none 0 0, .string (⟨#[]⟩ : ByteArray)]) ?_ 0 _ rfl; (with_reducible repeat (first | refine blk_drewN ?_ _ | refine blk_drew ?_ | refine blk_alloc ?_ _)); exact BK170.out) Try.underlying31 rfl (by kernel_rfl)) rfl ?_
       exact ⟨_, by first | rfl | (simp [errW_none, errW_some] <;> rfl) | (simp [*, errW_none, errW_some] <;> rfl) | (simp [bt, *]; done) | (simp_all [bt]; done), by (with_reducible repeat (first | apply Kd.R_alloc | apply Kd.R_drewN | apply Kd.R_drew)); exact Kd.R_mono (Kd.R_far (p := ⟨gb170, 4, none⟩) (Kd.R_far (p := ⟨gb170, 3, none⟩) (Kd.R_far (p := ⟨gb170, 2, none⟩) (Kd.R_far (p := ⟨gb170, 1, none⟩) (Kd.R_far (p := ⟨gb170, 0, none⟩) (Kd.R_types HL182_3.out BK170.out (by decide)) (fun _ hk => hk.2) (.string ((rd_T31 t179 0).f0))) (fun _ hk => hk.2) (.int .i64 ((rd_T31 t179 0).f1))) (fun _ hk => hk.2) (.int .i64 ((rd_T31 t179 0).f2))) (fun _ hk => hk.2) (.slice A182_3 ((rd_T31 t179 0).f3).length c182_3)) (fun _ hk => hk.2) (.string ((rd_T31 t179 0).f4))) (fun _ hk => trivial), by repeat (first | (with_reducible first | exact HB.out | apply below_alloc | apply pw_below_drewN | apply below_drew1 | refine below_set ?_ GE170.out) | exact HB.out)⟩
      ·rw [if_neg c11] at H
       exact absurd H (by simp)
     ·rw [if_neg c9] at H
      exact absurd H (by simp)
    ·rw [if_neg c8] at H
     exact absurd H (by simp)
   ·rw [if_neg c7] at H
    exact absurd H (by simp)
  ·replace c6 := Bool.eq_false_iff.mpr c6
   subst c6
   have H1 : (some ((⟨#[]⟩ : ByteArray), 0, 0, ([] : List Int), (⟨#[]⟩ : ByteArray), false)) = some (r1, r2, r3, r4, r5, r6) := by rw [if_neg (show ¬ (false = true) by decide)] at H; exact H
   clear H
   have H := H1
   clear H1
   simp only [Option.some.injEq, Prod.mk.injEq] at H
   obtain ⟨rfl, rfl, rfl, rfl, rfl, rfl⟩ := H
   go_enter Try.func14, Try.ntmps14
   go_wp2_with (first | ((with_reducible refine gate_dst (N := 4) rfl ?_); refine box_event ?hg (N := 4) ?hd (cs := #[.string (⟨#[]⟩ : ByteArray), .int .i64 0, .int .i64 0, .slice none 0 0, .string (⟨#[]⟩ : ByteArray)]) (t := 31) ?hr ?_; (case hd => rfl); (case hg => rfl); (case hr => first | (go_simp; done) | (go_simp; rfl)); intro gb170 hg w19 hbox hb; have n0_ := Aside0.mk (below_step (by repeat (first | (with_reducible first | exact HB.out | apply below_alloc | apply pw_below_drewN | apply below_drew1) | exact HB.out)) hb); have n1_ := Aside0.mk (hbox); have n2_ := Aside0.mk ((by rw [hg]; exact (below_size (by repeat (first | (with_reducible first | exact HB.out | apply below_alloc | apply pw_below_drewN | apply below_drew1) | exact HB.out))) : w.heap.size ≤ gb170)); have n3_ := Aside0.mk ((by rw [hg]; exact (below_size (by repeat (first | (with_reducible first | exact HB.out | apply below_alloc | apply pw_below_drewN | apply below_drew1) | exact HB.out))) : w.heap.size ≤ gb170)); clear HB; have HB := n0_; have BK170 := n1_; have GW170 := n2_; have GE170 := n3_; clear n0_ n1_ n2_ n3_; clear hb hbox hg) | ((with_reducible refine gate_callee (f := 11) rfl ?_); refine goesL_ (some 12) rfl rfl Try.func11 (by kernel_rfl) rfl #[.slice A0 l0.length c0] rfl (by (try simp only [List.map_toArray, List.map_cons, List.map_nil]); first | done | rfl | (simp only [List.length_drop, List.length_take]; rfl)) ?_; (with_reducible refine (tree_Check.calls k _ _ l0 t171 t172 _ ?side1 ?side2 A3.out).mono ?_); (case side1 => repeat (first | exact (Kd.C_below HR0.out HB.out) | (with_reducible refine Kd.C_alloc ?_ _) | (with_reducible refine Kd.C_drewN ?_ _) | (with_reducible refine Kd.C_drew ?_))); (case side2 => exact HC0.out); rintro e w20 ⟨rfl, hb⟩; refine ⟨_, rfl, ?_⟩; have n0_ := Aside0.mk (blk_below (g := gb170) (o := .cells #[.string (⟨#[]⟩ : ByteArray), .int .i64 0, .int .i64 0, .slice none 0 0, .string (⟨#[]⟩ : ByteArray)] 31 (0, 0)) (by (with_reducible repeat (first | refine blk_drewN ?_ _ | refine blk_drew ?_ | refine blk_alloc ?_ _)); exact BK170.out) hb); have n1_ := Aside0.mk (below_step (by repeat (first | (with_reducible first | exact HB.out | apply below_alloc | apply pw_below_drewN | apply below_drew1 | refine below_set ?_ GE170.out) | exact HB.out)) hb); clear BK170; clear HB; have BK170 := n0_; have HB := n1_; clear n0_ n1_; (try clear hb); (try clear hb2); (try clear hk); (try clear hi)) | ((with_reducible refine gate_callee (f := 40) rfl ?_); refine goesL_ (some 21) rfl rfl Try.func40 (by kernel_rfl) rfl #[.slice A0 l0.length c0, .string a1] rfl (by (try simp only [List.map_toArray, List.map_cons, List.map_nil]); first | done | rfl | (simp only [List.length_drop, List.length_take]; rfl)) ?_; (with_reducible refine (tree_place.calls k _ _ l0 a1 t173 false _ ?side1 ?side2 A5.out).mono ?_); (case side1 => repeat (first | exact (Kd.C_below HR0.out HB.out) | (with_reducible refine Kd.C_alloc ?_ _) | (with_reducible refine Kd.C_drewN ?_ _) | (with_reducible refine Kd.C_drew ?_))); (case side2 => exact HC0.out); rintro e w21 ⟨rfl, hb⟩; refine ⟨_, rfl, ?_⟩; have n0_ := Aside0.mk (blk_below (g := gb170) (o := .cells #[.string (⟨#[]⟩ : ByteArray), .int .i64 0, .int .i64 0, .slice none 0 0, .string (⟨#[]⟩ : ByteArray)] 31 (0, 0)) (by (with_reducible repeat (first | refine blk_drewN ?_ _ | refine blk_drew ?_ | refine blk_alloc ?_ _)); exact BK170.out) hb); have n1_ := Aside0.mk (below_step (by repeat (first | (with_reducible first | exact HB.out | apply below_alloc | apply pw_below_drewN | apply below_drew1 | refine below_set ?_ GE170.out) | exact HB.out)) hb); clear BK170; clear HB; have BK170 := n0_; have HB := n1_; clear n0_ n1_; (try clear hb); (try clear hb2); (try clear hk); (try clear hi); have hcz22_0 : w21.cell? ⟨gb170, 0, none⟩ = some (.string (⟨#[]⟩ : ByteArray)) := (blk_cell BK170.out 0).trans rfl; have hcz22_1 : w21.cell? ⟨gb170, 1, none⟩ = some (.int .i64 0) := (blk_cell BK170.out 1).trans rfl; have hcz22_2 : w21.cell? ⟨gb170, 2, none⟩ = some (.int .i64 0) := (blk_cell BK170.out 2).trans rfl; have hcz22_3 : w21.cell? ⟨gb170, 3, none⟩ = some (.slice none 0 0) := (blk_cell BK170.out 3).trans rfl; have hcz22_4 : w21.cell? ⟨gb170, 4, none⟩ = some (.string (⟨#[]⟩ : ByteArray)) := (blk_cell BK170.out 4).trans rfl; have hfz22_0 := blk_frozen BK170.out 0; have hfz22_1 := blk_frozen BK170.out 1; have hfz22_2 := blk_frozen BK170.out 2; have hfz22_3 := blk_frozen BK170.out 3; have hfz22_4 := blk_frozen BK170.out 4))
   refine bodyPost_ret (results_ct rfl _ _ gb170 31 #[.string (⟨#[]⟩ : ByteArray), .int .i64 0, .int .i64 0, .slice none 0 0, .string (⟨#[]⟩ : ByteArray)] (0, 0) _ rfl (by (with_reducible repeat (first | refine blk_drewN ?_ _ | refine blk_drew ?_ | refine blk_alloc ?_ _)); refine blk_put (cs := #[.string (⟨#[]⟩ : ByteArray), .int .i64 0, .int .i64 0, .slice none 0 0, .string (⟨#[]⟩ : ByteArray)]) ?_ 4 _ rfl; (with_reducible repeat (first | refine blk_drewN ?_ _ | refine blk_drew ?_ | refine blk_alloc ?_ _)); refine blk_put (cs := #[.string (⟨#[]⟩ : ByteArray), .int .i64 0, .int .i64 0, .slice none 0 0, .string (⟨#[]⟩ : ByteArray)]) ?_ 3 _ rfl; (with_reducible repeat (first | refine blk_drewN ?_ _ | refine blk_drew ?_ | refine blk_alloc ?_ _)); refine blk_put (cs := #[.string (⟨#[]⟩ : ByteArray), .int .i64 0, .int .i64 0, .slice none 0 0, .string (⟨#[]⟩ : ByteArray)]) ?_ 2 _ rfl; (with_reducible repeat (first | refine blk_drewN ?_ _ | refine blk_drew ?_ | refine blk_alloc ?_ _)); refine blk_put (cs := #[.string (⟨#[]⟩ : ByteArray), .int .i64 0, .int .i64 0, .slice none 0 0, .string (⟨#[]⟩ : ByteArray)]) ?_ 1 _ rfl; (with_reducible repeat (first | refine blk_drewN ?_ _ | refine blk_drew ?_ | refine blk_alloc ?_ _)); refine blk_put (cs := #[.string (⟨#[]⟩ : ByteArray), .int .i64 0, .int .i64 0, .slice none 0 0, .string (⟨#[]⟩ : ByteArray)]) ?_ 0 _ rfl; (with_reducible repeat (first | refine blk_drewN ?_ _ | refine blk_drew ?_ | refine blk_alloc ?_ _)); exact BK170.out) Try.underlying31 rfl (by kernel_rfl)) rfl ?_
   exact ⟨_, by first | rfl | (simp [errW_none, errW_some] <;> rfl) | (simp [*, errW_none, errW_some] <;> rfl) | (simp [bt, *]; done) | (simp_all [bt]; done), by first | exact Kd.R_nil _ _ _ _ _ | exact Kd.N_nil _ _ _ _ _ | exact Kd.V_nil _ _ _ _ _ | exact Kd.Q_nil _ _ _ _ _ | exact Kd.S_nil _ _ _ _ _, by repeat (first | (with_reducible first | exact HB.out | apply below_alloc | apply pw_below_drewN | apply below_drew1 | refine below_set ?_ GE170.out) | exact HB.out)⟩
 ·rw [if_neg c4] at H
  have c4b0 : (t171 == 0) = false := beq_eq_false_iff_ne.mpr c4
  have c4b1 : (t171 != 0) = true := bne_iff_ne.mpr c4
  simp only [Option.some.injEq, Prod.mk.injEq] at H
  obtain ⟨rfl, rfl, rfl, rfl, rfl, rfl⟩ := H
  go_enter Try.func14, Try.ntmps14
  go_wp2_with (first | ((with_reducible refine gate_dst (N := 4) rfl ?_); refine box_event ?hg (N := 4) ?hd (cs := #[.string (⟨#[]⟩ : ByteArray), .int .i64 0, .int .i64 0, .slice none 0 0, .string (⟨#[]⟩ : ByteArray)]) (t := 31) ?hr ?_; (case hd => rfl); (case hg => rfl); (case hr => first | (go_simp; done) | (go_simp; rfl)); intro gb170 hg w23 hbox hb; have n0_ := Aside0.mk (below_step (by repeat (first | (with_reducible first | exact HB.out | apply below_alloc | apply pw_below_drewN | apply below_drew1) | exact HB.out)) hb); have n1_ := Aside0.mk (hbox); have n2_ := Aside0.mk ((by rw [hg]; exact (below_size (by repeat (first | (with_reducible first | exact HB.out | apply below_alloc | apply pw_below_drewN | apply below_drew1) | exact HB.out))) : w.heap.size ≤ gb170)); have n3_ := Aside0.mk ((by rw [hg]; exact (below_size (by repeat (first | (with_reducible first | exact HB.out | apply below_alloc | apply pw_below_drewN | apply below_drew1) | exact HB.out))) : w.heap.size ≤ gb170)); clear HB; have HB := n0_; have BK170 := n1_; have GW170 := n2_; have GE170 := n3_; clear n0_ n1_ n2_ n3_; clear hb hbox hg) | ((with_reducible refine gate_callee (f := 11) rfl ?_); refine goesL_ (some 12) rfl rfl Try.func11 (by kernel_rfl) rfl #[.slice A0 l0.length c0] rfl (by (try simp only [List.map_toArray, List.map_cons, List.map_nil]); first | done | rfl | (simp only [List.length_drop, List.length_take]; rfl)) ?_; (with_reducible refine (tree_Check.calls k _ _ l0 t171 t172 _ ?side1 ?side2 A3.out).mono ?_); (case side1 => repeat (first | exact (Kd.C_below HR0.out HB.out) | (with_reducible refine Kd.C_alloc ?_ _) | (with_reducible refine Kd.C_drewN ?_ _) | (with_reducible refine Kd.C_drew ?_))); (case side2 => exact HC0.out); rintro e w24 ⟨rfl, hb⟩; refine ⟨_, rfl, ?_⟩; have n0_ := Aside0.mk (blk_below (g := gb170) (o := .cells #[.string (⟨#[]⟩ : ByteArray), .int .i64 0, .int .i64 0, .slice none 0 0, .string (⟨#[]⟩ : ByteArray)] 31 (0, 0)) (by (with_reducible repeat (first | refine blk_drewN ?_ _ | refine blk_drew ?_ | refine blk_alloc ?_ _)); exact BK170.out) hb); have n1_ := Aside0.mk (below_step (by repeat (first | (with_reducible first | exact HB.out | apply below_alloc | apply pw_below_drewN | apply below_drew1 | refine below_set ?_ GE170.out) | exact HB.out)) hb); clear BK170; clear HB; have BK170 := n0_; have HB := n1_; clear n0_ n1_; (try clear hb); (try clear hb2); (try clear hk); (try clear hi); have hcz25_0 : w24.cell? ⟨gb170, 0, none⟩ = some (.string (⟨#[]⟩ : ByteArray)) := (blk_cell BK170.out 0).trans rfl; have hcz25_1 : w24.cell? ⟨gb170, 1, none⟩ = some (.int .i64 0) := (blk_cell BK170.out 1).trans rfl; have hcz25_2 : w24.cell? ⟨gb170, 2, none⟩ = some (.int .i64 0) := (blk_cell BK170.out 2).trans rfl; have hcz25_3 : w24.cell? ⟨gb170, 3, none⟩ = some (.slice none 0 0) := (blk_cell BK170.out 3).trans rfl; have hcz25_4 : w24.cell? ⟨gb170, 4, none⟩ = some (.string (⟨#[]⟩ : ByteArray)) := (blk_cell BK170.out 4).trans rfl; have hfz25_0 := blk_frozen BK170.out 0; have hfz25_1 := blk_frozen BK170.out 1; have hfz25_2 := blk_frozen BK170.out 2; have hfz25_3 := blk_frozen BK170.out 3; have hfz25_4 := blk_frozen BK170.out 4))
  refine bodyPost_ret (results_ct rfl _ _ gb170 31 #[.string (⟨#[]⟩ : ByteArray), .int .i64 0, .int .i64 0, .slice none 0 0, .string (⟨#[]⟩ : ByteArray)] (0, 0) _ rfl (by (with_reducible repeat (first | refine blk_drewN ?_ _ | refine blk_drew ?_ | refine blk_alloc ?_ _)); refine blk_put (cs := #[.string (⟨#[]⟩ : ByteArray), .int .i64 0, .int .i64 0, .slice none 0 0, .string (⟨#[]⟩ : ByteArray)]) ?_ 4 _ rfl; (with_reducible repeat (first | refine blk_drewN ?_ _ | refine blk_drew ?_ | refine blk_alloc ?_ _)); refine blk_put (cs := #[.string (⟨#[]⟩ : ByteArray), .int .i64 0, .int .i64 0, .slice none 0 0, .string (⟨#[]⟩ : ByteArray)]) ?_ 3 _ rfl; (with_reducible repeat (first | refine blk_drewN ?_ _ | refine blk_drew ?_ | refine blk_alloc ?_ _)); refine blk_put (cs := #[.string (⟨#[]⟩ : ByteArray), .int .i64 0, .int .i64 0, .slice none 0 0, .string (⟨#[]⟩ : ByteArray)]) ?_ 2 _ rfl; (with_reducible repeat (first | refine blk_drewN ?_ _ | refine blk_drew ?_ | refine blk_alloc ?_ _)); refine blk_put (cs := #[.string (⟨#[]⟩ : ByteArray), .int .i64 0, .int .i64 0, .slice none 0 0, .string (⟨#[]⟩ : ByteArray)]) ?_ 1 _ rfl; (with_reducible repeat (first | refine blk_drewN ?_ _ | refine blk_drew ?_ | refine blk_alloc ?_ _)); refine blk_put (cs := #[.string (⟨#[]⟩ : ByteArray), .int .i64 0, .int .i64 0, .slice none 0 0, .string (⟨#[]⟩ : ByteArray)]) ?_ 0 _ rfl; (with_reducible repeat (first | refine blk_drewN ?_ _ | refine blk_drew ?_ | refine blk_alloc ?_ _)); exact BK170.out) Try.underlying31 rfl (by kernel_rfl)) rfl ?_
  exact ⟨_, by first | rfl | (simp [errW_none, errW_some] <;> rfl) | (simp [*, errW_none, errW_some] <;> rfl) | (simp [bt, *]; done) | (simp_all [bt]; done), by first | exact Kd.R_nil _ _ _ _ _ | exact Kd.N_nil _ _ _ _ _ | exact Kd.V_nil _ _ _ _ _ | exact Kd.Q_nil _ _ _ _ _ | exact Kd.S_nil _ _ _ _ _, by repeat (first | (with_reducible first | exact HB.out | apply below_alloc | apply pw_below_drewN | apply below_drew1 | refine below_set ?_ GE170.out) | exact HB.out)⟩

end Go.Proofs.Ytopkmchkfcjjmaa.X
end

/-! ## SatchelkitBigTree -/
section
namespace Go.Proofs.Ytopkmchkfcjjmaa.X
open Go.RowKit Go.Proofs.YtopkmchkfcjjmaaW.PrintWords Go.Proofs.YtopkmchkfcjjmaaW.PrintLast Go.Proofs.YtopkmchkfcjjmaaW.PrintMore
attribute [local go_sem] max2_int min2_int max_two min_two max_three min_three max_four min_four   -- for this text's walks alone
set_option linter.unusedVariables false
set_option linter.unusedSimpArgs false

attribute [local go_sem] str_gtr fld_fault0 fld_fault1
/-! ### satchelkit_BigTree: function 12 -/
def satchelkit_BigTree.l0 : Nat → List (S31) → Int → Int → Int → Int → Option (Bool)
 | 0, _, _, _, _, _ => none
 | k + 1, x0, x1, x2, x7, x8 => if x8 < (x0.length : Int) then (if x8 ≤ x1 then (if 0 ≤ x8 then (satchelkit_BigTree.l0 k x0 x1 x2 (wrap64 ((wrap64 ((wrap64 (x7 + (((rd_T31 x0 x8).f0).size : Int))) + (((rd_T31 x0 x8).f3).length : Int))) + (((rd_T31 x0 x8).f4).size : Int))) (wrap64 (x8 + 1))) else (none)) else (if (x0.length : Int) > x1 then (some true) else (some (decide (x7 > x2))))) else (if (x0.length : Int) > x1 then (some true) else (some (decide (x7 > x2))))
def satchelkit_BigTree.f (k : Nat) (l0 : List (S31)) (a1 : Int) (a2 : Int) : Option (Bool) := satchelkit_BigTree.l0 k l0 a1 a2 0 0
theorem satchelkit_BigTree.mono_l : ∀ k, (∀ y0 y1 y2 y3 y4, LeO (satchelkit_BigTree.l0 k y0 y1 y2 y3 y4) (satchelkit_BigTree.l0 (k + 1) y0 y1 y2 y3 y4))
 | 0 => fun _ _ _ _ _ r h => by simp [satchelkit_BigTree.l0] at h
 | k + 1 => by
  have ih0 := satchelkit_BigTree.mono_l k
  ·intro y0 y1 y2 y3 y4
   unfold satchelkit_BigTree.l0
   repeat' first
   | (with_reducible exact ih0 _ _ _ _ _)
   | (with_reducible exact LeO.refl _)
   | (with_reducible exact LeO.none _)
   | (with_reducible refine LeO.ite ?_ ?_)
   | (with_reducible refine LeO.bind ?_ (fun _ => ?_))
   | exact ih0 _ _ _ _ _
   | exact LeO.none _
   | refine LeO.ite ?_ ?_
   | refine LeO.bind ?_ (fun _ => ?_)
theorem satchelkit_BigTree.mono : ∀ a0 a1 a2 k, LeO (satchelkit_BigTree.f k a0 a1 a2) (satchelkit_BigTree.f (k + 1) a0 a1 a2) := by
 intro a0 a1 a2 k
 have ih0 := satchelkit_BigTree.mono_l k
 unfold satchelkit_BigTree.f
 repeat' first
   | (with_reducible exact ih0 _ _ _ _ _)
   | (with_reducible exact LeO.refl _)
   | (with_reducible exact LeO.none _)
   | (with_reducible refine LeO.ite ?_ ?_)
   | (with_reducible refine LeO.bind ?_ (fun _ => ?_))
   | exact ih0 _ _ _ _ _
   | exact LeO.none _
   | refine LeO.ite ?_ ?_
   | refine LeO.bind ?_ (fun _ => ?_)
set_option maxHeartbeats 8000000 in
set_option maxRecDepth 100000 in
theorem satchelkit_BigTree.calls (k : Nat) (A0 : Option Addr) (c0 : Nat) (l0 : List (S31)) (a1 : Int) (a2 : Int) (r : Bool) (w : World) (hr0 : Kd.C k31 w A0 l0.length l0) (hc0 : l0.length ≤ c0) (h : satchelkit_BigTree.f k l0 a1 a2 = some r) :
  Calls Try.prog 12 #[.slice A0 l0.length c0, .int .i64 a1, .int .i64 a2] w fun e w' => e = .returned (.bool r) ∧ Drawn0 w w' := by
 have HR0 := Aside0.mk hr0
 have HC0 := Aside0.mk hc0
 clear hr0 hc0
 have H : (satchelkit_BigTree.l0 k l0 a1 a2 0 0) = some r := h
 clear h
 have H' := Aside0.mk H
 clear H
 go_enter Try.func12, Try.ntmps12
 go_wp2
 repeat (go_quiet (fail); try go_wp2)
 go_loopg [7, 8] k (fun kq v7 v8 w' => ∃ (x7_1 : Int) (x8_1 : Int), v7 = .int .i64 x7_1 ∧ v8 = .int .i64 x8_1 ∧ Aside0 (satchelkit_BigTree.l0 kq l0 a1 a2 x7_1 x8_1 = some r) ∧ Aside0 (kq ≤ k) ∧ Drawn0 w w')
 case atStart => exact ⟨(0), (0), (by first | rfl | (simp; done) | (simp [*]; done)), (by first | rfl | (simp; done) | (simp [*]; done)), H', ⟨Nat.le_refl _⟩, by repeat (first | exact Drawn0.refl _ | apply Drawn0.step)⟩
 case round =>
  clear H'
  try clear c1
  try clear p2
  obtain ⟨x7_1, x8_1, rfl, rfl, HA, HK1, ⟨m1, rfl⟩⟩ := hrel
  cases gk with
  | zero => exact absurd HA.out (by simp [satchelkit_BigTree.l0])
  | succ k1 =>
   have H := HA.out
   clear HA
   simp only [satchelkit_BigTree.l0] at H
   by_cases c4 : x8_1 < (l0.length : Int)
   ·rw [if_pos c4] at H
    have c4b0 : decide (x8_1 < (l0.length : Int)) = true := decide_eq_true c4
    clear c4
    by_cases c5 : x8_1 ≤ a1
    ·rw [if_pos c5] at H
     have c5b0 : decide (x8_1 ≤ a1) = true := decide_eq_true c5
     clear c5
     by_cases c6 : 0 ≤ x8_1
     ·rw [if_pos c6] at H
      have c6b0 : decide (0 ≤ x8_1) = true := decide_eq_true c6
      clear c6
      have H' := Aside0.mk H
      clear H
      have p167 : 0 ≤ (x8_1 : Int) := of_decide_eq_true (by first | (with_reducible assumption) | assumption)
      have q167 : x8_1 < (l0.length : Int) := of_decide_eq_true (by first | (with_reducible assumption) | assumption)
      obtain ⟨ad167, A167_3, c167_3, e167, hx167_0, hx167_1, hx167_2, hx167_3, hx167_4, hl167_3, hi167_3⟩ := at_T31 HR0.out x8_1 p167 q167
      cases e167
      have HR167_3 := Aside0.mk hi167_3
      have HC167_3 := Aside0.mk hl167_3
      clear hi167_3 hl167_3
      replace p167 := eq_true p167
      replace q167 := eq_true q167
      have p168 : 0 ≤ (x8_1 : Int) := of_decide_eq_true (by first | (with_reducible assumption) | assumption)
      have q168 : x8_1 < (l0.length : Int) := of_decide_eq_true (by first | (with_reducible assumption) | assumption)
      obtain ⟨ad168, A168_3, c168_3, e168, hx168_0, hx168_1, hx168_2, hx168_3, hx168_4, hl168_3, hi168_3⟩ := at_T31 HR0.out x8_1 p168 q168
      obtain rfl : ad167 = ad168 := (by injection e168)
      have HR168_3 := Aside0.mk hi168_3
      have HC168_3 := Aside0.mk hl168_3
      clear hi168_3 hl168_3
      replace p168 := eq_true p168
      replace q168 := eq_true q168
      have ea_ := Option.some.inj (hx167_3.symm.trans hx168_3)
      injection ea_ with ea_ en_ ec_
      subst ea_
      subst ec_
      clear en_
      have p169 : 0 ≤ (x8_1 : Int) := of_decide_eq_true (by first | (with_reducible assumption) | assumption)
      have q169 : x8_1 < (l0.length : Int) := of_decide_eq_true (by first | (with_reducible assumption) | assumption)
      obtain ⟨ad169, A169_3, c169_3, e169, hx169_0, hx169_1, hx169_2, hx169_3, hx169_4, hl169_3, hi169_3⟩ := at_T31 HR0.out x8_1 p169 q169
      obtain rfl : ad167 = ad169 := (by injection e169)
      have HR169_3 := Aside0.mk hi169_3
      have HC169_3 := Aside0.mk hl169_3
      clear hi169_3 hl169_3
      replace p169 := eq_true p169
      replace q169 := eq_true q169
      have ea_ := Option.some.inj (hx167_3.symm.trans hx169_3)
      injection ea_ with ea_ en_ ec_
      subst ea_
      subst ec_
      clear en_
      go_wp2
      repeat (go_quiet (fail); try go_wp2)
      go_roundg k1
      case measure => have := HK1.out; omega
      case rel => exact ⟨(wrap64 ((wrap64 ((wrap64 (x7_1 + (((rd_T31 l0 x8_1).f0).size : Int))) + (((rd_T31 l0 x8_1).f3).length : Int))) + (((rd_T31 l0 x8_1).f4).size : Int))), (wrap64 (x8_1 + 1)), (by first | rfl | (simp; done) | (simp [*]; done)), (by first | rfl | (simp; done) | (simp [*]; done)), H', ⟨by have := HK1.out; omega⟩, by repeat (first | exact Drawn0.refl _ | apply Drawn0.step)⟩
     ·rw [if_neg c6] at H
      exact absurd H (by simp)
    ·rw [if_neg c5] at H
     have c5b0 : decide (x8_1 ≤ a1) = false := decide_eq_false c5
     clear c5
     by_cases c7 : (l0.length : Int) > a1
     ·rw [if_pos c7] at H
      have c7b0 : decide (a1 < (l0.length : Int)) = true := decide_eq_true c7
      clear c7
      obtain rfl := Option.some.inj H
      go_wp2
      repeat (go_quiet (fail); try go_wp2)
      go_ret
      exact ⟨by first | rfl | (simp; done) | (simp [*]; done), by repeat (first | exact Drawn0.refl _ | apply Drawn0.step)⟩
     ·rw [if_neg c7] at H
      have c7b0 : decide (a1 < (l0.length : Int)) = false := decide_eq_false c7
      clear c7
      obtain rfl := Option.some.inj H
      go_wp2
      repeat (go_quiet (fail); try go_wp2)
      go_ret
      exact ⟨by first | rfl | (simp; done) | (simp [*]; done), by repeat (first | exact Drawn0.refl _ | apply Drawn0.step)⟩
   ·rw [if_neg c4] at H
    have c4b0 : decide (x8_1 < (l0.length : Int)) = false := decide_eq_false c4
    clear c4
    by_cases c8 : (l0.length : Int) > a1
    ·rw [if_pos c8] at H
     have c8b0 : decide (a1 < (l0.length : Int)) = true := decide_eq_true c8
     clear c8
     obtain rfl := Option.some.inj H
     go_wp2
     repeat (go_quiet (fail); try go_wp2)
     go_ret
     exact ⟨by first | rfl | (simp; done) | (simp [*]; done), by repeat (first | exact Drawn0.refl _ | apply Drawn0.step)⟩
    ·rw [if_neg c8] at H
     have c8b0 : decide (a1 < (l0.length : Int)) = false := decide_eq_false c8
     clear c8
     obtain rfl := Option.some.inj H
     go_wp2
     repeat (go_quiet (fail); try go_wp2)
     go_ret
     exact ⟨by first | rfl | (simp; done) | (simp [*]; done), by repeat (first | exact Drawn0.refl _ | apply Drawn0.step)⟩

end Go.Proofs.Ytopkmchkfcjjmaa.X
end

/-! ## SatchelkitPick -/
section
namespace Go.Proofs.Ytopkmchkfcjjmaa.X
open Go.RowKit Go.Proofs.YtopkmchkfcjjmaaW.PrintWords Go.Proofs.YtopkmchkfcjjmaaW.PrintLast Go.Proofs.YtopkmchkfcjjmaaW.PrintMore
attribute [local go_sem] max2_int min2_int max_two min_two max_three min_three max_four min_four   -- for this text's walks alone
set_option linter.unusedVariables false
set_option linter.unusedSimpArgs false

attribute [local go_sem] str_gtr fld_fault0 fld_fault1
/-! ### satchelkit_Pick: function 13 -/
def satchelkit_Pick.f (a0 : Int) (a1 : Int) : Option (Int) := if a1 < 1 then (some 0) else (if a1 = 0 then (none) else (if (Int.tmod a0 a1) < 0 then (some (wrap64 ((Int.tmod a0 a1) + a1))) else (some (Int.tmod a0 a1))))
set_option maxHeartbeats 8000000 in
set_option maxRecDepth 100000 in
theorem satchelkit_Pick.calls (a0 : Int) (a1 : Int) (r : Int) (w : World) (h : satchelkit_Pick.f a0 a1 = some r) :
  Calls Try.prog 13 #[.int .i64 a0, .int .i64 a1] w fun e w' => e = .returned (.int .i64 r) ∧ Drawn0 w w' := by
 have H : (if a1 < 1 then (some 0) else (if a1 = 0 then (none) else (if (Int.tmod a0 a1) < 0 then (some (wrap64 ((Int.tmod a0 a1) + a1))) else (some (Int.tmod a0 a1))))) = some r := h
 clear h
 by_cases c3 : a1 < 1
 ·rw [if_pos c3] at H
  have c3b0 : decide (a1 < 1) = true := decide_eq_true c3
  clear c3
  obtain rfl := Option.some.inj H
  go_enter Try.func13, Try.ntmps13
  go_wp2
  go_ret
  exact ⟨by first | rfl | (simp; done) | (simp [*]; done), by repeat (first | exact Drawn0.refl _ | apply Drawn0.step)⟩
 ·rw [if_neg c3] at H
  have c3b0 : decide (a1 < 1) = false := decide_eq_false c3
  clear c3
  by_cases c4 : a1 = 0
  ·rw [if_pos c4] at H
   exact absurd H (by simp)
  ·rw [if_neg c4] at H
   have c4b0 : (a1 == 0) = false := beq_eq_false_iff_ne.mpr c4
   have c4b1 : (a1 != 0) = true := bne_iff_ne.mpr c4
   by_cases c5 : (Int.tmod a0 a1) < 0
   ·rw [if_pos c5] at H
    have c5b0 : decide ((Int.tmod a0 a1) < 0) = true := decide_eq_true c5
    clear c5
    obtain rfl := Option.some.inj H
    go_enter Try.func13, Try.ntmps13
    go_wp2
    go_ret
    exact ⟨by first | rfl | (simp; done) | (simp [*]; done), by repeat (first | exact Drawn0.refl _ | apply Drawn0.step)⟩
   ·rw [if_neg c5] at H
    have c5b0 : decide ((Int.tmod a0 a1) < 0) = false := decide_eq_false c5
    clear c5
    obtain rfl := Option.some.inj H
    go_enter Try.func13, Try.ntmps13
    go_wp2
    go_ret
    exact ⟨by first | rfl | (simp; done) | (simp [*]; done), by repeat (first | exact Drawn0.refl _ | apply Drawn0.step)⟩

end Go.Proofs.Ytopkmchkfcjjmaa.X
end

/-! ## SatchelkitSameBytes -/
section
namespace Go.Proofs.Ytopkmchkfcjjmaa.X
open Go.RowKit Go.Proofs.YtopkmchkfcjjmaaW.PrintWords Go.Proofs.YtopkmchkfcjjmaaW.PrintLast Go.Proofs.YtopkmchkfcjjmaaW.PrintMore
attribute [local go_sem] max2_int min2_int max_two min_two max_three min_three max_four min_four   -- for this text's walks alone
set_option linter.unusedVariables false
set_option linter.unusedSimpArgs false

attribute [local go_sem] str_gtr fld_fault0 fld_fault1
/-! ### satchelkit_SameBytes: function 44 -/
def satchelkit_SameBytes.f (l0 : List Int) (l1 : List Int) : Option (Bool) := some ((strOfNums l0).toList == (strOfNums l1).toList)
set_option maxHeartbeats 8000000 in
set_option maxRecDepth 100000 in
theorem satchelkit_SameBytes.calls (A0 : Option Addr) (c0 : Nat) (l0 : List Int) (A1 : Option Addr) (c1 : Nat) (l1 : List Int) (r : Bool) (w : World) (hr0 : Kd.C (Kd.int .u8) w A0 l0.length l0) (hc0 : l0.length ≤ c0) (hr1 : Kd.C (Kd.int .u8) w A1 l1.length l1) (hc1 : l1.length ≤ c1) (h : satchelkit_SameBytes.f l0 l1 = some r) :
  Calls Try.prog 44 #[.slice A0 l0.length c0, .slice A1 l1.length c1] w fun e w' => e = .returned (.bool r) ∧ Drawn0 w w' := by
 have HR0 := Aside0.mk hr0
 have HC0 := Aside0.mk hc0
 clear hr0 hc0
 have HR1 := Aside0.mk hr1
 have HC1 := Aside0.mk hc1
 clear hr1 hc1
 have H : (some ((strOfNums l0).toList == (strOfNums l1).toList)) = some r := h
 clear h
 obtain rfl := Option.some.inj H
 have hcv3 := Kd.C_string (P := Try.prog) (A := A0) (c := c0) Try.underlying29 Try.underlying5 Try.underlying9 HR0.out
 have hcv4 := Kd.C_string (P := Try.prog) (A := A1) (c := c1) Try.underlying29 Try.underlying5 Try.underlying9 HR1.out
 go_enter Try.func44, Try.ntmps44
 go_wp2
 go_ret
 exact ⟨by first | rfl | (simp; done) | (simp [*]; done), by repeat (first | exact Drawn0.refl _ | apply Drawn0.step)⟩

end Go.Proofs.Ytopkmchkfcjjmaa.X
end

/-! ## SatchelkitSameTree -/
section
namespace Go.Proofs.Ytopkmchkfcjjmaa.X
open Go.RowKit Go.Proofs.YtopkmchkfcjjmaaW.PrintWords Go.Proofs.YtopkmchkfcjjmaaW.PrintLast Go.Proofs.YtopkmchkfcjjmaaW.PrintMore
attribute [local go_sem] max2_int min2_int max_two min_two max_three min_three max_four min_four   -- for this text's walks alone
set_option linter.unusedVariables false
set_option linter.unusedSimpArgs false

attribute [local go_sem] str_gtr fld_fault0 fld_fault1
/-! ### satchelkit_SameTree: function 16 -/
def sameBytes (a b : List Int) : Bool := (strOfNums a).toList == (strOfNums b).toList
def sameEntry (x y : S31) : Bool := x.f0.toList == y.f0.toList && (x.f1 == y.f1 && (x.f2 == y.f2 && (sameBytes x.f3 y.f3 && x.f4.toList == y.f4.toList)))
def sameFrom (l0 l1 : List (S31)) (i : Nat) : Bool := ((l0.drop i).zip (l1.drop i)).all fun p => sameEntry p.1 p.2
def satchelkit_SameTree.f (l0 : List (S31)) (l1 : List (S31)) : Option (Bool) := some (decide (l0.length = l1.length) && sameFrom l0 l1 0)
theorem sameFrom_step (l0 l1 : List (S31)) (i : Nat) (h0 : i < l0.length) (h1 : i < l1.length) : sameFrom l0 l1 i = (sameEntry (rd_T31 l0 (i : Int)) (rd_T31 l1 (i : Int)) && sameFrom l0 l1 (i + 1)) := by
 unfold sameFrom
 rw [List.drop_eq_getElem_cons h0, List.drop_eq_getElem_cons h1, List.zip_cons_cons, List.all_cons]
 simp [rd_T31, List.getD_eq_getElem?_getD, h0, h1]
theorem sameFrom_end (l0 l1 : List (S31)) (i : Nat) (h0 : l0.length ≤ i) : sameFrom l0 l1 i = true := by
 unfold sameFrom
 rw [List.drop_of_length_le h0]
 rfl
set_option maxHeartbeats 4000000 in
set_option maxRecDepth 100000 in
theorem satchelkit_SameTree.calls (A0 : Option Addr) (c0 : Nat) (l0 : List (S31)) (A1 : Option Addr) (c1 : Nat) (l1 : List (S31)) (r : Bool) (w : World) (hr0 : Kd.C k31 w A0 l0.length l0) (hc0 : l0.length ≤ c0) (hr1 : Kd.C k31 w A1 l1.length l1) (hc1 : l1.length ≤ c1) (h : satchelkit_SameTree.f l0 l1 = some r) :
  Calls Try.prog 16 #[.slice A0 l0.length c0, .slice A1 l1.length c1] w fun e w' => e = .returned (.bool r) ∧ Drawn0 w w' := by
 have h := Option.some.inj h
 have HR0 := Aside0.mk hr0
 have HR1 := Aside0.mk hr1
 have hm0 := hr0.2.1
 clear hr0 hr1
 by_cases d0 : l0.length = l1.length
 ·rw [decide_eq_true d0, Bool.true_and] at h
  have HR := Aside0.mk h
  have D0 := Aside0.mk d0
  have e0 : (l0.length == l1.length) = true := by simpa using d0
  have e1 : (l0.length != l1.length) = false := by simpa using d0
  have e2 : ((l0.length : Int) != (l1.length : Int)) = false := by simp [d0]
  clear h d0
  go_enter Try.func16, Try.ntmps16
  go_wp2
  go_loopw [5] (fun v5 wr => ∃ i : Nat, v5 = .int .i64 (i : Int) ∧ i ≤ l0.length ∧ Aside0 (sameFrom l0 l1 i = r) ∧ Aside0 (Drawn0 w wr)) (fun v5 _ => l0.length - (intOf v5).toNat)
  case atStart => exact ⟨0, rfl, by omega, HR, ⟨Drawn0.refl _⟩⟩
  case round =>
   obtain ⟨i, rfl, hi, HS, HD⟩ := hrel
   clear HR
   by_cases c2 : i < l0.length
   ·have d1 : decide (i < l0.length) = true := decide_eq_true c2
    have c3 : i < l1.length := by rw [← D0.out]; exact c2
    have p : (0 : Int) ≤ (i : Int) := by omega
    have q0 : (i : Int) < (l0.length : Int) := by omega
    have q1 : (i : Int) < (l1.length : Int) := by omega
    have HS1 := Aside0.mk ((sameFrom_step l0 l1 i c2 c3).symm.trans HS.out)
    obtain ⟨ad, A3, c3', e, hx0, hx1, hx2, hx3, hx4, hl3, hi3⟩ := at_T31 (Kd.C_below HR0.out HD.out.below) _ p q0
    cases e
    obtain ⟨bd, B3, b3', e, hy0, hy1, hy2, hy3, hy4, ml3, mi3⟩ := at_T31 (Kd.C_below HR1.out HD.out.below) _ p q1
    cases e
    rw [Int.toNat_natCast] at hx0 hx1 hx2 hx3 hx4 hy0 hy1 hy2 hy3 hy4
    have HI := Aside0.mk hi3
    have MI := Aside0.mk mi3
    clear hi3 mi3 HS c2 c3
    generalize rd_T31 l0 (i : Int) = x at *
    generalize rd_T31 l1 (i : Int) = y at *
    cases g0 : (x.f0.toList == y.f0.toList) with
    | false =>
     have k0 : (x.f0.toList != y.f0.toList) = true := by simpa using g0
     have hr : r = false := by have h_ := HS1.out; unfold sameEntry at h_; simp only [g0, Bool.false_and, Bool.and_false, Bool.true_and] at h_; exact h_.symm
     subst hr
     clear HS1
     go_wp2
     go_quiet (fail)
     go_wp2
     go_ret
     exact ⟨rfl, HD.out.step _⟩
    | true =>
     have k0 : (x.f0.toList != y.f0.toList) = false := by simpa using g0
     cases g1 : (x.f1 == y.f1) with
     | false =>
      have k1 : (x.f1 != y.f1) = true := by simpa using g1
      have hr : r = false := by have h_ := HS1.out; unfold sameEntry at h_; simp only [g0, g1, Bool.false_and, Bool.and_false, Bool.true_and] at h_; exact h_.symm
      subst hr
      clear HS1
      go_wp2
      go_quiet (fail)
      go_wp2
      go_ret
      exact ⟨rfl, HD.out.step _⟩
     | true =>
      have k1 : (x.f1 != y.f1) = false := by simpa using g1
      cases g2 : (x.f2 == y.f2) with
      | false =>
       have k2 : (x.f2 != y.f2) = true := by simpa using g2
       have hr : r = false := by have h_ := HS1.out; unfold sameEntry at h_; simp only [g0, g1, g2, Bool.false_and, Bool.and_false, Bool.true_and] at h_; exact h_.symm
       subst hr
       clear HS1
       go_wp2
       go_quiet (fail)
       go_wp2
       go_ret
       exact ⟨rfl, HD.out.step _⟩
      | true =>
       have k2 : (x.f2 != y.f2) = false := by simpa using g2
       cases g3 : (sameBytes x.f3 y.f3) with
       | false =>
        have HQ := Aside0.mk (show satchelkit_SameBytes.f x.f3 y.f3 = some false from congrArg some g3)
        have hr : r = false := by have h_ := HS1.out; unfold sameEntry at h_; simp only [g0, g1, g2, g3, Bool.false_and, Bool.and_false, Bool.true_and] at h_; exact h_.symm
        subst hr
        clear HS1
        go_wp2
        go_quiet (((go_at_call 44; exact Calls.quiet_of ((satchelkit_SameBytes.calls _ _ _ _ _ _ false _ (Kd.C_drewN HI.out _) hl3 (Kd.C_drewN MI.out _) ml3 HQ.out).mono (fun _ _ h_ => ⟨h_.1, h_.2.out⟩)))))
        go_wp2
        go_ret
        exact ⟨rfl, HD.out.step _⟩
       | true =>
        cases g4 : (x.f4.toList == y.f4.toList) with
        | false =>
         have k4 : (x.f4.toList != y.f4.toList) = true := by simpa using g4
         have HQ := Aside0.mk (show satchelkit_SameBytes.f x.f3 y.f3 = some true from congrArg some g3)
         have hr : r = false := by have h_ := HS1.out; unfold sameEntry at h_; simp only [g0, g1, g2, g3, g4, Bool.false_and, Bool.and_false, Bool.true_and] at h_; exact h_.symm
         subst hr
         clear HS1
         go_wp2
         go_quiet (((go_at_call 44; exact Calls.quiet_of ((satchelkit_SameBytes.calls _ _ _ _ _ _ true _ (Kd.C_drewN HI.out _) hl3 (Kd.C_drewN MI.out _) ml3 HQ.out).mono (fun _ _ h_ => ⟨h_.1, h_.2.out⟩)))))
         go_wp2
         go_ret
         exact ⟨rfl, HD.out.step _⟩
        | true =>
         have k4 : (x.f4.toList != y.f4.toList) = false := by simpa using g4
         have HQ := Aside0.mk (show satchelkit_SameBytes.f x.f3 y.f3 = some true from congrArg some g3)
         have HS2 : Aside0 (sameFrom l0 l1 (i + 1) = r) := ⟨by have h_ := HS1.out; unfold sameEntry at h_; simpa only [g0, g1, g2, g3, g4, Bool.true_and] using h_⟩
         clear HS1
         go_wp2
         go_quiet (((go_at_call 44; exact Calls.quiet_of ((satchelkit_SameBytes.calls _ _ _ _ _ _ true _ (Kd.C_drewN HI.out _) hl3 (Kd.C_drewN MI.out _) ml3 HQ.out).mono (fun _ _ h_ => ⟨h_.1, h_.2.out⟩)))))
         go_wp2
         go_roundw
         case rel => exact ⟨i + 1, by go_num, by omega, HS2, ⟨HD.out.step _⟩⟩
         case measure => simp [intOf]; omega
   ·have d1 : decide (i < l0.length) = false := decide_eq_false c2
    have hr : r = true := by rw [← HS.out]; exact sameFrom_end l0 l1 i (by omega)
    subst hr
    go_wp2
    go_ret
    exact ⟨rfl, HD.out⟩
 ·rw [decide_eq_false d0, Bool.false_and] at h
  subst h
  have e0 : (l0.length == l1.length) = false := by simpa using d0
  have e1 : (l0.length != l1.length) = true := by simpa using d0
  have e2 : ((l0.length : Int) != (l1.length : Int)) = true := by simp; omega
  go_enter Try.func16, Try.ntmps16
  go_wp2
  go_ret
  exact ⟨rfl, Drawn0.refl _⟩

end Go.Proofs.Ytopkmchkfcjjmaa.X
end

/-! ## PureC -/
section
namespace Go.Proofs.Ytopkmchkfcjjmaa.X
open Go.RowKit Go.Proofs.YtopkmchkfcjjmaaW.PrintWords Go.Proofs.YtopkmchkfcjjmaaW.PrintLast Go.Proofs.YtopkmchkfcjjmaaW.PrintMore
set_option linter.unusedVariables false
set_option linter.unusedSimpArgs false
theorem rd_at (l : List (S31)) (i : Nat) (h : i < l.length) : rd_T31 l (i : Int) = l[i] := by
  unfold rd_T31
  rw [Int.toNat_natCast, List.getD_eq_getElem?_getD, List.getElem?_eq_getElem h]
  rfl
theorem rd_take (l : List (S31)) (m i : Nat) (h : i < m) : rd_T31 (l.take m) (i : Int) = rd_T31 l (i : Int) := by
  unfold rd_T31
  rw [Int.toNat_natCast, List.getD_eq_getElem?_getD, List.getD_eq_getElem?_getD, List.getElem?_take_of_lt h]
def oneV (e : S31) : Int := oneOf (checkV e.f0).1 e.f1 e.f2 e.f3 e.f4
theorem one_ev (e : S31) : Ev (fun k => tree_one.f k e.f0 e.f1 e.f2 e.f3 e.f4) (oneV e) := by
  simp only [tree_one.f]
  exact Ev.bind (check_ev e.f0) (Ev.const _)
theorem one_ok {e : S31} (h : oneV e = 0) : validV e.f0 = true ∧ 1 ≤ e.f1 ∧ e.f1 ≤ 3 ∧ e.f3.length ≤ 1048576 := by
  unfold oneV oneOf at h
  split at h
  · rename_i h1
    refine ⟨by unfold validV; rw [h1]; rfl, ?_⟩
    split at h <;> try (cases h; done)
    split at h <;> try (cases h; done)
    split at h <;> try (cases h; done)
    split at h <;> try (cases h; done)
    split at h <;> try (cases h; done)
    split at h <;> try (cases h; done)
    split at h <;> try (cases h; done)
    split at h <;> try (cases h; done)
    omega
  · cases h
/-! ### The search -/
def ends (l : List (S31)) (s : ByteArray) (i : Nat) : Int × Bool := if i < l.length then ((i : Int), cmpV (rd_T31 l (i : Int)).f0 s == 0) else ((i : Int), false)
def bs (l : List (S31)) (s : ByteArray) : Nat → Nat → Nat → Int × Bool
  | 0, i, _ => ends l s i
  | m + 1, i, j => if i < j then (if cmpV (rd_T31 l (((i + j) / 2 : Nat) : Int)).f0 s < 0 then bs l s m ((i + j) / 2 + 1) j else bs l s m i ((i + j) / 2)) else ends l s i
theorem ends_ev (l : List (S31)) (s : ByteArray) (i : Nat) : Ev (fun k => if i < l.length then (path_Compare.f k (rd_T31 l (i : Int)).f0 s).bind fun c => some ((i : Int), c == 0) else some ((i : Int), false)) (ends l s i) := by
  unfold ends
  by_cases h : i < l.length
  · rw [if_pos h]
    exact Ev.ifp h (Ev.bind (compare_ev _ _) (Ev.const _))
  · rw [if_neg h]
    exact Ev.ifn h (Ev.const _)
theorem place_l0 (l : List (S31)) (s : ByteArray) : ∀ (m i j : Nat), j - i ≤ m → Ev (fun k => tree_place.l0 k l s i j) (bs l s m i j)
  | 0, i, j, h => by
    refine Ev.shift ?_
    simp only [tree_place.l0]
    exact Ev.ifn (by omega) (ends_ev l s i)
  | m + 1, i, j, h => by
    refine Ev.shift ?_
    simp only [tree_place.l0]
    unfold bs
    by_cases h1 : i < j
    · rw [if_pos h1]
      have e1 : ((i : Int) + (j : Int)) / 2 = (((i + j) / 2 : Nat) : Int) := by omega
      rw [e1]
      refine Ev.ifp h1 (Ev.bind (compare_ev _ _) ?_)
      by_cases h2 : cmpV (rd_T31 l (((i + j) / 2 : Nat) : Int)).f0 s < 0
      · rw [if_pos h2]
        exact Ev.ifp h2 (place_l0 l s m _ _ (by omega))
      · rw [if_neg h2]
        exact Ev.ifn h2 (place_l0 l s m _ _ (by omega))
    · rw [if_neg h1]
      exact Ev.ifn h1 (ends_ev l s i)
def placeV (l : List (S31)) (s : ByteArray) : Int × Bool := bs l s l.length 0 l.length
theorem place_ev (l : List (S31)) (s : ByteArray) (h : l.length < 1152921504606846976) : Ev (fun k => tree_place.f k l s) (placeV l s) := by
  simp only [tree_place.f]
  exact Ev.ifp h (place_l0 l s _ _ _ (by omega))
/-- A rising tree: each path ahead of all behind it. -/
def Rising (l : List (S31)) : Prop := ∀ a b : Nat, a < b → b < l.length → cmpV (rd_T31 l (a : Int)).f0 (rd_T31 l (b : Int)).f0 < 0
theorem bs_spec (l : List (S31)) (s : ByteArray) (hl : Rising l) : ∀ (m i j : Nat), j - i ≤ m → i ≤ j → j ≤ l.length → (∀ a : Nat, a < i → cmpV (rd_T31 l (a : Int)).f0 s < 0) → (∀ a : Nat, j ≤ a → a < l.length → ¬ cmpV (rd_T31 l (a : Int)).f0 s < 0) →
    ∃ i' : Nat, i' ≤ l.length ∧ bs l s m i j = ends l s i' ∧ (∀ a : Nat, a < i' → cmpV (rd_T31 l (a : Int)).f0 s < 0) ∧ (∀ a : Nat, i' ≤ a → a < l.length → ¬ cmpV (rd_T31 l (a : Int)).f0 s < 0)
  | 0, i, j, h, hij, hj, ha, hb => ⟨i, by omega, rfl, ha, fun a h1 h2 => hb a (by omega) h2⟩
  | m + 1, i, j, h, hij, hj, ha, hb => by
    unfold bs
    by_cases h1 : i < j
    · rw [if_pos h1]
      by_cases h2 : cmpV (rd_T31 l (((i + j) / 2 : Nat) : Int)).f0 s < 0
      · rw [if_pos h2]
        refine bs_spec l s hl m _ _ (by omega) (by omega) hj (fun a h3 => ?_) hb
        rcases Nat.lt_or_ge a ((i + j) / 2) with h4 | h4
        · exact cmpV_trans (hl a _ h4 (by omega)) h2
        · rw [show a = (i + j) / 2 by omega]; exact h2
      · rw [if_neg h2]
        refine bs_spec l s hl m _ _ (by omega) (by omega) (by omega) ha (fun a h3 h4 h5 => ?_)
        rcases Nat.eq_or_lt_of_le h3 with h6 | h6
        · rw [← h6] at h5; exact h2 h5
        · exact h2 (cmpV_trans (hl _ a h6 h4) h5)
    · rw [if_neg h1]
      exact ⟨i, by omega, rfl, ha, fun a h3 h4 => hb a (by omega) h4⟩
/-- What the search tells of a rising tree. -/
theorem place_spec {l : List (S31)} (hl : Rising l) (s : ByteArray) : ∃ i : Nat, i ≤ l.length ∧ (∀ a : Nat, a < i → cmpV (rd_T31 l (a : Int)).f0 s < 0) ∧ (∀ a : Nat, i ≤ a → a < l.length → ¬ cmpV (rd_T31 l (a : Int)).f0 s < 0) ∧
    ((placeV l s = ((i : Int), true) ∧ i < l.length ∧ (rd_T31 l (i : Int)).f0 = s) ∨ (placeV l s = ((i : Int), false) ∧ ∀ a : Nat, a < l.length → (rd_T31 l (a : Int)).f0 ≠ s)) := by
  obtain ⟨i, h0, h1, h2, h3⟩ := bs_spec l s hl l.length 0 l.length (by omega) (by omega) (by omega) (fun a h => by omega) (fun a h h' => by omega)
  refine ⟨i, h0, h2, h3, ?_⟩
  unfold placeV
  rw [h1]
  unfold ends
  have hno : (i < l.length → (rd_T31 l (i : Int)).f0 ≠ s) → ∀ a : Nat, a < l.length → (rd_T31 l (a : Int)).f0 ≠ s := by
    intro hi a ha he
    rcases Nat.lt_trichotomy a i with h4 | h4 | h4
    · have := h2 a h4
      rw [he, cmpV_self] at this
      omega
    · subst h4; exact hi ha he
    · refine h3 i (Nat.le_refl _) (by omega) ?_
      rw [← he]
      exact hl i a h4 ha
  by_cases h4 : i < l.length
  · rw [if_pos h4]
    by_cases h5 : (rd_T31 l (i : Int)).f0 = s
    · refine .inl ⟨?_, h4, h5⟩
      rw [h5, cmpV_self]; rfl
    · refine .inr ⟨?_, hno fun _ => h5⟩
      rw [show (cmpV (rd_T31 l (i : Int)).f0 s == 0) = false from beq_eq_false_iff_ne.2 fun e => h5 (cmpV_zero e)]
  · rw [if_neg h4]
    exact .inr ⟨rfl, hno fun h => absurd h h4⟩
theorem ends_lt {l : List (S31)} {s : ByteArray} {i : Nat} {k : Int} (h : ends l s i = (k, true)) : ∃ n : Nat, k = (n : Int) ∧ n < l.length := by
  unfold ends at h
  split at h
  · rename_i h1
    exact ⟨i, ((Prod.mk.inj h).1).symm, h1⟩
  · simp at h
theorem bs_lt (l : List (S31)) (s : ByteArray) : ∀ (m i j : Nat) {k : Int}, bs l s m i j = (k, true) → ∃ n : Nat, k = (n : Int) ∧ n < l.length
  | 0, i, j, k, h => ends_lt h
  | m + 1, i, j, k, h => by
    unfold bs at h
    split at h
    · split at h
      · exact bs_lt l s m _ _ h
      · exact bs_lt l s m _ _ h
    · exact ends_lt h
theorem place_lt {l : List (S31)} {s : ByteArray} {k : Int} (h : placeV l s = (k, true)) : ∃ n : Nat, k = (n : Int) ∧ n < l.length := bs_lt l s _ _ _ h
/-! ### Which trees may be -/
/-- What is wrong with entry i, if those ahead of it may be. -/
def badAt (l : List (S31)) (i : Nat) : Option Int :=
  if oneV (rd_T31 l (i : Int)) = 0 then
    (if 0 < i ∧ 0 ≤ cmpV (rd_T31 l ((i : Int) - 1)).f0 (rd_T31 l (i : Int)).f0 then some 7
     else if (parentV (rd_T31 l (i : Int)).f0).2 = true then
       (if (placeV (l.take i) (parentV (rd_T31 l (i : Int)).f0).1).2 = true ∧ (rd_T31 l (placeV (l.take i) (parentV (rd_T31 l (i : Int)).f0).1).1).f1 = 1 then none else some 6)
     else none)
  else some (oneV (rd_T31 l (i : Int)))
def chkTree (l : List (S31)) : Nat → Nat → Int × Int
  | 0, _ => (0, 0)
  | m + 1, i => match badAt l i with
    | some e => (e, (i : Int))
    | none => chkTree l m (i + 1)
theorem tree_l0 (l : List (S31)) (hl : l.length ≤ 200) : ∀ (m i : Nat), i + m = l.length → Ev (fun k => tree_Check.l0 k l l (l.length : Int) (i : Int)) (chkTree l m i)
  | 0, i, h => by
    refine Ev.shift ?_
    simp only [tree_Check.l0]
    exact Ev.ifn (by omega) (Ev.const _)
  | m + 1, i, h => by
    refine Ev.shift ?_
    simp only [tree_Check.l0]
    refine Ev.ifp (by omega) (Ev.ifp (by omega) (Ev.ifp (by omega) (Ev.bind (one_ev _) ?_)))
    have next := tree_l0 l hl m (i + 1) (by omega)
    have ew : wrap64 ((i : Int) + 1) = ((i + 1 : Nat) : Int) := by rw [wrap_id _ (by omega)]; omega
    by_cases h1 : oneV (rd_T31 l (i : Int)) = 0
    · refine Ev.ifp h1 ?_
      have hv := (one_ok h1).1
      have hsz := valid_size hv
      -- behind the order
      have tail : ∀ b : Bool, b = decide (0 < i ∧ 0 ≤ cmpV (rd_T31 l ((i : Int) - 1)).f0 (rd_T31 l (i : Int)).f0) → Ev (fun k => tree_Check.j1 k l (i : Int) l (l.length : Int) (i : Int) b (rd_T31 l (i : Int)).f0 (rd_T31 l (i : Int)).f1 (rd_T31 l (i : Int)).f2 (rd_T31 l (i : Int)).f3 (rd_T31 l (i : Int)).f4) (chkTree l (m + 1) i) := by
        intro b hb
        refine Ev.shift ?_
        simp only [tree_Check.j1]
        by_cases h2 : 0 < i ∧ 0 ≤ cmpV (rd_T31 l ((i : Int) - 1)).f0 (rd_T31 l (i : Int)).f0
        · have hbad : badAt l i = some 7 := by unfold badAt; rw [if_pos h1, if_pos h2]
          rw [show chkTree l (m + 1) i = (7, (i : Int)) by unfold chkTree; rw [hbad]]
          rw [hb, decide_eq_true h2]
          exact Ev.ifp rfl (Ev.const _)
        · rw [hb, decide_eq_false h2]
          refine Ev.ifn (by simp) (Ev.bind (parent_ev _ (by omega)) ?_)
          by_cases h3 : (parentV (rd_T31 l (i : Int)).f0).2 = true
          · refine Ev.ifp h3 (Ev.ifp (by omega) (Ev.ifp (by omega) ?_))
            rw [Int.toNat_natCast]
            refine Ev.bind (place_ev _ _ (by rw [List.length_take]; omega)) ?_
            by_cases h4 : (placeV (l.take i) (parentV (rd_T31 l (i : Int)).f0).1).2 = true
            · obtain ⟨n, hn, hnl⟩ := place_lt (l := l.take i) (s := (parentV (rd_T31 l (i : Int)).f0).1) (k := (placeV (l.take i) (parentV (rd_T31 l (i : Int)).f0).1).1) (by rw [← h4])
              rw [List.length_take] at hnl
              refine Ev.ifp h4 (Ev.ifp (by omega) (Ev.ifp (by omega) ?_))
              by_cases h5 : (rd_T31 l (placeV (l.take i) (parentV (rd_T31 l (i : Int)).f0).1).1).f1 = 1
              · have hbad : badAt l i = none := by unfold badAt; rw [if_pos h1, if_neg h2, if_pos h3, if_pos ⟨h4, h5⟩]
                rw [show chkTree l (m + 1) i = chkTree l m (i + 1) by show (match badAt l i with | some e => (e, (i : Int)) | none => chkTree l m (i + 1)) = _; rw [hbad]]
                rw [ew]
                exact Ev.ifp h5 next
              · have hbad : badAt l i = some 6 := by unfold badAt; rw [if_pos h1, if_neg h2, if_pos h3, if_neg (fun h => h5 h.2)]
                rw [show chkTree l (m + 1) i = (6, (i : Int)) by unfold chkTree; rw [hbad]]
                exact Ev.ifn h5 (Ev.const _)
            · have hbad : badAt l i = some 6 := by unfold badAt; rw [if_pos h1, if_neg h2, if_pos h3, if_neg (fun h => h4 h.1)]
              rw [show chkTree l (m + 1) i = (6, (i : Int)) by unfold chkTree; rw [hbad]]
              exact Ev.ifn h4 (Ev.const _)
          · have hbad : badAt l i = none := by unfold badAt; rw [if_pos h1, if_neg h2, if_neg h3]
            rw [show chkTree l (m + 1) i = chkTree l m (i + 1) by show (match badAt l i with | some e => (e, (i : Int)) | none => chkTree l m (i + 1)) = _; rw [hbad]]
            rw [ew]
            exact Ev.ifn h3 next
      by_cases h0 : 0 < i
      · have e1 : wrap64 ((i : Int) - 1) = (i : Int) - 1 := wrap_id _ (by omega)
        refine Ev.ifp (by omega) ?_
        rw [e1]
        refine Ev.ifp (by omega) (Ev.ifp (by omega) (Ev.bind (compare_ev _ _) ?_))
        exact tail _ (by simp [h0])
      · refine Ev.ifn (by omega) ?_
        exact tail _ (by simp [h0])
    · have hbad : badAt l i = some (oneV (rd_T31 l (i : Int))) := by unfold badAt; rw [if_neg h1]
      rw [show chkTree l (m + 1) i = (oneV (rd_T31 l (i : Int)), (i : Int)) by unfold chkTree; rw [hbad]]
      exact Ev.ifn h1 (Ev.const _)
def treeV (l : List (S31)) : Int × Int := if 200 < l.length then (3, 0) else chkTree l l.length 0
theorem tree_ev (l : List (S31)) : Ev (fun k => tree_Check.f k l) (treeV l) := by
  unfold treeV
  simp only [tree_Check.f]
  by_cases h : 200 < l.length
  · rw [if_pos h]; exact Ev.ifp (by omega) (Ev.const _)
  · rw [if_neg h]; exact Ev.ifn (by omega) (tree_l0 l (by omega) l.length 0 (by omega))
theorem badAt_ne {l : List (S31)} {i : Nat} {e : Int} (h : badAt l i = some e) : e ≠ 0 := by
  unfold badAt at h
  split at h
  · split at h
    · rw [← Option.some.inj h]; decide
    · split at h
      · split at h
        · cases h
        · rw [← Option.some.inj h]; decide
      · cases h
  · rename_i h1
    rw [← Option.some.inj h]; exact h1
/-- A tree that may be. -/
def Good (l : List (S31)) : Prop := l.length ≤ 200 ∧ ∀ i : Nat, i < l.length → badAt l i = none
theorem chkTree_ok (l : List (S31)) : ∀ (m i : Nat), (chkTree l m i).1 = 0 → ∀ j : Nat, i ≤ j → j < i + m → badAt l j = none
  | 0, i, h, j, h1, h2 => by omega
  | m + 1, i, h, j, h1, h2 => by
    unfold chkTree at h
    cases hb : badAt l i with
    | some e =>
      rw [hb] at h
      exact absurd h (badAt_ne hb)
    | none =>
      rw [hb] at h
      rcases Nat.eq_or_lt_of_le h1 with h3 | h3
      · rw [← h3]; exact hb
      · exact chkTree_ok l m (i + 1) h j h3 (by omega)
theorem chkTree_mk (l : List (S31)) : ∀ (m i : Nat), (∀ j : Nat, i ≤ j → j < i + m → badAt l j = none) → chkTree l m i = (0, 0)
  | 0, i, h => rfl
  | m + 1, i, h => by
    unfold chkTree
    rw [h i (Nat.le_refl _) (by omega)]
    exact chkTree_mk l m (i + 1) (fun j h1 h2 => h j (by omega) (by omega))
theorem good_of {l : List (S31)} (h : (treeV l).1 = 0) : Good l := by
  unfold treeV at h
  split at h
  · cases h
  · exact ⟨by omega, fun i hi => chkTree_ok l _ 0 h i (by omega) (by omega)⟩
theorem Good.tree {l : List (S31)} (h : Good l) : treeV l = (0, 0) := by
  unfold treeV
  have h1 := h.1
  rw [if_neg (by omega)]
  exact chkTree_mk l _ 0 (fun j _ h2 => h.2 j (by omega))
theorem Good.one {l : List (S31)} (h : Good l) {i : Nat} (hi : i < l.length) : oneV (rd_T31 l (i : Int)) = 0 := by
  have := h.2 i hi
  unfold badAt at this
  split at this
  · assumption
  · cases this
theorem Good.step {l : List (S31)} (h : Good l) {i : Nat} (hi : i + 1 < l.length) : cmpV (rd_T31 l (i : Int)).f0 (rd_T31 l ((i + 1 : Nat) : Int)).f0 < 0 := by
  have := h.2 (i + 1) hi
  unfold badAt at this
  rw [if_pos (h.one hi)] at this
  split at this
  · cases this
  · rename_i h1
    rw [show (((i + 1 : Nat) : Int) - 1) = (i : Int) by omega] at h1
    have h2 : ¬ 0 ≤ cmpV (rd_T31 l (i : Int)).f0 (rd_T31 l ((i + 1 : Nat) : Int)).f0 := fun e => h1 ⟨by omega, e⟩
    omega
theorem Good.rising {l : List (S31)} (h : Good l) : Rising l := by
  intro a b hab
  obtain ⟨d, rfl⟩ : ∃ d, b = a + 1 + d := ⟨b - a - 1, by omega⟩
  clear hab
  induction d with
  | zero => exact fun hb => h.step hb
  | succ d ih =>
    intro hb
    exact cmpV_trans (ih (by omega)) (h.step (i := a + 1 + d) hb)
theorem Rising.take {l : List (S31)} (h : Rising l) (m : Nat) : Rising (l.take m) := by
  intro a b hab hb
  rw [List.length_take] at hb
  rw [rd_take l m a (by omega), rd_take l m b (by omega)]
  exact h a b hab (by omega)
/-- The directory of an entry lies ahead of it. -/
theorem Good.up {l : List (S31)} (h : Good l) {i : Nat} (hi : i < l.length) {up : ByteArray} (hp : parentV (rd_T31 l (i : Int)).f0 = (up, true)) : ∃ k : Nat, k < i ∧ (rd_T31 l (k : Int)).f0 = up ∧ (rd_T31 l (k : Int)).f1 = 1 := by
  have := h.2 i hi
  unfold badAt at this
  rw [if_pos (h.one hi)] at this
  split at this
  · cases this
  · rw [hp] at this
    simp only [if_true] at this
    split at this
    · rename_i h1
      obtain ⟨n, h2, h3, h4, h5 | h5⟩ := place_spec (h.rising.take i) up
      · obtain ⟨h6, h7, h8⟩ := h5
        rw [List.length_take] at h7
        rw [h6] at h1
        refine ⟨n, by omega, ?_, h1.2⟩
        rw [← h8, rd_take l i n (by omega)]
      · rw [h5.1] at h1
        simp at h1
    · cases this
theorem badAt_take (l : List (S31)) (m i : Nat) (h : i < m) (hl : i < l.length) : badAt (l.take m) i = badAt l i := by
  unfold badAt
  rw [rd_take l m i h, List.take_take, show min i m = i by omega]
  by_cases h0 : 0 < i
  · rw [show ((i : Int) - 1) = ((i - 1 : Nat) : Int) by omega, rd_take l m (i - 1) (by omega)]
    by_cases h4 : (placeV (l.take i) (parentV (rd_T31 l (i : Int)).f0).1).2 = true
    · obtain ⟨n, hn, hnl⟩ := place_lt (l := l.take i) (s := (parentV (rd_T31 l (i : Int)).f0).1) (k := (placeV (l.take i) (parentV (rd_T31 l (i : Int)).f0).1).1) (by rw [← h4])
      rw [List.length_take] at hnl
      rw [hn, rd_take l m n (by omega)]
    · simp only [h4]
      simp
  · have h1 : ¬ (0 < i ∧ 0 ≤ cmpV (rd_T31 (l.take m) ((i : Int) - 1)).f0 (rd_T31 l (i : Int)).f0) := fun e => h0 e.1
    have h2 : ¬ (0 < i ∧ 0 ≤ cmpV (rd_T31 l ((i : Int) - 1)).f0 (rd_T31 l (i : Int)).f0) := fun e => h0 e.1
    rw [if_neg h1, if_neg h2]
    by_cases h4 : (placeV (l.take i) (parentV (rd_T31 l (i : Int)).f0).1).2 = true
    · obtain ⟨n, hn, hnl⟩ := place_lt (l := l.take i) (s := (parentV (rd_T31 l (i : Int)).f0).1) (k := (placeV (l.take i) (parentV (rd_T31 l (i : Int)).f0).1).1) (by rw [← h4])
      rw [List.length_take] at hnl
      omega
    · simp only [h4]
      simp
theorem Good.take {l : List (S31)} (h : Good l) (m : Nat) : Good (l.take m) := by
  refine ⟨by have := h.1; rw [List.length_take]; omega, fun i hi => ?_⟩
  rw [List.length_take] at hi
  rw [badAt_take l m i (by omega) (by omega)]
  exact h.2 i (by omega)
end Go.Proofs.Ytopkmchkfcjjmaa.X
end

/-! ## PureD -/
section
namespace Go.Proofs.Ytopkmchkfcjjmaa.X
open Go.RowKit Go.Proofs.YtopkmchkfcjjmaaW.PrintWords Go.Proofs.YtopkmchkfcjjmaaW.PrintLast Go.Proofs.YtopkmchkfcjjmaaW.PrintMore
set_option linter.unusedVariables false
set_option linter.unusedSimpArgs false
theorem clone_l0 (l : List (S31)) (hl : l.length < 1954687338268) (hd : ∀ i : Nat, i < l.length → (rd_T31 l (i : Int)).f3.length < 140737488355328) : ∀ (m i : Nat), i + m = l.length → Ev (fun k => tree_clone.l0 k l (l.length : Int) (i : Int)) l
 | 0, i, h => by
  refine Ev.shift ?_
  simp only [tree_clone.l0]
  exact Ev.ifn (by omega) (Ev.const _)
 | m + 1, i, h => by
  refine Ev.shift ?_
  simp only [tree_clone.l0]
  refine Ev.ifp (by omega) (Ev.ifp (by omega) (Ev.ifp (by omega) ?_))
  have e1 : slices_Clone_byte_byte.f (rd_T31 l (i : Int)).f3 = some (rd_T31 l (i : Int)).f3 := by
   unfold slices_Clone_byte_byte.f
   rw [if_pos (hd i (by omega))]
  have e2 : l.set ((i : Int)).toNat (⟨(rd_T31 l (i : Int)).f0, (rd_T31 l (i : Int)).f1, (rd_T31 l (i : Int)).f2, (rd_T31 l (i : Int)).f3, (rd_T31 l (i : Int)).f4⟩ : S31) = l := by
   rw [Int.toNat_natCast]
   show l.set i (rd_T31 l (i : Int)) = l
   rw [rd_at l i (by omega)]
   exact List.set_getElem_self _
  rw [e1]
  simp only [Option.bind_some]
  rw [e2, wrap_id _ (by omega), show (i : Int) + 1 = ((i + 1 : Nat) : Int) by omega]
  exact clone_l0 l hl hd m (i + 1) (by omega)
theorem clone_ev (l : List (S31)) (hl : l.length < 1954687338268) (hd : ∀ i : Nat, i < l.length → (rd_T31 l (i : Int)).f3.length < 140737488355328) : Ev (fun k => tree_clone.f k l) l := by
 simp only [tree_clone.f, api_Entry_55.f]
 rw [if_pos hl]
 simp only [Option.bind_some]
 have := clone_l0 l hl hd l.length 0 (by omega)
 exact this
theorem find_hit {l : List (S31)} (hg : Good l) {i : Nat} (hi : i < l.length) : Ev (fun k => tree_Find.f k l (rd_T31 l (i : Int)).f0) ((rd_T31 l (i : Int)).f0, (rd_T31 l (i : Int)).f1, (rd_T31 l (i : Int)).f2, (rd_T31 l (i : Int)).f3, (rd_T31 l (i : Int)).f4, true) := by
 have hlen := hg.1
 simp only [tree_Find.f]
 have h0 := tree_ev l
 rw [hg.tree] at h0
 refine Ev.bind h0 (Ev.ifp rfl ?_)
 obtain ⟨n, h2, h3, h4, h5 | h5⟩ := place_spec hg.rising (rd_T31 l (i : Int)).f0
 ·obtain ⟨h6, h7, h8⟩ := h5
  have hni : n = i := by
   rcases Nat.lt_trichotomy n i with h9 | h9 | h9
   ·have := hg.rising n i h9 hi
    rw [h8, cmpV_self] at this
    omega
   ·exact h9
   ·have := hg.rising i n h9 h7
    rw [h8, cmpV_self] at this
    omega
  subst hni
  have hp := place_ev l (rd_T31 l (n : Int)).f0 (by omega)
  rw [h6] at hp
  refine Ev.bind hp (Ev.ifp rfl (Ev.ifp (by omega) ?_))
  show Ev (fun k => if (n : Int) ≤ wrap64 ((n : Int) + 1) then _ else _) _
  have ew : wrap64 ((n : Int) + 1) = ((n + 1 : Nat) : Int) := by rw [wrap_id _ (by omega)]; omega
  simp only [ew, Int.toNat_natCast]
  refine Ev.ifp (by omega) (Ev.ifp (by omega) ?_)
  have e1 : (l.take (n + 1)).drop n = [rd_T31 l (n : Int)] := by
   rw [rd_at l n hi, List.drop_take, List.drop_eq_getElem_cons hi, show n + 1 - n = 1 by omega]
   rfl
  rw [e1]
  have hone := one_ok (hg.one hi)
  have e2 : ∀ j : Nat, j < [rd_T31 l (n : Int)].length → rd_T31 [rd_T31 l (n : Int)] (j : Int) = rd_T31 l (n : Int) := by
   intro j hj
   have : j = 0 := by simpa using hj
   subst this
   rfl
  refine Ev.bind (clone_ev [rd_T31 l (n : Int)] (by simp) (fun j hj => by rw [e2 j hj]; omega)) (Ev.ifp (by simp) ?_)
  rw [show rd_T31 [rd_T31 l (n : Int)] 0 = rd_T31 l (n : Int) from rfl]
  exact Ev.const _
 ·exact absurd rfl (h5.2 i hi)
theorem big_l0 (l : List (S31)) (x2 : Int) (most : Nat) (hm : most < 1000000) : ∀ (m i : Nat) (x7 : Int), i + m = most + 1 → ∃ b, Ev (fun k => satchelkit_BigTree.l0 k l (most : Int) x2 x7 (i : Int)) b ∧ (b = false → l.length ≤ most) := by
 have hend : ∀ x7 : Int, ∃ b, Ev (fun _ => if (l.length : Int) > (most : Int) then (some true) else (some (decide (x7 > x2)))) b ∧ (b = false → l.length ≤ most) := by
  intro x7
  by_cases h : (l.length : Int) > (most : Int)
  ·exact ⟨true, Ev.ifp h (Ev.const _), fun h => by cases h⟩
  ·exact ⟨decide (x7 > x2), Ev.ifn h (Ev.const _), fun _ => by omega⟩
 intro m
 induction m with
 | zero =>
  intro i x7 h
  obtain ⟨b, hb, hb2⟩ := hend x7
  refine ⟨b, Ev.shift ?_, hb2⟩
  simp only [satchelkit_BigTree.l0]
  by_cases h1 : (i : Int) < (l.length : Int)
  ·exact Ev.ifp h1 (Ev.ifn (by omega) hb)
  ·exact Ev.ifn h1 hb
 | succ m ih =>
  intro i x7 h
  by_cases h1 : (i : Int) < (l.length : Int)
  ·obtain ⟨b, hb, hb2⟩ := ih (i + 1) (wrap64 ((wrap64 ((wrap64 (x7 + (((rd_T31 l (i : Int)).f0).size : Int))) + (((rd_T31 l (i : Int)).f3).length : Int))) + (((rd_T31 l (i : Int)).f4).size : Int))) (by omega)
   refine ⟨b, Ev.shift ?_, hb2⟩
   simp only [satchelkit_BigTree.l0]
   refine Ev.ifp h1 (Ev.ifp (by omega) (Ev.ifp (by omega) ?_))
   rw [show wrap64 ((i : Int) + 1) = ((i + 1 : Nat) : Int) by rw [wrap_id _ (by omega)]; omega]
   exact hb
  ·obtain ⟨b, hb, hb2⟩ := hend x7
   refine ⟨b, Ev.shift ?_, hb2⟩
   simp only [satchelkit_BigTree.l0]
   exact Ev.ifn h1 hb
theorem big_ev (l : List (S31)) (most : Nat) (x2 : Int) (hm : most < 1000000) : ∃ b, Ev (fun k => satchelkit_BigTree.f k l (most : Int) x2) b ∧ (b = false → l.length ≤ most) := by
 simp only [satchelkit_BigTree.f]
 exact big_l0 l x2 most hm (most + 1) 0 0 (by omega)
theorem pick_f (n : Int) (len : Nat) (h0 : 0 < len) (h1 : len < 1000000) : ∃ m : Nat, m < len ∧ satchelkit_Pick.f n (len : Int) = some (m : Int) := by
 have hb := Int.emod_nonneg n (show (len : Int) ≠ 0 by omega)
 have hc := Int.emod_lt_of_pos n (show (0 : Int) < (len : Int) by omega)
 have ht : Int.tmod n (len : Int) = n % (len : Int) ∨ Int.tmod n (len : Int) = n % (len : Int) - (len : Int) := by
  rcases Int.le_total 0 n with h | h
  ·exact .inl (Int.tmod_eq_emod_of_nonneg h)
  ·have := @Int.tmod_eq_emod n (len : Int)
   split at this
   ·exact .inl (by omega)
   ·exact .inr (by omega)
 unfold satchelkit_Pick.f
 rw [if_neg (by omega), if_neg (by omega)]
 rcases ht with ht | ht
 ·rw [ht, if_neg (by omega)]
  exact ⟨(n % (len : Int)).toNat, by omega, by congr 1; omega⟩
 ·rw [ht, if_pos (by omega), wrap_id _ (by omega)]
  exact ⟨(n % (len : Int)).toNat, by omega, by congr 1; omega⟩
theorem same_refl (l : List (S31)) : satchelkit_SameTree.f l l = some true := by
 unfold satchelkit_SameTree.f sameFrom
 have : ∀ m : List (S31), (m.zip m).all (fun p => sameEntry p.1 p.2) = true := by
  intro m
  induction m with
  | nil => rfl
  | cons a m ih =>
   simp only [List.zip_cons_cons, List.all_cons, ih, Bool.and_true]
   simp [sameEntry, sameBytes]
 rw [this]
 simp
end Go.Proofs.Ytopkmchkfcjjmaa.X
end

/-! ## PureE -/
section
namespace Go.Proofs.Ytopkmchkfcjjmaa.X
open Go.RowKit Go.Proofs.YtopkmchkfcjjmaaW.PrintWords Go.Proofs.YtopkmchkfcjjmaaW.PrintLast Go.Proofs.YtopkmchkfcjjmaaW.PrintMore
set_option linter.unusedVariables false
set_option linter.unusedSimpArgs false
theorem app_list (a b : ByteArray) : (a ++ b).toList = a.toList ++ b.toList := by
 rw [ByteArray.toList_eq, ByteArray.toList_eq, ByteArray.toList_eq, ByteArray.data_append, Array.toList_append]
/-! ### A text by its strokes -/
/-! ### A part, a path -/
/-! ### The order -/
/-! ### The directory of a path -/
end Go.Proofs.Ytopkmchkfcjjmaa.X
end

/-! ## PureF -/
section
namespace Go.Proofs.Ytopkmchkfcjjmaa.X
open Go.RowKit Go.Proofs.YtopkmchkfcjjmaaW.PrintWords Go.Proofs.YtopkmchkfcjjmaaW.PrintLast Go.Proofs.YtopkmchkfcjjmaaW.PrintMore
set_option linter.unusedVariables false
set_option linter.unusedSimpArgs false
theorem Ev.to_eq {α : Type} {g : Nat → Option α} {r r' : α} (h : Ev g r) (e : r = r') : Ev g r' := e ▸ h
/-! ### Is the directory ahead? -/
end Go.Proofs.Ytopkmchkfcjjmaa.X
end

/-! ## Eq81 -/
section
namespace Go.Proofs.Ytopkmchkfcjjmaa.X
open Go.RowKit Go.Proofs.YtopkmchkfcjjmaaW.PrintWords Go.Proofs.YtopkmchkfcjjmaaW.PrintLast Go.Proofs.YtopkmchkfcjjmaaW.PrintMore
attribute [local go_sem] max2_int min2_int max_two min_two max_three min_three max_four min_four   -- for this text's walks alone
set_option linter.unusedVariables false
set_option linter.unusedSimpArgs false

attribute [local go_sem] str_gtr fld_fault0 fld_fault1
theorem eqA81 (d : Nat) (w : World) (x0 y0 : ByteArray) (x1 y1 : Int) (x2 y2 : Int) (x3 y3 : ByteArray) :
  (Op.equalIn (d + 2) 81 (.agg #[.string x0, .int .i64 x1, .int .i64 x2, .string x3]) (.agg #[.string y0, .int .i64 y1, .int .i64 y2, .string y3])).run Try.prog w = .ok (x0.toList == y0.toList && (x1 == y1 && (x2 == y2 && (x3.toList == y3.toList)))) w := by
 refine eqA_of Try.underlying81 (by kernel_rfl) ?_
 refine eqf_cons (by rfl) (by go_simp; rfl) (by go_simp; rfl) (by go_simp) ?_
 refine eqf_cons (by rfl) (by go_simp; rfl) (by go_simp; rfl) (by go_simp) ?_
 refine eqf_cons (by rfl) (by go_simp; rfl) (by go_simp; rfl) (by go_simp) ?_
 exact eqf_last (by rfl) (by go_simp; rfl) (by go_simp; rfl) (by go_simp)
end Go.Proofs.Ytopkmchkfcjjmaa.X
end

/-! ## BytesEqual -/
section
namespace Go.Proofs.Ytopkmchkfcjjmaa.X
open Go.RowKit Go.Proofs.YtopkmchkfcjjmaaW.PrintWords Go.Proofs.YtopkmchkfcjjmaaW.PrintLast Go.Proofs.YtopkmchkfcjjmaaW.PrintMore
attribute [local go_sem] max2_int min2_int max_two min_two max_three min_three max_four min_four   -- for this text's walks alone
set_option linter.unusedVariables false
set_option linter.unusedSimpArgs false

attribute [local go_sem] str_gtr fld_fault0 fld_fault1
/-! ### bytes_Equal: function 72 -/
def bytes_Equal.f (l0 : List Int) (l1 : List Int) : Option (Bool) := some ((strOfNums l0).toList == (strOfNums l1).toList)
set_option maxHeartbeats 8000000 in
set_option maxRecDepth 100000 in
theorem bytes_Equal.calls (A0 : Option Addr) (c0 : Nat) (l0 : List Int) (A1 : Option Addr) (c1 : Nat) (l1 : List Int) (r : Bool) (w : World) (hr0 : Kd.C (Kd.int .u8) w A0 l0.length l0) (hc0 : l0.length ≤ c0) (hr1 : Kd.C (Kd.int .u8) w A1 l1.length l1) (hc1 : l1.length ≤ c1) (h : bytes_Equal.f l0 l1 = some r) :
  Calls Try.prog 72 #[.slice A0 l0.length c0, .slice A1 l1.length c1] w fun e w' => e = .returned (.bool r) ∧ Drawn0 w w' := by
 have HR0 := Aside0.mk hr0
 have HC0 := Aside0.mk hc0
 clear hr0 hc0
 have HR1 := Aside0.mk hr1
 have HC1 := Aside0.mk hc1
 clear hr1 hc1
 have H : (some ((strOfNums l0).toList == (strOfNums l1).toList)) = some r := h
 clear h
 obtain rfl := Option.some.inj H
 have hcv3 := Kd.C_string (P := Try.prog) (A := A0) (c := c0) Try.underlying29 Try.underlying5 Try.underlying9 HR0.out
 have hcv4 := Kd.C_string (P := Try.prog) (A := A1) (c := c1) Try.underlying29 Try.underlying5 Try.underlying9 HR1.out
 go_enter Try.func72, Try.ntmps72
 go_wp2
 go_ret
 exact ⟨by first | rfl | (simp; done) | (simp [*]; done), by repeat (first | exact Drawn0.refl _ | apply Drawn0.step)⟩

end Go.Proofs.Ytopkmchkfcjjmaa.X
end

/-! ## TreeAlike -/
section
namespace Go.Proofs.Ytopkmchkfcjjmaa.X
open Go.RowKit Go.Proofs.YtopkmchkfcjjmaaW.PrintWords Go.Proofs.YtopkmchkfcjjmaaW.PrintLast Go.Proofs.YtopkmchkfcjjmaaW.PrintMore
attribute [local go_sem] max2_int min2_int max_two min_two max_three min_three max_four min_four   -- for this text's walks alone
set_option linter.unusedVariables false
set_option linter.unusedSimpArgs false

attribute [local go_sem] str_gtr fld_fault0 fld_fault1
attribute [local go_sem high] eqA81
/-! ### tree_alike: function 53 -/
def tree_alike.f (a0_0 : ByteArray) (a0_1 : Int) (a0_2 : Int) (l0_3 : List Int) (a0_4 : ByteArray) (a1_0 : ByteArray) (a1_1 : Int) (a1_2 : Int) (l1_3 : List Int) (a1_4 : ByteArray) : Option (Bool) := if (a0_0.toList == a1_0.toList && (a0_1 == a1_1 && (a0_2 == a1_2 && (a0_4.toList == a1_4.toList)))) = true then ((bytes_Equal.f l0_3 l1_3).bind fun t370 => (some t370)) else (some false)
set_option maxHeartbeats 8000000 in
set_option maxRecDepth 100000 in
theorem tree_alike.calls (a0_0 : ByteArray) (a0_1 : Int) (a0_2 : Int) (A0_3 : Option Addr) (c0_3 : Nat) (l0_3 : List Int) (a0_4 : ByteArray) (a1_0 : ByteArray) (a1_1 : Int) (a1_2 : Int) (A1_3 : Option Addr) (c1_3 : Nat) (l1_3 : List Int) (a1_4 : ByteArray) (r : Bool) (w : World) (hr0_3 : Kd.C (Kd.int .u8) w A0_3 l0_3.length l0_3) (hc0_3 : l0_3.length ≤ c0_3) (hr1_3 : Kd.C (Kd.int .u8) w A1_3 l1_3.length l1_3) (hc1_3 : l1_3.length ≤ c1_3) (h : tree_alike.f a0_0 a0_1 a0_2 l0_3 a0_4 a1_0 a1_1 a1_2 l1_3 a1_4 = some r) :
  Calls Try.prog 53 #[.agg #[.string a0_0, .int .i64 a0_1, .int .i64 a0_2, .slice A0_3 l0_3.length c0_3, .string a0_4], .agg #[.string a1_0, .int .i64 a1_1, .int .i64 a1_2, .slice A1_3 l1_3.length c1_3, .string a1_4]] w fun e w' => e = .returned (.bool r) ∧ Below w.heap.size w w' := by
 have hu31 := Try.underlying31
 have hu81 := Try.underlying81
 have HR0_3 := Aside0.mk hr0_3
 have HC0_3 := Aside0.mk hc0_3
 clear hr0_3 hc0_3
 have HR1_3 := Aside0.mk hr1_3
 have HC1_3 := Aside0.mk hc1_3
 clear hr1_3 hc1_3
 have HB := Aside0.mk (Below.refl w.heap.size w)
 have H : (if (a0_0.toList == a1_0.toList && (a0_1 == a1_1 && (a0_2 == a1_2 && (a0_4.toList == a1_4.toList)))) = true then ((bytes_Equal.f l0_3 l1_3).bind fun t370 => (some t370)) else (some false)) = some r := h
 clear h
 by_cases c3 : (a0_0.toList == a1_0.toList && (a0_1 == a1_1 && (a0_2 == a1_2 && (a0_4.toList == a1_4.toList)))) = true
 ·rw [if_pos c3] at H
  have c3b0 : (a0_0.toList == a1_0.toList && (a0_1 == a1_1 && (a0_2 == a1_2 && (a0_4.toList == a1_4.toList)))) = true := c3
  (try (have c3b1 : decide (a0_0.toList = a1_0.toList && (a0_1 == a1_1 && (a0_2 == a1_2 && (a0_4.toList == a1_4.toList)))) = true := by simpa using c3))
  (try (have c3b2 : (a0_0.toList == a1_0.toList && (a0_1 == a1_1 && (a0_2 == a1_2 && (a0_4.toList == a1_4.toList)))) = true := by simpa using c3))
  clear c3
  replace H := Option.bind_eq_some_iff.mp H
  obtain ⟨t370, A40, H⟩ := H
  replace H : (some t370) = some r := H
  have A4 := Aside0.mk A40
  clear A40
  obtain rfl := Option.some.inj H
  go_enter Try.func53, Try.ntmps53
  go_wp2_with (first | ((with_reducible refine gate_dst (N := 2) rfl ?_); refine box_event ?hg (N := 2) ?hd (cs := #[.string a0_0, .int .i64 a0_1, .int .i64 a0_2, .slice A0_3 l0_3.length c0_3, .string a0_4]) (t := 31) ?hr ?_; (case hd => rfl); (case hg => rfl); (case hr => first | (go_simp; done) | (go_simp; rfl)); intro gb368 hg w5 hbox hb; have n0_ := Aside0.mk (below_step (by repeat (first | (with_reducible first | exact HB.out | apply below_alloc | apply pw_below_drewN | apply below_drew1) | exact HB.out)) hb); have n1_ := Aside0.mk (hbox); have n2_ := Aside0.mk ((by rw [hg]; exact (below_size (by repeat (first | (with_reducible first | exact HB.out | apply below_alloc | apply pw_below_drewN | apply below_drew1) | exact HB.out))) : w.heap.size ≤ gb368)); have n3_ := Aside0.mk ((by rw [hg]; exact (below_size (by repeat (first | (with_reducible first | exact HB.out | apply below_alloc | apply pw_below_drewN | apply below_drew1) | exact HB.out))) : w.heap.size ≤ gb368)); clear HB; have HB := n0_; have BK368 := n1_; have GW368 := n2_; have GE368 := n3_; clear n0_ n1_ n2_ n3_; clear hb hbox hg) | ((with_reducible refine gate_dst (N := 3) rfl ?_); refine box_event ?hg (N := 3) ?hd (cs := #[.string a1_0, .int .i64 a1_1, .int .i64 a1_2, .slice A1_3 l1_3.length c1_3, .string a1_4]) (t := 31) ?hr ?_; (case hd => rfl); (case hg => rfl); (case hr => first | (go_simp; done) | (go_simp; rfl)); intro gb369 hg w6 hbox hb; have n0_ := Aside0.mk (blk_below (g := gb368) (o := .cells #[.string a0_0, .int .i64 a0_1, .int .i64 a0_2, .slice A0_3 l0_3.length c0_3, .string a0_4] 31 (0, 0)) (by (with_reducible repeat (first | refine blk_drewN ?_ _ | refine blk_drew ?_ | refine blk_alloc ?_ _)); exact BK368.out) hb); have n1_ := Aside0.mk (below_step (by repeat (first | (with_reducible first | exact HB.out | apply below_alloc | apply pw_below_drewN | apply below_drew1 | refine below_set ?_ GE368.out) | exact HB.out)) hb); have n2_ := Aside0.mk (hbox); have n3_ := Aside0.mk ((by rw [hg]; exact (below_size (by repeat (first | (with_reducible first | exact HB.out | apply below_alloc | apply pw_below_drewN | apply below_drew1 | refine below_set ?_ GE368.out) | exact HB.out))) : w.heap.size ≤ gb369)); have n4_ := Aside0.mk ((by rw [hg]; exact (below_size (by repeat (first | (with_reducible first | exact HB.out | apply below_alloc | apply pw_below_drewN | apply below_drew1 | refine below_set ?_ GE368.out) | exact HB.out))) : w.heap.size ≤ gb369)); have n5_ := Aside0.mk ((by rw [hg]; exact Nat.ne_of_lt (blk_lt (g := gb368) (o := .cells #[.string a0_0, .int .i64 a0_1, .int .i64 a0_2, .slice A0_3 l0_3.length c0_3, .string a0_4] 31 (0, 0)) (by (with_reducible repeat (first | refine blk_drewN ?_ _ | refine blk_drew ?_ | refine blk_alloc ?_ _)); exact BK368.out)) : gb368 ≠ gb369)); have n6_ := Aside0.mk ((by rw [hg]; exact Nat.ne_of_gt (blk_lt (g := gb368) (o := .cells #[.string a0_0, .int .i64 a0_1, .int .i64 a0_2, .slice A0_3 l0_3.length c0_3, .string a0_4] 31 (0, 0)) (by (with_reducible repeat (first | refine blk_drewN ?_ _ | refine blk_drew ?_ | refine blk_alloc ?_ _)); exact BK368.out)) : gb369 ≠ gb368)); clear BK368; clear HB; have BK368 := n0_; have HB := n1_; have BK369 := n2_; have GW369 := n3_; have GE369 := n4_; have NB368_369 := n5_; have NB369_368 := n6_; clear n0_ n1_ n2_ n3_ n4_ n5_ n6_; clear hb hbox hg; have hnb7 := NB368_369.out; have hnc7 := NB369_368.out; have hcz8_0 : w6.cell? ⟨gb368, 0, none⟩ = some (.string a0_0) := (blk_cell BK368.out 0).trans rfl; have hcz8_1 : w6.cell? ⟨gb368, 1, none⟩ = some (.int .i64 a0_1) := (blk_cell BK368.out 1).trans rfl; have hcz8_2 : w6.cell? ⟨gb368, 2, none⟩ = some (.int .i64 a0_2) := (blk_cell BK368.out 2).trans rfl; have hcz8_3 : w6.cell? ⟨gb368, 3, none⟩ = some (.slice A0_3 l0_3.length c0_3) := (blk_cell BK368.out 3).trans rfl; have hcz8_4 : w6.cell? ⟨gb368, 4, none⟩ = some (.string a0_4) := (blk_cell BK368.out 4).trans rfl; have hfz8_0 := blk_frozen BK368.out 0; have hfz8_1 := blk_frozen BK368.out 1; have hfz8_2 := blk_frozen BK368.out 2; have hfz8_3 := blk_frozen BK368.out 3; have hfz8_4 := blk_frozen BK368.out 4; have hcz9_0 : w6.cell? ⟨gb369, 0, none⟩ = some (.string a1_0) := (blk_cell BK369.out 0).trans rfl; have hcz9_1 : w6.cell? ⟨gb369, 1, none⟩ = some (.int .i64 a1_1) := (blk_cell BK369.out 1).trans rfl; have hcz9_2 : w6.cell? ⟨gb369, 2, none⟩ = some (.int .i64 a1_2) := (blk_cell BK369.out 2).trans rfl; have hcz9_3 : w6.cell? ⟨gb369, 3, none⟩ = some (.slice A1_3 l1_3.length c1_3) := (blk_cell BK369.out 3).trans rfl; have hcz9_4 : w6.cell? ⟨gb369, 4, none⟩ = some (.string a1_4) := (blk_cell BK369.out 4).trans rfl; have hfz9_0 := blk_frozen BK369.out 0; have hfz9_1 := blk_frozen BK369.out 1; have hfz9_2 := blk_frozen BK369.out 2; have hfz9_3 := blk_frozen BK369.out 3; have hfz9_4 := blk_frozen BK369.out 4) | (go_at_call 72; (with_reducible refine (bytes_Equal.calls _ _ l0_3 _ _ l1_3 t370 _ ?side1 ?side2 ?side3 ?side4 A4.out).mono ?_); (case side1 => repeat (first | exact (Kd.C_below HR0_3.out HB.out) | (with_reducible refine Kd.C_alloc ?_ _) | (with_reducible refine Kd.C_drewN ?_ _) | (with_reducible refine Kd.C_drew ?_))); (case side2 => exact HC0_3.out); (case side3 => repeat (first | exact (Kd.C_below HR1_3.out HB.out) | (with_reducible refine Kd.C_alloc ?_ _) | (with_reducible refine Kd.C_drewN ?_ _) | (with_reducible refine Kd.C_drew ?_))); (case side4 => exact HC1_3.out); rintro e w' ⟨rfl, ⟨nd, rfl⟩⟩))
  go_ret
  exact ⟨by first | rfl | (simp [errW_none, errW_some] <;> rfl) | (simp [*, errW_none, errW_some] <;> rfl) | (simp [bt, *]; done) | (simp_all [bt]; done), by repeat (first | (with_reducible first | exact HB.out | apply below_alloc | apply pw_below_drewN | apply below_drew1 | refine below_set ?_ GE368.out | refine below_set ?_ GE369.out) | exact HB.out)⟩
 ·rw [if_neg c3] at H
  have c3b0 : (a0_0.toList == a1_0.toList && (a0_1 == a1_1 && (a0_2 == a1_2 && (a0_4.toList == a1_4.toList)))) = false := by simpa using c3
  (try (have c3b1 : decide (a0_0.toList = a1_0.toList && (a0_1 == a1_1 && (a0_2 == a1_2 && (a0_4.toList == a1_4.toList)))) = false := by simpa using c3))
  (try (have c3b2 : (a0_0.toList == a1_0.toList && (a0_1 == a1_1 && (a0_2 == a1_2 && (a0_4.toList == a1_4.toList)))) = false := by simpa using c3))
  (try (have c3b3 : ¬ (a0_0.toList = a1_0.toList && (a0_1 == a1_1 && (a0_2 == a1_2 && (a0_4.toList == a1_4.toList)))) := by simpa using c3))
  clear c3
  obtain rfl := Option.some.inj H
  go_enter Try.func53, Try.ntmps53
  go_wp2_with (first | ((with_reducible refine gate_dst (N := 2) rfl ?_); refine box_event ?hg (N := 2) ?hd (cs := #[.string a0_0, .int .i64 a0_1, .int .i64 a0_2, .slice A0_3 l0_3.length c0_3, .string a0_4]) (t := 31) ?hr ?_; (case hd => rfl); (case hg => rfl); (case hr => first | (go_simp; done) | (go_simp; rfl)); intro gb368 hg w10 hbox hb; have n0_ := Aside0.mk (below_step (by repeat (first | (with_reducible first | exact HB.out | apply below_alloc | apply pw_below_drewN | apply below_drew1) | exact HB.out)) hb); have n1_ := Aside0.mk (hbox); have n2_ := Aside0.mk ((by rw [hg]; exact (below_size (by repeat (first | (with_reducible first | exact HB.out | apply below_alloc | apply pw_below_drewN | apply below_drew1) | exact HB.out))) : w.heap.size ≤ gb368)); have n3_ := Aside0.mk ((by rw [hg]; exact (below_size (by repeat (first | (with_reducible first | exact HB.out | apply below_alloc | apply pw_below_drewN | apply below_drew1) | exact HB.out))) : w.heap.size ≤ gb368)); clear HB; have HB := n0_; have BK368 := n1_; have GW368 := n2_; have GE368 := n3_; clear n0_ n1_ n2_ n3_; clear hb hbox hg) | ((with_reducible refine gate_dst (N := 3) rfl ?_); refine box_event ?hg (N := 3) ?hd (cs := #[.string a1_0, .int .i64 a1_1, .int .i64 a1_2, .slice A1_3 l1_3.length c1_3, .string a1_4]) (t := 31) ?hr ?_; (case hd => rfl); (case hg => rfl); (case hr => first | (go_simp; done) | (go_simp; rfl)); intro gb369 hg w11 hbox hb; have n0_ := Aside0.mk (blk_below (g := gb368) (o := .cells #[.string a0_0, .int .i64 a0_1, .int .i64 a0_2, .slice A0_3 l0_3.length c0_3, .string a0_4] 31 (0, 0)) (by (with_reducible repeat (first | refine blk_drewN ?_ _ | refine blk_drew ?_ | refine blk_alloc ?_ _)); exact BK368.out) hb); have n1_ := Aside0.mk (below_step (by repeat (first | (with_reducible first | exact HB.out | apply below_alloc | apply pw_below_drewN | apply below_drew1 | refine below_set ?_ GE368.out) | exact HB.out)) hb); have n2_ := Aside0.mk (hbox); have n3_ := Aside0.mk ((by rw [hg]; exact (below_size (by repeat (first | (with_reducible first | exact HB.out | apply below_alloc | apply pw_below_drewN | apply below_drew1 | refine below_set ?_ GE368.out) | exact HB.out))) : w.heap.size ≤ gb369)); have n4_ := Aside0.mk ((by rw [hg]; exact (below_size (by repeat (first | (with_reducible first | exact HB.out | apply below_alloc | apply pw_below_drewN | apply below_drew1 | refine below_set ?_ GE368.out) | exact HB.out))) : w.heap.size ≤ gb369)); have n5_ := Aside0.mk ((by rw [hg]; exact Nat.ne_of_lt (blk_lt (g := gb368) (o := .cells #[.string a0_0, .int .i64 a0_1, .int .i64 a0_2, .slice A0_3 l0_3.length c0_3, .string a0_4] 31 (0, 0)) (by (with_reducible repeat (first | refine blk_drewN ?_ _ | refine blk_drew ?_ | refine blk_alloc ?_ _)); exact BK368.out)) : gb368 ≠ gb369)); have n6_ := Aside0.mk ((by rw [hg]; exact Nat.ne_of_gt (blk_lt (g := gb368) (o := .cells #[.string a0_0, .int .i64 a0_1, .int .i64 a0_2, .slice A0_3 l0_3.length c0_3, .string a0_4] 31 (0, 0)) (by (with_reducible repeat (first | refine blk_drewN ?_ _ | refine blk_drew ?_ | refine blk_alloc ?_ _)); exact BK368.out)) : gb369 ≠ gb368)); clear BK368; clear HB; have BK368 := n0_; have HB := n1_; have BK369 := n2_; have GW369 := n3_; have GE369 := n4_; have NB368_369 := n5_; have NB369_368 := n6_; clear n0_ n1_ n2_ n3_ n4_ n5_ n6_; clear hb hbox hg; have hnb12 := NB368_369.out; have hnc12 := NB369_368.out; have hcz13_0 : w11.cell? ⟨gb368, 0, none⟩ = some (.string a0_0) := (blk_cell BK368.out 0).trans rfl; have hcz13_1 : w11.cell? ⟨gb368, 1, none⟩ = some (.int .i64 a0_1) := (blk_cell BK368.out 1).trans rfl; have hcz13_2 : w11.cell? ⟨gb368, 2, none⟩ = some (.int .i64 a0_2) := (blk_cell BK368.out 2).trans rfl; have hcz13_3 : w11.cell? ⟨gb368, 3, none⟩ = some (.slice A0_3 l0_3.length c0_3) := (blk_cell BK368.out 3).trans rfl; have hcz13_4 : w11.cell? ⟨gb368, 4, none⟩ = some (.string a0_4) := (blk_cell BK368.out 4).trans rfl; have hfz13_0 := blk_frozen BK368.out 0; have hfz13_1 := blk_frozen BK368.out 1; have hfz13_2 := blk_frozen BK368.out 2; have hfz13_3 := blk_frozen BK368.out 3; have hfz13_4 := blk_frozen BK368.out 4; have hcz14_0 : w11.cell? ⟨gb369, 0, none⟩ = some (.string a1_0) := (blk_cell BK369.out 0).trans rfl; have hcz14_1 : w11.cell? ⟨gb369, 1, none⟩ = some (.int .i64 a1_1) := (blk_cell BK369.out 1).trans rfl; have hcz14_2 : w11.cell? ⟨gb369, 2, none⟩ = some (.int .i64 a1_2) := (blk_cell BK369.out 2).trans rfl; have hcz14_3 : w11.cell? ⟨gb369, 3, none⟩ = some (.slice A1_3 l1_3.length c1_3) := (blk_cell BK369.out 3).trans rfl; have hcz14_4 : w11.cell? ⟨gb369, 4, none⟩ = some (.string a1_4) := (blk_cell BK369.out 4).trans rfl; have hfz14_0 := blk_frozen BK369.out 0; have hfz14_1 := blk_frozen BK369.out 1; have hfz14_2 := blk_frozen BK369.out 2; have hfz14_3 := blk_frozen BK369.out 3; have hfz14_4 := blk_frozen BK369.out 4))
  go_ret
  exact ⟨by first | rfl | (simp [errW_none, errW_some] <;> rfl) | (simp [*, errW_none, errW_some] <;> rfl) | (simp [bt, *]; done) | (simp_all [bt]; done), by repeat (first | (with_reducible first | exact HB.out | apply below_alloc | apply pw_below_drewN | apply below_drew1 | refine below_set ?_ GE368.out | refine below_set ?_ GE369.out) | exact HB.out)⟩

end Go.Proofs.Ytopkmchkfcjjmaa.X
end

/-! ## TreeSame -/
section
namespace Go.Proofs.Ytopkmchkfcjjmaa.X
open Go.RowKit Go.Proofs.YtopkmchkfcjjmaaW.PrintWords Go.Proofs.YtopkmchkfcjjmaaW.PrintLast Go.Proofs.YtopkmchkfcjjmaaW.PrintMore
attribute [local go_sem] max2_int min2_int max_two min_two max_three min_three max_four min_four   -- for this text's walks alone
set_option linter.unusedVariables false
set_option linter.unusedSimpArgs false

attribute [local go_sem] str_gtr fld_fault0 fld_fault1
/-! ### tree_Same: function 28 -/
def alikeE (x y : S31) : Option Bool := tree_alike.f x.f0 x.f1 x.f2 x.f3 x.f4 y.f0 y.f1 y.f2 y.f3 y.f4

end Go.Proofs.Ytopkmchkfcjjmaa.X
end

/-! ## TreeDiff -/
section
namespace Go.Proofs.Ytopkmchkfcjjmaa.X
open Go.RowKit Go.Proofs.YtopkmchkfcjjmaaW.PrintWords Go.Proofs.YtopkmchkfcjjmaaW.PrintLast Go.Proofs.YtopkmchkfcjjmaaW.PrintMore
attribute [local go_sem] max2_int min2_int max_two min_two max_three min_three max_four min_four   -- for this text's walks alone
set_option linter.unusedVariables false
set_option linter.unusedSimpArgs false

attribute [local go_sem] str_gtr fld_fault0 fld_fault1
/-! ### tree_Diff: function 25 -/
/-- What is added, gone, changed, of what is left of both. -/
def tree_Diff.l0 : Nat → List (S31) → List (S31) → List ByteArray → List ByteArray → List ByteArray → Option (List ByteArray × List ByteArray × List ByteArray)
 | 0, _, _, _, _, _ => none
 | k + 1, a, b, x, y, z => if x.length < 8796093022208 ∧ y.length < 8796093022208 ∧ z.length < 8796093022208 then
   (if a.length = 0 then (if b.length = 0 then some (x, y, z) else tree_Diff.l0 k a (b.drop 1) (x ++ [(rd_T31 b 0).f0]) y z)
   else if b.length = 0 then tree_Diff.l0 k (a.drop 1) b x (y ++ [(rd_T31 a 0).f0]) z
   else (path_Compare.f k (rd_T31 a 0).f0 (rd_T31 b 0).f0).bind fun q =>
    if 0 < q then tree_Diff.l0 k a (b.drop 1) (x ++ [(rd_T31 b 0).f0]) y z
    else if q < 0 then tree_Diff.l0 k (a.drop 1) b x (y ++ [(rd_T31 a 0).f0]) z
    else (alikeE (rd_T31 a 0) (rd_T31 b 0)).bind fun t => tree_Diff.l0 k (a.drop 1) (b.drop 1) x y (if t = true then z else z ++ [(rd_T31 a 0).f0])) else none
def tree_Diff.f (k : Nat) (l0 : List (S31)) (l1 : List (S31)) : Option (List ByteArray × List ByteArray × List ByteArray) :=
 if l0.length < 1152921504606846976 ∧ l1.length < 1152921504606846976 then ((tree_Check.f k l0).bind fun e => (tree_Check.f k l1).bind fun g => if e.1 = 0 ∧ g.1 = 0 then tree_Diff.l0 k l0 l1 [] [] [] else some ([], [], [])) else none
theorem tree_Diff.mono_l0 : ∀ k a b x y z, LeO (tree_Diff.l0 k a b x y z) (tree_Diff.l0 (k + 1) a b x y z)
 | 0, _, _, _, _, _ => LeO.none _
 | k + 1, a, b, x, y, z => by
  unfold tree_Diff.l0
  exact LeO.ite (LeO.ite (LeO.ite (LeO.refl _) (tree_Diff.mono_l0 k _ _ _ _ _)) (LeO.ite (tree_Diff.mono_l0 k _ _ _ _ _) (LeO.bind (path_Compare.mono _ _ _) fun q => LeO.ite (tree_Diff.mono_l0 k _ _ _ _ _) (LeO.ite (tree_Diff.mono_l0 k _ _ _ _ _) (LeO.bind (LeO.refl _) fun t => tree_Diff.mono_l0 k _ _ _ _ _))))) (LeO.refl _)
theorem tree_Diff.mono : ∀ l0 l1 k, LeO (tree_Diff.f k l0 l1) (tree_Diff.f (k + 1) l0 l1) := by
 intro l0 l1 k
 unfold tree_Diff.f
 exact LeO.ite (LeO.bind (tree_Check.mono _ _) fun _ => LeO.bind (tree_Check.mono _ _) fun _ => LeO.ite (tree_Diff.mono_l0 _ _ _ _ _ _) (LeO.refl _)) (LeO.refl _)
/-- One entry less. -/
theorem tail_of {w : World} {A : Option Addr} {a : List (S31)} {n c : Nat} (h : Kd.C k31 w A n a) (hn : 0 < n) (hc : n ≤ c) :
  (∀ W : World, (Instr.slice 22 (.slice A n c) (some (.int .i64 1)) none none).run Try.prog W = .ok (.slice (if c = 1 then A else A.map (·.add (1 * 5))) (n - 1) (c - 1)) W) ∧ Kd.C k31 w (if c = 1 then A else A.map (·.add (1 * 5))) (n - 1) (a.drop 1) := by
 have hl := Kd.C_len h
 subst hl
 obtain ⟨i0, hi0, _, hsz, _⟩ := info_parts info31
 refine ⟨cut_from (P := Try.prog) 22 31 .i64 Try.underlying22 hi0 5 hsz A a.length c 1 (by omega) (by omega), ?_⟩
 have h2 := Kd.C_drop (m := 1) (c := c) h (by omega) hc
 rw [List.length_drop] at h2
 exact h2
def lenOf : Value → Nat | .slice _ n _ => n | _ => 0
set_option maxHeartbeats 8000000 in
set_option maxRecDepth 100000 in
theorem tree_Diff.calls (k : Nat) (A0 : Option Addr) (c0 : Nat) (l0 : List (S31)) (A1 : Option Addr) (c1 : Nat) (l1 : List (S31)) (r1 : List ByteArray) (r2 : List ByteArray) (r3 : List ByteArray) (w : World) (hr0 : Kd.C k31 w A0 l0.length l0) (hc0 : l0.length ≤ c0) (hr1 : Kd.C k31 w A1 l1.length l1) (hc1 : l1.length ≤ c1) (h : tree_Diff.f k l0 l1 = some (r1, r2, r3)) :
  Calls Try.prog 25 #[.slice A0 l0.length c0, .slice A1 l1.length c1] w fun e w' => ∃ v0_ v1_ v2_ : Value, e = .returned (.tuple #[v0_, v1_, v2_]) ∧ Kd.R Kd.string 9 w' w.heap.size (fun k_ => some k_ ≠ (v1_ : Value).ownBlock ∧ some k_ ≠ (v2_ : Value).ownBlock) v0_ r1 ∧ Kd.R Kd.string 9 w' w.heap.size (fun k_ => some k_ ≠ (v0_ : Value).ownBlock ∧ some k_ ≠ (v2_ : Value).ownBlock) v1_ r2 ∧ Kd.R Kd.string 9 w' w.heap.size (fun k_ => some k_ ≠ (v0_ : Value).ownBlock ∧ some k_ ≠ (v1_ : Value).ownBlock) v2_ r3 ∧ Below w.heap.size w w' := by
 unfold tree_Diff.f at h
 by_cases c00 : l0.length < 1152921504606846976 ∧ l1.length < 1152921504606846976
 ·rw [if_pos c00] at h
  obtain ⟨⟨e1, e2⟩, he, h1⟩ := Option.bind_eq_some_iff.mp h
  clear h
  obtain ⟨⟨g1, g2⟩, hg, h⟩ := Option.bind_eq_some_iff.mp h1
  clear h1
  have HLEN := Aside0.mk c00
  have HE := Aside0.mk he
  have HG := Aside0.mk hg
  have HR0 := Aside0.mk hr0
  have HR1 := Aside0.mk hr1
  clear c00 he hg hr0 hr1
  by_cases c3 : e1 = 0 ∧ g1 = 0
  ·rw [if_pos c3] at h
   have HL := Aside0.mk h
   clear h
   obtain ⟨rfl, rfl⟩ := c3
   go_enter Try.func25, Try.ntmps25
   go_wp2_with (first
    | (go_at_call_of 11 (Value.slice A0 l0.length c0); refine (tree_Check.calls k A0 c0 l0 0 e2 _ HR0.out hc0 HE.out).mono ?_; rintro e w2 ⟨rfl, hb⟩; have HB2 := Aside0.mk hb; clear hb)
    | (go_at_call_of 11 (Value.slice A1 l1.length c1); refine (tree_Check.calls k A1 c1 l1 0 g2 _ (Kd.C_below HR1.out HB2.out) hc1 HG.out).mono ?_; rintro e w3 ⟨rfl, hb⟩; have HB3 := Aside0.mk (below_step HB2.out hb); clear hb))
   have HT3 := Aside0.mk (Three.nil w3 w.heap.size)
   go_loopw [0, 1, 4, 5, 6] (fun v0 v1 v4 v5 v6 wr => ∃ (kk na nb ca cb : Nat) (A B : Option Addr) (a b : List (S31)) (x y z : List ByteArray), v0 = .slice A na ca ∧ v1 = .slice B nb cb ∧ na ≤ ca ∧ nb ≤ cb ∧ na ≤ l0.length ∧ nb ≤ l1.length ∧ Aside0 (Kd.C k31 w A na a) ∧ Aside0 (Kd.C k31 w B nb b) ∧ Aside0 (tree_Diff.l0 kk a b x y z = some (r1, r2, r3)) ∧ Aside0 (Three wr w.heap.size v4 v5 v6 x y z) ∧ Aside0 (Below w.heap.size w wr)) (fun v0 v1 _ _ _ _ => lenOf v0 + lenOf v1)
   case atStart => exact ⟨k, l0.length, l1.length, c0, c1, A0, A1, l0, l1, [], [], [], rfl, rfl, hc0, hc1, Nat.le_refl _, Nat.le_refl _, HR0, HR1, HL, HT3, HB3⟩
   case round =>
    clear HT3 HL
    obtain ⟨kk, na, nb, ca, cb, A, B, a, b, x, y, z, rfl, rfl, hca, hcb, hna, hnb, HA, HB, HI, HT, HW⟩ := hrel
    have hlen0 : na < 1152921504606846976 := by have := HLEN.out; omega
    have hlen1 : nb < 1152921504606846976 := by have := HLEN.out; omega
    cases kk with
    | zero => cases HI.out
    | succ kk =>
     have h2 := HI.out
     unfold tree_Diff.l0 at h2
     by_cases c2 : x.length < 8796093022208 ∧ y.length < 8796093022208 ∧ z.length < 8796093022208
     ·rw [if_pos c2] at h2
      have LM := Aside0.mk c2
      clear HI c2
      have hla := Kd.C_len HA.out
      have hlb := Kd.C_len HB.out
      rw [hla, hlb] at h2
      clear hla hlb
      by_cases ca0 : na = 0
      ·rw [if_pos ca0] at h2
       by_cases cb0 : nb = 0
       ·rw [if_pos cb0] at h2
        obtain ⟨rfl, rfl, rfl⟩ : x = r1 ∧ y = r2 ∧ z = r3 := by simpa using h2
        clear h2
        subst ca0 cb0
        go_wp2
        refine bodyPost_ret (v := .tuple #[u4, u5, u6]) (by simp [results, Try.results25, go_sem]) rfl ⟨u4, u5, u6, rfl, HT.out.tell.1, HT.out.tell.2.1, HT.out.tell.2.2, HW.out⟩
       ·rw [if_neg cb0] at h2
        have H2 := Aside0.mk h2
        clear h2
        have hpb : 0 < nb := Nat.pos_of_ne_zero cb0
        subst ca0
        have HTW := HT
        have HWW := HW
        obtain ⟨adB, AB_, cB_, e, hy0, hy1, hy2, hy3, hy4, hl, hi⟩ := at_T31 (Kd.C_below HB.out HW.out) 0 (by omega) (by omega)
        cases e
        simp only [show (0 : Int).toNat = 0 from rfl, Nat.zero_mul, Addr.add_zero'] at hy0 hy1 hy2 hy3 hy4
        have HLB := Aside0.mk hl
        have HIB := Aside0.mk hi
        clear hl hi
        have hcutB := (tail_of HB.out hpb hcb).1
        have HCB := Aside0.mk (tail_of HB.out hpb hcb).2
        clear cb0
        go_wp2_with ((with_reducible refine gate_builtin (b := .append) (xs := #[.tmp 54, .tmp 59]) rfl ?_); at_builtin; refine Kd.R_append Kd.string (w0 := w) w.heap.size rfl (.tmp 54) (.tmp 59) 44 9 (.string ⟨#[]⟩) 16 rfl Try.underlying44 info9 rfl (by decide) (by omega) u4 x (rd_T31 b 0).f0 [.string (rd_T31 b 0).f0] (fun _ => True) (fun _ => False) rfl rfl ?aP (fun _ hk => hk.elim) ?aF ?aO ?aB ?aS ?aL ?_; (case aP => exact rfl); (case aF => exact (fun _ _ => trivial)); (case aO => exact HTW.out.1); (case aB => exact HWW.out); (case aS => exact (below_size HWW.out)); (case aL => have := LM.out.1; omega); intro va wa ho hb hg hat; have HT3 := Aside0.mk (Three.app4 HTW.out ho hg hat); have HW3 := Aside0.mk hb; clear ho hg hat hb)
        go_roundw
        case rel => exact ⟨kk, 0, nb - 1, ca, cb - 1, A, (if cb = 1 then some adB else (some adB : Option Addr).map (·.add (1 * 5))), a, b.drop 1, _, _, _, rfl, rfl, by omega, by omega, by omega, by omega, HA, HCB, H2, HT3, HW3⟩
        case measure => simp [lenOf]; omega
      ·rw [if_neg ca0] at h2
       by_cases cb0 : nb = 0
       ·rw [if_pos cb0] at h2
        have H2 := Aside0.mk h2
        clear h2
        have hpa : 0 < na := Nat.pos_of_ne_zero ca0
        have da : ((na : Int) == 0) = false := beq_eq_false_iff_ne.mpr (by omega)
        have da1 : (na == 0) = false := beq_eq_false_iff_ne.mpr (by omega)
        subst cb0
        have HTW := HT
        have HWW := HW
        obtain ⟨adA, AA_, cA_, e, hx0, hx1, hx2, hx3, hx4, hl, hi⟩ := at_T31 (Kd.C_below HA.out HW.out) 0 (by omega) (by omega)
        cases e
        simp only [show (0 : Int).toNat = 0 from rfl, Nat.zero_mul, Addr.add_zero'] at hx0 hx1 hx2 hx3 hx4
        have HLA := Aside0.mk hl
        have HIA := Aside0.mk hi
        clear hl hi
        have hcutA := (tail_of HA.out hpa hca).1
        have HCA := Aside0.mk (tail_of HA.out hpa hca).2
        clear ca0
        go_wp2_with ((with_reducible refine gate_builtin (b := .append) (xs := #[.tmp 64, .tmp 69]) rfl ?_); at_builtin; refine Kd.R_append Kd.string (w0 := w) w.heap.size rfl (.tmp 64) (.tmp 69) 44 9 (.string ⟨#[]⟩) 16 rfl Try.underlying44 info9 rfl (by decide) (by omega) u5 y (rd_T31 a 0).f0 [.string (rd_T31 a 0).f0] (fun _ => True) (fun _ => False) rfl rfl ?aP (fun _ hk => hk.elim) ?aF ?aO ?aB ?aS ?aL ?_; (case aP => exact rfl); (case aF => exact (fun _ _ => trivial)); (case aO => exact HTW.out.2.1); (case aB => exact HWW.out); (case aS => exact (below_size HWW.out)); (case aL => have := LM.out.2.1; omega); intro va wa ho hb hg hat; have HT3 := Aside0.mk (Three.app5 HTW.out ho hg hat); have HW3 := Aside0.mk hb; clear ho hg hat hb)
        go_roundw
        case rel => exact ⟨kk, na - 1, 0, ca - 1, cb, (if ca = 1 then some adA else (some adA : Option Addr).map (·.add (1 * 5))), B, a.drop 1, b, _, _, _, rfl, rfl, by omega, by omega, by omega, by omega, HCA, HB, H2, HT3, HW3⟩
        case measure => simp [lenOf]; omega
       ·rw [if_neg cb0] at h2
        have hpa : 0 < na := Nat.pos_of_ne_zero ca0
        have hpb : 0 < nb := Nat.pos_of_ne_zero cb0
        have da : ((na : Int) == 0) = false := beq_eq_false_iff_ne.mpr (by omega)
        have da1 : (na == 0) = false := beq_eq_false_iff_ne.mpr (by omega)
        have db : ((nb : Int) == 0) = false := beq_eq_false_iff_ne.mpr (by omega)
        have db1 : (nb == 0) = false := beq_eq_false_iff_ne.mpr (by omega)
        clear ca0 cb0
        obtain ⟨q, hq, h3⟩ := Option.bind_eq_some_iff.mp h2
        clear h2
        have HQ := Aside0.mk hq
        clear hq
        obtain ⟨adA, AA_, cA_, e, hx0, hx1, hx2, hx3, hx4, hl, hi⟩ := at_T31 (Kd.C_below HA.out HW.out) 0 (by omega) (by omega)
        cases e
        simp only [show (0 : Int).toNat = 0 from rfl, Nat.zero_mul, Addr.add_zero'] at hx0 hx1 hx2 hx3 hx4
        have HLA := Aside0.mk hl
        have HIA := Aside0.mk hi
        clear hl hi
        obtain ⟨adB, AB_, cB_, e, hy0, hy1, hy2, hy3, hy4, hl, hi⟩ := at_T31 (Kd.C_below HB.out HW.out) 0 (by omega) (by omega)
        cases e
        simp only [show (0 : Int).toNat = 0 from rfl, Nat.zero_mul, Addr.add_zero'] at hy0 hy1 hy2 hy3 hy4
        have HLB := Aside0.mk hl
        have HIB := Aside0.mk hi
        clear hl hi
        have hcutA := (tail_of HA.out hpa hca).1
        have HCA := Aside0.mk (tail_of HA.out hpa hca).2
        have hcutB := (tail_of HB.out hpb hcb).1
        have HCB := Aside0.mk (tail_of HB.out hpb hcb).2
        have Khx0 := Aside0.mk hx0
        have Khx1 := Aside0.mk hx1
        have Khx2 := Aside0.mk hx2
        have Khx3 := Aside0.mk hx3
        have Khx4 := Aside0.mk hx4
        have Khy0 := Aside0.mk hy0
        have Khy1 := Aside0.mk hy1
        have Khy2 := Aside0.mk hy2
        have Khy3 := Aside0.mk hy3
        have Khy4 := Aside0.mk hy4
        by_cases cq : 0 < q
        ·rw [if_pos cq] at h3
         have H2 := Aside0.mk h3
         have dq : decide (q ≤ 0) = false := decide_eq_false (by omega)
         have dq2 : decide (0 ≤ q) = true := decide_eq_true (by omega)
         clear h3
         go_upto_region 7 with (fail)
         refine wp_region_still_tail 8 (by kernel_rfl) (by kernel_rfl) ?_
         change wpStill _ _ (World.drew wr) (fun a' => wpList _ _ _ _ a' (World.drew wr)) _ _
         have HBw : Aside0 (Below wr.heap.size wr (World.drew wr)) := ⟨below_drew (Below.refl _ _)⟩
         generalize World.drew wr = wq at HBw ⊢
         replace hx0 := (HBw.out.cell (World.block_lt_of_cell? wr _ hx0)).trans hx0
         replace hx1 := (HBw.out.cell (World.block_lt_of_cell? wr _ hx1)).trans hx1
         replace hx2 := (HBw.out.cell (World.block_lt_of_cell? wr _ hx2)).trans hx2
         replace hx3 := (HBw.out.cell (World.block_lt_of_cell? wr _ hx3)).trans hx3
         replace hx4 := (HBw.out.cell (World.block_lt_of_cell? wr _ hx4)).trans hx4
         replace hy0 := (HBw.out.cell (World.block_lt_of_cell? wr _ hy0)).trans hy0
         replace hy1 := (HBw.out.cell (World.block_lt_of_cell? wr _ hy1)).trans hy1
         replace hy2 := (HBw.out.cell (World.block_lt_of_cell? wr _ hy2)).trans hy2
         replace hy3 := (HBw.out.cell (World.block_lt_of_cell? wr _ hy3)).trans hy3
         replace hy4 := (HBw.out.cell (World.block_lt_of_cell? wr _ hy4)).trans hy4
         simp only [List.take_succ_cons, List.take_zero, List.drop_succ_cons, List.drop_zero]
         repeat still_step
         try refine wpStill_nil ?_
         clear hx1 hx2 hx3 hx4 hy1 hy2 hy3 hy4
         go_wp2_with (first | (go_at_call 17; refine (path_Compare.calls kk (rd_T31 a 0).f0 (rd_T31 b 0).f0 q _ HQ.out).mono ?_; rintro e w2 ⟨rfl, hb⟩; have HB2 := Aside0.mk (below_step HBw.out hb); have HTW := Aside0.mk (HT.out.below HB2.out); have HWW := Aside0.mk (below_step HW.out HB2.out); clear hb; have hx0b := (HB2.out.cell (World.block_lt_of_cell? wr _ Khx0.out)).trans Khx0.out; have hx1b := (HB2.out.cell (World.block_lt_of_cell? wr _ Khx1.out)).trans Khx1.out; have hx2b := (HB2.out.cell (World.block_lt_of_cell? wr _ Khx2.out)).trans Khx2.out; have hx3b := (HB2.out.cell (World.block_lt_of_cell? wr _ Khx3.out)).trans Khx3.out; have hx4b := (HB2.out.cell (World.block_lt_of_cell? wr _ Khx4.out)).trans Khx4.out; have hy0b := (HB2.out.cell (World.block_lt_of_cell? wr _ Khy0.out)).trans Khy0.out; have hy1b := (HB2.out.cell (World.block_lt_of_cell? wr _ Khy1.out)).trans Khy1.out; have hy2b := (HB2.out.cell (World.block_lt_of_cell? wr _ Khy2.out)).trans Khy2.out; have hy3b := (HB2.out.cell (World.block_lt_of_cell? wr _ Khy3.out)).trans Khy3.out; have hy4b := (HB2.out.cell (World.block_lt_of_cell? wr _ Khy4.out)).trans Khy4.out) | ((with_reducible refine gate_builtin (b := .append) (xs := #[.tmp 54, .tmp 59]) rfl ?_); at_builtin; refine Kd.R_append Kd.string (w0 := w) w.heap.size rfl (.tmp 54) (.tmp 59) 44 9 (.string ⟨#[]⟩) 16 rfl Try.underlying44 info9 rfl (by decide) (by omega) u4 x (rd_T31 b 0).f0 [.string (rd_T31 b 0).f0] (fun _ => True) (fun _ => False) rfl rfl ?aP (fun _ hk => hk.elim) ?aF ?aO ?aB ?aS ?aL ?_; (case aP => exact rfl); (case aF => exact (fun _ _ => trivial)); (case aO => exact HTW.out.1); (case aB => exact HWW.out); (case aS => exact (below_size HWW.out)); (case aL => have := LM.out.1; omega); intro va wa ho hb hg hat; have HT3 := Aside0.mk (Three.app4 HTW.out ho hg hat); have HW3 := Aside0.mk hb; clear ho hg hat hb))
         go_roundw
         case rel => exact ⟨kk, na, nb - 1, ca, cb - 1, _, (if cb = 1 then some adB else (some adB : Option Addr).map (·.add (1 * 5))), a, b.drop 1, _, _, _, rfl, rfl, by omega, by omega, by omega, by omega, HA, HCB, H2, HT3, HW3⟩
         case measure => simp [lenOf]; omega
        ·rw [if_neg cq] at h3
         by_cases cq2 : q < 0
         ·rw [if_pos cq2] at h3
          have H2 := Aside0.mk h3
          have dq : decide (q ≤ 0) = true := decide_eq_true (by omega)
          have dq2 : decide (0 ≤ q) = false := decide_eq_false (by omega)
          clear h3
          go_upto_region 7 with (fail)
          refine wp_region_still_tail 8 (by kernel_rfl) (by kernel_rfl) ?_
          change wpStill _ _ (World.drew wr) (fun a' => wpList _ _ _ _ a' (World.drew wr)) _ _
          have HBw : Aside0 (Below wr.heap.size wr (World.drew wr)) := ⟨below_drew (Below.refl _ _)⟩
          generalize World.drew wr = wq at HBw ⊢
          replace hx0 := (HBw.out.cell (World.block_lt_of_cell? wr _ hx0)).trans hx0
          replace hx1 := (HBw.out.cell (World.block_lt_of_cell? wr _ hx1)).trans hx1
          replace hx2 := (HBw.out.cell (World.block_lt_of_cell? wr _ hx2)).trans hx2
          replace hx3 := (HBw.out.cell (World.block_lt_of_cell? wr _ hx3)).trans hx3
          replace hx4 := (HBw.out.cell (World.block_lt_of_cell? wr _ hx4)).trans hx4
          replace hy0 := (HBw.out.cell (World.block_lt_of_cell? wr _ hy0)).trans hy0
          replace hy1 := (HBw.out.cell (World.block_lt_of_cell? wr _ hy1)).trans hy1
          replace hy2 := (HBw.out.cell (World.block_lt_of_cell? wr _ hy2)).trans hy2
          replace hy3 := (HBw.out.cell (World.block_lt_of_cell? wr _ hy3)).trans hy3
          replace hy4 := (HBw.out.cell (World.block_lt_of_cell? wr _ hy4)).trans hy4
          simp only [List.take_succ_cons, List.take_zero, List.drop_succ_cons, List.drop_zero]
          repeat still_step
          try refine wpStill_nil ?_
          clear hx1 hx2 hx3 hx4 hy1 hy2 hy3 hy4
          go_wp2_with (first | (go_at_call 17; refine (path_Compare.calls kk (rd_T31 a 0).f0 (rd_T31 b 0).f0 q _ HQ.out).mono ?_; rintro e w2 ⟨rfl, hb⟩; have HB2 := Aside0.mk (below_step HBw.out hb); have HTW := Aside0.mk (HT.out.below HB2.out); have HWW := Aside0.mk (below_step HW.out HB2.out); clear hb; have hx0b := (HB2.out.cell (World.block_lt_of_cell? wr _ Khx0.out)).trans Khx0.out; have hx1b := (HB2.out.cell (World.block_lt_of_cell? wr _ Khx1.out)).trans Khx1.out; have hx2b := (HB2.out.cell (World.block_lt_of_cell? wr _ Khx2.out)).trans Khx2.out; have hx3b := (HB2.out.cell (World.block_lt_of_cell? wr _ Khx3.out)).trans Khx3.out; have hx4b := (HB2.out.cell (World.block_lt_of_cell? wr _ Khx4.out)).trans Khx4.out; have hy0b := (HB2.out.cell (World.block_lt_of_cell? wr _ Khy0.out)).trans Khy0.out; have hy1b := (HB2.out.cell (World.block_lt_of_cell? wr _ Khy1.out)).trans Khy1.out; have hy2b := (HB2.out.cell (World.block_lt_of_cell? wr _ Khy2.out)).trans Khy2.out; have hy3b := (HB2.out.cell (World.block_lt_of_cell? wr _ Khy3.out)).trans Khy3.out; have hy4b := (HB2.out.cell (World.block_lt_of_cell? wr _ Khy4.out)).trans Khy4.out) | ((with_reducible refine gate_builtin (b := .append) (xs := #[.tmp 64, .tmp 69]) rfl ?_); at_builtin; refine Kd.R_append Kd.string (w0 := w) w.heap.size rfl (.tmp 64) (.tmp 69) 44 9 (.string ⟨#[]⟩) 16 rfl Try.underlying44 info9 rfl (by decide) (by omega) u5 y (rd_T31 a 0).f0 [.string (rd_T31 a 0).f0] (fun _ => True) (fun _ => False) rfl rfl ?aP (fun _ hk => hk.elim) ?aF ?aO ?aB ?aS ?aL ?_; (case aP => exact rfl); (case aF => exact (fun _ _ => trivial)); (case aO => exact HTW.out.2.1); (case aB => exact HWW.out); (case aS => exact (below_size HWW.out)); (case aL => have := LM.out.2.1; omega); intro va wa ho hb hg hat; have HT3 := Aside0.mk (Three.app5 HTW.out ho hg hat); have HW3 := Aside0.mk hb; clear ho hg hat hb))
          go_roundw
          case rel => exact ⟨kk, na - 1, nb, ca - 1, cb, (if ca = 1 then some adA else (some adA : Option Addr).map (·.add (1 * 5))), _, a.drop 1, b, _, _, _, rfl, rfl, by omega, by omega, by omega, by omega, HCA, HB, H2, HT3, HW3⟩
          case measure => simp [lenOf]; omega
         ·rw [if_neg cq2] at h3
          obtain rfl : q = 0 := by omega
          obtain ⟨t, ht, h4⟩ := Option.bind_eq_some_iff.mp h3
          clear h3 cq cq2
          have HAL := Aside0.mk (show tree_alike.f (rd_T31 a 0).f0 (rd_T31 a 0).f1 (rd_T31 a 0).f2 (rd_T31 a 0).f3 (rd_T31 a 0).f4 (rd_T31 b 0).f0 (rd_T31 b 0).f1 (rd_T31 b 0).f2 (rd_T31 b 0).f3 (rd_T31 b 0).f4 = some t from ht)
          have H2 := Aside0.mk h4
          clear ht h4
          go_upto_region 7 with (fail)
          refine wp_region_still_tail 8 (by kernel_rfl) (by kernel_rfl) ?_
          change wpStill _ _ (World.drew wr) (fun a' => wpList _ _ _ _ a' (World.drew wr)) _ _
          have HBw : Aside0 (Below wr.heap.size wr (World.drew wr)) := ⟨below_drew (Below.refl _ _)⟩
          generalize World.drew wr = wq at HBw ⊢
          replace hx0 := (HBw.out.cell (World.block_lt_of_cell? wr _ hx0)).trans hx0
          replace hx1 := (HBw.out.cell (World.block_lt_of_cell? wr _ hx1)).trans hx1
          replace hx2 := (HBw.out.cell (World.block_lt_of_cell? wr _ hx2)).trans hx2
          replace hx3 := (HBw.out.cell (World.block_lt_of_cell? wr _ hx3)).trans hx3
          replace hx4 := (HBw.out.cell (World.block_lt_of_cell? wr _ hx4)).trans hx4
          replace hy0 := (HBw.out.cell (World.block_lt_of_cell? wr _ hy0)).trans hy0
          replace hy1 := (HBw.out.cell (World.block_lt_of_cell? wr _ hy1)).trans hy1
          replace hy2 := (HBw.out.cell (World.block_lt_of_cell? wr _ hy2)).trans hy2
          replace hy3 := (HBw.out.cell (World.block_lt_of_cell? wr _ hy3)).trans hy3
          replace hy4 := (HBw.out.cell (World.block_lt_of_cell? wr _ hy4)).trans hy4
          simp only [List.take_succ_cons, List.take_zero, List.drop_succ_cons, List.drop_zero]
          repeat still_step
          try refine wpStill_nil ?_
          clear hx1 hx2 hx3 hx4 hy1 hy2 hy3 hy4
          go_upto_region 16 with ((go_at_call 17; refine (path_Compare.calls kk (rd_T31 a 0).f0 (rd_T31 b 0).f0 0 _ HQ.out).mono ?_; rintro e w2 ⟨rfl, hb⟩; have HB2 := Aside0.mk (below_step HBw.out hb); have HTW := Aside0.mk (HT.out.below HB2.out); have HWW := Aside0.mk (below_step HW.out HB2.out); clear hb; have hx0b := (HB2.out.cell (World.block_lt_of_cell? wr _ Khx0.out)).trans Khx0.out; have hx1b := (HB2.out.cell (World.block_lt_of_cell? wr _ Khx1.out)).trans Khx1.out; have hx2b := (HB2.out.cell (World.block_lt_of_cell? wr _ Khx2.out)).trans Khx2.out; have hx3b := (HB2.out.cell (World.block_lt_of_cell? wr _ Khx3.out)).trans Khx3.out; have hx4b := (HB2.out.cell (World.block_lt_of_cell? wr _ Khx4.out)).trans Khx4.out; have hy0b := (HB2.out.cell (World.block_lt_of_cell? wr _ Khy0.out)).trans Khy0.out; have hy1b := (HB2.out.cell (World.block_lt_of_cell? wr _ Khy1.out)).trans Khy1.out; have hy2b := (HB2.out.cell (World.block_lt_of_cell? wr _ Khy2.out)).trans Khy2.out; have hy3b := (HB2.out.cell (World.block_lt_of_cell? wr _ Khy3.out)).trans Khy3.out; have hy4b := (HB2.out.cell (World.block_lt_of_cell? wr _ Khy4.out)).trans Khy4.out))
          cases t with
          | true =>
           refine wp_region_still_tail 6 (by kernel_rfl) (by kernel_rfl) ?_
           change wpStill _ _ (World.drew w2) (fun a' => wpList _ _ _ _ a' (World.drew w2)) _ _
           have HBu : Aside0 (Below w2.heap.size w2 (World.drew w2)) := ⟨below_drew (Below.refl _ _)⟩
           generalize World.drew w2 = wu at HBu ⊢
           replace hx0b := (HBu.out.cell (World.block_lt_of_cell? w2 _ hx0b)).trans hx0b
           replace hx1b := (HBu.out.cell (World.block_lt_of_cell? w2 _ hx1b)).trans hx1b
           replace hx2b := (HBu.out.cell (World.block_lt_of_cell? w2 _ hx2b)).trans hx2b
           replace hx3b := (HBu.out.cell (World.block_lt_of_cell? w2 _ hx3b)).trans hx3b
           replace hx4b := (HBu.out.cell (World.block_lt_of_cell? w2 _ hx4b)).trans hx4b
           replace hy0b := (HBu.out.cell (World.block_lt_of_cell? w2 _ hy0b)).trans hy0b
           replace hy1b := (HBu.out.cell (World.block_lt_of_cell? w2 _ hy1b)).trans hy1b
           replace hy2b := (HBu.out.cell (World.block_lt_of_cell? w2 _ hy2b)).trans hy2b
           replace hy3b := (HBu.out.cell (World.block_lt_of_cell? w2 _ hy3b)).trans hy3b
           replace hy4b := (HBu.out.cell (World.block_lt_of_cell? w2 _ hy4b)).trans hy4b
           simp only [List.take_succ_cons, List.take_zero, List.drop_succ_cons, List.drop_zero]
           repeat still_step
           try refine wpStill_nil ?_
           have HBv := Aside0.mk (below_step HB2.out HBu.out)
           go_wp2_with (go_at_call 53; refine (tree_alike.calls (rd_T31 a 0).f0 (rd_T31 a 0).f1 (rd_T31 a 0).f2 _ _ (rd_T31 a 0).f3 (rd_T31 a 0).f4 (rd_T31 b 0).f0 (rd_T31 b 0).f1 (rd_T31 b 0).f2 _ _ (rd_T31 b 0).f3 (rd_T31 b 0).f4 true _ (Kd.C_below HIA.out HBv.out) HLA.out (Kd.C_below HIB.out HBv.out) HLB.out HAL.out).mono ?_; rintro e w4 ⟨rfl, hb⟩; have HB4 := Aside0.mk (below_step HBv.out hb); clear hb; have HT3 := Aside0.mk (HT.out.below HB4.out); have HW3 := Aside0.mk (below_step HW.out HB4.out))
           go_roundw
           case rel => exact ⟨kk, na - 1, nb - 1, ca - 1, cb - 1, (if ca = 1 then some adA else (some adA : Option Addr).map (·.add (1 * 5))), (if cb = 1 then some adB else (some adB : Option Addr).map (·.add (1 * 5))), a.drop 1, b.drop 1, _, _, z, rfl, rfl, by omega, by omega, by omega, by omega, HCA, HCB, H2, HT3, HW3⟩
           case measure => simp [lenOf]; omega
          | false =>
           refine wp_region_still_tail 6 (by kernel_rfl) (by kernel_rfl) ?_
           change wpStill _ _ (World.drew w2) (fun a' => wpList _ _ _ _ a' (World.drew w2)) _ _
           have HBu : Aside0 (Below w2.heap.size w2 (World.drew w2)) := ⟨below_drew (Below.refl _ _)⟩
           generalize World.drew w2 = wu at HBu ⊢
           replace hx0b := (HBu.out.cell (World.block_lt_of_cell? w2 _ hx0b)).trans hx0b
           replace hx1b := (HBu.out.cell (World.block_lt_of_cell? w2 _ hx1b)).trans hx1b
           replace hx2b := (HBu.out.cell (World.block_lt_of_cell? w2 _ hx2b)).trans hx2b
           replace hx3b := (HBu.out.cell (World.block_lt_of_cell? w2 _ hx3b)).trans hx3b
           replace hx4b := (HBu.out.cell (World.block_lt_of_cell? w2 _ hx4b)).trans hx4b
           replace hy0b := (HBu.out.cell (World.block_lt_of_cell? w2 _ hy0b)).trans hy0b
           replace hy1b := (HBu.out.cell (World.block_lt_of_cell? w2 _ hy1b)).trans hy1b
           replace hy2b := (HBu.out.cell (World.block_lt_of_cell? w2 _ hy2b)).trans hy2b
           replace hy3b := (HBu.out.cell (World.block_lt_of_cell? w2 _ hy3b)).trans hy3b
           replace hy4b := (HBu.out.cell (World.block_lt_of_cell? w2 _ hy4b)).trans hy4b
           simp only [List.take_succ_cons, List.take_zero, List.drop_succ_cons, List.drop_zero]
           repeat still_step
           try refine wpStill_nil ?_
           have HBv := Aside0.mk (below_step HB2.out HBu.out)
           go_wp2_with (first | (go_at_call 53; refine (tree_alike.calls (rd_T31 a 0).f0 (rd_T31 a 0).f1 (rd_T31 a 0).f2 _ _ (rd_T31 a 0).f3 (rd_T31 a 0).f4 (rd_T31 b 0).f0 (rd_T31 b 0).f1 (rd_T31 b 0).f2 _ _ (rd_T31 b 0).f3 (rd_T31 b 0).f4 false _ (Kd.C_below HIA.out HBv.out) HLA.out (Kd.C_below HIB.out HBv.out) HLB.out HAL.out).mono ?_; rintro e w4 ⟨rfl, hb⟩; have HB4 := Aside0.mk (below_step HBv.out hb); clear hb; have HTV := Aside0.mk (HT.out.below HB4.out); have HWV := Aside0.mk (below_step HW.out HB4.out); have hw0 := (HB4.out.cell (World.block_lt_of_cell? wr _ Khx0.out)).trans Khx0.out) | ((with_reducible refine gate_builtin (b := .append) (xs := #[.tmp 80, .tmp 85]) rfl ?_); at_builtin; refine Kd.R_append Kd.string (w0 := w) w.heap.size rfl (.tmp 80) (.tmp 85) 44 9 (.string ⟨#[]⟩) 16 rfl Try.underlying44 info9 rfl (by decide) (by omega) u6 z (rd_T31 a 0).f0 [.string (rd_T31 a 0).f0] (fun _ => True) (fun _ => False) rfl rfl ?aP (fun _ hk => hk.elim) ?aF ?aO ?aB ?aS ?aL ?_; (case aP => exact rfl); (case aF => exact (fun _ _ => trivial)); (case aO => exact HTV.out.2.2.1); (case aB => exact HWV.out); (case aS => exact (below_size HWV.out)); (case aL => have := LM.out.2.2; omega); intro va wa ho hb hg hat; have HT3 := Aside0.mk (Three.app6 HTV.out ho hg hat); have HW3 := Aside0.mk hb; clear ho hg hat hb))
           go_roundw
           case rel => exact ⟨kk, na - 1, nb - 1, ca - 1, cb - 1, (if ca = 1 then some adA else (some adA : Option Addr).map (·.add (1 * 5))), (if cb = 1 then some adB else (some adB : Option Addr).map (·.add (1 * 5))), a.drop 1, b.drop 1, _, _, _, rfl, rfl, by omega, by omega, by omega, by omega, HCA, HCB, H2, HT3, HW3⟩
           case measure => simp [lenOf]; omega
     ·rw [if_neg c2] at h2
      cases h2
  ·rw [if_neg c3] at h
   simp only [Option.some.injEq, Prod.mk.injEq] at h
   obtain ⟨rfl, rfl, rfl⟩ := h
   by_cases c4 : e1 = 0
   ·have c5 : g1 ≠ 0 := fun e => c3 ⟨c4, e⟩
    have d4 : (e1 != 0) = false := bne_eq_false_iff_eq.mpr c4
    have d5 : (g1 != 0) = true := bne_iff_ne.mpr c5
    clear c3 c4 c5
    go_enter Try.func25, Try.ntmps25
    go_wp2_with (first
    | (go_at_call_of 11 (Value.slice A0 l0.length c0); refine (tree_Check.calls k A0 c0 l0 e1 e2 _ HR0.out hc0 HE.out).mono ?_; rintro e w2 ⟨rfl, hb⟩; have HB2 := Aside0.mk hb; clear hb)
    | (go_at_call_of 11 (Value.slice A1 l1.length c1); refine (tree_Check.calls k A1 c1 l1 g1 g2 _ (Kd.C_below HR1.out HB2.out) hc1 HG.out).mono ?_; rintro e w3 ⟨rfl, hb⟩; have HB3 := Aside0.mk (below_step HB2.out hb); clear hb))
    refine bodyPost_ret (v := .tuple #[.slice none 0 0, .slice none 0 0, .slice none 0 0]) (by simp [results, Try.results25, go_sem]) rfl ⟨_, _, _, rfl, (Three.nil w3 w.heap.size).tell.1, (Three.nil w3 w.heap.size).tell.2.1, (Three.nil w3 w.heap.size).tell.2.2, HB3.out⟩
   ·have d4 : (e1 != 0) = true := bne_iff_ne.mpr c4
    clear c3 c4
    go_enter Try.func25, Try.ntmps25
    go_wp2_with (first
    | (go_at_call_of 11 (Value.slice A0 l0.length c0); refine (tree_Check.calls k A0 c0 l0 e1 e2 _ HR0.out hc0 HE.out).mono ?_; rintro e w2 ⟨rfl, hb⟩; have HB2 := Aside0.mk hb; clear hb)
    | (go_at_call_of 11 (Value.slice A1 l1.length c1); refine (tree_Check.calls k A1 c1 l1 g1 g2 _ (Kd.C_below HR1.out HB2.out) hc1 HG.out).mono ?_; rintro e w3 ⟨rfl, hb⟩; have HB3 := Aside0.mk (below_step HB2.out hb); clear hb))
    refine bodyPost_ret (v := .tuple #[.slice none 0 0, .slice none 0 0, .slice none 0 0]) (by simp [results, Try.results25, go_sem]) rfl ⟨_, _, _, rfl, (Three.nil w3 w.heap.size).tell.1, (Three.nil w3 w.heap.size).tell.2.1, (Three.nil w3 w.heap.size).tell.2.2, HB3.out⟩
 ·rw [if_neg c00] at h
  cases h

end Go.Proofs.Ytopkmchkfcjjmaa.X
end

/-! ## Satchelref08Same -/
section
namespace Go.Proofs.Ytopkmchkfcjjmaa.X
open Go.RowKit Go.Proofs.YtopkmchkfcjjmaaW.PrintWords Go.Proofs.YtopkmchkfcjjmaaW.PrintLast Go.Proofs.YtopkmchkfcjjmaaW.PrintMore
attribute [local go_sem] max2_int min2_int max_two min_two max_three min_three max_four min_four   -- for this text's walks alone
set_option linter.unusedVariables false
set_option linter.unusedSimpArgs false

attribute [local go_sem] str_gtr fld_fault0 fld_fault1
/-! ### satchelref08_Same: function 29 -/

end Go.Proofs.Ytopkmchkfcjjmaa.X
end

/-! ## SatchelkitSameTexts -/
section
namespace Go.Proofs.Ytopkmchkfcjjmaa.X
open Go.RowKit Go.Proofs.YtopkmchkfcjjmaaW.PrintWords Go.Proofs.YtopkmchkfcjjmaaW.PrintLast Go.Proofs.YtopkmchkfcjjmaaW.PrintMore
attribute [local go_sem] max2_int min2_int max_two min_two max_three min_three max_four min_four   -- for this text's walks alone
set_option linter.unusedVariables false
set_option linter.unusedSimpArgs false

attribute [local go_sem] str_gtr fld_fault0 fld_fault1
/-! ### satchelkit_SameTexts: function 27 -/

end Go.Proofs.Ytopkmchkfcjjmaa.X
end

/-! ## SatchelkitCopyBytes -/
section
namespace Go.Proofs.Ytopkmchkfcjjmaa.X
open Go.RowKit Go.Proofs.YtopkmchkfcjjmaaW.PrintWords Go.Proofs.YtopkmchkfcjjmaaW.PrintLast Go.Proofs.YtopkmchkfcjjmaaW.PrintMore
attribute [local go_sem] max2_int min2_int max_two min_two max_three min_three max_four min_four   -- for this text's walks alone
set_option linter.unusedVariables false
set_option linter.unusedSimpArgs false

attribute [local go_sem] str_gtr fld_fault0 fld_fault1
/-! ### satchelkit_CopyBytes: function 47 -/

end Go.Proofs.Ytopkmchkfcjjmaa.X
end

/-! ## SatchelkitCopyTree -/
section
namespace Go.Proofs.Ytopkmchkfcjjmaa.X
open Go.RowKit Go.Proofs.YtopkmchkfcjjmaaW.PrintWords Go.Proofs.YtopkmchkfcjjmaaW.PrintLast Go.Proofs.YtopkmchkfcjjmaaW.PrintMore
attribute [local go_sem] max2_int min2_int max_two min_two max_three min_three max_four min_four   -- for this text's walks alone
set_option linter.unusedVariables false
set_option linter.unusedSimpArgs false

attribute [local go_sem] str_gtr fld_fault0 fld_fault1
/-! ### satchelkit_CopyTree: function 18 -/

end Go.Proofs.Ytopkmchkfcjjmaa.X
end

/-! ## StringsliteHasPrefix -/
section
namespace Go.Proofs.Ytopkmchkfcjjmaa.X
open Go.RowKit Go.Proofs.YtopkmchkfcjjmaaW.PrintWords Go.Proofs.YtopkmchkfcjjmaaW.PrintLast Go.Proofs.YtopkmchkfcjjmaaW.PrintMore
attribute [local go_sem] max2_int min2_int max_two min_two max_three min_three max_four min_four   -- for this text's walks alone
set_option linter.unusedVariables false
set_option linter.unusedSimpArgs false

attribute [local go_sem] str_gtr fld_fault0 fld_fault1
/-! ### stringslite_HasPrefix: function 76 -/
def stringslite_HasPrefix.f (a0 : ByteArray) (a1 : ByteArray) : Option (Bool) := if (a0.size : Int) ≥ (a1.size : Int) then (if 0 ≤ (a1.size : Int) then (if (a1.size : Int) ≤ (a0.size : Int) then (some ((a0.extract 0 ((a1.size : Int) : Int).toNat).toList == a1.toList)) else (none)) else (none)) else (some false)
set_option maxHeartbeats 8000000 in
set_option maxRecDepth 100000 in
theorem stringslite_HasPrefix.calls (a0 : ByteArray) (a1 : ByteArray) (r : Bool) (w : World) (h : stringslite_HasPrefix.f a0 a1 = some r) :
  Calls Try.prog 76 #[.string a0, .string a1] w fun e w' => e = .returned (.bool r) ∧ Drawn0 w w' := by
 have H : (if (a0.size : Int) ≥ (a1.size : Int) then (if 0 ≤ (a1.size : Int) then (if (a1.size : Int) ≤ (a0.size : Int) then (some ((a0.extract 0 ((a1.size : Int) : Int).toNat).toList == a1.toList)) else (none)) else (none)) else (some false)) = some r := h
 clear h
 by_cases c3 : (a0.size : Int) ≥ (a1.size : Int)
 ·rw [if_pos c3] at H
  have c3b0 : decide ((a1.size : Int) ≤ (a0.size : Int)) = true := decide_eq_true c3
  have c3b1 : decide (a1.size ≤ a0.size) = true := decide_eq_true (Int.ofNat_le.mp c3)
  clear c3
  by_cases c4 : 0 ≤ (a1.size : Int)
  ·rw [if_pos c4] at H
   have c4b0 := eq_true c4
   have c4b1 : decide (0 ≤ (a1.size : Int)) = true := decide_eq_true c4
   clear c4
   by_cases c5 : (a1.size : Int) ≤ (a0.size : Int)
   ·rw [if_pos c5] at H
    have c5b0 := eq_true c5
    have c5b1 : decide ((a1.size : Int) ≤ (a0.size : Int)) = true := decide_eq_true c5
    clear c5
    obtain rfl := Option.some.inj H
    go_enter Try.func76, Try.ntmps76
    go_wp2
    go_ret
    exact ⟨by first | rfl | (simp; done) | (simp [*]; done), by repeat (first | exact Drawn0.refl _ | apply Drawn0.step)⟩
   ·rw [if_neg c5] at H
    exact absurd H (by simp)
  ·rw [if_neg c4] at H
   exact absurd H (by simp)
 ·rw [if_neg c3] at H
  have c3b0 : decide ((a1.size : Int) ≤ (a0.size : Int)) = false := decide_eq_false c3
  have c3b1 : decide (a1.size ≤ a0.size) = false := decide_eq_false (fun h => c3 (Int.ofNat_le.mpr h))
  clear c3
  obtain rfl := Option.some.inj H
  go_enter Try.func76, Try.ntmps76
  go_wp2
  go_ret
  exact ⟨by first | rfl | (simp; done) | (simp [*]; done), by repeat (first | exact Drawn0.refl _ | apply Drawn0.step)⟩

end Go.Proofs.Ytopkmchkfcjjmaa.X
end

/-! ## StringsHasPrefix -/
section
namespace Go.Proofs.Ytopkmchkfcjjmaa.X
open Go.RowKit Go.Proofs.YtopkmchkfcjjmaaW.PrintWords Go.Proofs.YtopkmchkfcjjmaaW.PrintLast Go.Proofs.YtopkmchkfcjjmaaW.PrintMore
attribute [local go_sem] max2_int min2_int max_two min_two max_three min_three max_four min_four   -- for this text's walks alone
set_option linter.unusedVariables false
set_option linter.unusedSimpArgs false

attribute [local go_sem] str_gtr fld_fault0 fld_fault1
/-! ### strings_HasPrefix: function 60 -/
def strings_HasPrefix.f (a0 : ByteArray) (a1 : ByteArray) : Option (Bool) := (stringslite_HasPrefix.f a0 a1).bind fun t493 => (some t493)
set_option maxHeartbeats 8000000 in
set_option maxRecDepth 100000 in
theorem strings_HasPrefix.calls (a0 : ByteArray) (a1 : ByteArray) (r : Bool) (w : World) (h : strings_HasPrefix.f a0 a1 = some r) :
  Calls Try.prog 60 #[.string a0, .string a1] w fun e w' => e = .returned (.bool r) ∧ Drawn0 w w' := by
 have H : ((stringslite_HasPrefix.f a0 a1).bind fun t493 => (some t493)) = some r := h
 clear h
 replace H := Option.bind_eq_some_iff.mp H
 obtain ⟨t493, A30, H⟩ := H
 replace H : (some t493) = some r := H
 have A3 := Aside0.mk A30
 clear A30
 obtain rfl := Option.some.inj H
 go_enter Try.func60, Try.ntmps60
 go_wp2_with (first | ((with_reducible refine gate_callee (f := 76) rfl ?_); refine goesL_ (some 7) rfl rfl Try.func76 (by kernel_rfl) rfl #[.string a0, .string a1] rfl (by (try simp only [List.map_toArray, List.map_cons, List.map_nil]); first | done | rfl | (simp only [List.length_drop, List.length_take]; rfl)) ?_; (with_reducible refine (stringslite_HasPrefix.calls a0 a1 t493 _ A3.out).mono ?_); rintro e w' ⟨rfl, ⟨nd, rfl⟩⟩; refine ⟨_, rfl, ?_⟩))
 go_ret
 exact ⟨by first | rfl | (simp; done) | (simp [*]; done), by repeat (first | exact Drawn0.refl _ | apply Drawn0.step)⟩

end Go.Proofs.Ytopkmchkfcjjmaa.X
end

/-! ## PathUnder -/
section
namespace Go.Proofs.Ytopkmchkfcjjmaa.X
open Go.RowKit Go.Proofs.YtopkmchkfcjjmaaW.PrintWords Go.Proofs.YtopkmchkfcjjmaaW.PrintLast Go.Proofs.YtopkmchkfcjjmaaW.PrintMore
attribute [local go_sem] max2_int min2_int max_two min_two max_three min_three max_four min_four   -- for this text's walks alone
set_option linter.unusedVariables false
set_option linter.unusedSimpArgs false

attribute [local go_sem] str_gtr fld_fault0 fld_fault1
/-! ### path_Under: function 37 -/
def path_Under.f (k : Nat) (a0 : ByteArray) (a1 : ByteArray) : Option (Bool) := (path_valid.f k a0).bind fun t494 => (if t494 = true then ((path_valid.f k a1).bind fun t495 => (if t495 = true then (if a1.size + 1 ≤ 9223372036854775807 then ((strings_HasPrefix.f a0 (a1 ++ (⟨#[47]⟩ : ByteArray))).bind fun t496 => (some t496)) else (none)) else (some false))) else (some false))
theorem path_Under.mono : ∀ a0 a1 k, LeO (path_Under.f k a0 a1) (path_Under.f (k + 1) a0 a1) := by
 intro a0 a1 k
 unfold path_Under.f
 repeat' first
   | (with_reducible exact path_valid.mono _ _)
   | (with_reducible exact LeO.refl _)
   | (with_reducible exact LeO.none _)
   | (with_reducible refine LeO.ite ?_ ?_)
   | (with_reducible refine LeO.bind ?_ (fun _ => ?_))
   | exact path_valid.mono _ _
   | exact LeO.none _
   | refine LeO.ite ?_ ?_
   | refine LeO.bind ?_ (fun _ => ?_)
set_option maxHeartbeats 8000000 in
set_option maxRecDepth 100000 in
theorem path_Under.calls (k : Nat) (a0 : ByteArray) (a1 : ByteArray) (r : Bool) (w : World) (h : path_Under.f k a0 a1 = some r) :
  Calls Try.prog 37 #[.string a0, .string a1] w fun e w' => e = .returned (.bool r) ∧ Below w.heap.size w w' := by
 have HB := Aside0.mk (Below.refl w.heap.size w)
 have H : ((path_valid.f k a0).bind fun t494 => (if t494 = true then ((path_valid.f k a1).bind fun t495 => (if t495 = true then (if a1.size + 1 ≤ 9223372036854775807 then ((strings_HasPrefix.f a0 (a1 ++ (⟨#[47]⟩ : ByteArray))).bind fun t496 => (some t496)) else (none)) else (some false))) else (some false))) = some r := h
 clear h
 replace H := Option.bind_eq_some_iff.mp H
 obtain ⟨t494, A30, H⟩ := H
 replace H : (if t494 = true then ((path_valid.f k a1).bind fun t495 => (if t495 = true then (if a1.size + 1 ≤ 9223372036854775807 then ((strings_HasPrefix.f a0 (a1 ++ (⟨#[47]⟩ : ByteArray))).bind fun t496 => (some t496)) else (none)) else (some false))) else (some false)) = some r := H
 have A3 := Aside0.mk A30
 clear A30
 by_cases c4 : t494 = true
 ·subst c4
  have H1 : ((path_valid.f k a1).bind fun t495 => (if t495 = true then (if a1.size + 1 ≤ 9223372036854775807 then ((strings_HasPrefix.f a0 (a1 ++ (⟨#[47]⟩ : ByteArray))).bind fun t496 => (some t496)) else (none)) else (some false))) = some r := by rw [if_pos rfl] at H; exact H
  clear H
  have H := H1
  clear H1
  replace H := Option.bind_eq_some_iff.mp H
  obtain ⟨t495, A50, H⟩ := H
  replace H : (if t495 = true then (if a1.size + 1 ≤ 9223372036854775807 then ((strings_HasPrefix.f a0 (a1 ++ (⟨#[47]⟩ : ByteArray))).bind fun t496 => (some t496)) else (none)) else (some false)) = some r := H
  have A5 := Aside0.mk A50
  clear A50
  by_cases c6 : t495 = true
  ·subst c6
   have H1 : (if a1.size + 1 ≤ 9223372036854775807 then ((strings_HasPrefix.f a0 (a1 ++ (⟨#[47]⟩ : ByteArray))).bind fun t496 => (some t496)) else (none)) = some r := by rw [if_pos rfl] at H; exact H
   clear H
   have H := H1
   clear H1
   by_cases c7 : a1.size + 1 ≤ 9223372036854775807
   ·rw [if_pos c7] at H
    have c7b0 := eq_true c7
    have c7b1 : decide (a1.size + 1 ≤ 9223372036854775807) = true := decide_eq_true c7
    try have c7b2 : (9223372036854775807 < a1.size + 1) = False := eq_false (Nat.not_lt.2 c7)
    replace H := Option.bind_eq_some_iff.mp H
    obtain ⟨t496, A80, H⟩ := H
    replace H : (some t496) = some r := H
    have A8 := Aside0.mk A80
    clear A80
    obtain rfl := Option.some.inj H
    go_enter Try.func37, Try.ntmps37
    go_wp2_with (first | ((with_reducible refine gate_callee (f := 43) rfl ?_); refine goesL_ (some 6) rfl rfl Try.func43 (by kernel_rfl) rfl #[.string a0] rfl (by (try simp only [List.map_toArray, List.map_cons, List.map_nil]); first | done | rfl | (simp only [List.length_drop, List.length_take]; rfl)) ?_; (with_reducible refine (path_valid.calls k a0 true _ A3.out).mono ?_); rintro e w9 ⟨rfl, hb⟩; refine ⟨_, rfl, ?_⟩; have n0_ := Aside0.mk (below_step (by repeat (first | (with_reducible first | exact HB.out | apply below_alloc | apply pw_below_drewN | apply below_drew1) | exact HB.out)) hb); clear HB; have HB := n0_; clear n0_; (try clear hb); (try clear hb2); (try clear hk); (try clear hi)) | (go_at_call 43; (with_reducible refine (path_valid.calls k a1 true _ A5.out).mono ?_); rintro e w10 ⟨rfl, hb⟩; have n0_ := Aside0.mk (below_step (by repeat (first | (with_reducible first | exact HB.out | apply below_alloc | apply pw_below_drewN | apply below_drew1) | exact HB.out)) hb); clear HB; have HB := n0_; clear n0_; (try clear hb); (try clear hb2); (try clear hk); (try clear hi)) | (go_at_call 60; (with_reducible refine (strings_HasPrefix.calls a0 (a1 ++ (⟨#[47]⟩ : ByteArray)) t496 _ A8.out).mono ?_); rintro e w' ⟨rfl, ⟨nd, rfl⟩⟩))
    go_ret
    exact ⟨by first | rfl | (simp [errW_none, errW_some] <;> rfl) | (simp [*, errW_none, errW_some] <;> rfl) | (simp [bt, *]; done) | (simp_all [bt]; done), by repeat (first | (with_reducible first | exact HB.out | apply below_alloc | apply pw_below_drewN | apply below_drew1) | exact HB.out)⟩
   ·rw [if_neg c7] at H
    exact absurd H (by simp)
  ·replace c6 := Bool.eq_false_iff.mpr c6
   subst c6
   have H1 : (some false) = some r := by rw [if_neg (show ¬ (false = true) by decide)] at H; exact H
   clear H
   have H := H1
   clear H1
   obtain rfl := Option.some.inj H
   go_enter Try.func37, Try.ntmps37
   go_wp2_with (first | ((with_reducible refine gate_callee (f := 43) rfl ?_); refine goesL_ (some 6) rfl rfl Try.func43 (by kernel_rfl) rfl #[.string a0] rfl (by (try simp only [List.map_toArray, List.map_cons, List.map_nil]); first | done | rfl | (simp only [List.length_drop, List.length_take]; rfl)) ?_; (with_reducible refine (path_valid.calls k a0 true _ A3.out).mono ?_); rintro e w11 ⟨rfl, hb⟩; refine ⟨_, rfl, ?_⟩; have n0_ := Aside0.mk (below_step (by repeat (first | (with_reducible first | exact HB.out | apply below_alloc | apply pw_below_drewN | apply below_drew1) | exact HB.out)) hb); clear HB; have HB := n0_; clear n0_; (try clear hb); (try clear hb2); (try clear hk); (try clear hi)) | (go_at_call 43; (with_reducible refine (path_valid.calls k a1 false _ A5.out).mono ?_); rintro e w12 ⟨rfl, hb⟩; have n0_ := Aside0.mk (below_step (by repeat (first | (with_reducible first | exact HB.out | apply below_alloc | apply pw_below_drewN | apply below_drew1) | exact HB.out)) hb); clear HB; have HB := n0_; clear n0_; (try clear hb); (try clear hb2); (try clear hk); (try clear hi)))
   go_ret
   exact ⟨by first | rfl | (simp [errW_none, errW_some] <;> rfl) | (simp [*, errW_none, errW_some] <;> rfl) | (simp [bt, *]; done) | (simp_all [bt]; done), by repeat (first | (with_reducible first | exact HB.out | apply below_alloc | apply pw_below_drewN | apply below_drew1) | exact HB.out)⟩
 ·replace c4 := Bool.eq_false_iff.mpr c4
  subst c4
  have H1 : (some false) = some r := by rw [if_neg (show ¬ (false = true) by decide)] at H; exact H
  clear H
  have H := H1
  clear H1
  obtain rfl := Option.some.inj H
  go_enter Try.func37, Try.ntmps37
  go_wp2_with (first | ((with_reducible refine gate_callee (f := 43) rfl ?_); refine goesL_ (some 6) rfl rfl Try.func43 (by kernel_rfl) rfl #[.string a0] rfl (by (try simp only [List.map_toArray, List.map_cons, List.map_nil]); first | done | rfl | (simp only [List.length_drop, List.length_take]; rfl)) ?_; (with_reducible refine (path_valid.calls k a0 false _ A3.out).mono ?_); rintro e w13 ⟨rfl, hb⟩; refine ⟨_, rfl, ?_⟩; have n0_ := Aside0.mk (below_step (by repeat (first | (with_reducible first | exact HB.out | apply below_alloc | apply pw_below_drewN | apply below_drew1) | exact HB.out)) hb); clear HB; have HB := n0_; clear n0_; (try clear hb); (try clear hb2); (try clear hk); (try clear hi)))
  go_ret
  exact ⟨by first | rfl | (simp [errW_none, errW_some] <;> rfl) | (simp [*, errW_none, errW_some] <;> rfl) | (simp [bt, *]; done) | (simp_all [bt]; done), by repeat (first | (with_reducible first | exact HB.out | apply below_alloc | apply pw_below_drewN | apply below_drew1) | exact HB.out)⟩

end Go.Proofs.Ytopkmchkfcjjmaa.X
end
