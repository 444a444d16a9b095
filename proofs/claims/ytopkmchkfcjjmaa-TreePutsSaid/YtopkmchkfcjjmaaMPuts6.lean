/- Functions, one behind the other: a plain Lean function for each, and the proof that the call comes to its answer, whatever the world (conditions: what the arguments read as); and plain laws of them. -/
import Derived.Test.YtopkmchkfcjjmaaMPuts2
import Derived.Test.YtopkmchkfcjjmaaMPuts3
import Derived.Test.YtopkmchkfcjjmaaMPuts5
import Derived.Test.YtopkmchkfcjjmaaMPuts4
import Derived.Laws.Entries
import Derived.StillTailTactics
/-! ## Satchelref08Put -/
section
namespace Go.Proofs.Ytopkmchkfcjjmaa.X
open Go.RowKit Go.Proofs.YtopkmchkfcjjmaaW.PrintWords Go.Proofs.YtopkmchkfcjjmaaW.PrintLast Go.Proofs.YtopkmchkfcjjmaaW.PrintMore
attribute [local go_sem] max2_int min2_int max_two min_two max_three min_three max_four min_four   -- for this text's walks alone
set_option linter.unusedVariables false
set_option linter.unusedSimpArgs false

attribute [local go_sem] str_gtr fld_fault0 fld_fault1
/-! ### satchelref08_Put: function 31 -/
mutual
def satchelref08_Put.j1 : Nat → List (S31) → Int → ByteArray → Int → Int → List Int → ByteArray → Option ((List (S31)) × Int)
 | 0, _, _, _, _, _, _, _ => none
 | k + 1, x0, x8, x422000, x422001, x422002, x422003, x422004 => if 0 ≤ x8 then (if x8 ≤ (x0.length : Int) then ((some (x0.drop (x8 : Int).toNat : List (S31))).bind fun y426 => (if (y426.length : Int) > 0 then (if 0 < (y426.length : Int) then (satchelref08_Put.j2 k x0 x8 y426 (((rd_T31 y426 0).f0).toList == x422000.toList) x422000 x422001 x422002 x422003 x422004) else (none)) else (satchelref08_Put.j2 k x0 x8 y426 false x422000 x422001 x422002 x422003 x422004))) else (none)) else (none)
def satchelref08_Put.j2 : Nat → List (S31) → Int → List (S31) → Bool → ByteArray → Int → Int → List Int → ByteArray → Option ((List (S31)) × Int)
 | 0, _, _, _, _, _, _, _, _, _ => none
 | k + 1, x0, x8, x9, x52, x422000, x422001, x422002, x422003, x422004 => if x52 = true then (if 1 ≤ (x9.length : Int) then (satchelref08_Put.j3 k x0 x8 (x9.drop 1) x422000 x422001 x422002 x422003 x422004) else (none)) else (satchelref08_Put.j3 k x0 x8 x9 x422000 x422001 x422002 x422003 x422004)
def satchelref08_Put.j3 : Nat → List (S31) → Int → List (S31) → ByteArray → Int → Int → List Int → ByteArray → Option ((List (S31)) × Int)
 | 0, _, _, _, _, _, _, _, _ => none
 | k + 1, x0, x8, x9, x422000, x422001, x422002, x422003, x422004 => satchelref08_Put.l1 k x0 x8 x9 ([] : List (S31)) 0 x422000 x422001 x422002 x422003 x422004
def satchelref08_Put.l1 : Nat → List (S31) → Int → List (S31) → List (S31) → Int → ByteArray → Int → Int → List Int → ByteArray → Option ((List (S31)) × Int)
 | 0, _, _, _, _, _, _, _, _, _, _ => none
 | k + 1, x0, x8, x9, x10, x11, x422000, x422001, x422002, x422003, x422004 => if x11 < x8 then (if 0 ≤ x11 then (if x11 < (x0.length : Int) then ((satchelref08_Own.f ((rd_T31 x0 x11).f0) ((rd_T31 x0 x11).f1) ((rd_T31 x0 x11).f2) ((rd_T31 x0 x11).f3) ((rd_T31 x0 x11).f4)).bind fun bt438 => (if x10.length < 1954687338268 then (satchelref08_Put.l1 k x0 x8 x9 (x10 ++ [(⟨bt438.1, bt438.2.1, bt438.2.2.1, bt438.2.2.2.1, bt438.2.2.2.2⟩ : S31)]) (wrap64 (x11 + 1)) x422000 x422001 x422002 x422003 x422004) else (none))) else (none)) else (none)) else ((satchelref08_Own.f x422000 x422001 x422002 x422003 x422004).bind fun bt448 => (if x10.length < 1954687338268 then (satchelref08_Put.l2 k x9 (x10 ++ [(⟨bt448.1, bt448.2.1, bt448.2.2.1, bt448.2.2.2.1, bt448.2.2.2.2⟩ : S31)]) 0) else (none)))
def satchelref08_Put.l2 : Nat → List (S31) → List (S31) → Int → Option ((List (S31)) × Int)
 | 0, _, _, _ => none
 | k + 1, x9, x10, x12 => if x12 < (x9.length : Int) then (if 0 ≤ x12 then ((satchelref08_Own.f ((rd_T31 x9 x12).f0) ((rd_T31 x9 x12).f1) ((rd_T31 x9 x12).f2) ((rd_T31 x9 x12).f3) ((rd_T31 x9 x12).f4)).bind fun bt459 => (if x10.length < 1954687338268 then (satchelref08_Put.l2 k x9 (x10 ++ [(⟨bt459.1, bt459.2.1, bt459.2.2.1, bt459.2.2.2.1, bt459.2.2.2.2⟩ : S31)]) (wrap64 (x12 + 1))) else (none))) else (none)) else ((satchelref08_Check.f k x10).bind fun bt469 => (if bt469.1 = 0 then (some (x10, 0)) else (some (([] : List (S31)), bt469.1))))
def satchelref08_Put.l0 : Nat → List (S31) → Int → ByteArray → Int → Int → List Int → ByteArray → Option ((List (S31)) × Int)
 | 0, _, _, _, _, _, _, _ => none
 | k + 1, x0, x8, x422000, x422001, x422002, x422003, x422004 => if x8 < (x0.length : Int) then (if 0 ≤ x8 then ((satchelref07_Compare.f k ((rd_T31 x0 x8).f0) x422000).bind fun t425 => (if t425 < 0 then (satchelref08_Put.l0 k x0 (wrap64 (x8 + 1)) x422000 x422001 x422002 x422003 x422004) else (satchelref08_Put.j1 k x0 x8 x422000 x422001 x422002 x422003 x422004))) else (none)) else (satchelref08_Put.j1 k x0 x8 x422000 x422001 x422002 x422003 x422004)
end
def satchelref08_Put.f (k : Nat) (l0 : List (S31)) (a1_0 : ByteArray) (a1_1 : Int) (a1_2 : Int) (l1_3 : List Int) (a1_4 : ByteArray) : Option ((List (S31)) × Int) := (satchelref08_Check.f k l0).bind fun bt422 => (if bt422.1 = 0 then (satchelref08_Put.l0 k l0 0 a1_0 a1_1 a1_2 l1_3 a1_4) else (some (([] : List (S31)), bt422.1)))
theorem satchelref08_Put.mono_l : ∀ k, (∀ y0 y1 y2 y3 y4 y5 y6, LeO (satchelref08_Put.j1 k y0 y1 y2 y3 y4 y5 y6) (satchelref08_Put.j1 (k + 1) y0 y1 y2 y3 y4 y5 y6)) ∧ (∀ y0 y1 y2 y3 y4 y5 y6 y7 y8, LeO (satchelref08_Put.j2 k y0 y1 y2 y3 y4 y5 y6 y7 y8) (satchelref08_Put.j2 (k + 1) y0 y1 y2 y3 y4 y5 y6 y7 y8)) ∧ (∀ y0 y1 y2 y3 y4 y5 y6 y7, LeO (satchelref08_Put.j3 k y0 y1 y2 y3 y4 y5 y6 y7) (satchelref08_Put.j3 (k + 1) y0 y1 y2 y3 y4 y5 y6 y7)) ∧ (∀ y0 y1 y2 y3 y4 y5 y6 y7 y8 y9, LeO (satchelref08_Put.l1 k y0 y1 y2 y3 y4 y5 y6 y7 y8 y9) (satchelref08_Put.l1 (k + 1) y0 y1 y2 y3 y4 y5 y6 y7 y8 y9)) ∧ (∀ y0 y1 y2, LeO (satchelref08_Put.l2 k y0 y1 y2) (satchelref08_Put.l2 (k + 1) y0 y1 y2)) ∧ (∀ y0 y1 y2 y3 y4 y5 y6, LeO (satchelref08_Put.l0 k y0 y1 y2 y3 y4 y5 y6) (satchelref08_Put.l0 (k + 1) y0 y1 y2 y3 y4 y5 y6))
 | 0 => ⟨fun _ _ _ _ _ _ _ r h => by simp [satchelref08_Put.j1] at h, fun _ _ _ _ _ _ _ _ _ r h => by simp [satchelref08_Put.j2] at h, fun _ _ _ _ _ _ _ _ r h => by simp [satchelref08_Put.j3] at h, fun _ _ _ _ _ _ _ _ _ _ r h => by simp [satchelref08_Put.l1] at h, fun _ _ _ r h => by simp [satchelref08_Put.l2] at h, fun _ _ _ _ _ _ _ r h => by simp [satchelref08_Put.l0] at h⟩
 | k + 1 => by
  obtain ⟨ih0, ih1, ih2, ih3, ih4, ih5⟩ := satchelref08_Put.mono_l k
  refine ⟨?_, ?_, ?_, ?_, ?_, ?_⟩
  ·intro y0 y1 y2 y3 y4 y5 y6
   unfold satchelref08_Put.j1
   repeat' first
   | (with_reducible exact ih0 _ _ _ _ _ _ _)
   | (with_reducible exact ih1 _ _ _ _ _ _ _ _ _)
   | (with_reducible exact ih2 _ _ _ _ _ _ _ _)
   | (with_reducible exact ih3 _ _ _ _ _ _ _ _ _ _)
   | (with_reducible exact ih4 _ _ _)
   | (with_reducible exact ih5 _ _ _ _ _ _ _)
   | (with_reducible exact satchelref07_Compare.mono _ _ _)
   | (with_reducible exact satchelref08_Check.mono _ _)
   | (with_reducible exact LeO.refl _)
   | (with_reducible exact LeO.none _)
   | (with_reducible refine LeO.ite ?_ ?_)
   | (with_reducible refine LeO.bind ?_ (fun _ => ?_))
   | exact ih0 _ _ _ _ _ _ _
   | exact ih1 _ _ _ _ _ _ _ _ _
   | exact ih2 _ _ _ _ _ _ _ _
   | exact ih3 _ _ _ _ _ _ _ _ _ _
   | exact ih4 _ _ _
   | exact ih5 _ _ _ _ _ _ _
   | exact satchelref07_Compare.mono _ _ _
   | exact satchelref08_Check.mono _ _
   | exact LeO.none _
   | refine LeO.ite ?_ ?_
   | refine LeO.bind ?_ (fun _ => ?_)
  ·intro y0 y1 y2 y3 y4 y5 y6 y7 y8
   unfold satchelref08_Put.j2
   repeat' first
   | (with_reducible exact ih0 _ _ _ _ _ _ _)
   | (with_reducible exact ih1 _ _ _ _ _ _ _ _ _)
   | (with_reducible exact ih2 _ _ _ _ _ _ _ _)
   | (with_reducible exact ih3 _ _ _ _ _ _ _ _ _ _)
   | (with_reducible exact ih4 _ _ _)
   | (with_reducible exact ih5 _ _ _ _ _ _ _)
   | (with_reducible exact satchelref07_Compare.mono _ _ _)
   | (with_reducible exact satchelref08_Check.mono _ _)
   | (with_reducible exact LeO.refl _)
   | (with_reducible exact LeO.none _)
   | (with_reducible refine LeO.ite ?_ ?_)
   | (with_reducible refine LeO.bind ?_ (fun _ => ?_))
   | exact ih0 _ _ _ _ _ _ _
   | exact ih1 _ _ _ _ _ _ _ _ _
   | exact ih2 _ _ _ _ _ _ _ _
   | exact ih3 _ _ _ _ _ _ _ _ _ _
   | exact ih4 _ _ _
   | exact ih5 _ _ _ _ _ _ _
   | exact satchelref07_Compare.mono _ _ _
   | exact satchelref08_Check.mono _ _
   | exact LeO.none _
   | refine LeO.ite ?_ ?_
   | refine LeO.bind ?_ (fun _ => ?_)
  ·intro y0 y1 y2 y3 y4 y5 y6 y7
   unfold satchelref08_Put.j3
   repeat' first
   | (with_reducible exact ih0 _ _ _ _ _ _ _)
   | (with_reducible exact ih1 _ _ _ _ _ _ _ _ _)
   | (with_reducible exact ih2 _ _ _ _ _ _ _ _)
   | (with_reducible exact ih3 _ _ _ _ _ _ _ _ _ _)
   | (with_reducible exact ih4 _ _ _)
   | (with_reducible exact ih5 _ _ _ _ _ _ _)
   | (with_reducible exact satchelref07_Compare.mono _ _ _)
   | (with_reducible exact satchelref08_Check.mono _ _)
   | (with_reducible exact LeO.refl _)
   | (with_reducible exact LeO.none _)
   | (with_reducible refine LeO.ite ?_ ?_)
   | (with_reducible refine LeO.bind ?_ (fun _ => ?_))
   | exact ih0 _ _ _ _ _ _ _
   | exact ih1 _ _ _ _ _ _ _ _ _
   | exact ih2 _ _ _ _ _ _ _ _
   | exact ih3 _ _ _ _ _ _ _ _ _ _
   | exact ih4 _ _ _
   | exact ih5 _ _ _ _ _ _ _
   | exact satchelref07_Compare.mono _ _ _
   | exact satchelref08_Check.mono _ _
   | exact LeO.none _
   | refine LeO.ite ?_ ?_
   | refine LeO.bind ?_ (fun _ => ?_)
  ·intro y0 y1 y2 y3 y4 y5 y6 y7 y8 y9
   unfold satchelref08_Put.l1
   repeat' first
   | (with_reducible exact ih0 _ _ _ _ _ _ _)
   | (with_reducible exact ih1 _ _ _ _ _ _ _ _ _)
   | (with_reducible exact ih2 _ _ _ _ _ _ _ _)
   | (with_reducible exact ih3 _ _ _ _ _ _ _ _ _ _)
   | (with_reducible exact ih4 _ _ _)
   | (with_reducible exact ih5 _ _ _ _ _ _ _)
   | (with_reducible exact satchelref07_Compare.mono _ _ _)
   | (with_reducible exact satchelref08_Check.mono _ _)
   | (with_reducible exact LeO.refl _)
   | (with_reducible exact LeO.none _)
   | (with_reducible refine LeO.ite ?_ ?_)
   | (with_reducible refine LeO.bind ?_ (fun _ => ?_))
   | exact ih0 _ _ _ _ _ _ _
   | exact ih1 _ _ _ _ _ _ _ _ _
   | exact ih2 _ _ _ _ _ _ _ _
   | exact ih3 _ _ _ _ _ _ _ _ _ _
   | exact ih4 _ _ _
   | exact ih5 _ _ _ _ _ _ _
   | exact satchelref07_Compare.mono _ _ _
   | exact satchelref08_Check.mono _ _
   | exact LeO.none _
   | refine LeO.ite ?_ ?_
   | refine LeO.bind ?_ (fun _ => ?_)
  ·intro y0 y1 y2
   unfold satchelref08_Put.l2
   repeat' first
   | (with_reducible exact ih0 _ _ _ _ _ _ _)
   | (with_reducible exact ih1 _ _ _ _ _ _ _ _ _)
   | (with_reducible exact ih2 _ _ _ _ _ _ _ _)
   | (with_reducible exact ih3 _ _ _ _ _ _ _ _ _ _)
   | (with_reducible exact ih4 _ _ _)
   | (with_reducible exact ih5 _ _ _ _ _ _ _)
   | (with_reducible exact satchelref07_Compare.mono _ _ _)
   | (with_reducible exact satchelref08_Check.mono _ _)
   | (with_reducible exact LeO.refl _)
   | (with_reducible exact LeO.none _)
   | (with_reducible refine LeO.ite ?_ ?_)
   | (with_reducible refine LeO.bind ?_ (fun _ => ?_))
   | exact ih0 _ _ _ _ _ _ _
   | exact ih1 _ _ _ _ _ _ _ _ _
   | exact ih2 _ _ _ _ _ _ _ _
   | exact ih3 _ _ _ _ _ _ _ _ _ _
   | exact ih4 _ _ _
   | exact ih5 _ _ _ _ _ _ _
   | exact satchelref07_Compare.mono _ _ _
   | exact satchelref08_Check.mono _ _
   | exact LeO.none _
   | refine LeO.ite ?_ ?_
   | refine LeO.bind ?_ (fun _ => ?_)
  ·intro y0 y1 y2 y3 y4 y5 y6
   unfold satchelref08_Put.l0
   repeat' first
   | (with_reducible exact ih0 _ _ _ _ _ _ _)
   | (with_reducible exact ih1 _ _ _ _ _ _ _ _ _)
   | (with_reducible exact ih2 _ _ _ _ _ _ _ _)
   | (with_reducible exact ih3 _ _ _ _ _ _ _ _ _ _)
   | (with_reducible exact ih4 _ _ _)
   | (with_reducible exact ih5 _ _ _ _ _ _ _)
   | (with_reducible exact satchelref07_Compare.mono _ _ _)
   | (with_reducible exact satchelref08_Check.mono _ _)
   | (with_reducible exact LeO.refl _)
   | (with_reducible exact LeO.none _)
   | (with_reducible refine LeO.ite ?_ ?_)
   | (with_reducible refine LeO.bind ?_ (fun _ => ?_))
   | exact ih0 _ _ _ _ _ _ _
   | exact ih1 _ _ _ _ _ _ _ _ _
   | exact ih2 _ _ _ _ _ _ _ _
   | exact ih3 _ _ _ _ _ _ _ _ _ _
   | exact ih4 _ _ _
   | exact ih5 _ _ _ _ _ _ _
   | exact satchelref07_Compare.mono _ _ _
   | exact satchelref08_Check.mono _ _
   | exact LeO.none _
   | refine LeO.ite ?_ ?_
   | refine LeO.bind ?_ (fun _ => ?_)
theorem satchelref08_Put.mono : ∀ a0 a1 a2 a3 a4 a5 k, LeO (satchelref08_Put.f k a0 a1 a2 a3 a4 a5) (satchelref08_Put.f (k + 1) a0 a1 a2 a3 a4 a5) := by
 intro a0 a1 a2 a3 a4 a5 k
 obtain ⟨ih0, ih1, ih2, ih3, ih4, ih5⟩ := satchelref08_Put.mono_l k
 unfold satchelref08_Put.f
 repeat' first
   | (with_reducible exact ih0 _ _ _ _ _ _ _)
   | (with_reducible exact ih1 _ _ _ _ _ _ _ _ _)
   | (with_reducible exact ih2 _ _ _ _ _ _ _ _)
   | (with_reducible exact ih3 _ _ _ _ _ _ _ _ _ _)
   | (with_reducible exact ih4 _ _ _)
   | (with_reducible exact ih5 _ _ _ _ _ _ _)
   | (with_reducible exact satchelref07_Compare.mono _ _ _)
   | (with_reducible exact satchelref08_Check.mono _ _)
   | (with_reducible exact LeO.refl _)
   | (with_reducible exact LeO.none _)
   | (with_reducible refine LeO.ite ?_ ?_)
   | (with_reducible refine LeO.bind ?_ (fun _ => ?_))
   | exact ih0 _ _ _ _ _ _ _
   | exact ih1 _ _ _ _ _ _ _ _ _
   | exact ih2 _ _ _ _ _ _ _ _
   | exact ih3 _ _ _ _ _ _ _ _ _ _
   | exact ih4 _ _ _
   | exact ih5 _ _ _ _ _ _ _
   | exact satchelref07_Compare.mono _ _ _
   | exact satchelref08_Check.mono _ _
   | exact LeO.none _
   | refine LeO.ite ?_ ?_
   | refine LeO.bind ?_ (fun _ => ?_)
def satchelref08_Put.T5 : Bool × List (List Nat × List Nat) := (true, [([], []), ([], []), ([1], [1]), ([0, 2], [0, 2]), ([3], [3]), ([4], [4]), ([4], [4]), ([5, 6, 4], [4, 5, 6]), ([7, 4], [4, 7]), ([8, 4], [4, 8]), ([4], [4]), ([10, 4], [4, 10]), ([9, 11, 4, 4], [4, 9, 11]), ([12, 4], [4, 12]), ([4, 13], [4, 13])])
def satchelref08_Put.B5 : List Nat := [0, 0, 2, 7, 15, 31, 31, 127, 255, 511, 31, 1055, 4095, 8191, 16383]
theorem satchelref08_Put.tab5 : rtab .any (opsOf Try.f31 5) = satchelref08_Put.T5 := by kernel_rfl
theorem satchelref08_Put.bits5 : waitsOk satchelref08_Put.T5.2 satchelref08_Put.B5 = true := by kernel_rfl
def satchelref08_Put.T8 : Bool × List (List Nat × List Nat) := (true, [([], []), ([0], [0]), ([1], [1]), ([2], [2]), ([3], [3]), ([4, 3], [3, 4]), ([5, 3], [3, 5]), ([6, 3], [3, 6]), ([3], [3]), ([8, 3], [3, 8]), ([7, 9, 3], [3, 7, 9]), ([3, 10], [3, 10])])
def satchelref08_Put.B8 : List Nat := [0, 1, 3, 7, 15, 31, 63, 127, 15, 271, 1023, 2047]
theorem satchelref08_Put.tab8 : rtab .any (opsOf Try.f31 8) = satchelref08_Put.T8 := by kernel_rfl
theorem satchelref08_Put.bits8 : waitsOk satchelref08_Put.T8.2 satchelref08_Put.B8 = true := by kernel_rfl
set_option maxHeartbeats 8000000 in
set_option maxRecDepth 100000 in
theorem satchelref08_Put.calls (k : Nat) (P0_ : Nat → Prop) (A0 : Option Addr) (c0 : Nat) (l0 : List (S31)) (a1_0 : ByteArray) (a1_1 : Int) (a1_2 : Int) (A1_3 : Option Addr) (c1_3 : Nat) (l1_3 : List Int) (a1_4 : ByteArray) (r1 : List (S31)) (r2 : Int) (w : World) (hs0 : Kd.V k31 31 w w.heap.size (fun k_ => P0_ k_) (.slice A0 l0.length c0) l0) (hr1_3 : Kd.C (Kd.int .u8) w A1_3 l1_3.length l1_3) (hc1_3 : l1_3.length ≤ c1_3) (h : satchelref08_Put.f k l0 a1_0 a1_1 a1_2 l1_3 a1_4 = some (r1, r2)) :
  Calls Try.prog 31 #[.slice A0 l0.length c0, .agg #[.string a1_0, .int .i64 a1_1, .int .i64 a1_2, .slice A1_3 l1_3.length c1_3, .string a1_4]] w fun e w' => ∃ v0_ : Value, e = .returned (.tuple #[v0_, .int .i64 r2]) ∧ Kd.S k31 31 w' w.heap.size (fun k_ => (w.heap.size ≤ k_)) v0_ r1 ∧ Below w.heap.size w w' := by
 have hu31 := Try.underlying31
 have HO0 := Aside0.mk (show Kd.V k31 31 w w.heap.size (fun k_ => (P0_ k_ ∨ w.heap.size ≤ k_)) (.slice A0 l0.length c0) l0 from Kd.V_mono hs0 (fun k_ hk => .inl hk))
 have HR1_3 := Aside0.mk hr1_3
 have HC1_3 := Aside0.mk hc1_3
 clear hr1_3 hc1_3
 have HB := Aside0.mk (Below.refl w.heap.size w)
 have H : ((satchelref08_Check.f k l0).bind fun bt422 => (if bt422.1 = 0 then (satchelref08_Put.l0 k l0 0 a1_0 a1_1 a1_2 l1_3 a1_4) else (some (([] : List (S31)), bt422.1)))) = some (r1, r2) := h
 clear h
 replace H := Option.bind_eq_some_iff.mp H
 obtain ⟨⟨t422, t423⟩, A30, H⟩ := H
 replace H : (if t422 = 0 then (satchelref08_Put.l0 k l0 0 a1_0 a1_1 a1_2 l1_3 a1_4) else (some (([] : List (S31)), t422))) = some (r1, r2) := H
 have A3 := Aside0.mk A30
 clear A30
 by_cases c4 : t422 = 0
 ·rw [if_pos c4] at H
  have c4b0 : (t422 == 0) = true := beq_iff_eq.mpr c4
  have c4b1 : (t422 != 0) = false := bne_eq_false_iff_eq.mpr c4
  clear c4
  have HC5 := Aside0.mk H
  clear H
  go_enter Try.func31, Try.ntmps31
  go_upto_block 0 with (first | ((with_reducible refine gate_dst (N := 3) rfl ?_); refine box_event ?hg (N := 3) ?hd (cs := #[.string a1_0, .int .i64 a1_1, .int .i64 a1_2, .slice A1_3 l1_3.length c1_3, .string a1_4]) (t := 31) ?hr ?_; (case hd => rfl); (case hg => rfl); (case hr => first | (go_simp; done) | (go_simp; rfl)); intro gb421 hg w6 hbox hb; have n0_ := Aside0.mk (Kd.V_below (Kd.V_elderB (by (with_reducible repeat (first | apply Kd.V_alloc | apply Kd.V_drewN | apply Kd.V_drew)); exact HO0.out) gb421 (Nat.le_of_eq hg.symm)) hb); have n1_ := Aside0.mk (below_step (by repeat (first | (with_reducible first | exact HB.out | apply below_alloc | apply pw_below_drewN | apply below_drew1) | exact HB.out)) hb); have n2_ := Aside0.mk (hbox); have n3_ := Aside0.mk ((by rw [hg]; exact (below_size (by repeat (first | (with_reducible first | exact HB.out | apply below_alloc | apply pw_below_drewN | apply below_drew1) | exact HB.out))) : w.heap.size ≤ gb421)); have n4_ := Aside0.mk ((by rw [hg]; exact (below_size (by repeat (first | (with_reducible first | exact HB.out | apply below_alloc | apply pw_below_drewN | apply below_drew1) | exact HB.out))) : w.heap.size ≤ gb421)); clear HO0; clear HB; have HO0 := n0_; have HB := n1_; have BK421 := n2_; have GW421 := n3_; have GE421 := n4_; clear n0_ n1_ n2_ n3_ n4_; clear hb hbox hg) | ((with_reducible refine gate_callee (f := 19) rfl ?_); refine goesL_ (some 15) rfl rfl Try.func19 (by kernel_rfl) rfl #[.slice A0 l0.length c0] rfl (by (try simp only [List.map_toArray, List.map_cons, List.map_nil]); first | done | rfl | (simp only [List.length_drop, List.length_take]; rfl)) ?_; (with_reducible refine (satchelref08_Check.calls k _ _ l0 t422 t423 _ ?side1 ?side2 A3.out).mono ?_); (case side1 => repeat (first | exact (Kd.V_reads' HO0.out).2.2 | (with_reducible refine Kd.C_alloc ?_ _) | (with_reducible refine Kd.C_drewN ?_ _) | (with_reducible refine Kd.C_drew ?_))); (case side2 => exact (Kd.V_reads' HO0.out).2.1); rintro e w7 ⟨rfl, hb⟩; refine ⟨_, rfl, ?_⟩; have n0_ := Aside0.mk (Kd.V_below (by (with_reducible repeat (first | apply Kd.V_alloc | apply Kd.V_drewN | apply Kd.V_drew)); exact HO0.out) hb); have n1_ := Aside0.mk (blk_below (g := gb421) (o := .cells #[.string a1_0, .int .i64 a1_1, .int .i64 a1_2, .slice A1_3 l1_3.length c1_3, .string a1_4] 31 (0, 0)) (by (with_reducible repeat (first | refine blk_drewN ?_ _ | refine blk_drew ?_ | refine blk_alloc ?_ _)); exact BK421.out) hb); have n2_ := Aside0.mk (below_step (by repeat (first | (with_reducible first | exact HB.out | apply below_alloc | apply pw_below_drewN | apply below_drew1 | refine below_set ?_ GE421.out) | exact HB.out)) hb); clear HO0; clear BK421; clear HB; have HO0 := n0_; have BK421 := n1_; have HB := n2_; clear n0_ n1_ n2_; (try clear hb); (try clear hb2); (try clear hk); (try clear hi)))
  (try simp only [Act.put, List.setIfInBounds_toArray, List.set_cons_zero, List.set_cons_succ])
  go_cut [8] (fun v8 wc => ∃ (kq : Nat) (x8_4 : Int), v8 = .int .i64 x8_4 ∧ Aside0 (satchelref08_Put.j1 kq l0 x8_4 a1_0 a1_1 a1_2 l1_3 a1_4 = some (r1, r2)) ∧ Aside0 (kq ≤ k) ∧ Aside0 (Kd.V k31 31 wc w.heap.size (fun k_ => (P0_ k_ ∨ w.heap.size ≤ k_) ∧ k_ ≠ gb421) (.slice A0 l0.length c0) l0) ∧ Aside0 (wc.heap[gb421]? = some (.cells #[.string a1_0, .int .i64 a1_1, .int .i64 a1_2, (.slice A1_3 l1_3.length c1_3), .string a1_4] 31 (0, 0))) ∧ Aside0 (Below w.heap.size w wc))
  case first =>
   have H := HC5.out
   clear HC5
   have H' := Aside0.mk H
   clear H
   go_wp2
   go_loopg [8] k (fun kq v8 w' => ∃ (x8_1 : Int), v8 = .int .i64 x8_1 ∧ Aside0 (satchelref08_Put.l0 kq l0 x8_1 a1_0 a1_1 a1_2 l1_3 a1_4 = some (r1, r2)) ∧ Aside0 (kq ≤ k) ∧ Aside0 (Kd.V k31 31 w' w.heap.size (fun k_ => (P0_ k_ ∨ w.heap.size ≤ k_) ∧ k_ ≠ gb421) (.slice A0 l0.length c0) l0) ∧ Aside0 (w'.heap[gb421]? = some (.cells #[.string a1_0, .int .i64 a1_1, .int .i64 a1_2, (.slice A1_3 l1_3.length c1_3), .string a1_4] 31 (0, 0))) ∧ Aside0 (Below w.heap.size w w'))
   case atStart => exact ⟨(0), (by first | rfl | (simp; done) | (simp [*]; done)), H', ⟨Nat.le_refl _⟩, ⟨by (with_reducible repeat (first | apply Kd.V_alloc | apply Kd.V_drewN | apply Kd.V_drew)); exact HO0.out⟩, ⟨by (with_reducible repeat (first | refine blk_drewN ?_ _ | refine blk_drew ?_ | refine blk_alloc ?_ _)); exact BK421.out⟩, ⟨by repeat (first | (with_reducible first | exact HB.out | apply below_alloc | apply pw_below_drewN | apply below_drew1 | refine below_set ?_ GE421.out) | exact HB.out)⟩⟩
   case round =>
    clear H'
    try clear c1
    try clear p2
    try clear c3
    try clear c4
    try clear c4b0
    try clear c4b1
    obtain ⟨x8_1, rfl, HA, HK1, HO_0, BK421, HB⟩ := hrel
    cases gk with
    | zero => exact absurd HA.out (by simp [satchelref08_Put.l0])
    | succ k1 =>
     have H := HA.out
     clear HA
     simp only [satchelref08_Put.l0] at H
     by_cases c8 : x8_1 < (l0.length : Int)
     ·rw [if_pos c8] at H
      have c8b0 : decide (x8_1 < (l0.length : Int)) = true := decide_eq_true c8
      clear c8
      (first | rw [c8b0] | (simp only [i64_w, i32_w]; rw [c8b0]) | skip)
      by_cases c9 : 0 ≤ x8_1
      ·rw [if_pos c9] at H
       have c9b0 : decide (0 ≤ x8_1) = true := decide_eq_true c9
       clear c9
       replace H := Option.bind_eq_some_iff.mp H
       obtain ⟨t425, A100, H⟩ := H
       replace H : (if t425 < 0 then (satchelref08_Put.l0 k1 l0 (wrap64 (x8_1 + 1)) a1_0 a1_1 a1_2 l1_3 a1_4) else (satchelref08_Put.j1 k1 l0 x8_1 a1_0 a1_1 a1_2 l1_3 a1_4)) = some (r1, r2) := H
       have A10 := Aside0.mk A100
       clear A100
       by_cases c11 : t425 < 0
       ·rw [if_pos c11] at H
        have c11b0 : decide (t425 < 0) = true := decide_eq_true c11
        clear c11
        have H' := Aside0.mk H
        clear H
        try go_wp2
        have n0_ := Aside0.mk (Kd.V_drew HO_0.out)
        have n1_ := Aside0.mk (blk_drew BK421.out)
        have n2_ := Aside0.mk (below_drew1 HB.out)
        clear HO_0
        clear BK421
        clear HB
        have HO_0 := n0_
        have BK421 := n1_
        have HB := n2_
        clear n0_ n1_ n2_
        have p424 : 0 ≤ (x8_1 : Int) := of_decide_eq_true (by first | (with_reducible assumption) | assumption)
        have q424 : x8_1 < (l0.length : Int) := of_decide_eq_true (by first | (with_reducible assumption) | assumption)
        obtain ⟨ad424, A424_3, c424_3, e424, hx424_0, hx424_1, hx424_2, hx424_3, hx424_4, hl424_3, hi424_3⟩ := at_T31 (Kd.V_reads' HO_0.out).2.2 x8_1 p424 q424
        cases e424
        obtain ⟨ce424, hce424, hMe424, hcc424⟩ := Kd.V_get HO_0.out z31 x8_1 p424 (by first | exact q424 | exact of_decide_eq_true (by first | (with_reducible assumption) | assumption) | (have e_ := (Kd.V_reads' HO_0.out).1; omega))
        obtain ⟨ua424_3, uc424_3, rfl, ul424_3, ge424_3⟩ := k31_openF hMe424
        have hv424_3 := hcc424 3 _ rfl
        rw [add_field _ _ 3 (by omega)] at hv424_3
        replace hv424_3 := Option.some.inj (hv424_3.symm.trans hx424_3)
        injection hv424_3 with hva_ hvn_ hvc_
        rw [hva_] at ge424_3
        rw [hvc_] at ul424_3
        have HL424_3 := Aside0.mk (show Kd.V (Kd.int .u8) 5 _ w.heap.size _ _ ((rd_T31 l0 x8_1).f3) from Kd.V_mk ul424_3 ge424_3)
        clear hva_ hvn_ hvc_ ge424_3 ul424_3
        clear hcc424 hce424
        have HR424_3 := Aside0.mk hi424_3
        have HC424_3 := Aside0.mk hl424_3
        clear hi424_3 hl424_3
        replace p424 := eq_true p424
        replace q424 := eq_true q424
        refine start_ (n := 15) (S := fun w' => w'.cell? ⟨gb421, 0, none⟩ = some (.string a1_0) ∧ w'.cell? ⟨gb421, 1, none⟩ = some (.int .i64 a1_1) ∧ w'.cell? ⟨gb421, 2, none⟩ = some (.int .i64 a1_2) ∧ w'.cell? ⟨gb421, 3, none⟩ = some (.slice A1_3 l1_3.length c1_3) ∧ w'.cell? ⟨gb421, 4, none⟩ = some (.string a1_4) ∧ w'.cell? (ad424.add ((x8_1).toNat * 5)) = some (.string ((rd_T31 l0 x8_1).f0)) ∧ w'.cell? ⟨(ad424.add ((x8_1).toNat * 5)).block, (ad424.add ((x8_1).toNat * 5)).off + 1, none⟩ = some (.int .i64 ((rd_T31 l0 x8_1).f1)) ∧ w'.cell? ⟨(ad424.add ((x8_1).toNat * 5)).block, (ad424.add ((x8_1).toNat * 5)).off + 2, none⟩ = some (.int .i64 ((rd_T31 l0 x8_1).f2)) ∧ w'.cell? ⟨(ad424.add ((x8_1).toNat * 5)).block, (ad424.add ((x8_1).toNat * 5)).off + 3, none⟩ = some (.slice A424_3 ((rd_T31 l0 x8_1).f3).length c424_3) ∧ w'.cell? ⟨(ad424.add ((x8_1).toNat * 5)).block, (ad424.add ((x8_1).toNat * 5)).off + 4, none⟩ = some (.string ((rd_T31 l0 x8_1).f4))) (ds := []) #[false, false, false, false, false, false, false, false, false, false, false, false, false, false, false] (by kernel_rfl) rfl rfl ⟨(blk_cell BK421.out 0).trans rfl, (blk_cell BK421.out 1).trans rfl, (blk_cell BK421.out 2).trans rfl, (blk_cell BK421.out 3).trans rfl, (blk_cell BK421.out 4).trans rfl, hx424_0, hx424_1, hx424_2, hx424_3, hx424_4⟩ (fun hHeld => ?_); refine with_tabW satchelref08_Put.tab5 satchelref08_Put.bits5 (fun HT_ HW_ => ?_)
        generalize wr.drew = w12 at HO_0 BK421 HB HL424_3 HR424_3 hx424_0 hx424_1 hx424_2 hx424_3 hx424_4 hHeld ⊢
        refine pure_ (i := 0) (N := some 21) (v := ?_) (a' := ?_) #[true, false, false, false, false, false, false, false, false, false, false, false, false, false, false] rfl rfl (any_of HT_.out (by kernel_rfl)) (fun _ _ _ h => h) (Or.inl ⟨by rfl, ?_⟩) ?_ ?_
        rotate_left
        ·intro w'
         go_simp
         with_reducible rfl
        rotate_left
        ·simp only [Act.put, List.setIfInBounds_toArray, List.set_cons_zero, List.set_cons_succ, i64_w, i32_w]
         rfl
        refine pure_ (i := 1) (N := some 22) (v := ?_) (a' := ?_) #[true, true, false, false, false, false, false, false, false, false, false, false, false, false, false] rfl rfl (any_of HT_.out (by kernel_rfl)) (fun _ _ _ h => h) (Or.inl ⟨by rfl, ?_⟩) ?_ ?_
        rotate_left
        ·intro w'
         go_simp
         with_reducible rfl
        rotate_left
        ·simp only [Act.put, List.setIfInBounds_toArray, List.set_cons_zero, List.set_cons_succ, i64_w, i32_w]
         rfl
        refine pure_ (i := 2) (N := some 23) (v := ?_) (a' := ?_) #[true, true, true, false, false, false, false, false, false, false, false, false, false, false, false] rfl rfl (any_of HT_.out (by kernel_rfl)) (fun _ _ _ h => h) (Or.inl ⟨by rfl, ?_⟩) ?_ ?_
        rotate_left
        ·intro w'
         go_simp
         with_reducible rfl
        rotate_left
        ·simp only [Act.put, List.setIfInBounds_toArray, List.set_cons_zero, List.set_cons_succ, i64_w, i32_w]
         rfl
        refine pure_ (i := 3) (N := some 24) (v := ?_) (a' := ?_) #[true, true, true, true, false, false, false, false, false, false, false, false, false, false, false] rfl rfl (any_of HT_.out (by kernel_rfl)) (fun _ _ _ h => h) (Or.inl ⟨by rfl, ?_⟩) ?_ ?_
        rotate_left
        ·intro w'
         go_simp
         with_reducible rfl
        rotate_left
        ·simp only [Act.put, List.setIfInBounds_toArray, List.set_cons_zero, List.set_cons_succ, i64_w, i32_w]
         rfl
        refine pure_ (i := 4) (N := some 25) (v := ?_) (a' := ?_) #[true, true, true, true, true, false, false, false, false, false, false, false, false, false, false] rfl rfl (any_of HT_.out (by kernel_rfl)) (fun _ _ _ h => h) (Or.inl ⟨by rfl, ?_⟩) ?_ ?_
        rotate_left
        ·intro w'
         go_simp
         with_reducible rfl
        rotate_left
        ·simp only [Act.put, List.setIfInBounds_toArray, List.set_cons_zero, List.set_cons_succ, i64_w, i32_w]
         rfl
        refine pure_ (i := 5) (N := some 26) (v := ?_) (a' := ?_) #[true, true, true, true, true, true, false, false, false, false, false, false, false, false, false] rfl rfl (any_of HT_.out (by kernel_rfl)) (fun _ _ _ h => h) (Or.inl ⟨by rfl, ?_⟩) ?_ ?_
        rotate_left
        ·intro w'
         go_simp
         with_reducible rfl
        rotate_left
        ·simp only [Act.put, List.setIfInBounds_toArray, List.set_cons_zero, List.set_cons_succ, i64_w, i32_w]
         rfl
        refine pure_ (i := 6) (N := some 27) (v := ?_) (a' := ?_) #[true, true, true, true, true, true, true, false, false, false, false, false, false, false, false] rfl rfl (any_of HT_.out (by kernel_rfl)) (fun _ _ _ h => h) (Or.inl ⟨by rfl, ?_⟩) ?_ ?_
        rotate_left
        ·intro w'
         go_simp
         with_reducible rfl
        rotate_left
        ·simp only [Act.put, List.setIfInBounds_toArray, List.set_cons_zero, List.set_cons_succ, i64_w, i32_w]
         rfl
        refine pure_ (i := 7) (N := some 28) (v := ?_) (a' := ?_) #[true, true, true, true, true, true, true, true, false, false, false, false, false, false, false] rfl rfl (any_of HT_.out (by kernel_rfl)) (fun _ _ _ h => h) (Or.inl ⟨by rfl, ?_⟩) ?_ ?_
        rotate_left
        ·intro w'
         go_simp
         with_reducible rfl
        rotate_left
        ·simp only [Act.put, List.setIfInBounds_toArray, List.set_cons_zero, List.set_cons_succ, i64_w, i32_w]
         rfl
        refine pure_ (i := 8) (N := some 29) (v := ?_) (a' := ?_) #[true, true, true, true, true, true, true, true, true, false, false, false, false, false, false] rfl rfl (any_of HT_.out (by kernel_rfl)) (fun _ _ _ h => h) (Or.inl ⟨by rfl, ?_⟩) ?_ ?_
        rotate_left
        ·intro w'
         go_simp
         with_reducible rfl
        rotate_left
        ·simp only [Act.put, List.setIfInBounds_toArray, List.set_cons_zero, List.set_cons_succ, i64_w, i32_w]
         rfl
        refine pure_ (i := 10) (N := some 31) (v := ?_) (a' := ?_) #[true, true, true, true, true, true, true, true, true, false, true, false, false, false, false] rfl rfl (any_of HT_.out (by kernel_rfl)) (fun _ _ _ h => h) (Or.inl ⟨by rfl, ?_⟩) ?_ ?_
        rotate_left
        ·intro w'
         go_simp
         with_reducible rfl
        rotate_left
        ·simp only [Act.put, List.setIfInBounds_toArray, List.set_cons_zero, List.set_cons_succ, i64_w, i32_w]
         rfl
        refine take_ (i := 9) (N := some 30) (v := ?_) (a' := ?_) #[true, true, true, true, true, true, true, true, true, true, true, false, false, false, false] rfl rfl (take_ofW HT_.out HW_.out (by kernel_rfl)) (fun _ _ _ h => h) (Or.inl ⟨by rfl, ?_⟩) hHeld ?_ ?_
        rotate_left
        ·rintro w' ⟨s0, s1, s2, s3, s4, s5, s6, s7, s8, s9⟩
         go_simp
         with_reducible rfl
        rotate_left
        ·simp only [Act.put, List.setIfInBounds_toArray, List.set_cons_zero, List.set_cons_succ, i64_w, i32_w]
         rfl
        refine take_ (i := 11) (N := some 32) (v := ?_) (a' := ?_) #[true, true, true, true, true, true, true, true, true, true, true, true, false, false, false] rfl rfl (take_ofW HT_.out HW_.out (by kernel_rfl)) (fun _ _ _ h => h) (Or.inl ⟨by rfl, ?_⟩) hHeld ?_ ?_
        rotate_left
        ·rintro w' ⟨s0, s1, s2, s3, s4, s5, s6, s7, s8, s9⟩
         go_simp
         with_reducible rfl
        rotate_left
        ·simp only [Act.put, List.setIfInBounds_toArray, List.set_cons_zero, List.set_cons_succ, i64_w, i32_w]
         rfl
        refine one_ (i := 12) (N := some 33) #[true, true, true, true, true, true, true, true, true, true, true, true, true, false, false] rfl rfl (one_of HT_.out (by kernel_rfl)) (by decide) (fun K hK => ?_)
        refine goes_ Try.func49 (by kernel_rfl) rfl #[.string ((rd_T31 l0 x8_1).f0), .string a1_0] (by rfl) rfl rfl (by (try simp only [List.map_toArray, List.map_cons, List.map_nil]); first | done | rfl | (simp only [List.length_drop, List.length_take]; rfl)) ?_
        with_reducible refine (satchelref07_Compare.calls k1 ((rd_T31 l0 x8_1).f0) a1_0 t425 _ A10.out).mono ?_
        rintro e w13 ⟨rfl, hb⟩
        have HS5_ := (hb.cell (World.block_lt_of_cell? _ _ (hHeld.2.2.2.2.2.1))).trans (hHeld.2.2.2.2.2.1)
        have HS6_ := (hb.cell (World.block_lt_of_cell? _ _ (hHeld.2.2.2.2.2.2.1))).trans (hHeld.2.2.2.2.2.2.1)
        have HS7_ := (hb.cell (World.block_lt_of_cell? _ _ (hHeld.2.2.2.2.2.2.2.1))).trans (hHeld.2.2.2.2.2.2.2.1)
        have HS8_ := (hb.cell (World.block_lt_of_cell? _ _ (hHeld.2.2.2.2.2.2.2.2.1))).trans (hHeld.2.2.2.2.2.2.2.2.1)
        have HS9_ := (hb.cell (World.block_lt_of_cell? _ _ (hHeld.2.2.2.2.2.2.2.2.2))).trans (hHeld.2.2.2.2.2.2.2.2.2)
        refine ⟨_, rfl, ?_⟩
        have n0_ := Aside0.mk (Kd.V_below (by (with_reducible repeat (first | apply Kd.V_alloc | apply Kd.V_drewN | apply Kd.V_drew)); exact HO_0.out) hb)
        have n1_ := Aside0.mk (Kd.V_below (by (with_reducible repeat (first | apply Kd.V_alloc | apply Kd.V_drewN | apply Kd.V_drew)); exact HL424_3.out) hb)
        have n2_ := Aside0.mk (blk_below (g := gb421) (o := .cells #[.string a1_0, .int .i64 a1_1, .int .i64 a1_2, .slice A1_3 l1_3.length c1_3, .string a1_4] 31 (0, 0)) (by (with_reducible repeat (first | refine blk_drewN ?_ _ | refine blk_drew ?_ | refine blk_alloc ?_ _)); exact BK421.out) hb)
        have n3_ := Aside0.mk (Kd.C_below (by repeat (first | (with_reducible exact HR424_3.out) | (with_reducible refine Kd.C_alloc ?_ _) | (with_reducible refine Kd.C_drewN ?_ _) | (with_reducible refine Kd.C_drew ?_) | exact HR424_3.out)) hb)
        have n4_ := Aside0.mk (below_step (by repeat (first | (with_reducible first | exact HB.out | apply below_alloc | apply pw_below_drewN | apply below_drew1 | refine below_set ?_ GE421.out) | exact HB.out)) hb)
        clear HO_0
        clear HL424_3
        clear BK421
        clear HR424_3
        clear HB
        have HO_0 := n0_
        have HL424_3 := n1_
        have BK421 := n2_
        have HR424_3 := n3_
        have HB := n4_
        clear n0_ n1_ n2_ n3_ n4_
        (try clear hb)
        (try clear hb2)
        (try clear hk)
        (try clear hi)
        refine hK.out _ _ ⟨(blk_cell BK421.out 0).trans rfl, (blk_cell BK421.out 1).trans rfl, (blk_cell BK421.out 2).trans rfl, (blk_cell BK421.out 3).trans rfl, (blk_cell BK421.out 4).trans rfl, HS5_, HS6_, HS7_, HS8_, HS9_⟩ (fun hHeld => ?_)
        clear hK K
        refine norm_ (a' := ?_) ?_ ?_
        rotate_left
        ·show Act.put _ (some 33) _ = _
         simp only [Act.put, List.setIfInBounds_toArray, List.set_cons_zero, List.set_cons_succ, i64_w, i32_w]
         rfl
        refine pure_ (i := 13) (N := some 34) (v := ?_) (a' := ?_) #[true, true, true, true, true, true, true, true, true, true, true, true, true, true, false] rfl rfl (any_of HT_.out (by kernel_rfl)) (fun _ _ _ h => h) (Or.inl ⟨by rfl, ?_⟩) ?_ ?_
        rotate_left
        ·intro w'
         go_simp
         with_reducible rfl
        rotate_left
        ·simp only [Act.put, List.setIfInBounds_toArray, List.set_cons_zero, List.set_cons_succ, i64_w, i32_w]
         rfl
        refine pure_ (i := 14) (N := some 35) (v := ?_) (a' := ?_) #[true, true, true, true, true, true, true, true, true, true, true, true, true, true, true] rfl rfl (any_of HT_.out (by kernel_rfl)) (fun _ _ _ h => h) (Or.inl ⟨by rfl, ?_⟩) ?_ ?_
        rotate_left
        ·intro w'
         go_simp
         with_reducible rfl
        rotate_left
        ·simp only [Act.put, List.setIfInBounds_toArray, List.set_cons_zero, List.set_cons_succ, i64_w, i32_w]
         rfl
        refine done_ (done_of HT_.out (by kernel_rfl)) ?_
        try go_wp2
        go_roundg k1
        case measure => have := HK1.out; omega
        case rel => exact ⟨(wrap64 (x8_1 + 1)), (by first | rfl | (simp; done) | (simp [*]; done)), H', ⟨by have := HK1.out; omega⟩, ⟨by (with_reducible repeat (first | apply Kd.V_alloc | apply Kd.V_drewN | apply Kd.V_drew)); exact HO_0.out⟩, ⟨by (with_reducible repeat (first | refine blk_drewN ?_ _ | refine blk_drew ?_ | refine blk_alloc ?_ _)); exact BK421.out⟩, ⟨by repeat (first | (with_reducible first | exact HB.out | apply below_alloc | apply pw_below_drewN | apply below_drew1 | refine below_set ?_ GE421.out) | exact HB.out)⟩⟩
       ·rw [if_neg c11] at H
        have c11b0 : decide (t425 < 0) = false := decide_eq_false c11
        clear c11
        have H' := Aside0.mk H
        clear H
        try go_wp2
        have n0_ := Aside0.mk (Kd.V_drew HO_0.out)
        have n1_ := Aside0.mk (blk_drew BK421.out)
        have n2_ := Aside0.mk (below_drew1 HB.out)
        clear HO_0
        clear BK421
        clear HB
        have HO_0 := n0_
        have BK421 := n1_
        have HB := n2_
        clear n0_ n1_ n2_
        have p424 : 0 ≤ (x8_1 : Int) := of_decide_eq_true (by first | (with_reducible assumption) | assumption)
        have q424 : x8_1 < (l0.length : Int) := of_decide_eq_true (by first | (with_reducible assumption) | assumption)
        obtain ⟨ad424, A424_3, c424_3, e424, hx424_0, hx424_1, hx424_2, hx424_3, hx424_4, hl424_3, hi424_3⟩ := at_T31 (Kd.V_reads' HO_0.out).2.2 x8_1 p424 q424
        cases e424
        obtain ⟨ce424, hce424, hMe424, hcc424⟩ := Kd.V_get HO_0.out z31 x8_1 p424 (by first | exact q424 | exact of_decide_eq_true (by first | (with_reducible assumption) | assumption) | (have e_ := (Kd.V_reads' HO_0.out).1; omega))
        obtain ⟨ua424_3, uc424_3, rfl, ul424_3, ge424_3⟩ := k31_openF hMe424
        have hv424_3 := hcc424 3 _ rfl
        rw [add_field _ _ 3 (by omega)] at hv424_3
        replace hv424_3 := Option.some.inj (hv424_3.symm.trans hx424_3)
        injection hv424_3 with hva_ hvn_ hvc_
        rw [hva_] at ge424_3
        rw [hvc_] at ul424_3
        have HL424_3 := Aside0.mk (show Kd.V (Kd.int .u8) 5 _ w.heap.size _ _ ((rd_T31 l0 x8_1).f3) from Kd.V_mk ul424_3 ge424_3)
        clear hva_ hvn_ hvc_ ge424_3 ul424_3
        clear hcc424 hce424
        have HR424_3 := Aside0.mk hi424_3
        have HC424_3 := Aside0.mk hl424_3
        clear hi424_3 hl424_3
        replace p424 := eq_true p424
        replace q424 := eq_true q424
        refine start_ (n := 15) (S := fun w' => w'.cell? ⟨gb421, 0, none⟩ = some (.string a1_0) ∧ w'.cell? ⟨gb421, 1, none⟩ = some (.int .i64 a1_1) ∧ w'.cell? ⟨gb421, 2, none⟩ = some (.int .i64 a1_2) ∧ w'.cell? ⟨gb421, 3, none⟩ = some (.slice A1_3 l1_3.length c1_3) ∧ w'.cell? ⟨gb421, 4, none⟩ = some (.string a1_4) ∧ w'.cell? (ad424.add ((x8_1).toNat * 5)) = some (.string ((rd_T31 l0 x8_1).f0)) ∧ w'.cell? ⟨(ad424.add ((x8_1).toNat * 5)).block, (ad424.add ((x8_1).toNat * 5)).off + 1, none⟩ = some (.int .i64 ((rd_T31 l0 x8_1).f1)) ∧ w'.cell? ⟨(ad424.add ((x8_1).toNat * 5)).block, (ad424.add ((x8_1).toNat * 5)).off + 2, none⟩ = some (.int .i64 ((rd_T31 l0 x8_1).f2)) ∧ w'.cell? ⟨(ad424.add ((x8_1).toNat * 5)).block, (ad424.add ((x8_1).toNat * 5)).off + 3, none⟩ = some (.slice A424_3 ((rd_T31 l0 x8_1).f3).length c424_3) ∧ w'.cell? ⟨(ad424.add ((x8_1).toNat * 5)).block, (ad424.add ((x8_1).toNat * 5)).off + 4, none⟩ = some (.string ((rd_T31 l0 x8_1).f4))) (ds := []) #[false, false, false, false, false, false, false, false, false, false, false, false, false, false, false] (by kernel_rfl) rfl rfl ⟨(blk_cell BK421.out 0).trans rfl, (blk_cell BK421.out 1).trans rfl, (blk_cell BK421.out 2).trans rfl, (blk_cell BK421.out 3).trans rfl, (blk_cell BK421.out 4).trans rfl, hx424_0, hx424_1, hx424_2, hx424_3, hx424_4⟩ (fun hHeld => ?_); refine with_tabW satchelref08_Put.tab5 satchelref08_Put.bits5 (fun HT_ HW_ => ?_)
        generalize wr.drew = w14 at HO_0 BK421 HB HL424_3 HR424_3 hx424_0 hx424_1 hx424_2 hx424_3 hx424_4 hHeld ⊢
        refine pure_ (i := 0) (N := some 21) (v := ?_) (a' := ?_) #[true, false, false, false, false, false, false, false, false, false, false, false, false, false, false] rfl rfl (any_of HT_.out (by kernel_rfl)) (fun _ _ _ h => h) (Or.inl ⟨by rfl, ?_⟩) ?_ ?_
        rotate_left
        ·intro w'
         go_simp
         with_reducible rfl
        rotate_left
        ·simp only [Act.put, List.setIfInBounds_toArray, List.set_cons_zero, List.set_cons_succ, i64_w, i32_w]
         rfl
        refine pure_ (i := 1) (N := some 22) (v := ?_) (a' := ?_) #[true, true, false, false, false, false, false, false, false, false, false, false, false, false, false] rfl rfl (any_of HT_.out (by kernel_rfl)) (fun _ _ _ h => h) (Or.inl ⟨by rfl, ?_⟩) ?_ ?_
        rotate_left
        ·intro w'
         go_simp
         with_reducible rfl
        rotate_left
        ·simp only [Act.put, List.setIfInBounds_toArray, List.set_cons_zero, List.set_cons_succ, i64_w, i32_w]
         rfl
        refine pure_ (i := 2) (N := some 23) (v := ?_) (a' := ?_) #[true, true, true, false, false, false, false, false, false, false, false, false, false, false, false] rfl rfl (any_of HT_.out (by kernel_rfl)) (fun _ _ _ h => h) (Or.inl ⟨by rfl, ?_⟩) ?_ ?_
        rotate_left
        ·intro w'
         go_simp
         with_reducible rfl
        rotate_left
        ·simp only [Act.put, List.setIfInBounds_toArray, List.set_cons_zero, List.set_cons_succ, i64_w, i32_w]
         rfl
        refine pure_ (i := 3) (N := some 24) (v := ?_) (a' := ?_) #[true, true, true, true, false, false, false, false, false, false, false, false, false, false, false] rfl rfl (any_of HT_.out (by kernel_rfl)) (fun _ _ _ h => h) (Or.inl ⟨by rfl, ?_⟩) ?_ ?_
        rotate_left
        ·intro w'
         go_simp
         with_reducible rfl
        rotate_left
        ·simp only [Act.put, List.setIfInBounds_toArray, List.set_cons_zero, List.set_cons_succ, i64_w, i32_w]
         rfl
        refine pure_ (i := 4) (N := some 25) (v := ?_) (a' := ?_) #[true, true, true, true, true, false, false, false, false, false, false, false, false, false, false] rfl rfl (any_of HT_.out (by kernel_rfl)) (fun _ _ _ h => h) (Or.inl ⟨by rfl, ?_⟩) ?_ ?_
        rotate_left
        ·intro w'
         go_simp
         with_reducible rfl
        rotate_left
        ·simp only [Act.put, List.setIfInBounds_toArray, List.set_cons_zero, List.set_cons_succ, i64_w, i32_w]
         rfl
        refine pure_ (i := 5) (N := some 26) (v := ?_) (a' := ?_) #[true, true, true, true, true, true, false, false, false, false, false, false, false, false, false] rfl rfl (any_of HT_.out (by kernel_rfl)) (fun _ _ _ h => h) (Or.inl ⟨by rfl, ?_⟩) ?_ ?_
        rotate_left
        ·intro w'
         go_simp
         with_reducible rfl
        rotate_left
        ·simp only [Act.put, List.setIfInBounds_toArray, List.set_cons_zero, List.set_cons_succ, i64_w, i32_w]
         rfl
        refine pure_ (i := 6) (N := some 27) (v := ?_) (a' := ?_) #[true, true, true, true, true, true, true, false, false, false, false, false, false, false, false] rfl rfl (any_of HT_.out (by kernel_rfl)) (fun _ _ _ h => h) (Or.inl ⟨by rfl, ?_⟩) ?_ ?_
        rotate_left
        ·intro w'
         go_simp
         with_reducible rfl
        rotate_left
        ·simp only [Act.put, List.setIfInBounds_toArray, List.set_cons_zero, List.set_cons_succ, i64_w, i32_w]
         rfl
        refine pure_ (i := 7) (N := some 28) (v := ?_) (a' := ?_) #[true, true, true, true, true, true, true, true, false, false, false, false, false, false, false] rfl rfl (any_of HT_.out (by kernel_rfl)) (fun _ _ _ h => h) (Or.inl ⟨by rfl, ?_⟩) ?_ ?_
        rotate_left
        ·intro w'
         go_simp
         with_reducible rfl
        rotate_left
        ·simp only [Act.put, List.setIfInBounds_toArray, List.set_cons_zero, List.set_cons_succ, i64_w, i32_w]
         rfl
        refine pure_ (i := 8) (N := some 29) (v := ?_) (a' := ?_) #[true, true, true, true, true, true, true, true, true, false, false, false, false, false, false] rfl rfl (any_of HT_.out (by kernel_rfl)) (fun _ _ _ h => h) (Or.inl ⟨by rfl, ?_⟩) ?_ ?_
        rotate_left
        ·intro w'
         go_simp
         with_reducible rfl
        rotate_left
        ·simp only [Act.put, List.setIfInBounds_toArray, List.set_cons_zero, List.set_cons_succ, i64_w, i32_w]
         rfl
        refine pure_ (i := 10) (N := some 31) (v := ?_) (a' := ?_) #[true, true, true, true, true, true, true, true, true, false, true, false, false, false, false] rfl rfl (any_of HT_.out (by kernel_rfl)) (fun _ _ _ h => h) (Or.inl ⟨by rfl, ?_⟩) ?_ ?_
        rotate_left
        ·intro w'
         go_simp
         with_reducible rfl
        rotate_left
        ·simp only [Act.put, List.setIfInBounds_toArray, List.set_cons_zero, List.set_cons_succ, i64_w, i32_w]
         rfl
        refine take_ (i := 9) (N := some 30) (v := ?_) (a' := ?_) #[true, true, true, true, true, true, true, true, true, true, true, false, false, false, false] rfl rfl (take_ofW HT_.out HW_.out (by kernel_rfl)) (fun _ _ _ h => h) (Or.inl ⟨by rfl, ?_⟩) hHeld ?_ ?_
        rotate_left
        ·rintro w' ⟨s0, s1, s2, s3, s4, s5, s6, s7, s8, s9⟩
         go_simp
         with_reducible rfl
        rotate_left
        ·simp only [Act.put, List.setIfInBounds_toArray, List.set_cons_zero, List.set_cons_succ, i64_w, i32_w]
         rfl
        refine take_ (i := 11) (N := some 32) (v := ?_) (a' := ?_) #[true, true, true, true, true, true, true, true, true, true, true, true, false, false, false] rfl rfl (take_ofW HT_.out HW_.out (by kernel_rfl)) (fun _ _ _ h => h) (Or.inl ⟨by rfl, ?_⟩) hHeld ?_ ?_
        rotate_left
        ·rintro w' ⟨s0, s1, s2, s3, s4, s5, s6, s7, s8, s9⟩
         go_simp
         with_reducible rfl
        rotate_left
        ·simp only [Act.put, List.setIfInBounds_toArray, List.set_cons_zero, List.set_cons_succ, i64_w, i32_w]
         rfl
        refine one_ (i := 12) (N := some 33) #[true, true, true, true, true, true, true, true, true, true, true, true, true, false, false] rfl rfl (one_of HT_.out (by kernel_rfl)) (by decide) (fun K hK => ?_)
        refine goes_ Try.func49 (by kernel_rfl) rfl #[.string ((rd_T31 l0 x8_1).f0), .string a1_0] (by rfl) rfl rfl (by (try simp only [List.map_toArray, List.map_cons, List.map_nil]); first | done | rfl | (simp only [List.length_drop, List.length_take]; rfl)) ?_
        with_reducible refine (satchelref07_Compare.calls k1 ((rd_T31 l0 x8_1).f0) a1_0 t425 _ A10.out).mono ?_
        rintro e w15 ⟨rfl, hb⟩
        have HS5_ := (hb.cell (World.block_lt_of_cell? _ _ (hHeld.2.2.2.2.2.1))).trans (hHeld.2.2.2.2.2.1)
        have HS6_ := (hb.cell (World.block_lt_of_cell? _ _ (hHeld.2.2.2.2.2.2.1))).trans (hHeld.2.2.2.2.2.2.1)
        have HS7_ := (hb.cell (World.block_lt_of_cell? _ _ (hHeld.2.2.2.2.2.2.2.1))).trans (hHeld.2.2.2.2.2.2.2.1)
        have HS8_ := (hb.cell (World.block_lt_of_cell? _ _ (hHeld.2.2.2.2.2.2.2.2.1))).trans (hHeld.2.2.2.2.2.2.2.2.1)
        have HS9_ := (hb.cell (World.block_lt_of_cell? _ _ (hHeld.2.2.2.2.2.2.2.2.2))).trans (hHeld.2.2.2.2.2.2.2.2.2)
        refine ⟨_, rfl, ?_⟩
        have n0_ := Aside0.mk (Kd.V_below (by (with_reducible repeat (first | apply Kd.V_alloc | apply Kd.V_drewN | apply Kd.V_drew)); exact HO_0.out) hb)
        have n1_ := Aside0.mk (Kd.V_below (by (with_reducible repeat (first | apply Kd.V_alloc | apply Kd.V_drewN | apply Kd.V_drew)); exact HL424_3.out) hb)
        have n2_ := Aside0.mk (blk_below (g := gb421) (o := .cells #[.string a1_0, .int .i64 a1_1, .int .i64 a1_2, .slice A1_3 l1_3.length c1_3, .string a1_4] 31 (0, 0)) (by (with_reducible repeat (first | refine blk_drewN ?_ _ | refine blk_drew ?_ | refine blk_alloc ?_ _)); exact BK421.out) hb)
        have n3_ := Aside0.mk (Kd.C_below (by repeat (first | (with_reducible exact HR424_3.out) | (with_reducible refine Kd.C_alloc ?_ _) | (with_reducible refine Kd.C_drewN ?_ _) | (with_reducible refine Kd.C_drew ?_) | exact HR424_3.out)) hb)
        have n4_ := Aside0.mk (below_step (by repeat (first | (with_reducible first | exact HB.out | apply below_alloc | apply pw_below_drewN | apply below_drew1 | refine below_set ?_ GE421.out) | exact HB.out)) hb)
        clear HO_0
        clear HL424_3
        clear BK421
        clear HR424_3
        clear HB
        have HO_0 := n0_
        have HL424_3 := n1_
        have BK421 := n2_
        have HR424_3 := n3_
        have HB := n4_
        clear n0_ n1_ n2_ n3_ n4_
        (try clear hb)
        (try clear hb2)
        (try clear hk)
        (try clear hi)
        refine hK.out _ _ ⟨(blk_cell BK421.out 0).trans rfl, (blk_cell BK421.out 1).trans rfl, (blk_cell BK421.out 2).trans rfl, (blk_cell BK421.out 3).trans rfl, (blk_cell BK421.out 4).trans rfl, HS5_, HS6_, HS7_, HS8_, HS9_⟩ (fun hHeld => ?_)
        clear hK K
        refine norm_ (a' := ?_) ?_ ?_
        rotate_left
        ·show Act.put _ (some 33) _ = _
         simp only [Act.put, List.setIfInBounds_toArray, List.set_cons_zero, List.set_cons_succ, i64_w, i32_w]
         rfl
        refine pure_ (i := 13) (N := some 34) (v := ?_) (a' := ?_) #[true, true, true, true, true, true, true, true, true, true, true, true, true, true, false] rfl rfl (any_of HT_.out (by kernel_rfl)) (fun _ _ _ h => h) (Or.inl ⟨by rfl, ?_⟩) ?_ ?_
        rotate_left
        ·intro w'
         go_simp
         with_reducible rfl
        rotate_left
        ·simp only [Act.put, List.setIfInBounds_toArray, List.set_cons_zero, List.set_cons_succ, i64_w, i32_w]
         rfl
        refine pure_ (i := 14) (N := some 35) (v := ?_) (a' := ?_) #[true, true, true, true, true, true, true, true, true, true, true, true, true, true, true] rfl rfl (any_of HT_.out (by kernel_rfl)) (fun _ _ _ h => h) (Or.inl ⟨by rfl, ?_⟩) ?_ ?_
        rotate_left
        ·intro w'
         go_simp
         with_reducible rfl
        rotate_left
        ·simp only [Act.put, List.setIfInBounds_toArray, List.set_cons_zero, List.set_cons_succ, i64_w, i32_w]
         rfl
        refine done_ (done_of HT_.out (by kernel_rfl)) ?_
        try go_wp2
        go_meet
        case rel => exact ⟨_, (x8_1), (by first | rfl | (simp; done) | (simp [*]; done)), H', ⟨by have := HK1.out; first | omega | exact Nat.le_refl _⟩, ⟨by (with_reducible repeat (first | apply Kd.V_alloc | apply Kd.V_drewN | apply Kd.V_drew)); exact HO_0.out⟩, ⟨by (with_reducible repeat (first | refine blk_drewN ?_ _ | refine blk_drew ?_ | refine blk_alloc ?_ _)); exact BK421.out⟩, ⟨by repeat (first | (with_reducible first | exact HB.out | apply below_alloc | apply pw_below_drewN | apply below_drew1 | refine below_set ?_ GE421.out) | exact HB.out)⟩⟩
      ·rw [if_neg c9] at H
       exact absurd H (by simp)
     ·rw [if_neg c8] at H
      have c8b0 : decide (x8_1 < (l0.length : Int)) = false := decide_eq_false c8
      clear c8
      (first | rw [c8b0] | (simp only [i64_w, i32_w]; rw [c8b0]) | skip)
      have H' := Aside0.mk H
      clear H
      try go_wp2
      have n0_ := Aside0.mk (Kd.V_drew HO_0.out)
      have n1_ := Aside0.mk (blk_drew BK421.out)
      have n2_ := Aside0.mk (below_drew1 HB.out)
      clear HO_0
      clear BK421
      clear HB
      have HO_0 := n0_
      have BK421 := n1_
      have HB := n2_
      clear n0_ n1_ n2_
      refine start_ (n := 15) (S := fun w' => True) (ds := []) #[false, false, false, false, false, false, false, false, false, false, false, false, false, false, false] (by kernel_rfl) rfl rfl trivial (fun hHeld => ?_); refine with_tabW satchelref08_Put.tab5 satchelref08_Put.bits5 (fun HT_ HW_ => ?_)
      generalize wr.drew = w16 at HO_0 BK421 HB hHeld ⊢
      refine pure_ (i := 0) (N := some 21) (v := ?_) (a' := ?_) #[true, false, false, false, false, false, false, false, false, false, false, false, false, false, false] rfl rfl (any_of HT_.out (by kernel_rfl)) (fun _ _ _ h => h) (Or.inl ⟨by rfl, ?_⟩) ?_ ?_
      rotate_left
      ·intro w'
       go_simp
       with_reducible rfl
      rotate_left
      ·simp only [Act.put, List.setIfInBounds_toArray, List.set_cons_zero, List.set_cons_succ, i64_w, i32_w]
       rfl
      refine pure_ (i := 1) (N := some 22) (v := ?_) (a' := ?_) #[true, true, false, false, false, false, false, false, false, false, false, false, false, false, false] rfl rfl (any_of HT_.out (by kernel_rfl)) (fun _ _ _ h => h) (Or.inl ⟨by rfl, ?_⟩) ?_ ?_
      rotate_left
      ·intro w'
       go_simp
       with_reducible rfl
      rotate_left
      ·simp only [Act.put, List.setIfInBounds_toArray, List.set_cons_zero, List.set_cons_succ, i64_w, i32_w]
       rfl
      refine pure_ (i := 2) (N := some 23) (v := ?_) (a' := ?_) #[true, true, true, false, false, false, false, false, false, false, false, false, false, false, false] rfl rfl (any_of HT_.out (by kernel_rfl)) (fun _ _ _ h => h) (Or.inl ⟨by rfl, ?_⟩) ?_ ?_
      rotate_left
      ·intro w'
       go_simp
       with_reducible rfl
      rotate_left
      ·simp only [Act.put, List.setIfInBounds_toArray, List.set_cons_zero, List.set_cons_succ, i64_w, i32_w]
       rfl
      refine pure_ (i := 3) (N := some 24) (v := ?_) (a' := ?_) #[true, true, true, true, false, false, false, false, false, false, false, false, false, false, false] rfl rfl (any_of HT_.out (by kernel_rfl)) (fun _ _ _ h => h) (Or.inl ⟨by rfl, ?_⟩) ?_ ?_
      rotate_left
      ·intro w'
       go_simp
       with_reducible rfl
      rotate_left
      ·simp only [Act.put, List.setIfInBounds_toArray, List.set_cons_zero, List.set_cons_succ, i64_w, i32_w]
       rfl
      refine pure_ (i := 4) (N := some 25) (v := ?_) (a' := ?_) #[true, true, true, true, true, false, false, false, false, false, false, false, false, false, false] rfl rfl (any_of HT_.out (by kernel_rfl)) (fun _ _ _ h => h) (Or.inl ⟨by rfl, ?_⟩) ?_ ?_
      rotate_left
      ·intro w'
       go_simp
       with_reducible rfl
      rotate_left
      ·simp only [Act.put, List.setIfInBounds_toArray, List.set_cons_zero, List.set_cons_succ, i64_w, i32_w]
       rfl
      refine pure_ (i := 5) (N := some 26) (v := undef) (a' := ?_) #[true, true, true, true, true, true, false, false, false, false, false, false, false, false, false] rfl rfl (any_of HT_.out (by kernel_rfl)) (fun _ _ _ h => h) (Or.inr ⟨by rfl, rfl⟩) ?_ ?_
      rotate_left
      ·simp only [Act.put, List.setIfInBounds_toArray, List.set_cons_zero, List.set_cons_succ, i64_w, i32_w]
       rfl
      refine pure_ (i := 6) (N := some 27) (v := undef) (a' := ?_) #[true, true, true, true, true, true, true, false, false, false, false, false, false, false, false] rfl rfl (any_of HT_.out (by kernel_rfl)) (fun _ _ _ h => h) (Or.inr ⟨by rfl, rfl⟩) ?_ ?_
      rotate_left
      ·simp only [Act.put, List.setIfInBounds_toArray, List.set_cons_zero, List.set_cons_succ, i64_w, i32_w]
       rfl
      refine pure_ (i := 7) (N := some 28) (v := undef) (a' := ?_) #[true, true, true, true, true, true, true, true, false, false, false, false, false, false, false] rfl rfl (any_of HT_.out (by kernel_rfl)) (fun _ _ _ h => h) (Or.inr ⟨by rfl, rfl⟩) ?_ ?_
      rotate_left
      ·simp only [Act.put, List.setIfInBounds_toArray, List.set_cons_zero, List.set_cons_succ, i64_w, i32_w]
       rfl
      refine pure_ (i := 8) (N := some 29) (v := undef) (a' := ?_) #[true, true, true, true, true, true, true, true, true, false, false, false, false, false, false] rfl rfl (any_of HT_.out (by kernel_rfl)) (fun _ _ _ h => h) (Or.inr ⟨by rfl, rfl⟩) ?_ ?_
      rotate_left
      ·simp only [Act.put, List.setIfInBounds_toArray, List.set_cons_zero, List.set_cons_succ, i64_w, i32_w]
       rfl
      refine pure_ (i := 9) (N := some 30) (v := undef) (a' := ?_) #[true, true, true, true, true, true, true, true, true, true, false, false, false, false, false] rfl rfl (any_of HT_.out (by kernel_rfl)) (fun _ _ _ h => h) (Or.inr ⟨by rfl, rfl⟩) ?_ ?_
      rotate_left
      ·simp only [Act.put, List.setIfInBounds_toArray, List.set_cons_zero, List.set_cons_succ, i64_w, i32_w]
       rfl
      refine pure_ (i := 10) (N := some 31) (v := undef) (a' := ?_) #[true, true, true, true, true, true, true, true, true, true, true, false, false, false, false] rfl rfl (any_of HT_.out (by kernel_rfl)) (fun _ _ _ h => h) (Or.inr ⟨by rfl, rfl⟩) ?_ ?_
      rotate_left
      ·simp only [Act.put, List.setIfInBounds_toArray, List.set_cons_zero, List.set_cons_succ, i64_w, i32_w]
       rfl
      refine pure_ (i := 11) (N := some 32) (v := undef) (a' := ?_) #[true, true, true, true, true, true, true, true, true, true, true, true, false, false, false] rfl rfl (any_of HT_.out (by kernel_rfl)) (fun _ _ _ h => h) (Or.inr ⟨by rfl, rfl⟩) ?_ ?_
      rotate_left
      ·simp only [Act.put, List.setIfInBounds_toArray, List.set_cons_zero, List.set_cons_succ, i64_w, i32_w]
       rfl
      refine pure_ (i := 12) (N := some 33) (v := undef) (a' := ?_) #[true, true, true, true, true, true, true, true, true, true, true, true, true, false, false] rfl rfl (any_of HT_.out (by kernel_rfl)) (fun _ _ _ h => h) (Or.inr ⟨by rfl, rfl⟩) ?_ ?_
      rotate_left
      ·simp only [Act.put, List.setIfInBounds_toArray, List.set_cons_zero, List.set_cons_succ, i64_w, i32_w]
       rfl
      refine pure_ (i := 13) (N := some 34) (v := undef) (a' := ?_) #[true, true, true, true, true, true, true, true, true, true, true, true, true, true, false] rfl rfl (any_of HT_.out (by kernel_rfl)) (fun _ _ _ h => h) (Or.inr ⟨by rfl, rfl⟩) ?_ ?_
      rotate_left
      ·simp only [Act.put, List.setIfInBounds_toArray, List.set_cons_zero, List.set_cons_succ, i64_w, i32_w]
       rfl
      refine pure_ (i := 14) (N := some 35) (v := ?_) (a' := ?_) #[true, true, true, true, true, true, true, true, true, true, true, true, true, true, true] rfl rfl (any_of HT_.out (by kernel_rfl)) (fun _ _ _ h => h) (Or.inl ⟨by rfl, ?_⟩) ?_ ?_
      rotate_left
      ·intro w'
       go_simp
       with_reducible rfl
      rotate_left
      ·simp only [Act.put, List.setIfInBounds_toArray, List.set_cons_zero, List.set_cons_succ, i64_w, i32_w]
       rfl
      refine done_ (done_of HT_.out (by kernel_rfl)) ?_
      try go_wp2
      go_meet
      case rel => exact ⟨_, (x8_1), (by first | rfl | (simp; done) | (simp [*]; done)), H', ⟨by have := HK1.out; first | omega | exact Nat.le_refl _⟩, ⟨by (with_reducible repeat (first | apply Kd.V_alloc | apply Kd.V_drewN | apply Kd.V_drew)); exact HO_0.out⟩, ⟨by (with_reducible repeat (first | refine blk_drewN ?_ _ | refine blk_drew ?_ | refine blk_alloc ?_ _)); exact BK421.out⟩, ⟨by repeat (first | (with_reducible first | exact HB.out | apply below_alloc | apply pw_below_drewN | apply below_drew1 | refine below_set ?_ GE421.out) | exact HB.out)⟩⟩
  case rest =>
   clear HC5
   try clear c1
   try clear p2
   try clear c3
   try clear c4
   try clear c4b0
   try clear c4b1
   try clear p4
   try clear q4
   try clear hx4
   try clear p6
   try clear c8
   try clear c8b0
   try clear c9
   try clear c9b0
   try clear c11
   try clear c11b0
   try clear hx424_0
   try clear hx424_1
   try clear hx424_2
   try clear hx424_3
   try clear hx424_4
   try clear p2
   try clear p424
   try clear q424
   obtain ⟨kq, x8_4, rfl, HA, HJ4, HO_0, BK421, HB⟩ := hcut
   cases kq with
   | zero => exact absurd HA.out (by simp [satchelref08_Put.j1])
   | succ kj4 =>
    have H := HA.out
    clear HA
    simp only [satchelref08_Put.j1] at H
    by_cases c17 : 0 ≤ x8_4
    ·rw [if_pos c17] at H
     have c17b0 := eq_true c17
     have c17b1 : decide (0 ≤ x8_4) = true := decide_eq_true c17
     clear c17
     by_cases c18 : x8_4 ≤ (l0.length : Int)
     ·rw [if_pos c18] at H
      have c18b0 := eq_true c18
      have c18b1 : decide (x8_4 ≤ (l0.length : Int)) = true := decide_eq_true c18
      clear c18
      obtain ⟨y426, hy426⟩ : ∃ y_ : List (S31), y_ = (l0.drop (x8_4 : Int).toNat) := ⟨_, rfl⟩
      replace H : (if (y426.length : Int) > 0 then (if 0 < (y426.length : Int) then (satchelref08_Put.j2 kj4 l0 x8_4 y426 (((rd_T31 y426 0).f0).toList == a1_0.toList) a1_0 a1_1 a1_2 l1_3 a1_4) else (none)) else (satchelref08_Put.j2 kj4 l0 x8_4 y426 false a1_0 a1_1 a1_2 l1_3 a1_4)) = some (r1, r2) := by first | (rw [hy426]; with_reducible exact H) | (have H2_ := (Option.bind_some _ _).symm.trans H; rw [hy426]; with_reducible exact H2_) | (have H2_ := (Option.bind_some _ _).symm.trans H; with_reducible exact H2_) | with_reducible exact H | (rw [hy426]; exact H) | exact H
      have Ny426 := Aside0.mk hy426
      clear hy426
      have HC19 := Aside0.mk H
      clear H
      have q20 : (x8_4 : Int) ≤ ((l0.length : Int) : Int) := of_decide_eq_true (by first | (with_reducible assumption) | assumption)
      obtain ⟨i020, hi020, _, hsz20, _⟩ := info_parts info31
      have hroom20 : l0.length ≤ c0 := (Kd.V_reads' HO_0.out).2.1
      have hC20 : Kd.F k31 _ _ A0 l0.length l0 := (Kd.V_at (base := w.heap.size) HO_0.out).2.2
      have q020 : (0 : Int) ≤ (x8_4 : Int) := of_decide_eq_true (by first | (with_reducible assumption) | assumption)
      have hcut20 := cut_from (P := Try.prog) 22 31 .i64 Try.underlying22 hi020 5 hsz20 A0 l0.length c0 x8_4 q020 q20
      have hr20 := Kd.F_cut (m := (x8_4 : Int).toNat) (c := c0) hC20 (by omega) hroom20
      obtain ⟨A20, hA20⟩ : ∃ A1, A1 = (if c0 = (x8_4 : Int).toNat then A0 else (A0 : Option Addr).map (·.add ((x8_4 : Int).toNat * 5))) := ⟨_, rfl⟩
      obtain ⟨c20, hc20⟩ : ∃ c1, c1 = c0 - (x8_4 : Int).toNat := ⟨_, rfl⟩
      have hy20 : y426.length = l0.length - (x8_4 : Int).toNat := (by rw [Ny426.out, List.length_drop] <;> omega)
      rw [show (l0).drop (x8_4 : Int).toNat = y426 from Ny426.out.symm] at hr20
      replace hr20 : Kd.F k31 _ _ A20 y426.length y426 := (by rw [hA20]; exact hr20)
      rw [← hy20, ← hA20, ← hc20] at hcut20
      have HO430 := Aside0.mk (show Kd.V k31 31 _ w.heap.size _ (.slice A20 y426.length c20) y426 from Kd.V_mk (by rw [hy20, hc20]; exact Nat.sub_le_sub_right hroom20 _) hr20)
      have HC430 := Aside0.mk (show y426.length ≤ c20 from by rw [hy20, hc20]; exact Nat.sub_le_sub_right hroom20 _)
      clear hr20 hC20 hroom20 hi020 hsz20 hc20
      have KY20 := Aside0.mk hy20
      have KA20 := Aside0.mk hA20
      clear hy20 hA20
      replace q20 := eq_true q20
      go_upto_region 8 with (fail)
      go_cut [52] (fun v52 wc => ∃ (kq : Nat) (x52_18 : Bool), v52 = .bool x52_18 ∧ Aside0 (satchelref08_Put.j2 kq l0 x8_4 y426 x52_18 a1_0 a1_1 a1_2 l1_3 a1_4 = some (r1, r2)) ∧ Aside0 (kq ≤ kj4) ∧ Aside0 (Kd.V k31 31 wc w.heap.size (fun k_ => (P0_ k_ ∨ w.heap.size ≤ k_) ∧ k_ ≠ gb421) (.slice A0 l0.length c0) l0) ∧ Aside0 (Kd.V k31 31 wc w.heap.size (fun k_ => (P0_ k_ ∨ w.heap.size ≤ k_) ∧ k_ ≠ gb421) (.slice A20 y426.length c20) y426) ∧ Aside0 (wc.heap[gb421]? = some (.cells #[.string a1_0, .int .i64 a1_1, .int .i64 a1_2, (.slice A1_3 l1_3.length c1_3), .string a1_4] 31 (0, 0))) ∧ Aside0 (Below w.heap.size w wc))
      case first =>
       have H := HC19.out
       clear HC19
       by_cases c21 : (y426.length : Int) > 0
       ·rw [if_pos c21] at H
        have c21b0 : decide (0 < (y426.length : Int)) = true := decide_eq_true c21
        have c21b1 : decide (0 < y426.length) = true := decide_eq_true (by omega)
        clear c21
        (first | rw [c21b0] | (simp only [i64_w, i32_w]; rw [c21b0]) | skip)
        by_cases c22 : 0 < (y426.length : Int)
        ·rw [if_pos c22] at H
         have c22b0 : decide (0 < (y426.length : Int)) = true := decide_eq_true c22
         have c22b1 : decide (0 < y426.length) = true := decide_eq_true (by omega)
         clear c22
         have H' := Aside0.mk H
         clear H
         try go_wp2
         have n0_ := Aside0.mk (Kd.V_drew HO_0.out)
         have n1_ := Aside0.mk (Kd.V_drew HO430.out)
         have n2_ := Aside0.mk (blk_drew BK421.out)
         have n3_ := Aside0.mk (below_drew1 HB.out)
         clear HO_0
         clear HO430
         clear BK421
         clear HB
         have HO_0 := n0_
         have HO430 := n1_
         have BK421 := n2_
         have HB := n3_
         clear n0_ n1_ n2_ n3_
         have p431 : 0 ≤ (0 : Int) := (by omega)
         have q431 : 0 < (y426.length : Int) := of_decide_eq_true (by first | (with_reducible assumption) | assumption)
         obtain ⟨ad431, A431_3, c431_3, e431, hx431_0, hx431_1, hx431_2, hx431_3, hx431_4, hl431_3, hi431_3⟩ := at_T31 (Kd.V_reads' HO430.out).2.2 0 p431 q431
         cases e431
         obtain ⟨ce431, hce431, hMe431, hcc431⟩ := Kd.V_get HO430.out z31 0 p431 (by first | exact q431 | exact of_decide_eq_true (by first | (with_reducible assumption) | assumption) | (have e_ := (Kd.V_reads' HO430.out).1; omega))
         obtain ⟨ua431_3, uc431_3, rfl, ul431_3, ge431_3⟩ := k31_openF hMe431
         have hv431_3 := hcc431 3 _ rfl
         rw [add_field _ _ 3 (by omega)] at hv431_3
         replace hv431_3 := Option.some.inj (hv431_3.symm.trans hx431_3)
         injection hv431_3 with hva_ hvn_ hvc_
         rw [hva_] at ge431_3
         rw [hvc_] at ul431_3
         have HL431_3 := Aside0.mk (show Kd.V (Kd.int .u8) 5 _ w.heap.size _ _ ((rd_T31 y426 0).f3) from Kd.V_mk ul431_3 ge431_3)
         clear hva_ hvn_ hvc_ ge431_3 ul431_3
         clear hcc431 hce431
         have qi431 : (0 < y426.length) = True := eq_true (by omega)
         (try rw [show ((0 : Int)).toNat = 0 from rfl] at hx431_0)
         (try rw [show 0 * 5 = 0 from rfl] at hx431_0)
         (try rw [Addr.add_zero'] at hx431_0)
         (try rw [show ((0 : Int)).toNat = 0 from rfl] at hx431_1)
         (try rw [show 0 * 5 = 0 from rfl] at hx431_1)
         (try rw [Addr.add_zero'] at hx431_1)
         (try rw [show ((0 : Int)).toNat = 0 from rfl] at hx431_2)
         (try rw [show 0 * 5 = 0 from rfl] at hx431_2)
         (try rw [Addr.add_zero'] at hx431_2)
         (try rw [show ((0 : Int)).toNat = 0 from rfl] at hx431_3)
         (try rw [show 0 * 5 = 0 from rfl] at hx431_3)
         (try rw [Addr.add_zero'] at hx431_3)
         (try rw [show ((0 : Int)).toNat = 0 from rfl] at hx431_4)
         (try rw [show 0 * 5 = 0 from rfl] at hx431_4)
         (try rw [Addr.add_zero'] at hx431_4)
         have HR431_3 := Aside0.mk hi431_3
         have HC431_3 := Aside0.mk hl431_3
         clear hi431_3 hl431_3
         replace p431 := eq_true p431
         replace q431 := eq_true q431
         refine start_ (n := 12) (S := fun w' => w'.cell? ⟨gb421, 0, none⟩ = some (.string a1_0) ∧ w'.cell? ⟨gb421, 1, none⟩ = some (.int .i64 a1_1) ∧ w'.cell? ⟨gb421, 2, none⟩ = some (.int .i64 a1_2) ∧ w'.cell? ⟨gb421, 3, none⟩ = some (.slice A1_3 l1_3.length c1_3) ∧ w'.cell? ⟨gb421, 4, none⟩ = some (.string a1_4) ∧ w'.cell? ad431 = some (.string ((rd_T31 y426 0).f0)) ∧ w'.cell? ⟨ad431.block, ad431.off + 1, none⟩ = some (.int .i64 ((rd_T31 y426 0).f1)) ∧ w'.cell? ⟨ad431.block, ad431.off + 2, none⟩ = some (.int .i64 ((rd_T31 y426 0).f2)) ∧ w'.cell? ⟨ad431.block, ad431.off + 3, none⟩ = some (.slice A431_3 ((rd_T31 y426 0).f3).length c431_3) ∧ w'.cell? ⟨ad431.block, ad431.off + 4, none⟩ = some (.string ((rd_T31 y426 0).f4))) (ds := []) #[false, false, false, false, false, false, false, false, false, false, false, false] (by kernel_rfl) rfl rfl ⟨(blk_cell BK421.out 0).trans rfl, (blk_cell BK421.out 1).trans rfl, (blk_cell BK421.out 2).trans rfl, (blk_cell BK421.out 3).trans rfl, (blk_cell BK421.out 4).trans rfl, hx431_0, hx431_1, hx431_2, hx431_3, hx431_4⟩ (fun hHeld => ?_); refine with_tabW satchelref08_Put.tab8 satchelref08_Put.bits8 (fun HT_ HW_ => ?_)
         generalize wc.drew = w23 at HO_0 HO430 BK421 HB HL431_3 HR431_3 hx431_0 hx431_1 hx431_2 hx431_3 hx431_4 hHeld ⊢
         refine pure_ (i := 0) (N := some 41) (v := ?_) (a' := ?_) #[true, false, false, false, false, false, false, false, false, false, false, false] rfl rfl (any_of HT_.out (by kernel_rfl)) (fun _ _ _ h => h) (Or.inl ⟨by rfl, ?_⟩) ?_ ?_
         rotate_left
         ·intro w'
          go_simp
          with_reducible rfl
         rotate_left
         ·simp only [Act.put, List.setIfInBounds_toArray, List.set_cons_zero, List.set_cons_succ, i64_w, i32_w]
          rfl
         refine pure_ (i := 1) (N := some 42) (v := ?_) (a' := ?_) #[true, true, false, false, false, false, false, false, false, false, false, false] rfl rfl (any_of HT_.out (by kernel_rfl)) (fun _ _ _ h => h) (Or.inl ⟨by rfl, ?_⟩) ?_ ?_
         rotate_left
         ·intro w'
          go_simp
          with_reducible rfl
         rotate_left
         ·simp only [Act.put, List.setIfInBounds_toArray, List.set_cons_zero, List.set_cons_succ, i64_w, i32_w]
          rfl
         refine pure_ (i := 2) (N := some 43) (v := ?_) (a' := ?_) #[true, true, true, false, false, false, false, false, false, false, false, false] rfl rfl (any_of HT_.out (by kernel_rfl)) (fun _ _ _ h => h) (Or.inl ⟨by rfl, ?_⟩) ?_ ?_
         rotate_left
         ·intro w'
          go_simp
          with_reducible rfl
         rotate_left
         ·simp only [Act.put, List.setIfInBounds_toArray, List.set_cons_zero, List.set_cons_succ, i64_w, i32_w]
          rfl
         refine pure_ (i := 3) (N := some 44) (v := ?_) (a' := ?_) #[true, true, true, true, false, false, false, false, false, false, false, false] rfl rfl (any_of HT_.out (by kernel_rfl)) (fun _ _ _ h => h) (Or.inl ⟨by rfl, ?_⟩) ?_ ?_
         rotate_left
         ·intro w'
          go_simp
          with_reducible rfl
         rotate_left
         ·simp only [Act.put, List.setIfInBounds_toArray, List.set_cons_zero, List.set_cons_succ, i64_w, i32_w]
          rfl
         refine pure_ (i := 4) (N := some 45) (v := ?_) (a' := ?_) #[true, true, true, true, true, false, false, false, false, false, false, false] rfl rfl (any_of HT_.out (by kernel_rfl)) (fun _ _ _ h => h) (Or.inl ⟨by rfl, ?_⟩) ?_ ?_
         rotate_left
         ·intro w'
          go_simp
          with_reducible rfl
         rotate_left
         ·simp only [Act.put, List.setIfInBounds_toArray, List.set_cons_zero, List.set_cons_succ, i64_w, i32_w]
          rfl
         refine pure_ (i := 5) (N := some 46) (v := ?_) (a' := ?_) #[true, true, true, true, true, true, false, false, false, false, false, false] rfl rfl (any_of HT_.out (by kernel_rfl)) (fun _ _ _ h => h) (Or.inl ⟨by rfl, ?_⟩) ?_ ?_
         rotate_left
         ·intro w'
          go_simp
          with_reducible rfl
         rotate_left
         ·simp only [Act.put, List.setIfInBounds_toArray, List.set_cons_zero, List.set_cons_succ, i64_w, i32_w]
          rfl
         refine pure_ (i := 6) (N := some 47) (v := ?_) (a' := ?_) #[true, true, true, true, true, true, true, false, false, false, false, false] rfl rfl (any_of HT_.out (by kernel_rfl)) (fun _ _ _ h => h) (Or.inl ⟨by rfl, ?_⟩) ?_ ?_
         rotate_left
         ·intro w'
          go_simp
          with_reducible rfl
         rotate_left
         ·simp only [Act.put, List.setIfInBounds_toArray, List.set_cons_zero, List.set_cons_succ, i64_w, i32_w]
          rfl
         refine pure_ (i := 8) (N := some 49) (v := ?_) (a' := ?_) #[true, true, true, true, true, true, true, false, true, false, false, false] rfl rfl (any_of HT_.out (by kernel_rfl)) (fun _ _ _ h => h) (Or.inl ⟨by rfl, ?_⟩) ?_ ?_
         rotate_left
         ·intro w'
          go_simp
          with_reducible rfl
         rotate_left
         ·simp only [Act.put, List.setIfInBounds_toArray, List.set_cons_zero, List.set_cons_succ, i64_w, i32_w]
          rfl
         refine take_ (i := 7) (N := some 48) (v := ?_) (a' := ?_) #[true, true, true, true, true, true, true, true, true, false, false, false] rfl rfl (take_ofW HT_.out HW_.out (by kernel_rfl)) (fun _ _ _ h => h) (Or.inl ⟨by rfl, ?_⟩) hHeld ?_ ?_
         rotate_left
         ·rintro w' ⟨s0, s1, s2, s3, s4, s5, s6, s7, s8, s9⟩
          go_simp
          with_reducible rfl
         rotate_left
         ·simp only [Act.put, List.setIfInBounds_toArray, List.set_cons_zero, List.set_cons_succ, i64_w, i32_w]
          rfl
         refine take_ (i := 9) (N := some 50) (v := ?_) (a' := ?_) #[true, true, true, true, true, true, true, true, true, true, false, false] rfl rfl (take_ofW HT_.out HW_.out (by kernel_rfl)) (fun _ _ _ h => h) (Or.inl ⟨by rfl, ?_⟩) hHeld ?_ ?_
         rotate_left
         ·rintro w' ⟨s0, s1, s2, s3, s4, s5, s6, s7, s8, s9⟩
          go_simp
          with_reducible rfl
         rotate_left
         ·simp only [Act.put, List.setIfInBounds_toArray, List.set_cons_zero, List.set_cons_succ, i64_w, i32_w]
          rfl
         refine pure_ (i := 10) (N := some 51) (v := ?_) (a' := ?_) #[true, true, true, true, true, true, true, true, true, true, true, false] rfl rfl (any_of HT_.out (by kernel_rfl)) (fun _ _ _ h => h) (Or.inl ⟨by rfl, ?_⟩) ?_ ?_
         rotate_left
         ·intro w'
          go_simp
          with_reducible rfl
         rotate_left
         ·simp only [Act.put, List.setIfInBounds_toArray, List.set_cons_zero, List.set_cons_succ, i64_w, i32_w]
          rfl
         refine pure_ (i := 11) (N := some 52) (v := ?_) (a' := ?_) #[true, true, true, true, true, true, true, true, true, true, true, true] rfl rfl (any_of HT_.out (by kernel_rfl)) (fun _ _ _ h => h) (Or.inl ⟨by rfl, ?_⟩) ?_ ?_
         rotate_left
         ·intro w'
          go_simp
          with_reducible rfl
         rotate_left
         ·simp only [Act.put, List.setIfInBounds_toArray, List.set_cons_zero, List.set_cons_succ, i64_w, i32_w]
          rfl
         refine done_ (done_of HT_.out (by kernel_rfl)) ?_
         try go_wp2
         go_meet
         case rel => exact ⟨_, ((((rd_T31 y426 0).f0).toList == a1_0.toList)), (by first | rfl | (simp; done) | (simp [*]; done)), H', ⟨by have := HJ4.out; first | omega | exact Nat.le_refl _⟩, ⟨by (with_reducible repeat (first | apply Kd.V_alloc | apply Kd.V_drewN | apply Kd.V_drew)); exact HO_0.out⟩, ⟨by (with_reducible repeat (first | apply Kd.V_alloc | apply Kd.V_drewN | apply Kd.V_drew)); exact HO430.out⟩, ⟨by (with_reducible repeat (first | refine blk_drewN ?_ _ | refine blk_drew ?_ | refine blk_alloc ?_ _)); exact BK421.out⟩, ⟨by repeat (first | (with_reducible first | exact HB.out | apply below_alloc | apply pw_below_drewN | apply below_drew1 | refine below_set ?_ GE421.out) | exact HB.out)⟩⟩
        ·rw [if_neg c22] at H
         exact absurd H (by simp)
       ·rw [if_neg c21] at H
        have c21b0 : decide (0 < (y426.length : Int)) = false := decide_eq_false c21
        have c21b1 : decide (0 < y426.length) = false := decide_eq_false (by omega)
        clear c21
        (first | rw [c21b0] | (simp only [i64_w, i32_w]; rw [c21b0]) | skip)
        have H' := Aside0.mk H
        clear H
        try go_wp2
        have n0_ := Aside0.mk (Kd.V_drew HO_0.out)
        have n1_ := Aside0.mk (Kd.V_drew HO430.out)
        have n2_ := Aside0.mk (blk_drew BK421.out)
        have n3_ := Aside0.mk (below_drew1 HB.out)
        clear HO_0
        clear HO430
        clear BK421
        clear HB
        have HO_0 := n0_
        have HO430 := n1_
        have BK421 := n2_
        have HB := n3_
        clear n0_ n1_ n2_ n3_
        refine start_ (n := 12) (S := fun w' => True) (ds := []) #[false, false, false, false, false, false, false, false, false, false, false, false] (by kernel_rfl) rfl rfl trivial (fun hHeld => ?_); refine with_tabW satchelref08_Put.tab8 satchelref08_Put.bits8 (fun HT_ HW_ => ?_)
        generalize wc.drew = w24 at HO_0 HO430 BK421 HB hHeld ⊢
        refine pure_ (i := 0) (N := some 41) (v := ?_) (a' := ?_) #[true, false, false, false, false, false, false, false, false, false, false, false] rfl rfl (any_of HT_.out (by kernel_rfl)) (fun _ _ _ h => h) (Or.inl ⟨by rfl, ?_⟩) ?_ ?_
        rotate_left
        ·intro w'
         go_simp
         with_reducible rfl
        rotate_left
        ·simp only [Act.put, List.setIfInBounds_toArray, List.set_cons_zero, List.set_cons_succ, i64_w, i32_w]
         rfl
        refine pure_ (i := 1) (N := some 42) (v := ?_) (a' := ?_) #[true, true, false, false, false, false, false, false, false, false, false, false] rfl rfl (any_of HT_.out (by kernel_rfl)) (fun _ _ _ h => h) (Or.inl ⟨by rfl, ?_⟩) ?_ ?_
        rotate_left
        ·intro w'
         go_simp
         with_reducible rfl
        rotate_left
        ·simp only [Act.put, List.setIfInBounds_toArray, List.set_cons_zero, List.set_cons_succ, i64_w, i32_w]
         rfl
        refine pure_ (i := 2) (N := some 43) (v := ?_) (a' := ?_) #[true, true, true, false, false, false, false, false, false, false, false, false] rfl rfl (any_of HT_.out (by kernel_rfl)) (fun _ _ _ h => h) (Or.inl ⟨by rfl, ?_⟩) ?_ ?_
        rotate_left
        ·intro w'
         go_simp
         with_reducible rfl
        rotate_left
        ·simp only [Act.put, List.setIfInBounds_toArray, List.set_cons_zero, List.set_cons_succ, i64_w, i32_w]
         rfl
        refine pure_ (i := 3) (N := some 44) (v := ?_) (a' := ?_) #[true, true, true, true, false, false, false, false, false, false, false, false] rfl rfl (any_of HT_.out (by kernel_rfl)) (fun _ _ _ h => h) (Or.inl ⟨by rfl, ?_⟩) ?_ ?_
        rotate_left
        ·intro w'
         go_simp
         with_reducible rfl
        rotate_left
        ·simp only [Act.put, List.setIfInBounds_toArray, List.set_cons_zero, List.set_cons_succ, i64_w, i32_w]
         rfl
        refine pure_ (i := 4) (N := some 45) (v := undef) (a' := ?_) #[true, true, true, true, true, false, false, false, false, false, false, false] rfl rfl (any_of HT_.out (by kernel_rfl)) (fun _ _ _ h => h) (Or.inr ⟨by rfl, rfl⟩) ?_ ?_
        rotate_left
        ·simp only [Act.put, List.setIfInBounds_toArray, List.set_cons_zero, List.set_cons_succ, i64_w, i32_w]
         rfl
        refine pure_ (i := 5) (N := some 46) (v := undef) (a' := ?_) #[true, true, true, true, true, true, false, false, false, false, false, false] rfl rfl (any_of HT_.out (by kernel_rfl)) (fun _ _ _ h => h) (Or.inr ⟨by rfl, rfl⟩) ?_ ?_
        rotate_left
        ·simp only [Act.put, List.setIfInBounds_toArray, List.set_cons_zero, List.set_cons_succ, i64_w, i32_w]
         rfl
        refine pure_ (i := 6) (N := some 47) (v := undef) (a' := ?_) #[true, true, true, true, true, true, true, false, false, false, false, false] rfl rfl (any_of HT_.out (by kernel_rfl)) (fun _ _ _ h => h) (Or.inr ⟨by rfl, rfl⟩) ?_ ?_
        rotate_left
        ·simp only [Act.put, List.setIfInBounds_toArray, List.set_cons_zero, List.set_cons_succ, i64_w, i32_w]
         rfl
        refine pure_ (i := 7) (N := some 48) (v := undef) (a' := ?_) #[true, true, true, true, true, true, true, true, false, false, false, false] rfl rfl (any_of HT_.out (by kernel_rfl)) (fun _ _ _ h => h) (Or.inr ⟨by rfl, rfl⟩) ?_ ?_
        rotate_left
        ·simp only [Act.put, List.setIfInBounds_toArray, List.set_cons_zero, List.set_cons_succ, i64_w, i32_w]
         rfl
        refine pure_ (i := 8) (N := some 49) (v := undef) (a' := ?_) #[true, true, true, true, true, true, true, true, true, false, false, false] rfl rfl (any_of HT_.out (by kernel_rfl)) (fun _ _ _ h => h) (Or.inr ⟨by rfl, rfl⟩) ?_ ?_
        rotate_left
        ·simp only [Act.put, List.setIfInBounds_toArray, List.set_cons_zero, List.set_cons_succ, i64_w, i32_w]
         rfl
        refine pure_ (i := 9) (N := some 50) (v := undef) (a' := ?_) #[true, true, true, true, true, true, true, true, true, true, false, false] rfl rfl (any_of HT_.out (by kernel_rfl)) (fun _ _ _ h => h) (Or.inr ⟨by rfl, rfl⟩) ?_ ?_
        rotate_left
        ·simp only [Act.put, List.setIfInBounds_toArray, List.set_cons_zero, List.set_cons_succ, i64_w, i32_w]
         rfl
        refine pure_ (i := 10) (N := some 51) (v := undef) (a' := ?_) #[true, true, true, true, true, true, true, true, true, true, true, false] rfl rfl (any_of HT_.out (by kernel_rfl)) (fun _ _ _ h => h) (Or.inr ⟨by rfl, rfl⟩) ?_ ?_
        rotate_left
        ·simp only [Act.put, List.setIfInBounds_toArray, List.set_cons_zero, List.set_cons_succ, i64_w, i32_w]
         rfl
        refine pure_ (i := 11) (N := some 52) (v := ?_) (a' := ?_) #[true, true, true, true, true, true, true, true, true, true, true, true] rfl rfl (any_of HT_.out (by kernel_rfl)) (fun _ _ _ h => h) (Or.inl ⟨by rfl, ?_⟩) ?_ ?_
        rotate_left
        ·intro w'
         go_simp
         with_reducible rfl
        rotate_left
        ·simp only [Act.put, List.setIfInBounds_toArray, List.set_cons_zero, List.set_cons_succ, i64_w, i32_w]
         rfl
        refine done_ (done_of HT_.out (by kernel_rfl)) ?_
        try go_wp2
        go_meet
        case rel => exact ⟨_, (false), (by first | rfl | (simp; done) | (simp [*]; done)), H', ⟨by have := HJ4.out; first | omega | exact Nat.le_refl _⟩, ⟨by (with_reducible repeat (first | apply Kd.V_alloc | apply Kd.V_drewN | apply Kd.V_drew)); exact HO_0.out⟩, ⟨by (with_reducible repeat (first | apply Kd.V_alloc | apply Kd.V_drewN | apply Kd.V_drew)); exact HO430.out⟩, ⟨by (with_reducible repeat (first | refine blk_drewN ?_ _ | refine blk_drew ?_ | refine blk_alloc ?_ _)); exact BK421.out⟩, ⟨by repeat (first | (with_reducible first | exact HB.out | apply below_alloc | apply pw_below_drewN | apply below_drew1 | refine below_set ?_ GE421.out) | exact HB.out)⟩⟩
      case rest =>
       clear HC19
       try clear c1
       try clear c2
       try clear p2
       try clear q2
       try clear c3
       try clear c4
       try clear c4b0
       try clear c4b1
       try clear p4
       try clear q4
       try clear hx4
       try clear qi4
       try clear p6
       try clear c8
       try clear c8b0
       try clear c9
       try clear c9b0
       try clear c11
       try clear c11b0
       try clear c17
       try clear c17b0
       try clear c17b1
       try clear c18
       try clear c18b0
       try clear c18b1
       try clear c20
       try clear q20
       try clear c21
       try clear c21b0
       try clear c21b1
       try clear c22
       try clear c22b0
       try clear c22b1
       try clear hx424_0
       try clear hx424_1
       try clear hx424_2
       try clear hx424_3
       try clear hx424_4
       try clear hx431_0
       try clear hx431_1
       try clear hx431_2
       try clear hx431_3
       try clear hx431_4
       try clear p2
       try clear p4
       try clear p424
       try clear p431
       try clear p6
       try clear q020
       try clear q20
       try clear q4
       try clear q424
       try clear q431
       obtain ⟨kq, x52_18, rfl, HA, HJ18, HO_0, HO_9, BK421, HB⟩ := hcut
       cases kq with
       | zero => exact absurd HA.out (by simp [satchelref08_Put.j2])
       | succ kj18 =>
        have H := HA.out
        clear HA
        simp only [satchelref08_Put.j2] at H
        have HC25 := Aside0.mk H
        clear H
        go_upto_if 52 with (fail)
        go_cut [9] (fun v9 wc => ∃ (kq : Nat) (x9_24 : List (S31)), Aside0 (satchelref08_Put.j3 kq l0 x8_4 x9_24 a1_0 a1_1 a1_2 l1_3 a1_4 = some (r1, r2)) ∧ Aside0 (kq ≤ kj18) ∧ Aside0 (Kd.V k31 31 wc w.heap.size (fun k_ => (P0_ k_ ∨ w.heap.size ≤ k_) ∧ k_ ≠ gb421) (.slice A0 l0.length c0) l0) ∧ Aside0 (Kd.V k31 31 wc w.heap.size (fun k_ => (P0_ k_ ∨ w.heap.size ≤ k_) ∧ k_ ≠ gb421) v9 x9_24) ∧ Aside0 (wc.heap[gb421]? = some (.cells #[.string a1_0, .int .i64 a1_1, .int .i64 a1_2, (.slice A1_3 l1_3.length c1_3), .string a1_4] 31 (0, 0))) ∧ Aside0 (Below w.heap.size w wc))
        case first =>
         have H := HC25.out
         clear HC25
         by_cases c26 : x52_18 = true
         ·subst c26
          have H1 : (if 1 ≤ (y426.length : Int) then (satchelref08_Put.j3 kj18 l0 x8_4 (y426.drop 1) a1_0 a1_1 a1_2 l1_3 a1_4) else (none)) = some (r1, r2) := by rw [if_pos rfl] at H; exact H
          clear H
          have H := H1
          clear H1
          by_cases c27 : 1 ≤ (y426.length : Int)
          ·rw [if_pos c27] at H
           have c27b0 := eq_true c27
           have c27b1 : decide (1 ≤ (y426.length : Int)) = true := decide_eq_true c27
           clear c27
           obtain ⟨y432, hy432⟩ : ∃ y_ : List (S31), y_ = (y426.drop 1) := ⟨_, rfl⟩
           replace H : (satchelref08_Put.j3 kj18 l0 x8_4 y432 a1_0 a1_1 a1_2 l1_3 a1_4) = some (r1, r2) := by first | (rw [hy432]; with_reducible exact H) | (have H2_ := (Option.bind_some _ _).symm.trans H; rw [hy432]; with_reducible exact H2_) | (have H2_ := (Option.bind_some _ _).symm.trans H; with_reducible exact H2_) | with_reducible exact H | (rw [hy432]; exact H) | exact H
           have Ny432 := Aside0.mk hy432
           clear hy432
           have H' := Aside0.mk H
           clear H
           have q28 : (1 : Int) ≤ ((y426.length : Int) : Int) := of_decide_eq_true (by first | (with_reducible assumption) | assumption)
           obtain ⟨i028, hi028, _, hsz28, _⟩ := info_parts info31
           have hroom28 : y426.length ≤ c20 := (Kd.V_reads' HO_9.out).2.1
           have hC28 : Kd.F k31 _ _ A20 y426.length y426 := (Kd.V_at (base := w.heap.size) HO_9.out).2.2
           have hcut28 := cut_from (P := Try.prog) 22 31 .i64 Try.underlying22 hi028 5 hsz28 A20 y426.length c20 1 (by omega) q28
           have hr28 := Kd.F_cut (m := (1 : Int).toNat) (c := c20) hC28 (by omega) hroom28
           obtain ⟨A28, hA28⟩ : ∃ A1, A1 = (if c20 = (1 : Int).toNat then A20 else (A20 : Option Addr).map (·.add ((1 : Int).toNat * 5))) := ⟨_, rfl⟩
           obtain ⟨c28, hc28⟩ : ∃ c1, c1 = c20 - (1 : Int).toNat := ⟨_, rfl⟩
           have hy28 : y432.length = y426.length - (1 : Int).toNat := (by rw [Ny432.out, List.length_drop] <;> omega)
           rw [show (y426).drop (1 : Int).toNat = y432 from Ny432.out.symm] at hr28
           replace hr28 : Kd.F k31 _ _ A28 y432.length y432 := (by rw [hA28]; exact hr28)
           rw [← hy28, ← hA28, ← hc28] at hcut28
           have HO436 := Aside0.mk (show Kd.V k31 31 _ w.heap.size _ (.slice A28 y432.length c28) y432 from Kd.V_mk (by rw [hy28, hc28]; exact Nat.sub_le_sub_right hroom28 _) hr28)
           have HC436 := Aside0.mk (show y432.length ≤ c28 from by rw [hy28, hc28]; exact Nat.sub_le_sub_right hroom28 _)
           clear hr28 hC28 hroom28 hi028 hsz28 hc28
           have KY28 := Aside0.mk hy28
           have KA28 := Aside0.mk hA28
           clear hy28 hA28
           replace q28 := eq_true q28
           go_wp2
           go_meet
           case rel => exact ⟨_, (y432), H', ⟨by have := HJ4.out; have := HJ18.out; first | omega | exact Nat.le_refl _⟩, ⟨by (with_reducible repeat (first | apply Kd.V_alloc | apply Kd.V_drewN | apply Kd.V_drew)); exact HO_0.out⟩, ⟨by (with_reducible repeat (first | apply Kd.V_alloc | apply Kd.V_drewN | apply Kd.V_drew)); exact HO436.out⟩, ⟨by (with_reducible repeat (first | refine blk_drewN ?_ _ | refine blk_drew ?_ | refine blk_alloc ?_ _)); exact BK421.out⟩, ⟨by repeat (first | (with_reducible first | exact HB.out | apply below_alloc | apply pw_below_drewN | apply below_drew1 | refine below_set ?_ GE421.out) | exact HB.out)⟩⟩
          ·rw [if_neg c27] at H
           exact absurd H (by simp)
         ·replace c26 := Bool.eq_false_iff.mpr c26
          subst c26
          have H1 : (satchelref08_Put.j3 kj18 l0 x8_4 y426 a1_0 a1_1 a1_2 l1_3 a1_4) = some (r1, r2) := by rw [if_neg (show ¬ (false = true) by decide)] at H; exact H
          clear H
          have H := H1
          clear H1
          have H' := Aside0.mk H
          clear H
          go_wp2
          go_meet
          case rel => exact ⟨_, (y426), H', ⟨by have := HJ4.out; have := HJ18.out; first | omega | exact Nat.le_refl _⟩, ⟨by (with_reducible repeat (first | apply Kd.V_alloc | apply Kd.V_drewN | apply Kd.V_drew)); exact HO_0.out⟩, ⟨by (with_reducible repeat (first | apply Kd.V_alloc | apply Kd.V_drewN | apply Kd.V_drew)); exact HO_9.out⟩, ⟨by (with_reducible repeat (first | refine blk_drewN ?_ _ | refine blk_drew ?_ | refine blk_alloc ?_ _)); exact BK421.out⟩, ⟨by repeat (first | (with_reducible first | exact HB.out | apply below_alloc | apply pw_below_drewN | apply below_drew1 | refine below_set ?_ GE421.out) | exact HB.out)⟩⟩
        case rest =>
         clear HC25
         try clear c1
         try clear c2
         try clear p2
         try clear q2
         try clear c3
         try clear c4
         try clear c4b0
         try clear c4b1
         try clear p4
         try clear q4
         try clear hx4
         try clear qi4
         try clear p6
         try clear c8
         try clear c8b0
         try clear c9
         try clear c9b0
         try clear c11
         try clear c11b0
         try clear c17
         try clear c17b0
         try clear c17b1
         try clear c18
         try clear c18b0
         try clear c18b1
         try clear c20
         try clear q20
         try clear c21
         try clear c21b0
         try clear c21b1
         try clear c22
         try clear c22b0
         try clear c22b1
         try clear c26
         try clear c27
         try clear c27b0
         try clear c27b1
         try clear c28
         try clear q28
         try clear hx424_0
         try clear hx424_1
         try clear hx424_2
         try clear hx424_3
         try clear hx424_4
         try clear hx431_0
         try clear hx431_1
         try clear hx431_2
         try clear hx431_3
         try clear hx431_4
         try clear p2
         try clear p4
         try clear p424
         try clear p431
         try clear p6
         try clear q020
         try clear q2
         try clear q20
         try clear q28
         try clear q4
         try clear q424
         try clear q431
         obtain ⟨kq, x9_24, HA, HJ24, HO_0, HO_9, BK421, HB⟩ := hcut
         cases kq with
         | zero => exact absurd HA.out (by simp [satchelref08_Put.j3])
         | succ kj24 =>
          have H := HA.out
          clear HA
          simp only [satchelref08_Put.j3] at H
          have H' := Aside0.mk H
          clear H
          go_wp2
          go_loopg [10, 11] kj24 (fun kq v10 v11 w' => ∃ (x10_4 : List (S31)) (x11_4 : Int), v11 = .int .i64 x11_4 ∧ Aside0 (satchelref08_Put.l1 kq l0 x8_4 x9_24 x10_4 x11_4 a1_0 a1_1 a1_2 l1_3 a1_4 = some (r1, r2)) ∧ Aside0 (kq ≤ kj24) ∧ Aside0 (Kd.V k31 31 w' w.heap.size (fun k_ => (P0_ k_ ∨ w.heap.size ≤ k_) ∧ some k_ ≠ (v10 : Value).ownBlock ∧ k_ ≠ gb421) (.slice A0 l0.length c0) l0) ∧ Aside0 (Kd.V k31 31 w' w.heap.size (fun k_ => (P0_ k_ ∨ w.heap.size ≤ k_) ∧ some k_ ≠ (v10 : Value).ownBlock ∧ k_ ≠ gb421) u9 x9_24) ∧ Aside0 (Kd.S k31 31 w' w.heap.size (fun k_ => (w.heap.size ≤ k_) ∧ k_ ≠ gb421) v10 x10_4) ∧ Aside0 (w'.heap[gb421]? = some (.cells #[.string a1_0, .int .i64 a1_1, .int .i64 a1_2, (.slice A1_3 l1_3.length c1_3), .string a1_4] 31 (0, 0))) ∧ Aside0 (Below w.heap.size w w'))
          case atStart => exact ⟨(([] : List (S31))), (0), (by first | rfl | (simp; done) | (simp [*]; done)), H', ⟨Nat.le_refl _⟩, ⟨by (with_reducible repeat (first | apply Kd.V_alloc | apply Kd.V_drewN | apply Kd.V_drew)); exact Kd.V_mono HO_0.out (fun _ hk => ⟨hk.1, ⟨(by simp [Value.ownBlock]), hk.2⟩⟩)⟩, ⟨by (with_reducible repeat (first | apply Kd.V_alloc | apply Kd.V_drewN | apply Kd.V_drew)); exact Kd.V_mono HO_9.out (fun _ hk => ⟨hk.1, ⟨(by simp [Value.ownBlock]), hk.2⟩⟩)⟩, ⟨by first | exact Kd.S_nil _ _ _ _ _ | exact Kd.N_nil _ _ _ _ _ | exact Kd.V_nil _ _ _ _ _ | exact Kd.Q_nil _ _ _ _ _ | exact Kd.R_nil _ _ _ _ _⟩, ⟨by (with_reducible repeat (first | refine blk_drewN ?_ _ | refine blk_drew ?_ | refine blk_alloc ?_ _)); exact BK421.out⟩, ⟨by repeat (first | (with_reducible first | exact HB.out | apply below_alloc | apply pw_below_drewN | apply below_drew1 | refine below_set ?_ GE421.out) | exact HB.out)⟩⟩
          case round =>
           clear H'
           try clear c1
           try clear c2
           try clear p2
           try clear q2
           try clear c3
           try clear c4
           try clear c4b0
           try clear c4b1
           try clear p4
           try clear q4
           try clear hx4
           try clear qi4
           try clear p6
           try clear c8
           try clear c8b0
           try clear c9
           try clear c9b0
           try clear c11
           try clear c11b0
           try clear c17
           try clear c17b0
           try clear c17b1
           try clear c18
           try clear c18b0
           try clear c18b1
           try clear c20
           try clear q20
           try clear c21
           try clear c21b0
           try clear c21b1
           try clear c22
           try clear c22b0
           try clear c22b1
           try clear c26
           try clear c27
           try clear c27b0
           try clear c27b1
           try clear c28
           try clear q28
           try clear hx424_0
           try clear hx424_1
           try clear hx424_2
           try clear hx424_3
           try clear hx424_4
           try clear hx431_0
           try clear hx431_1
           try clear hx431_2
           try clear hx431_3
           try clear hx431_4
           try clear p2
           try clear p4
           try clear p424
           try clear p431
           try clear p6
           try clear q020
           try clear q2
           try clear q20
           try clear q28
           try clear q4
           try clear q424
           try clear q431
           obtain ⟨x10_4, x11_4, rfl, HA, HK4, HO_0, HO_9, HO_10, BK421, HB⟩ := hrel
           cases gk with
           | zero => exact absurd HA.out (by simp [satchelref08_Put.l1])
           | succ k4 =>
            have H := HA.out
            clear HA
            simp only [satchelref08_Put.l1] at H
            by_cases c29 : x11_4 < x8_4
            ·rw [if_pos c29] at H
             have c29b0 : decide (x11_4 < x8_4) = true := decide_eq_true c29
             clear c29
             by_cases c30 : 0 ≤ x11_4
             ·rw [if_pos c30] at H
              have c30b0 : decide (0 ≤ x11_4) = true := decide_eq_true c30
              clear c30
              by_cases c31 : x11_4 < (l0.length : Int)
              ·rw [if_pos c31] at H
               have c31b0 : decide (x11_4 < (l0.length : Int)) = true := decide_eq_true c31
               clear c31
               replace H := Option.bind_eq_some_iff.mp H
               obtain ⟨⟨t438, t439, t440, t441, t444⟩, A320, H⟩ := H
               replace H : (if x10_4.length < 1954687338268 then (satchelref08_Put.l1 k4 l0 x8_4 x9_24 (x10_4 ++ [(⟨t438, t439, t440, t441, t444⟩ : S31)]) (wrap64 (x11_4 + 1)) a1_0 a1_1 a1_2 l1_3 a1_4) else (none)) = some (r1, r2) := H
               have A32 := Aside0.mk A320
               clear A320
               by_cases c33 : x10_4.length < 1954687338268
               ·rw [if_pos c33] at H
                have LMc33 := Aside0.mk c33
                clear c33
                obtain ⟨y445, hy445⟩ : ∃ y_ : List (S31), y_ = (x10_4 ++ [(⟨t438, t439, t440, t441, t444⟩ : S31)]) := ⟨_, rfl⟩
                replace H : (satchelref08_Put.l1 k4 l0 x8_4 x9_24 y445 (wrap64 (x11_4 + 1)) a1_0 a1_1 a1_2 l1_3 a1_4) = some (r1, r2) := by first | (rw [hy445]; with_reducible exact H) | (have H2_ := (Option.bind_some _ _).symm.trans H; rw [hy445]; with_reducible exact H2_) | (have H2_ := (Option.bind_some _ _).symm.trans H; with_reducible exact H2_) | with_reducible exact H | (rw [hy445]; exact H) | exact H
                have Ny445 := Aside0.mk hy445
                clear hy445
                have H' := Aside0.mk H
                clear H
                have p437 : 0 ≤ (x11_4 : Int) := of_decide_eq_true (by first | (with_reducible assumption) | assumption)
                have q437 : x11_4 < (l0.length : Int) := of_decide_eq_true (by first | (with_reducible assumption) | assumption)
                obtain ⟨ad437, A437_3, c437_3, e437, hx437_0, hx437_1, hx437_2, hx437_3, hx437_4, hl437_3, hi437_3⟩ := at_T31 (Kd.V_reads' HO_0.out).2.2 x11_4 p437 q437
                cases e437
                obtain ⟨ce437, hce437, hMe437, hcc437⟩ := Kd.V_get HO_0.out z31 x11_4 p437 (by first | exact q437 | exact of_decide_eq_true (by first | (with_reducible assumption) | assumption) | (have e_ := (Kd.V_reads' HO_0.out).1; omega))
                obtain ⟨ua437_3, uc437_3, rfl, ul437_3, ge437_3⟩ := k31_openF hMe437
                have hv437_3 := hcc437 3 _ rfl
                rw [add_field _ _ 3 (by omega)] at hv437_3
                replace hv437_3 := Option.some.inj (hv437_3.symm.trans hx437_3)
                injection hv437_3 with hva_ hvn_ hvc_
                rw [hva_] at ge437_3
                rw [hvc_] at ul437_3
                have HL437_3 := Aside0.mk (show Kd.V (Kd.int .u8) 5 _ w.heap.size _ _ ((rd_T31 l0 x11_4).f3) from Kd.V_mk ul437_3 ge437_3)
                clear hva_ hvn_ hvc_ ge437_3 ul437_3
                clear hcc437 hce437
                have HR437_3 := Aside0.mk hi437_3
                have HC437_3 := Aside0.mk hl437_3
                clear hi437_3 hl437_3
                replace p437 := eq_true p437
                replace q437 := eq_true q437
                go_wp2_with (first | ((with_reducible refine gate_callee (f := 52) rfl ?_); refine goesL_ (some 65) rfl rfl Try.func52 (by kernel_rfl) rfl #[.agg #[.string ((rd_T31 l0 x11_4).f0), .int .i64 ((rd_T31 l0 x11_4).f1), .int .i64 ((rd_T31 l0 x11_4).f2), .slice A437_3 ((rd_T31 l0 x11_4).f3).length c437_3, .string ((rd_T31 l0 x11_4).f4)]] rfl (by (try simp only [List.map_toArray, List.map_cons, List.map_nil]); first | done | rfl | (simp only [List.length_drop, List.length_take]; rfl)) ?_; (with_reducible refine (satchelref08_Own.calls ((rd_T31 l0 x11_4).f0) ((rd_T31 l0 x11_4).f1) ((rd_T31 l0 x11_4).f2) _ _ ((rd_T31 l0 x11_4).f3) ((rd_T31 l0 x11_4).f4) t438 t439 t440 t441 t444 _ ?side1 ?side2 A32.out).mono ?_); (case side1 => repeat (first | exact (by repeat (first | (with_reducible exact HR437_3.out) | (with_reducible refine Kd.C_alloc ?_ _) | (with_reducible refine Kd.C_drewN ?_ _) | (with_reducible refine Kd.C_drew ?_) | exact HR437_3.out)) | (with_reducible refine Kd.C_alloc ?_ _) | (with_reducible refine Kd.C_drewN ?_ _) | (with_reducible refine Kd.C_drew ?_))); (case side2 => exact HC437_3.out); rintro e w34 ⟨v442, rfl, ho0, hb⟩; refine ⟨_, rfl, ?_⟩; have n0_ := Aside0.mk (Kd.V_elder' (by (with_reducible repeat (first | apply Kd.V_alloc | apply Kd.V_drewN | apply Kd.V_drew)); exact HO_0.out) (Kd.R_base ho0) hb); have n1_ := Aside0.mk (Kd.V_elder' (by (with_reducible repeat (first | apply Kd.V_alloc | apply Kd.V_drewN | apply Kd.V_drew)); exact HO_9.out) (Kd.R_base ho0) hb); have n2_ := Aside0.mk (Kd.S_elder' (by (with_reducible repeat (first | apply Kd.S_alloc | apply Kd.S_drewN | apply Kd.S_drew)); exact HO_10.out) (Kd.R_base ho0) hb); have n3_ := Aside0.mk (Kd.V_elder' (by (with_reducible repeat (first | apply Kd.V_alloc | apply Kd.V_drewN | apply Kd.V_drew)); exact HL437_3.out) (Kd.R_base ho0) hb); have n4_ := Aside0.mk (Kd.R_lower (Kd.R_newM (M := fun k_ => (w.heap.size ≤ k_)) ho0 (below_size (by repeat (first | (with_reducible first | exact HB.out | apply below_alloc | apply pw_below_drewN | apply below_drew1 | refine below_set ?_ GE421.out) | exact HB.out))) (fun k_ h_ => h_)) (below_size (by repeat (first | (with_reducible first | exact HB.out | apply below_alloc | apply pw_below_drewN | apply below_drew1 | refine below_set ?_ GE421.out) | exact HB.out)))); have n5_ := Aside0.mk (blk_below (g := gb421) (o := .cells #[.string a1_0, .int .i64 a1_1, .int .i64 a1_2, .slice A1_3 l1_3.length c1_3, .string a1_4] 31 (0, 0)) (by (with_reducible repeat (first | refine blk_drewN ?_ _ | refine blk_drew ?_ | refine blk_alloc ?_ _)); exact BK421.out) hb); have n6_ := Aside0.mk (Kd.C_below (by repeat (first | (with_reducible exact HR437_3.out) | (with_reducible refine Kd.C_alloc ?_ _) | (with_reducible refine Kd.C_drewN ?_ _) | (with_reducible refine Kd.C_drew ?_) | exact HR437_3.out)) hb); have n7_ := Aside0.mk (below_step (by repeat (first | (with_reducible first | exact HB.out | apply below_alloc | apply pw_below_drewN | apply below_drew1 | refine below_set ?_ GE421.out) | exact HB.out)) hb); clear HO_0; clear HO_9; clear HO_10; clear HL437_3; clear BK421; clear HR437_3; clear HB; have HO_0 := n0_; have HO_9 := n1_; have HO_10 := n2_; have HL437_3 := n3_; have HO443 := n4_; have BK421 := n5_; have HR437_3 := n6_; have HB := n7_; clear n0_ n1_ n2_ n3_ n4_ n5_ n6_ n7_; (try clear hb); (try clear hb2); (try clear hk); (try clear hi); (try clear ho0); obtain ⟨Ao36, co36, eo36⟩ := Kd.R_slice HO443.out; subst eo36) | ((with_reducible refine gate_builtin (b := .append) (xs := #[.tmp 60, .tmp 66]) rfl ?_); at_builtin; refine Kd.S_append k31 (w0 := w) w.heap.size rfl (.tmp 60) (.tmp 66) 22 31 (.agg #[(.string ⟨#[]⟩), (.int .i64 0), (.int .i64 0), (.slice none 0 0), (.string ⟨#[]⟩)]) 72 rfl Try.underlying22 info31 rfl (by decide) (by omega) u10 x10_4 (⟨t438, t439, t440, t441, t444⟩ : S31) [.string t438, .int .i64 t439, .int .i64 t440, .slice Ao36 t441.length co36, .string t444] (fun k_ => (w.heap.size ≤ k_) ∧ k_ ≠ gb421) (fun k_ => some k_ = (.slice Ao36 t441.length co36 : Value).ownBlock) rfl rfl ?aP (fun k_ hk_ => ((Kd.R_mono (ok' := fun k_ => ((fun k_ => (w.heap.size ≤ k_) ∧ k_ ≠ gb421)) k_ ∧ some k_ ≠ (u10 : Value).ownBlock) (Kd.R_types (Kd.R_apart' (HO443.out) (Kd.S_typed HO_10.out) (by decide)) BK421.out (by decide)) (fun k_ hk => ⟨⟨hk.1.1.1, hk.2⟩, hk.1.2⟩))).1 k_ hk_.symm) ?aF ?aO ?aB ?aS ?aL ?_; (case aP => exact k31_mkM _ _ _ (⟨t438, t439, t440, t441, t444⟩ : S31) (Kd.R_mono (Kd.R_tight rfl (Kd.R_mono (ok' := fun k_ => ((fun k_ => (w.heap.size ≤ k_) ∧ k_ ≠ gb421)) k_ ∧ some k_ ≠ (u10 : Value).ownBlock) (Kd.R_types (Kd.R_apart' (HO443.out) (Kd.S_typed HO_10.out) (by decide)) BK421.out (by decide)) (fun k_ hk => ⟨⟨hk.1.1.1, hk.2⟩, hk.1.2⟩))) (fun _ h_ => h_))); (case aB => exact (by repeat (first | (with_reducible first | exact HB.out | apply below_alloc | apply pw_below_drewN | apply below_drew1 | refine below_set ?_ GE421.out) | exact HB.out))); (case aF => exact (fun k_ hk => ⟨(Nat.le_trans (below_size (by repeat (first | (with_reducible first | exact HB.out | apply below_alloc | apply pw_below_drewN | apply below_drew1 | refine below_set ?_ GE421.out) | exact HB.out))) hk), Kd.freshB (g := gb421) (o := .cells #[.string a1_0, .int .i64 a1_1, .int .i64 a1_2, .slice A1_3 l1_3.length c1_3, .string a1_4] 31 (0, 0)) (by (with_reducible repeat (first | refine blk_drewN ?_ _ | refine blk_drew ?_ | refine blk_alloc ?_ _)); exact BK421.out) k_ hk⟩)); (case aO => exact (by (with_reducible repeat (first | apply Kd.S_alloc | apply Kd.S_drewN | apply Kd.S_drew)); exact Kd.S_mono HO_10.out (fun k_ hk => ⟨⟨hk.1.1, hk.1.2⟩, fun e_ => hk.2 e_⟩))); (case aS => exact (below_size (by repeat (first | (with_reducible first | exact HB.out | apply below_alloc | apply pw_below_drewN | apply below_drew1 | refine below_set ?_ GE421.out) | exact HB.out)))); (case aL => have := LMc33.out; omega); intro v446 w35 ho hb hg hat; rw [← Ny445.out] at ho; have n0_ := Aside0.mk (Kd.V_afterv (ok := (fun k_ => (P0_ k_ ∨ w.heap.size ≤ k_) ∧ some k_ ≠ (.slice Ao36 t441.length co36 : Value).ownBlock ∧ k_ ≠ gb421)) (by (with_reducible repeat (first | apply Kd.V_alloc | apply Kd.V_drewN | apply Kd.V_drew)); exact Kd.V_mono HO_0.out (fun _ hk => ⟨⟨hk.1.1, ⟨hk.2, hk.1.2.2⟩⟩, hk.1.2.1⟩)) hg hat); have n1_ := Aside0.mk (Kd.V_afterv (ok := (fun k_ => (P0_ k_ ∨ w.heap.size ≤ k_) ∧ some k_ ≠ (.slice Ao36 t441.length co36 : Value).ownBlock ∧ k_ ≠ gb421)) (by (with_reducible repeat (first | apply Kd.V_alloc | apply Kd.V_drewN | apply Kd.V_drew)); exact Kd.V_mono HO_9.out (fun _ hk => ⟨⟨hk.1.1, ⟨hk.2, hk.1.2.2⟩⟩, hk.1.2.1⟩)) hg hat); have n2_ := Aside0.mk (blk_grown (g := gb421) (o := .cells #[.string a1_0, .int .i64 a1_1, .int .i64 a1_2, .slice A1_3 l1_3.length c1_3, .string a1_4] 31 (0, 0)) (by (with_reducible repeat (first | refine blk_drewN ?_ _ | refine blk_drew ?_ | refine blk_alloc ?_ _)); exact BK421.out) hg (Kd.S_away HO_10.out (fun _ hk => hk.1.2))); have n3_ := Aside0.mk (Kd.V_afterv (ok := (fun k_ => (P0_ k_ ∨ w.heap.size ≤ k_) ∧ some k_ ≠ (.slice Ao36 t441.length co36 : Value).ownBlock ∧ k_ ≠ gb421)) (by (with_reducible repeat (first | apply Kd.V_alloc | apply Kd.V_drewN | apply Kd.V_drew)); exact Kd.V_mono HL437_3.out (fun _ hk => ⟨⟨hk.1.1, ⟨hk.2, hk.1.2.2⟩⟩, hk.1.2.1⟩)) hg hat); have n4_ := Aside0.mk (hb); have n5_ := Aside0.mk (ho); clear HO_0; clear HO_9; clear BK421; clear HL437_3; clear HB; clear HO_10; clear HO443; have HO_0 := n0_; have HO_9 := n1_; have BK421 := n2_; have HL437_3 := n3_; have HB := n4_; have HO447 := n5_; clear n0_ n1_ n2_ n3_ n4_ n5_; clear ho hb hg hat))
                go_roundg k4
                case measure => have := HJ4.out; have := HJ18.out; have := HJ24.out; have := HK4.out; omega
                case rel => exact ⟨(y445), (wrap64 (x11_4 + 1)), (by first | rfl | (simp; done) | (simp [*]; done)), H', ⟨by have := HJ4.out; have := HJ18.out; have := HJ24.out; have := HK4.out; omega⟩, ⟨by (with_reducible repeat (first | apply Kd.V_alloc | apply Kd.V_drewN | apply Kd.V_drew)); exact Kd.V_mono HO_0.out (fun _ hk => ⟨hk.1.1, ⟨hk.2, hk.1.2.2⟩⟩)⟩, ⟨by (with_reducible repeat (first | apply Kd.V_alloc | apply Kd.V_drewN | apply Kd.V_drew)); exact Kd.V_mono HO_9.out (fun _ hk => ⟨hk.1.1, ⟨hk.2, hk.1.2.2⟩⟩)⟩, ⟨by (with_reducible repeat (first | apply Kd.S_alloc | apply Kd.S_drewN | apply Kd.S_drew)); exact HO447.out⟩, ⟨by (with_reducible repeat (first | refine blk_drewN ?_ _ | refine blk_drew ?_ | refine blk_alloc ?_ _)); exact BK421.out⟩, ⟨by repeat (first | (with_reducible first | exact HB.out | apply below_alloc | apply pw_below_drewN | apply below_drew1 | refine below_set ?_ GE421.out) | exact HB.out)⟩⟩
               ·rw [if_neg c33] at H
                exact absurd H (by simp)
              ·rw [if_neg c31] at H
               exact absurd H (by simp)
             ·rw [if_neg c30] at H
              exact absurd H (by simp)
            ·rw [if_neg c29] at H
             have c29b0 : decide (x11_4 < x8_4) = false := decide_eq_false c29
             clear c29
             replace H := Option.bind_eq_some_iff.mp H
             obtain ⟨⟨t448, t449, t450, t451, t454⟩, A370, H⟩ := H
             replace H : (if x10_4.length < 1954687338268 then (satchelref08_Put.l2 k4 x9_24 (x10_4 ++ [(⟨t448, t449, t450, t451, t454⟩ : S31)]) 0) else (none)) = some (r1, r2) := H
             have A37 := Aside0.mk A370
             clear A370
             by_cases c38 : x10_4.length < 1954687338268
             ·rw [if_pos c38] at H
              have LMc38 := Aside0.mk c38
              clear c38
              obtain ⟨y455, hy455⟩ : ∃ y_ : List (S31), y_ = (x10_4 ++ [(⟨t448, t449, t450, t451, t454⟩ : S31)]) := ⟨_, rfl⟩
              replace H : (satchelref08_Put.l2 k4 x9_24 y455 0) = some (r1, r2) := by first | (rw [hy455]; with_reducible exact H) | (have H2_ := (Option.bind_some _ _).symm.trans H; rw [hy455]; with_reducible exact H2_) | (have H2_ := (Option.bind_some _ _).symm.trans H; with_reducible exact H2_) | with_reducible exact H | (rw [hy455]; exact H) | exact H
              have Ny455 := Aside0.mk hy455
              clear hy455
              have H' := Aside0.mk H
              clear H
              have hcz39_0 : wr.cell? ⟨gb421, 0, none⟩ = some (.string a1_0) := (blk_cell BK421.out 0).trans rfl
              have hcz39_1 : wr.cell? ⟨gb421, 1, none⟩ = some (.int .i64 a1_1) := (blk_cell BK421.out 1).trans rfl
              have hcz39_2 : wr.cell? ⟨gb421, 2, none⟩ = some (.int .i64 a1_2) := (blk_cell BK421.out 2).trans rfl
              have hcz39_3 : wr.cell? ⟨gb421, 3, none⟩ = some (.slice A1_3 l1_3.length c1_3) := (blk_cell BK421.out 3).trans rfl
              have hcz39_4 : wr.cell? ⟨gb421, 4, none⟩ = some (.string a1_4) := (blk_cell BK421.out 4).trans rfl
              have hfz39_0 := blk_frozen BK421.out 0
              have hfz39_1 := blk_frozen BK421.out 1
              have hfz39_2 := blk_frozen BK421.out 2
              have hfz39_3 := blk_frozen BK421.out 3
              have hfz39_4 := blk_frozen BK421.out 4
              go_wp2_with (first | ((with_reducible refine gate_callee (f := 52) rfl ?_); refine goesL_ (some 70) rfl rfl Try.func52 (by kernel_rfl) rfl #[.agg #[.string a1_0, .int .i64 a1_1, .int .i64 a1_2, .slice A1_3 l1_3.length c1_3, .string a1_4]] rfl (by (try simp only [List.map_toArray, List.map_cons, List.map_nil]); first | done | rfl | (simp only [List.length_drop, List.length_take]; rfl)) ?_; (with_reducible refine (satchelref08_Own.calls a1_0 a1_1 a1_2 _ _ l1_3 a1_4 t448 t449 t450 t451 t454 _ ?side1 ?side2 A37.out).mono ?_); (case side1 => repeat (first | exact (Kd.C_below HR1_3.out HB.out) | (with_reducible refine Kd.C_alloc ?_ _) | (with_reducible refine Kd.C_drewN ?_ _) | (with_reducible refine Kd.C_drew ?_))); (case side2 => exact HC1_3.out); rintro e w40 ⟨v452, rfl, ho0, hb⟩; refine ⟨_, rfl, ?_⟩; have n0_ := Aside0.mk (Kd.V_elder' (by (with_reducible repeat (first | apply Kd.V_alloc | apply Kd.V_drewN | apply Kd.V_drew)); exact HO_0.out) (Kd.R_base ho0) hb); have n1_ := Aside0.mk (Kd.V_elder' (by (with_reducible repeat (first | apply Kd.V_alloc | apply Kd.V_drewN | apply Kd.V_drew)); exact HO_9.out) (Kd.R_base ho0) hb); have n2_ := Aside0.mk (Kd.S_elder' (by (with_reducible repeat (first | apply Kd.S_alloc | apply Kd.S_drewN | apply Kd.S_drew)); exact HO_10.out) (Kd.R_base ho0) hb); have n3_ := Aside0.mk (Kd.R_lower (Kd.R_newM (M := fun k_ => (w.heap.size ≤ k_)) ho0 (below_size (by repeat (first | (with_reducible first | exact HB.out | apply below_alloc | apply pw_below_drewN | apply below_drew1 | refine below_set ?_ GE421.out) | exact HB.out))) (fun k_ h_ => h_)) (below_size (by repeat (first | (with_reducible first | exact HB.out | apply below_alloc | apply pw_below_drewN | apply below_drew1 | refine below_set ?_ GE421.out) | exact HB.out)))); have n4_ := Aside0.mk (blk_below (g := gb421) (o := .cells #[.string a1_0, .int .i64 a1_1, .int .i64 a1_2, .slice A1_3 l1_3.length c1_3, .string a1_4] 31 (0, 0)) (by (with_reducible repeat (first | refine blk_drewN ?_ _ | refine blk_drew ?_ | refine blk_alloc ?_ _)); exact BK421.out) hb); have n5_ := Aside0.mk (below_step (by repeat (first | (with_reducible first | exact HB.out | apply below_alloc | apply pw_below_drewN | apply below_drew1 | refine below_set ?_ GE421.out) | exact HB.out)) hb); clear HO_0; clear HO_9; clear HO_10; clear BK421; clear HB; have HO_0 := n0_; have HO_9 := n1_; have HO_10 := n2_; have HO453 := n3_; have BK421 := n4_; have HB := n5_; clear n0_ n1_ n2_ n3_ n4_ n5_; (try clear hb); (try clear hb2); (try clear hk); (try clear hi); (try clear ho0); obtain ⟨Ao42, co42, eo42⟩ := Kd.R_slice HO453.out; subst eo42) | ((with_reducible refine gate_builtin (b := .append) (xs := #[.tmp 68, .tmp 71]) rfl ?_); at_builtin; refine Kd.S_append k31 (w0 := w) w.heap.size rfl (.tmp 68) (.tmp 71) 22 31 (.agg #[(.string ⟨#[]⟩), (.int .i64 0), (.int .i64 0), (.slice none 0 0), (.string ⟨#[]⟩)]) 72 rfl Try.underlying22 info31 rfl (by decide) (by omega) u10 x10_4 (⟨t448, t449, t450, t451, t454⟩ : S31) [.string t448, .int .i64 t449, .int .i64 t450, .slice Ao42 t451.length co42, .string t454] (fun k_ => (w.heap.size ≤ k_) ∧ k_ ≠ gb421) (fun k_ => some k_ = (.slice Ao42 t451.length co42 : Value).ownBlock) rfl rfl ?aP (fun k_ hk_ => ((Kd.R_mono (ok' := fun k_ => ((fun k_ => (w.heap.size ≤ k_) ∧ k_ ≠ gb421)) k_ ∧ some k_ ≠ (u10 : Value).ownBlock) (Kd.R_types (Kd.R_apart' (HO453.out) (Kd.S_typed HO_10.out) (by decide)) BK421.out (by decide)) (fun k_ hk => ⟨⟨hk.1.1.1, hk.2⟩, hk.1.2⟩))).1 k_ hk_.symm) ?aF ?aO ?aB ?aS ?aL ?_; (case aP => exact k31_mkM _ _ _ (⟨t448, t449, t450, t451, t454⟩ : S31) (Kd.R_mono (Kd.R_tight rfl (Kd.R_mono (ok' := fun k_ => ((fun k_ => (w.heap.size ≤ k_) ∧ k_ ≠ gb421)) k_ ∧ some k_ ≠ (u10 : Value).ownBlock) (Kd.R_types (Kd.R_apart' (HO453.out) (Kd.S_typed HO_10.out) (by decide)) BK421.out (by decide)) (fun k_ hk => ⟨⟨hk.1.1.1, hk.2⟩, hk.1.2⟩))) (fun _ h_ => h_))); (case aB => exact (by repeat (first | (with_reducible first | exact HB.out | apply below_alloc | apply pw_below_drewN | apply below_drew1 | refine below_set ?_ GE421.out) | exact HB.out))); (case aF => exact (fun k_ hk => ⟨(Nat.le_trans (below_size (by repeat (first | (with_reducible first | exact HB.out | apply below_alloc | apply pw_below_drewN | apply below_drew1 | refine below_set ?_ GE421.out) | exact HB.out))) hk), Kd.freshB (g := gb421) (o := .cells #[.string a1_0, .int .i64 a1_1, .int .i64 a1_2, .slice A1_3 l1_3.length c1_3, .string a1_4] 31 (0, 0)) (by (with_reducible repeat (first | refine blk_drewN ?_ _ | refine blk_drew ?_ | refine blk_alloc ?_ _)); exact BK421.out) k_ hk⟩)); (case aO => exact (by (with_reducible repeat (first | apply Kd.S_alloc | apply Kd.S_drewN | apply Kd.S_drew)); exact Kd.S_mono HO_10.out (fun k_ hk => ⟨⟨hk.1.1, hk.1.2⟩, fun e_ => hk.2 e_⟩))); (case aS => exact (below_size (by repeat (first | (with_reducible first | exact HB.out | apply below_alloc | apply pw_below_drewN | apply below_drew1 | refine below_set ?_ GE421.out) | exact HB.out)))); (case aL => have := LMc38.out; omega); intro v456 w41 ho hb hg hat; rw [← Ny455.out] at ho; have n0_ := Aside0.mk (Kd.V_afterv (ok := (fun k_ => (P0_ k_ ∨ w.heap.size ≤ k_) ∧ some k_ ≠ (.slice Ao42 t451.length co42 : Value).ownBlock ∧ k_ ≠ gb421)) (by (with_reducible repeat (first | apply Kd.V_alloc | apply Kd.V_drewN | apply Kd.V_drew)); exact Kd.V_mono HO_0.out (fun _ hk => ⟨⟨hk.1.1, ⟨hk.2, hk.1.2.2⟩⟩, hk.1.2.1⟩)) hg hat); have n1_ := Aside0.mk (Kd.V_afterv (ok := (fun k_ => (P0_ k_ ∨ w.heap.size ≤ k_) ∧ some k_ ≠ (.slice Ao42 t451.length co42 : Value).ownBlock ∧ k_ ≠ gb421)) (by (with_reducible repeat (first | apply Kd.V_alloc | apply Kd.V_drewN | apply Kd.V_drew)); exact Kd.V_mono HO_9.out (fun _ hk => ⟨⟨hk.1.1, ⟨hk.2, hk.1.2.2⟩⟩, hk.1.2.1⟩)) hg hat); have n2_ := Aside0.mk (blk_grown (g := gb421) (o := .cells #[.string a1_0, .int .i64 a1_1, .int .i64 a1_2, .slice A1_3 l1_3.length c1_3, .string a1_4] 31 (0, 0)) (by (with_reducible repeat (first | refine blk_drewN ?_ _ | refine blk_drew ?_ | refine blk_alloc ?_ _)); exact BK421.out) hg (Kd.S_away HO_10.out (fun _ hk => hk.1.2))); have n3_ := Aside0.mk (hb); have n4_ := Aside0.mk (ho); clear HO_0; clear HO_9; clear BK421; clear HB; clear HO_10; clear HO453; have HO_0 := n0_; have HO_9 := n1_; have BK421 := n2_; have HB := n3_; have HO457 := n4_; clear n0_ n1_ n2_ n3_ n4_; clear ho hb hg hat))
              go_loopg [10, 12] k4 (fun kq v10 v12 w' => ∃ (x10_5 : List (S31)) (x12_5 : Int), v12 = .int .i64 x12_5 ∧ Aside0 (satchelref08_Put.l2 kq x9_24 x10_5 x12_5 = some (r1, r2)) ∧ Aside0 (kq ≤ k4) ∧ Aside0 (Kd.V k31 31 w' w.heap.size (fun k_ => (P0_ k_ ∨ w.heap.size ≤ k_) ∧ some k_ ≠ (v10 : Value).ownBlock ∧ k_ ≠ gb421) u9 x9_24) ∧ Aside0 (Kd.S k31 31 w' w.heap.size (fun k_ => (w.heap.size ≤ k_) ∧ k_ ≠ gb421) v10 x10_5) ∧ Aside0 (w'.heap[gb421]? = some (.cells #[.string a1_0, .int .i64 a1_1, .int .i64 a1_2, (.slice A1_3 l1_3.length c1_3), .string a1_4] 31 (0, 0))) ∧ Aside0 (Below w.heap.size w w'))
              case atStart => exact ⟨(y455), (0), (by first | rfl | (simp; done) | (simp [*]; done)), H', ⟨Nat.le_refl _⟩, ⟨by (with_reducible repeat (first | apply Kd.V_alloc | apply Kd.V_drewN | apply Kd.V_drew)); exact Kd.V_mono HO_9.out (fun _ hk => ⟨hk.1.1, ⟨hk.2, hk.1.2.2⟩⟩)⟩, ⟨by (with_reducible repeat (first | apply Kd.S_alloc | apply Kd.S_drewN | apply Kd.S_drew)); exact HO457.out⟩, ⟨by (with_reducible repeat (first | refine blk_drewN ?_ _ | refine blk_drew ?_ | refine blk_alloc ?_ _)); exact BK421.out⟩, ⟨by repeat (first | (with_reducible first | exact HB.out | apply below_alloc | apply pw_below_drewN | apply below_drew1 | refine below_set ?_ GE421.out) | exact HB.out)⟩⟩
              case round =>
               clear H'
               try clear c1
               try clear c2
               try clear p2
               try clear q2
               try clear c3
               try clear c4
               try clear c4b0
               try clear c4b1
               try clear p4
               try clear q4
               try clear hx4
               try clear qi4
               try clear c5
               try clear p6
               try clear c8
               try clear c8b0
               try clear c9
               try clear c9b0
               try clear c11
               try clear c11b0
               try clear c17
               try clear c17b0
               try clear c17b1
               try clear c18
               try clear c18b0
               try clear c18b1
               try clear c20
               try clear q20
               try clear c21
               try clear c21b0
               try clear c21b1
               try clear c22
               try clear c22b0
               try clear c22b1
               try clear c26
               try clear c27
               try clear c27b0
               try clear c27b1
               try clear c28
               try clear q28
               try clear c29
               try clear c29b0
               try clear c30
               try clear c30b0
               try clear c31
               try clear c31b0
               try clear c33
               try clear c38
               try clear p42
               try clear q42
               try clear hx42
               try clear hcz39_0
               try clear hcz39_1
               try clear hcz39_2
               try clear hcz39_3
               try clear hcz39_4
               try clear hfz39_0
               try clear hfz39_1
               try clear hfz39_2
               try clear hfz39_3
               try clear hfz39_4
               try clear hx424_0
               try clear hx424_1
               try clear hx424_2
               try clear hx424_3
               try clear hx424_4
               try clear hx431_0
               try clear hx431_1
               try clear hx431_2
               try clear hx431_3
               try clear hx431_4
               try clear hx437_0
               try clear hx437_1
               try clear hx437_2
               try clear hx437_3
               try clear hx437_4
               try clear p2
               try clear p4
               try clear p424
               try clear p431
               try clear p437
               try clear p6
               try clear q020
               try clear q2
               try clear q20
               try clear q28
               try clear q4
               try clear q424
               try clear q431
               try clear q437
               obtain ⟨x10_5, x12_5, rfl, HA, HK5, HO_9, HO_10, BK421, HB⟩ := hrel
               cases gk with
               | zero => exact absurd HA.out (by simp [satchelref08_Put.l2])
               | succ k5 =>
                have H := HA.out
                clear HA
                simp only [satchelref08_Put.l2] at H
                by_cases c43 : x12_5 < (x9_24.length : Int)
                ·rw [if_pos c43] at H
                 have c43b0 : decide (x12_5 < (x9_24.length : Int)) = true := decide_eq_true c43
                 clear c43
                 by_cases c44 : 0 ≤ x12_5
                 ·rw [if_pos c44] at H
                  have c44b0 : decide (0 ≤ x12_5) = true := decide_eq_true c44
                  clear c44
                  replace H := Option.bind_eq_some_iff.mp H
                  obtain ⟨⟨t459, t460, t461, t462, t465⟩, A450, H⟩ := H
                  replace H : (if x10_5.length < 1954687338268 then (satchelref08_Put.l2 k5 x9_24 (x10_5 ++ [(⟨t459, t460, t461, t462, t465⟩ : S31)]) (wrap64 (x12_5 + 1))) else (none)) = some (r1, r2) := H
                  have A45 := Aside0.mk A450
                  clear A450
                  by_cases c46 : x10_5.length < 1954687338268
                  ·rw [if_pos c46] at H
                   have LMc46 := Aside0.mk c46
                   clear c46
                   obtain ⟨y466, hy466⟩ : ∃ y_ : List (S31), y_ = (x10_5 ++ [(⟨t459, t460, t461, t462, t465⟩ : S31)]) := ⟨_, rfl⟩
                   replace H : (satchelref08_Put.l2 k5 x9_24 y466 (wrap64 (x12_5 + 1))) = some (r1, r2) := by first | (rw [hy466]; with_reducible exact H) | (have H2_ := (Option.bind_some _ _).symm.trans H; rw [hy466]; with_reducible exact H2_) | (have H2_ := (Option.bind_some _ _).symm.trans H; with_reducible exact H2_) | with_reducible exact H | (rw [hy466]; exact H) | exact H
                   have Ny466 := Aside0.mk hy466
                   clear hy466
                   have H' := Aside0.mk H
                   clear H
                   obtain ⟨Ao47, co47, eo47⟩ := Kd.V_slice HO_9.out
                   subst eo47
                   have p458 : 0 ≤ (x12_5 : Int) := of_decide_eq_true (by first | (with_reducible assumption) | assumption)
                   have q458 : x12_5 < (x9_24.length : Int) := of_decide_eq_true (by first | (with_reducible assumption) | assumption)
                   obtain ⟨ad458, A458_3, c458_3, e458, hx458_0, hx458_1, hx458_2, hx458_3, hx458_4, hl458_3, hi458_3⟩ := at_T31 (Kd.V_reads' HO_9.out).2.2 x12_5 p458 q458
                   cases e458
                   obtain ⟨ce458, hce458, hMe458, hcc458⟩ := Kd.V_get HO_9.out z31 x12_5 p458 (by first | exact q458 | exact of_decide_eq_true (by first | (with_reducible assumption) | assumption) | (have e_ := (Kd.V_reads' HO_9.out).1; omega))
                   obtain ⟨ua458_3, uc458_3, rfl, ul458_3, ge458_3⟩ := k31_openF hMe458
                   have hv458_3 := hcc458 3 _ rfl
                   rw [add_field _ _ 3 (by omega)] at hv458_3
                   replace hv458_3 := Option.some.inj (hv458_3.symm.trans hx458_3)
                   injection hv458_3 with hva_ hvn_ hvc_
                   rw [hva_] at ge458_3
                   rw [hvc_] at ul458_3
                   have HL458_3 := Aside0.mk (show Kd.V (Kd.int .u8) 5 _ w.heap.size _ _ ((rd_T31 x9_24 x12_5).f3) from Kd.V_mk ul458_3 ge458_3)
                   clear hva_ hvn_ hvc_ ge458_3 ul458_3
                   clear hcc458 hce458
                   have HR458_3 := Aside0.mk hi458_3
                   have HC458_3 := Aside0.mk hl458_3
                   clear hi458_3 hl458_3
                   replace p458 := eq_true p458
                   replace q458 := eq_true q458
                   go_wp2_with (first | ((with_reducible refine gate_callee (f := 52) rfl ?_); refine goesL_ (some 84) rfl rfl Try.func52 (by kernel_rfl) rfl #[.agg #[.string ((rd_T31 x9_24 x12_5).f0), .int .i64 ((rd_T31 x9_24 x12_5).f1), .int .i64 ((rd_T31 x9_24 x12_5).f2), .slice A458_3 ((rd_T31 x9_24 x12_5).f3).length c458_3, .string ((rd_T31 x9_24 x12_5).f4)]] rfl (by (try simp only [List.map_toArray, List.map_cons, List.map_nil]); first | done | rfl | (simp only [List.length_drop, List.length_take]; rfl)) ?_; (with_reducible refine (satchelref08_Own.calls ((rd_T31 x9_24 x12_5).f0) ((rd_T31 x9_24 x12_5).f1) ((rd_T31 x9_24 x12_5).f2) _ _ ((rd_T31 x9_24 x12_5).f3) ((rd_T31 x9_24 x12_5).f4) t459 t460 t461 t462 t465 _ ?side1 ?side2 A45.out).mono ?_); (case side1 => repeat (first | exact (by repeat (first | (with_reducible exact HR458_3.out) | (with_reducible refine Kd.C_alloc ?_ _) | (with_reducible refine Kd.C_drewN ?_ _) | (with_reducible refine Kd.C_drew ?_) | exact HR458_3.out)) | (with_reducible refine Kd.C_alloc ?_ _) | (with_reducible refine Kd.C_drewN ?_ _) | (with_reducible refine Kd.C_drew ?_))); (case side2 => exact HC458_3.out); rintro e w48 ⟨v463, rfl, ho0, hb⟩; refine ⟨_, rfl, ?_⟩; have n0_ := Aside0.mk (Kd.V_elder' (by (with_reducible repeat (first | apply Kd.V_alloc | apply Kd.V_drewN | apply Kd.V_drew)); exact HO_9.out) (Kd.R_base ho0) hb); have n1_ := Aside0.mk (Kd.S_elder' (by (with_reducible repeat (first | apply Kd.S_alloc | apply Kd.S_drewN | apply Kd.S_drew)); exact HO_10.out) (Kd.R_base ho0) hb); have n2_ := Aside0.mk (Kd.V_elder' (by (with_reducible repeat (first | apply Kd.V_alloc | apply Kd.V_drewN | apply Kd.V_drew)); exact HL458_3.out) (Kd.R_base ho0) hb); have n3_ := Aside0.mk (Kd.R_lower (Kd.R_newM (M := fun k_ => (w.heap.size ≤ k_)) ho0 (below_size (by repeat (first | (with_reducible first | exact HB.out | apply below_alloc | apply pw_below_drewN | apply below_drew1 | refine below_set ?_ GE421.out) | exact HB.out))) (fun k_ h_ => h_)) (below_size (by repeat (first | (with_reducible first | exact HB.out | apply below_alloc | apply pw_below_drewN | apply below_drew1 | refine below_set ?_ GE421.out) | exact HB.out)))); have n4_ := Aside0.mk (blk_below (g := gb421) (o := .cells #[.string a1_0, .int .i64 a1_1, .int .i64 a1_2, .slice A1_3 l1_3.length c1_3, .string a1_4] 31 (0, 0)) (by (with_reducible repeat (first | refine blk_drewN ?_ _ | refine blk_drew ?_ | refine blk_alloc ?_ _)); exact BK421.out) hb); have n5_ := Aside0.mk (Kd.C_below (by repeat (first | (with_reducible exact HR458_3.out) | (with_reducible refine Kd.C_alloc ?_ _) | (with_reducible refine Kd.C_drewN ?_ _) | (with_reducible refine Kd.C_drew ?_) | exact HR458_3.out)) hb); have n6_ := Aside0.mk (below_step (by repeat (first | (with_reducible first | exact HB.out | apply below_alloc | apply pw_below_drewN | apply below_drew1 | refine below_set ?_ GE421.out) | exact HB.out)) hb); clear HO_9; clear HO_10; clear HL458_3; clear BK421; clear HR458_3; clear HB; have HO_9 := n0_; have HO_10 := n1_; have HL458_3 := n2_; have HO464 := n3_; have BK421 := n4_; have HR458_3 := n5_; have HB := n6_; clear n0_ n1_ n2_ n3_ n4_ n5_ n6_; (try clear hb); (try clear hb2); (try clear hk); (try clear hi); (try clear ho0); obtain ⟨Ao50, co50, eo50⟩ := Kd.R_slice HO464.out; subst eo50) | ((with_reducible refine gate_builtin (b := .append) (xs := #[.tmp 79, .tmp 85]) rfl ?_); at_builtin; refine Kd.S_append k31 (w0 := w) w.heap.size rfl (.tmp 79) (.tmp 85) 22 31 (.agg #[(.string ⟨#[]⟩), (.int .i64 0), (.int .i64 0), (.slice none 0 0), (.string ⟨#[]⟩)]) 72 rfl Try.underlying22 info31 rfl (by decide) (by omega) u10 x10_5 (⟨t459, t460, t461, t462, t465⟩ : S31) [.string t459, .int .i64 t460, .int .i64 t461, .slice Ao50 t462.length co50, .string t465] (fun k_ => (w.heap.size ≤ k_) ∧ k_ ≠ gb421) (fun k_ => some k_ = (.slice Ao50 t462.length co50 : Value).ownBlock) rfl rfl ?aP (fun k_ hk_ => ((Kd.R_mono (ok' := fun k_ => ((fun k_ => (w.heap.size ≤ k_) ∧ k_ ≠ gb421)) k_ ∧ some k_ ≠ (u10 : Value).ownBlock) (Kd.R_types (Kd.R_apart' (HO464.out) (Kd.S_typed HO_10.out) (by decide)) BK421.out (by decide)) (fun k_ hk => ⟨⟨hk.1.1.1, hk.2⟩, hk.1.2⟩))).1 k_ hk_.symm) ?aF ?aO ?aB ?aS ?aL ?_; (case aP => exact k31_mkM _ _ _ (⟨t459, t460, t461, t462, t465⟩ : S31) (Kd.R_mono (Kd.R_tight rfl (Kd.R_mono (ok' := fun k_ => ((fun k_ => (w.heap.size ≤ k_) ∧ k_ ≠ gb421)) k_ ∧ some k_ ≠ (u10 : Value).ownBlock) (Kd.R_types (Kd.R_apart' (HO464.out) (Kd.S_typed HO_10.out) (by decide)) BK421.out (by decide)) (fun k_ hk => ⟨⟨hk.1.1.1, hk.2⟩, hk.1.2⟩))) (fun _ h_ => h_))); (case aB => exact (by repeat (first | (with_reducible first | exact HB.out | apply below_alloc | apply pw_below_drewN | apply below_drew1 | refine below_set ?_ GE421.out) | exact HB.out))); (case aF => exact (fun k_ hk => ⟨(Nat.le_trans (below_size (by repeat (first | (with_reducible first | exact HB.out | apply below_alloc | apply pw_below_drewN | apply below_drew1 | refine below_set ?_ GE421.out) | exact HB.out))) hk), Kd.freshB (g := gb421) (o := .cells #[.string a1_0, .int .i64 a1_1, .int .i64 a1_2, .slice A1_3 l1_3.length c1_3, .string a1_4] 31 (0, 0)) (by (with_reducible repeat (first | refine blk_drewN ?_ _ | refine blk_drew ?_ | refine blk_alloc ?_ _)); exact BK421.out) k_ hk⟩)); (case aO => exact (by (with_reducible repeat (first | apply Kd.S_alloc | apply Kd.S_drewN | apply Kd.S_drew)); exact Kd.S_mono HO_10.out (fun k_ hk => ⟨⟨hk.1.1, hk.1.2⟩, fun e_ => hk.2 e_⟩))); (case aS => exact (below_size (by repeat (first | (with_reducible first | exact HB.out | apply below_alloc | apply pw_below_drewN | apply below_drew1 | refine below_set ?_ GE421.out) | exact HB.out)))); (case aL => have := LMc46.out; omega); intro v467 w49 ho hb hg hat; rw [← Ny466.out] at ho; have n0_ := Aside0.mk (Kd.V_afterv (ok := (fun k_ => (P0_ k_ ∨ w.heap.size ≤ k_) ∧ some k_ ≠ (.slice Ao50 t462.length co50 : Value).ownBlock ∧ k_ ≠ gb421)) (by (with_reducible repeat (first | apply Kd.V_alloc | apply Kd.V_drewN | apply Kd.V_drew)); exact Kd.V_mono HO_9.out (fun _ hk => ⟨⟨hk.1.1, ⟨hk.2, hk.1.2.2⟩⟩, hk.1.2.1⟩)) hg hat); have n1_ := Aside0.mk (blk_grown (g := gb421) (o := .cells #[.string a1_0, .int .i64 a1_1, .int .i64 a1_2, .slice A1_3 l1_3.length c1_3, .string a1_4] 31 (0, 0)) (by (with_reducible repeat (first | refine blk_drewN ?_ _ | refine blk_drew ?_ | refine blk_alloc ?_ _)); exact BK421.out) hg (Kd.S_away HO_10.out (fun _ hk => hk.1.2))); have n2_ := Aside0.mk (Kd.V_afterv (ok := (fun k_ => (P0_ k_ ∨ w.heap.size ≤ k_) ∧ some k_ ≠ (.slice Ao50 t462.length co50 : Value).ownBlock ∧ k_ ≠ gb421)) (by (with_reducible repeat (first | apply Kd.V_alloc | apply Kd.V_drewN | apply Kd.V_drew)); exact Kd.V_mono HL458_3.out (fun _ hk => ⟨⟨hk.1.1, ⟨hk.2, hk.1.2.2⟩⟩, hk.1.2.1⟩)) hg hat); have n3_ := Aside0.mk (hb); have n4_ := Aside0.mk (ho); clear HO_9; clear BK421; clear HL458_3; clear HB; clear HO_10; clear HO464; have HO_9 := n0_; have BK421 := n1_; have HL458_3 := n2_; have HB := n3_; have HO468 := n4_; clear n0_ n1_ n2_ n3_ n4_; clear ho hb hg hat))
                   go_roundg k5
                   case measure => have := HJ4.out; have := HJ18.out; have := HJ24.out; have := HK4.out; have := HK5.out; omega
                   case rel => exact ⟨(y466), (wrap64 (x12_5 + 1)), (by first | rfl | (simp; done) | (simp [*]; done)), H', ⟨by have := HJ4.out; have := HJ18.out; have := HJ24.out; have := HK4.out; have := HK5.out; omega⟩, ⟨by (with_reducible repeat (first | apply Kd.V_alloc | apply Kd.V_drewN | apply Kd.V_drew)); exact Kd.V_mono HO_9.out (fun _ hk => ⟨hk.1.1, ⟨hk.2, hk.1.2.2⟩⟩)⟩, ⟨by (with_reducible repeat (first | apply Kd.S_alloc | apply Kd.S_drewN | apply Kd.S_drew)); exact HO468.out⟩, ⟨by (with_reducible repeat (first | refine blk_drewN ?_ _ | refine blk_drew ?_ | refine blk_alloc ?_ _)); exact BK421.out⟩, ⟨by repeat (first | (with_reducible first | exact HB.out | apply below_alloc | apply pw_below_drewN | apply below_drew1 | refine below_set ?_ GE421.out) | exact HB.out)⟩⟩
                  ·rw [if_neg c46] at H
                   exact absurd H (by simp)
                 ·rw [if_neg c44] at H
                  exact absurd H (by simp)
                ·rw [if_neg c43] at H
                 have c43b0 : decide (x12_5 < (x9_24.length : Int)) = false := decide_eq_false c43
                 clear c43
                 replace H := Option.bind_eq_some_iff.mp H
                 obtain ⟨⟨t469, t470⟩, A510, H⟩ := H
                 replace H : (if t469 = 0 then (some (x10_5, 0)) else (some (([] : List (S31)), t469))) = some (r1, r2) := H
                 have A51 := Aside0.mk A510
                 clear A510
                 by_cases c52 : t469 = 0
                 ·rw [if_pos c52] at H
                  have c52b0 : (t469 == 0) = true := beq_iff_eq.mpr c52
                  have c52b1 : (t469 != 0) = false := bne_eq_false_iff_eq.mpr c52
                  clear c52
                  simp only [Option.some.injEq, Prod.mk.injEq] at H
                  obtain ⟨rfl, rfl⟩ := H
                  obtain ⟨Ao53, co53, eo53⟩ := Kd.V_slice HO_9.out
                  subst eo53
                  obtain ⟨Ao54, co54, eo54⟩ := Kd.S_slice HO_10.out
                  subst eo54
                  go_wp2_with (first | ((with_reducible refine gate_callee (f := 19) rfl ?_); refine goesL_ (some 89) rfl rfl Try.func19 (by kernel_rfl) rfl #[.slice Ao54 x10_5.length co54] rfl (by (try simp only [List.map_toArray, List.map_cons, List.map_nil]); first | done | rfl | (simp only [List.length_drop, List.length_take]; rfl)) ?_; (with_reducible refine (satchelref08_Check.calls k5 _ _ x10_5 t469 t470 _ ?side1 ?side2 A51.out).mono ?_); (case side1 => repeat (first | exact (Kd.S_reads' HO_10.out).2.2 | (with_reducible refine Kd.C_alloc ?_ _) | (with_reducible refine Kd.C_drewN ?_ _) | (with_reducible refine Kd.C_drew ?_))); (case side2 => exact (Kd.S_reads' HO_10.out).2.1); rintro e w55 ⟨rfl, hb⟩; refine ⟨_, rfl, ?_⟩; have n0_ := Aside0.mk (Kd.V_below (by (with_reducible repeat (first | apply Kd.V_alloc | apply Kd.V_drewN | apply Kd.V_drew)); exact HO_9.out) hb); have n1_ := Aside0.mk (Kd.S_below (by (with_reducible repeat (first | apply Kd.S_alloc | apply Kd.S_drewN | apply Kd.S_drew)); exact HO_10.out) hb); have n2_ := Aside0.mk (blk_below (g := gb421) (o := .cells #[.string a1_0, .int .i64 a1_1, .int .i64 a1_2, .slice A1_3 l1_3.length c1_3, .string a1_4] 31 (0, 0)) (by (with_reducible repeat (first | refine blk_drewN ?_ _ | refine blk_drew ?_ | refine blk_alloc ?_ _)); exact BK421.out) hb); have n3_ := Aside0.mk (below_step (by repeat (first | (with_reducible first | exact HB.out | apply below_alloc | apply pw_below_drewN | apply below_drew1 | refine below_set ?_ GE421.out) | exact HB.out)) hb); clear HO_9; clear HO_10; clear BK421; clear HB; have HO_9 := n0_; have HO_10 := n1_; have BK421 := n2_; have HB := n3_; clear n0_ n1_ n2_ n3_; (try clear hb); (try clear hb2); (try clear hk); (try clear hi)))
                  go_ret2
                  exact ⟨_, by first | rfl | (simp [errW_none, errW_some] <;> rfl) | (simp [*, errW_none, errW_some] <;> rfl) | (simp [bt, *]; done) | (simp_all [bt]; done), by (with_reducible repeat (first | apply Kd.S_alloc | apply Kd.S_drewN | apply Kd.S_drew)); exact Kd.S_mono HO_10.out (fun _ hk => hk.1), by repeat (first | (with_reducible first | exact HB.out | apply below_alloc | apply pw_below_drewN | apply below_drew1 | refine below_set ?_ GE421.out) | exact HB.out)⟩
                 ·rw [if_neg c52] at H
                  have c52b0 : (t469 == 0) = false := beq_eq_false_iff_ne.mpr c52
                  have c52b1 : (t469 != 0) = true := bne_iff_ne.mpr c52
                  simp only [Option.some.injEq, Prod.mk.injEq] at H
                  obtain ⟨rfl, rfl⟩ := H
                  obtain ⟨Ao56, co56, eo56⟩ := Kd.V_slice HO_9.out
                  subst eo56
                  obtain ⟨Ao57, co57, eo57⟩ := Kd.S_slice HO_10.out
                  subst eo57
                  go_wp2_with (first | ((with_reducible refine gate_callee (f := 19) rfl ?_); refine goesL_ (some 89) rfl rfl Try.func19 (by kernel_rfl) rfl #[.slice Ao57 x10_5.length co57] rfl (by (try simp only [List.map_toArray, List.map_cons, List.map_nil]); first | done | rfl | (simp only [List.length_drop, List.length_take]; rfl)) ?_; (with_reducible refine (satchelref08_Check.calls k5 _ _ x10_5 t469 t470 _ ?side1 ?side2 A51.out).mono ?_); (case side1 => repeat (first | exact (Kd.S_reads' HO_10.out).2.2 | (with_reducible refine Kd.C_alloc ?_ _) | (with_reducible refine Kd.C_drewN ?_ _) | (with_reducible refine Kd.C_drew ?_))); (case side2 => exact (Kd.S_reads' HO_10.out).2.1); rintro e w58 ⟨rfl, hb⟩; refine ⟨_, rfl, ?_⟩; have n0_ := Aside0.mk (Kd.V_below (by (with_reducible repeat (first | apply Kd.V_alloc | apply Kd.V_drewN | apply Kd.V_drew)); exact HO_9.out) hb); have n1_ := Aside0.mk (Kd.S_below (by (with_reducible repeat (first | apply Kd.S_alloc | apply Kd.S_drewN | apply Kd.S_drew)); exact HO_10.out) hb); have n2_ := Aside0.mk (blk_below (g := gb421) (o := .cells #[.string a1_0, .int .i64 a1_1, .int .i64 a1_2, .slice A1_3 l1_3.length c1_3, .string a1_4] 31 (0, 0)) (by (with_reducible repeat (first | refine blk_drewN ?_ _ | refine blk_drew ?_ | refine blk_alloc ?_ _)); exact BK421.out) hb); have n3_ := Aside0.mk (below_step (by repeat (first | (with_reducible first | exact HB.out | apply below_alloc | apply pw_below_drewN | apply below_drew1 | refine below_set ?_ GE421.out) | exact HB.out)) hb); clear HO_9; clear HO_10; clear BK421; clear HB; have HO_9 := n0_; have HO_10 := n1_; have BK421 := n2_; have HB := n3_; clear n0_ n1_ n2_ n3_; (try clear hb); (try clear hb2); (try clear hk); (try clear hi)))
                  go_ret2
                  exact ⟨_, by first | rfl | (simp [errW_none, errW_some] <;> rfl) | (simp [*, errW_none, errW_some] <;> rfl) | (simp [bt, *]; done) | (simp_all [bt]; done), by first | exact Kd.S_nil _ _ _ _ _ | exact Kd.N_nil _ _ _ _ _ | exact Kd.V_nil _ _ _ _ _ | exact Kd.Q_nil _ _ _ _ _ | exact Kd.R_nil _ _ _ _ _, by repeat (first | (with_reducible first | exact HB.out | apply below_alloc | apply pw_below_drewN | apply below_drew1 | refine below_set ?_ GE421.out) | exact HB.out)⟩
             ·rw [if_neg c38] at H
              exact absurd H (by simp)
     ·rw [if_neg c18] at H
      exact absurd H (by simp)
    ·rw [if_neg c17] at H
     exact absurd H (by simp)
 ·rw [if_neg c4] at H
  have c4b0 : (t422 == 0) = false := beq_eq_false_iff_ne.mpr c4
  have c4b1 : (t422 != 0) = true := bne_iff_ne.mpr c4
  simp only [Option.some.injEq, Prod.mk.injEq] at H
  obtain ⟨rfl, rfl⟩ := H
  go_enter Try.func31, Try.ntmps31
  go_wp2_with (first | ((with_reducible refine gate_dst (N := 3) rfl ?_); refine box_event ?hg (N := 3) ?hd (cs := #[.string a1_0, .int .i64 a1_1, .int .i64 a1_2, .slice A1_3 l1_3.length c1_3, .string a1_4]) (t := 31) ?hr ?_; (case hd => rfl); (case hg => rfl); (case hr => first | (go_simp; done) | (go_simp; rfl)); intro gb421 hg w59 hbox hb; have n0_ := Aside0.mk (Kd.V_below (Kd.V_elderB (by (with_reducible repeat (first | apply Kd.V_alloc | apply Kd.V_drewN | apply Kd.V_drew)); exact HO0.out) gb421 (Nat.le_of_eq hg.symm)) hb); have n1_ := Aside0.mk (below_step (by repeat (first | (with_reducible first | exact HB.out | apply below_alloc | apply pw_below_drewN | apply below_drew1) | exact HB.out)) hb); have n2_ := Aside0.mk (hbox); have n3_ := Aside0.mk ((by rw [hg]; exact (below_size (by repeat (first | (with_reducible first | exact HB.out | apply below_alloc | apply pw_below_drewN | apply below_drew1) | exact HB.out))) : w.heap.size ≤ gb421)); have n4_ := Aside0.mk ((by rw [hg]; exact (below_size (by repeat (first | (with_reducible first | exact HB.out | apply below_alloc | apply pw_below_drewN | apply below_drew1) | exact HB.out))) : w.heap.size ≤ gb421)); clear HO0; clear HB; have HO0 := n0_; have HB := n1_; have BK421 := n2_; have GW421 := n3_; have GE421 := n4_; clear n0_ n1_ n2_ n3_ n4_; clear hb hbox hg) | ((with_reducible refine gate_callee (f := 19) rfl ?_); refine goesL_ (some 15) rfl rfl Try.func19 (by kernel_rfl) rfl #[.slice A0 l0.length c0] rfl (by (try simp only [List.map_toArray, List.map_cons, List.map_nil]); first | done | rfl | (simp only [List.length_drop, List.length_take]; rfl)) ?_; (with_reducible refine (satchelref08_Check.calls k _ _ l0 t422 t423 _ ?side1 ?side2 A3.out).mono ?_); (case side1 => repeat (first | exact (Kd.V_reads' HO0.out).2.2 | (with_reducible refine Kd.C_alloc ?_ _) | (with_reducible refine Kd.C_drewN ?_ _) | (with_reducible refine Kd.C_drew ?_))); (case side2 => exact (Kd.V_reads' HO0.out).2.1); rintro e w60 ⟨rfl, hb⟩; refine ⟨_, rfl, ?_⟩; have n0_ := Aside0.mk (Kd.V_below (by (with_reducible repeat (first | apply Kd.V_alloc | apply Kd.V_drewN | apply Kd.V_drew)); exact HO0.out) hb); have n1_ := Aside0.mk (blk_below (g := gb421) (o := .cells #[.string a1_0, .int .i64 a1_1, .int .i64 a1_2, .slice A1_3 l1_3.length c1_3, .string a1_4] 31 (0, 0)) (by (with_reducible repeat (first | refine blk_drewN ?_ _ | refine blk_drew ?_ | refine blk_alloc ?_ _)); exact BK421.out) hb); have n2_ := Aside0.mk (below_step (by repeat (first | (with_reducible first | exact HB.out | apply below_alloc | apply pw_below_drewN | apply below_drew1 | refine below_set ?_ GE421.out) | exact HB.out)) hb); clear HO0; clear BK421; clear HB; have HO0 := n0_; have BK421 := n1_; have HB := n2_; clear n0_ n1_ n2_; (try clear hb); (try clear hb2); (try clear hk); (try clear hi)))
  go_ret2
  exact ⟨_, by first | rfl | (simp [errW_none, errW_some] <;> rfl) | (simp [*, errW_none, errW_some] <;> rfl) | (simp [bt, *]; done) | (simp_all [bt]; done), by first | exact Kd.S_nil _ _ _ _ _ | exact Kd.N_nil _ _ _ _ _ | exact Kd.V_nil _ _ _ _ _ | exact Kd.Q_nil _ _ _ _ _ | exact Kd.R_nil _ _ _ _ _, by repeat (first | (with_reducible first | exact HB.out | apply below_alloc | apply pw_below_drewN | apply below_drew1 | refine below_set ?_ GE421.out) | exact HB.out)⟩

end Go.Proofs.Ytopkmchkfcjjmaa.X
end

/-! ## Satchelref07Under -/
section
namespace Go.Proofs.Ytopkmchkfcjjmaa.X
open Go.RowKit Go.Proofs.YtopkmchkfcjjmaaW.PrintWords Go.Proofs.YtopkmchkfcjjmaaW.PrintLast Go.Proofs.YtopkmchkfcjjmaaW.PrintMore
attribute [local go_sem] max2_int min2_int max_two min_two max_three min_three max_four min_four   -- for this text's walks alone
set_option linter.unusedVariables false
set_option linter.unusedSimpArgs false

attribute [local go_sem] str_gtr fld_fault0 fld_fault1
/-! ### satchelref07_Under: function 59 -/
def satchelref07_Under.f (k : Nat) (a0 : ByteArray) (a1 : ByteArray) : Option (Bool) := (satchelref07_Valid.f k a0).bind fun t471 => (if t471 = true then ((satchelref07_Valid.f k a1).bind fun t472 => (if t472 = true then (if (a0.size : Int) > (a1.size : Int) then (if 0 ≤ (a1.size : Int) then (if (a1.size : Int) ≤ (a0.size : Int) then (if (a0.extract 0 ((a1.size : Int) : Int).toNat).toList = a1.toList then (if (a1.size : Int) < (a0.size : Int) then (some ((bt a0 (a1.size : Int)) == 47)) else (none)) else (some false)) else (none)) else (none)) else (some false)) else (some false))) else (some false))
theorem satchelref07_Under.mono : ∀ a0 a1 k, LeO (satchelref07_Under.f k a0 a1) (satchelref07_Under.f (k + 1) a0 a1) := by
 intro a0 a1 k
 unfold satchelref07_Under.f
 repeat' first
   | (with_reducible exact satchelref07_Valid.mono _ _)
   | (with_reducible exact LeO.refl _)
   | (with_reducible exact LeO.none _)
   | (with_reducible refine LeO.ite ?_ ?_)
   | (with_reducible refine LeO.bind ?_ (fun _ => ?_))
   | exact satchelref07_Valid.mono _ _
   | exact LeO.none _
   | refine LeO.ite ?_ ?_
   | refine LeO.bind ?_ (fun _ => ?_)
set_option maxHeartbeats 8000000 in
set_option maxRecDepth 100000 in
theorem satchelref07_Under.calls (k : Nat) (a0 : ByteArray) (a1 : ByteArray) (r : Bool) (w : World) (h : satchelref07_Under.f k a0 a1 = some r) :
  Calls Try.prog 59 #[.string a0, .string a1] w fun e w' => e = .returned (.bool r) ∧ Below w.heap.size w w' := by
 have HB := Aside0.mk (Below.refl w.heap.size w)
 have H : ((satchelref07_Valid.f k a0).bind fun t471 => (if t471 = true then ((satchelref07_Valid.f k a1).bind fun t472 => (if t472 = true then (if (a0.size : Int) > (a1.size : Int) then (if 0 ≤ (a1.size : Int) then (if (a1.size : Int) ≤ (a0.size : Int) then (if (a0.extract 0 ((a1.size : Int) : Int).toNat).toList = a1.toList then (if (a1.size : Int) < (a0.size : Int) then (some ((bt a0 (a1.size : Int)) == 47)) else (none)) else (some false)) else (none)) else (none)) else (some false)) else (some false))) else (some false))) = some r := h
 clear h
 replace H := Option.bind_eq_some_iff.mp H
 obtain ⟨t471, A30, H⟩ := H
 replace H : (if t471 = true then ((satchelref07_Valid.f k a1).bind fun t472 => (if t472 = true then (if (a0.size : Int) > (a1.size : Int) then (if 0 ≤ (a1.size : Int) then (if (a1.size : Int) ≤ (a0.size : Int) then (if (a0.extract 0 ((a1.size : Int) : Int).toNat).toList = a1.toList then (if (a1.size : Int) < (a0.size : Int) then (some ((bt a0 (a1.size : Int)) == 47)) else (none)) else (some false)) else (none)) else (none)) else (some false)) else (some false))) else (some false)) = some r := H
 have A3 := Aside0.mk A30
 clear A30
 by_cases c4 : t471 = true
 ·subst c4
  have H1 : ((satchelref07_Valid.f k a1).bind fun t472 => (if t472 = true then (if (a0.size : Int) > (a1.size : Int) then (if 0 ≤ (a1.size : Int) then (if (a1.size : Int) ≤ (a0.size : Int) then (if (a0.extract 0 ((a1.size : Int) : Int).toNat).toList = a1.toList then (if (a1.size : Int) < (a0.size : Int) then (some ((bt a0 (a1.size : Int)) == 47)) else (none)) else (some false)) else (none)) else (none)) else (some false)) else (some false))) = some r := by rw [if_pos rfl] at H; exact H
  clear H
  have H := H1
  clear H1
  replace H := Option.bind_eq_some_iff.mp H
  obtain ⟨t472, A50, H⟩ := H
  replace H : (if t472 = true then (if (a0.size : Int) > (a1.size : Int) then (if 0 ≤ (a1.size : Int) then (if (a1.size : Int) ≤ (a0.size : Int) then (if (a0.extract 0 ((a1.size : Int) : Int).toNat).toList = a1.toList then (if (a1.size : Int) < (a0.size : Int) then (some ((bt a0 (a1.size : Int)) == 47)) else (none)) else (some false)) else (none)) else (none)) else (some false)) else (some false)) = some r := H
  have A5 := Aside0.mk A50
  clear A50
  by_cases c6 : t472 = true
  ·subst c6
   have H1 : (if (a0.size : Int) > (a1.size : Int) then (if 0 ≤ (a1.size : Int) then (if (a1.size : Int) ≤ (a0.size : Int) then (if (a0.extract 0 ((a1.size : Int) : Int).toNat).toList = a1.toList then (if (a1.size : Int) < (a0.size : Int) then (some ((bt a0 (a1.size : Int)) == 47)) else (none)) else (some false)) else (none)) else (none)) else (some false)) = some r := by rw [if_pos rfl] at H; exact H
   clear H
   have H := H1
   clear H1
   by_cases c7 : (a0.size : Int) > (a1.size : Int)
   ·rw [if_pos c7] at H
    have c7b0 : decide ((a1.size : Int) < (a0.size : Int)) = true := decide_eq_true c7
    have c7b1 : decide (a1.size < a0.size) = true := decide_eq_true (Int.ofNat_lt.mp c7)
    clear c7
    by_cases c8 : 0 ≤ (a1.size : Int)
    ·rw [if_pos c8] at H
     have c8b0 := eq_true c8
     have c8b1 : decide (0 ≤ (a1.size : Int)) = true := decide_eq_true c8
     clear c8
     by_cases c9 : (a1.size : Int) ≤ (a0.size : Int)
     ·rw [if_pos c9] at H
      have c9b0 := eq_true c9
      have c9b1 : decide ((a1.size : Int) ≤ (a0.size : Int)) = true := decide_eq_true c9
      clear c9
      by_cases c10 : (a0.extract 0 ((a1.size : Int) : Int).toNat).toList = a1.toList
      ·rw [if_pos c10] at H
       have c10b0 : ((a0.extract 0 ((a1.size : Int) : Int).toNat).toList == a1.toList) = true := beq_iff_eq.mpr c10
       have c10b0z : ((a0.extract 0 a1.size).toList == a1.toList) = true := c10b0
       have c10b1 : ((a0.extract 0 ((a1.size : Int) : Int).toNat).toList != a1.toList) = false := bne_eq_false_iff_eq.mpr c10
       have c10b1z : ((a0.extract 0 a1.size).toList != a1.toList) = false := c10b1
       clear c10
       by_cases c11 : (a1.size : Int) < (a0.size : Int)
       ·rw [if_pos c11] at H
        have c11b0 : decide ((a1.size : Int) < (a0.size : Int)) = true := decide_eq_true c11
        have c11b1 : decide (a1.size < a0.size) = true := decide_eq_true (Int.ofNat_lt.mp c11)
        clear c11
        obtain rfl := Option.some.inj H
        go_enter Try.func59, Try.ntmps59
        go_wp2_with (first | ((with_reducible refine gate_callee (f := 68) rfl ?_); refine goesL_ (some 6) rfl rfl Try.func68 (by kernel_rfl) rfl #[.string a0] rfl (by (try simp only [List.map_toArray, List.map_cons, List.map_nil]); first | done | rfl | (simp only [List.length_drop, List.length_take]; rfl)) ?_; (with_reducible refine (satchelref07_Valid.calls k a0 true _ A3.out).mono ?_); rintro e w13 ⟨rfl, hb⟩; refine ⟨_, rfl, ?_⟩; have n0_ := Aside0.mk (below_step (by repeat (first | (with_reducible first | exact HB.out | apply below_alloc | apply pw_below_drewN | apply below_drew1) | exact HB.out)) hb); clear HB; have HB := n0_; clear n0_; (try clear hb); (try clear hb2); (try clear hk); (try clear hi)) | (go_at_call 68; (with_reducible refine (satchelref07_Valid.calls k a1 true _ A5.out).mono ?_); rintro e w14 ⟨rfl, hb⟩; have n0_ := Aside0.mk (below_step (by repeat (first | (with_reducible first | exact HB.out | apply below_alloc | apply pw_below_drewN | apply below_drew1) | exact HB.out)) hb); clear HB; have HB := n0_; clear n0_; (try clear hb); (try clear hb2); (try clear hk); (try clear hi); have p12 : 0 ≤ ((a1.size : Int) : Int) := of_decide_eq_true (by first | (with_reducible assumption) | assumption); have q12 : (a1.size : Int) < (a0.size : Int) := of_decide_eq_true (by first | (with_reducible assumption) | assumption); have hx12 := bt_at a0 (a1.size : Int); replace p12 := eq_true p12; replace q12 := eq_true q12))
        go_ret
        exact ⟨by first | rfl | (simp [errW_none, errW_some] <;> rfl) | (simp [*, errW_none, errW_some] <;> rfl) | (simp [bt, *]; done) | (simp_all [bt]; done), by repeat (first | (with_reducible first | exact HB.out | apply below_alloc | apply pw_below_drewN | apply below_drew1) | exact HB.out)⟩
       ·rw [if_neg c11] at H
        exact absurd H (by simp)
      ·rw [if_neg c10] at H
       have c10b0 : ((a0.extract 0 ((a1.size : Int) : Int).toNat).toList == a1.toList) = false := beq_eq_false_iff_ne.mpr c10
       have c10b0z : ((a0.extract 0 a1.size).toList == a1.toList) = false := c10b0
       have c10b1 : ((a0.extract 0 ((a1.size : Int) : Int).toNat).toList != a1.toList) = true := bne_iff_ne.mpr c10
       have c10b1z : ((a0.extract 0 a1.size).toList != a1.toList) = true := c10b1
       obtain rfl := Option.some.inj H
       go_enter Try.func59, Try.ntmps59
       go_wp2_with (first | ((with_reducible refine gate_callee (f := 68) rfl ?_); refine goesL_ (some 6) rfl rfl Try.func68 (by kernel_rfl) rfl #[.string a0] rfl (by (try simp only [List.map_toArray, List.map_cons, List.map_nil]); first | done | rfl | (simp only [List.length_drop, List.length_take]; rfl)) ?_; (with_reducible refine (satchelref07_Valid.calls k a0 true _ A3.out).mono ?_); rintro e w15 ⟨rfl, hb⟩; refine ⟨_, rfl, ?_⟩; have n0_ := Aside0.mk (below_step (by repeat (first | (with_reducible first | exact HB.out | apply below_alloc | apply pw_below_drewN | apply below_drew1) | exact HB.out)) hb); clear HB; have HB := n0_; clear n0_; (try clear hb); (try clear hb2); (try clear hk); (try clear hi)) | (go_at_call 68; (with_reducible refine (satchelref07_Valid.calls k a1 true _ A5.out).mono ?_); rintro e w16 ⟨rfl, hb⟩; have n0_ := Aside0.mk (below_step (by repeat (first | (with_reducible first | exact HB.out | apply below_alloc | apply pw_below_drewN | apply below_drew1) | exact HB.out)) hb); clear HB; have HB := n0_; clear n0_; (try clear hb); (try clear hb2); (try clear hk); (try clear hi)))
       go_ret
       exact ⟨by first | rfl | (simp [errW_none, errW_some] <;> rfl) | (simp [*, errW_none, errW_some] <;> rfl) | (simp [bt, *]; done) | (simp_all [bt]; done), by repeat (first | (with_reducible first | exact HB.out | apply below_alloc | apply pw_below_drewN | apply below_drew1) | exact HB.out)⟩
     ·rw [if_neg c9] at H
      exact absurd H (by simp)
    ·rw [if_neg c8] at H
     exact absurd H (by simp)
   ·rw [if_neg c7] at H
    have c7b0 : decide ((a1.size : Int) < (a0.size : Int)) = false := decide_eq_false c7
    have c7b1 : decide (a1.size < a0.size) = false := decide_eq_false (fun h => c7 (Int.ofNat_lt.mpr h))
    clear c7
    obtain rfl := Option.some.inj H
    go_enter Try.func59, Try.ntmps59
    go_wp2_with (first | ((with_reducible refine gate_callee (f := 68) rfl ?_); refine goesL_ (some 6) rfl rfl Try.func68 (by kernel_rfl) rfl #[.string a0] rfl (by (try simp only [List.map_toArray, List.map_cons, List.map_nil]); first | done | rfl | (simp only [List.length_drop, List.length_take]; rfl)) ?_; (with_reducible refine (satchelref07_Valid.calls k a0 true _ A3.out).mono ?_); rintro e w17 ⟨rfl, hb⟩; refine ⟨_, rfl, ?_⟩; have n0_ := Aside0.mk (below_step (by repeat (first | (with_reducible first | exact HB.out | apply below_alloc | apply pw_below_drewN | apply below_drew1) | exact HB.out)) hb); clear HB; have HB := n0_; clear n0_; (try clear hb); (try clear hb2); (try clear hk); (try clear hi)) | (go_at_call 68; (with_reducible refine (satchelref07_Valid.calls k a1 true _ A5.out).mono ?_); rintro e w18 ⟨rfl, hb⟩; have n0_ := Aside0.mk (below_step (by repeat (first | (with_reducible first | exact HB.out | apply below_alloc | apply pw_below_drewN | apply below_drew1) | exact HB.out)) hb); clear HB; have HB := n0_; clear n0_; (try clear hb); (try clear hb2); (try clear hk); (try clear hi)))
    go_ret
    exact ⟨by first | rfl | (simp [errW_none, errW_some] <;> rfl) | (simp [*, errW_none, errW_some] <;> rfl) | (simp [bt, *]; done) | (simp_all [bt]; done), by repeat (first | (with_reducible first | exact HB.out | apply below_alloc | apply pw_below_drewN | apply below_drew1) | exact HB.out)⟩
  ·replace c6 := Bool.eq_false_iff.mpr c6
   subst c6
   have H1 : (some false) = some r := by rw [if_neg (show ¬ (false = true) by decide)] at H; exact H
   clear H
   have H := H1
   clear H1
   obtain rfl := Option.some.inj H
   go_enter Try.func59, Try.ntmps59
   go_wp2_with (first | ((with_reducible refine gate_callee (f := 68) rfl ?_); refine goesL_ (some 6) rfl rfl Try.func68 (by kernel_rfl) rfl #[.string a0] rfl (by (try simp only [List.map_toArray, List.map_cons, List.map_nil]); first | done | rfl | (simp only [List.length_drop, List.length_take]; rfl)) ?_; (with_reducible refine (satchelref07_Valid.calls k a0 true _ A3.out).mono ?_); rintro e w19 ⟨rfl, hb⟩; refine ⟨_, rfl, ?_⟩; have n0_ := Aside0.mk (below_step (by repeat (first | (with_reducible first | exact HB.out | apply below_alloc | apply pw_below_drewN | apply below_drew1) | exact HB.out)) hb); clear HB; have HB := n0_; clear n0_; (try clear hb); (try clear hb2); (try clear hk); (try clear hi)) | (go_at_call 68; (with_reducible refine (satchelref07_Valid.calls k a1 false _ A5.out).mono ?_); rintro e w20 ⟨rfl, hb⟩; have n0_ := Aside0.mk (below_step (by repeat (first | (with_reducible first | exact HB.out | apply below_alloc | apply pw_below_drewN | apply below_drew1) | exact HB.out)) hb); clear HB; have HB := n0_; clear n0_; (try clear hb); (try clear hb2); (try clear hk); (try clear hi)))
   go_ret
   exact ⟨by first | rfl | (simp [errW_none, errW_some] <;> rfl) | (simp [*, errW_none, errW_some] <;> rfl) | (simp [bt, *]; done) | (simp_all [bt]; done), by repeat (first | (with_reducible first | exact HB.out | apply below_alloc | apply pw_below_drewN | apply below_drew1) | exact HB.out)⟩
 ·replace c4 := Bool.eq_false_iff.mpr c4
  subst c4
  have H1 : (some false) = some r := by rw [if_neg (show ¬ (false = true) by decide)] at H; exact H
  clear H
  have H := H1
  clear H1
  obtain rfl := Option.some.inj H
  go_enter Try.func59, Try.ntmps59
  go_wp2_with (first | ((with_reducible refine gate_callee (f := 68) rfl ?_); refine goesL_ (some 6) rfl rfl Try.func68 (by kernel_rfl) rfl #[.string a0] rfl (by (try simp only [List.map_toArray, List.map_cons, List.map_nil]); first | done | rfl | (simp only [List.length_drop, List.length_take]; rfl)) ?_; (with_reducible refine (satchelref07_Valid.calls k a0 false _ A3.out).mono ?_); rintro e w21 ⟨rfl, hb⟩; refine ⟨_, rfl, ?_⟩; have n0_ := Aside0.mk (below_step (by repeat (first | (with_reducible first | exact HB.out | apply below_alloc | apply pw_below_drewN | apply below_drew1) | exact HB.out)) hb); clear HB; have HB := n0_; clear n0_; (try clear hb); (try clear hb2); (try clear hk); (try clear hi)))
  go_ret
  exact ⟨by first | rfl | (simp [errW_none, errW_some] <;> rfl) | (simp [*, errW_none, errW_some] <;> rfl) | (simp [bt, *]; done) | (simp_all [bt]; done), by repeat (first | (with_reducible first | exact HB.out | apply below_alloc | apply pw_below_drewN | apply below_drew1) | exact HB.out)⟩

end Go.Proofs.Ytopkmchkfcjjmaa.X
end

/-! ## Satchelref08Drop -/
section
namespace Go.Proofs.Ytopkmchkfcjjmaa.X
open Go.RowKit Go.Proofs.YtopkmchkfcjjmaaW.PrintWords Go.Proofs.YtopkmchkfcjjmaaW.PrintLast Go.Proofs.YtopkmchkfcjjmaaW.PrintMore
attribute [local go_sem] max2_int min2_int max_two min_two max_three min_three max_four min_four   -- for this text's walks alone
set_option linter.unusedVariables false
set_option linter.unusedSimpArgs false

attribute [local go_sem] str_gtr fld_fault0 fld_fault1
/-! ### satchelref08_Drop: function 33 -/
def satchelref08_Drop.l0 : Nat → List (S31) → ByteArray → List (S31) → Int → Option ((List (S31)) × Int)
 | 0, _, _, _, _ => none
 | k + 1, x0, x1, x8, x9 => if x9 < (x0.length : Int) then (if 0 ≤ x9 then (if ((rd_T31 x0 x9).f0).toList = x1.toList then (satchelref08_Drop.l0 k x0 x1 x8 (wrap64 (x9 + 1))) else ((satchelref07_Under.f k ((rd_T31 x0 x9).f0) x1).bind fun t478 => (if t478 = true then (satchelref08_Drop.l0 k x0 x1 x8 (wrap64 (x9 + 1))) else ((satchelref08_Own.f ((rd_T31 x0 x9).f0) ((rd_T31 x0 x9).f1) ((rd_T31 x0 x9).f2) ((rd_T31 x0 x9).f3) ((rd_T31 x0 x9).f4)).bind fun bt480 => (if x8.length < 1954687338268 then (satchelref08_Drop.l0 k x0 x1 (x8 ++ [(⟨bt480.1, bt480.2.1, bt480.2.2.1, bt480.2.2.2.1, bt480.2.2.2.2⟩ : S31)]) (wrap64 (x9 + 1))) else (none)))))) else (none)) else (some (x8, 0))
def satchelref08_Drop.f (k : Nat) (l0 : List (S31)) (a1 : ByteArray) : Option ((List (S31)) × Int) := (satchelref08_Check.f k l0).bind fun bt473 => (if bt473.1 = 0 then ((satchelref08_at.f k l0 a1).bind fun t475 => (if t475 < 0 then (some (([] : List (S31)), 6)) else (satchelref08_Drop.l0 k l0 a1 ([] : List (S31)) 0))) else (some (([] : List (S31)), bt473.1)))
theorem satchelref08_Drop.mono_l : ∀ k, (∀ y0 y1 y2 y3, LeO (satchelref08_Drop.l0 k y0 y1 y2 y3) (satchelref08_Drop.l0 (k + 1) y0 y1 y2 y3))
 | 0 => fun _ _ _ _ r h => by simp [satchelref08_Drop.l0] at h
 | k + 1 => by
  have ih0 := satchelref08_Drop.mono_l k
  ·intro y0 y1 y2 y3
   unfold satchelref08_Drop.l0
   repeat' first
   | (with_reducible exact ih0 _ _ _ _)
   | (with_reducible exact satchelref07_Under.mono _ _ _)
   | (with_reducible exact satchelref08_Check.mono _ _)
   | (with_reducible exact satchelref08_at.mono _ _ _)
   | (with_reducible exact LeO.refl _)
   | (with_reducible exact LeO.none _)
   | (with_reducible refine LeO.ite ?_ ?_)
   | (with_reducible refine LeO.bind ?_ (fun _ => ?_))
   | exact ih0 _ _ _ _
   | exact satchelref07_Under.mono _ _ _
   | exact satchelref08_Check.mono _ _
   | exact satchelref08_at.mono _ _ _
   | exact LeO.none _
   | refine LeO.ite ?_ ?_
   | refine LeO.bind ?_ (fun _ => ?_)
theorem satchelref08_Drop.mono : ∀ a0 a1 k, LeO (satchelref08_Drop.f k a0 a1) (satchelref08_Drop.f (k + 1) a0 a1) := by
 intro a0 a1 k
 have ih0 := satchelref08_Drop.mono_l k
 unfold satchelref08_Drop.f
 repeat' first
   | (with_reducible exact ih0 _ _ _ _)
   | (with_reducible exact satchelref07_Under.mono _ _ _)
   | (with_reducible exact satchelref08_Check.mono _ _)
   | (with_reducible exact satchelref08_at.mono _ _ _)
   | (with_reducible exact LeO.refl _)
   | (with_reducible exact LeO.none _)
   | (with_reducible refine LeO.ite ?_ ?_)
   | (with_reducible refine LeO.bind ?_ (fun _ => ?_))
   | exact ih0 _ _ _ _
   | exact satchelref07_Under.mono _ _ _
   | exact satchelref08_Check.mono _ _
   | exact satchelref08_at.mono _ _ _
   | exact LeO.none _
   | refine LeO.ite ?_ ?_
   | refine LeO.bind ?_ (fun _ => ?_)
set_option maxHeartbeats 8000000 in
set_option maxRecDepth 100000 in
theorem satchelref08_Drop.calls (k : Nat) (A0 : Option Addr) (c0 : Nat) (l0 : List (S31)) (a1 : ByteArray) (r1 : List (S31)) (r2 : Int) (w : World) (hr0 : Kd.C k31 w A0 l0.length l0) (hc0 : l0.length ≤ c0) (h : satchelref08_Drop.f k l0 a1 = some (r1, r2)) :
  Calls Try.prog 33 #[.slice A0 l0.length c0, .string a1] w fun e w' => ∃ v0_ : Value, e = .returned (.tuple #[v0_, .int .i64 r2]) ∧ Kd.S k31 31 w' w.heap.size (fun _ => True) v0_ r1 ∧ Below w.heap.size w w' := by
 have hu31 := Try.underlying31
 have HR0 := Aside0.mk hr0
 have HC0 := Aside0.mk hc0
 clear hr0 hc0
 have HB := Aside0.mk (Below.refl w.heap.size w)
 have H : ((satchelref08_Check.f k l0).bind fun bt473 => (if bt473.1 = 0 then ((satchelref08_at.f k l0 a1).bind fun t475 => (if t475 < 0 then (some (([] : List (S31)), 6)) else (satchelref08_Drop.l0 k l0 a1 ([] : List (S31)) 0))) else (some (([] : List (S31)), bt473.1)))) = some (r1, r2) := h
 clear h
 replace H := Option.bind_eq_some_iff.mp H
 obtain ⟨⟨t473, t474⟩, A30, H⟩ := H
 replace H : (if t473 = 0 then ((satchelref08_at.f k l0 a1).bind fun t475 => (if t475 < 0 then (some (([] : List (S31)), 6)) else (satchelref08_Drop.l0 k l0 a1 ([] : List (S31)) 0))) else (some (([] : List (S31)), t473))) = some (r1, r2) := H
 have A3 := Aside0.mk A30
 clear A30
 by_cases c4 : t473 = 0
 ·rw [if_pos c4] at H
  have c4b0 : (t473 == 0) = true := beq_iff_eq.mpr c4
  have c4b1 : (t473 != 0) = false := bne_eq_false_iff_eq.mpr c4
  clear c4
  replace H := Option.bind_eq_some_iff.mp H
  obtain ⟨t475, A50, H⟩ := H
  replace H : (if t475 < 0 then (some (([] : List (S31)), 6)) else (satchelref08_Drop.l0 k l0 a1 ([] : List (S31)) 0)) = some (r1, r2) := H
  have A5 := Aside0.mk A50
  clear A50
  by_cases c6 : t475 < 0
  ·rw [if_pos c6] at H
   have c6b0 : decide (t475 < 0) = true := decide_eq_true c6
   clear c6
   simp only [Option.some.injEq, Prod.mk.injEq] at H
   obtain ⟨rfl, rfl⟩ := H
   go_enter Try.func33, Try.ntmps33
   go_wp2_with (first | ((with_reducible refine gate_callee (f := 19) rfl ?_); refine goesL_ (some 12) rfl rfl Try.func19 (by kernel_rfl) rfl #[.slice A0 l0.length c0] rfl (by (try simp only [List.map_toArray, List.map_cons, List.map_nil]); first | done | rfl | (simp only [List.length_drop, List.length_take]; rfl)) ?_; (with_reducible refine (satchelref08_Check.calls k _ _ l0 t473 t474 _ ?side1 ?side2 A3.out).mono ?_); (case side1 => repeat (first | exact HR0.out | (with_reducible refine Kd.C_alloc ?_ _) | (with_reducible refine Kd.C_drewN ?_ _) | (with_reducible refine Kd.C_drew ?_))); (case side2 => exact HC0.out); rintro e w7 ⟨rfl, hb⟩; refine ⟨_, rfl, ?_⟩; have n0_ := Aside0.mk (below_step (by repeat (first | (with_reducible first | exact HB.out | apply below_alloc | apply pw_below_drewN | apply below_drew1) | exact HB.out)) hb); clear HB; have HB := n0_; clear n0_; (try clear hb); (try clear hb2); (try clear hk); (try clear hi)) | ((with_reducible refine gate_callee (f := 51) rfl ?_); refine goesL_ (some 20) rfl rfl Try.func51 (by kernel_rfl) rfl #[.slice A0 l0.length c0, .string a1] rfl (by (try simp only [List.map_toArray, List.map_cons, List.map_nil]); first | done | rfl | (simp only [List.length_drop, List.length_take]; rfl)) ?_; (with_reducible refine (satchelref08_at.calls k _ _ l0 a1 t475 _ ?side1 ?side2 A5.out).mono ?_); (case side1 => repeat (first | exact (Kd.C_below HR0.out HB.out) | (with_reducible refine Kd.C_alloc ?_ _) | (with_reducible refine Kd.C_drewN ?_ _) | (with_reducible refine Kd.C_drew ?_))); (case side2 => exact HC0.out); rintro e w' ⟨rfl, ⟨nd, rfl⟩⟩; refine ⟨_, rfl, ?_⟩))
   go_ret2
   exact ⟨_, by first | rfl | (simp [errW_none, errW_some] <;> rfl) | (simp [*, errW_none, errW_some] <;> rfl) | (simp [bt, *]; done) | (simp_all [bt]; done), by first | exact Kd.S_nil _ _ _ _ _ | exact Kd.N_nil _ _ _ _ _ | exact Kd.V_nil _ _ _ _ _ | exact Kd.Q_nil _ _ _ _ _ | exact Kd.R_nil _ _ _ _ _, by repeat (first | (with_reducible first | exact HB.out | apply below_alloc | apply pw_below_drewN | apply below_drew1) | exact HB.out)⟩
  ·rw [if_neg c6] at H
   have c6b0 : decide (t475 < 0) = false := decide_eq_false c6
   clear c6
   have H' := Aside0.mk H
   clear H
   go_enter Try.func33, Try.ntmps33
   go_wp2_with (first | ((with_reducible refine gate_callee (f := 19) rfl ?_); refine goesL_ (some 12) rfl rfl Try.func19 (by kernel_rfl) rfl #[.slice A0 l0.length c0] rfl (by (try simp only [List.map_toArray, List.map_cons, List.map_nil]); first | done | rfl | (simp only [List.length_drop, List.length_take]; rfl)) ?_; (with_reducible refine (satchelref08_Check.calls k _ _ l0 t473 t474 _ ?side1 ?side2 A3.out).mono ?_); (case side1 => repeat (first | exact HR0.out | (with_reducible refine Kd.C_alloc ?_ _) | (with_reducible refine Kd.C_drewN ?_ _) | (with_reducible refine Kd.C_drew ?_))); (case side2 => exact HC0.out); rintro e w8 ⟨rfl, hb⟩; refine ⟨_, rfl, ?_⟩; have n0_ := Aside0.mk (below_step (by repeat (first | (with_reducible first | exact HB.out | apply below_alloc | apply pw_below_drewN | apply below_drew1) | exact HB.out)) hb); clear HB; have HB := n0_; clear n0_; (try clear hb); (try clear hb2); (try clear hk); (try clear hi)) | ((with_reducible refine gate_callee (f := 51) rfl ?_); refine goesL_ (some 20) rfl rfl Try.func51 (by kernel_rfl) rfl #[.slice A0 l0.length c0, .string a1] rfl (by (try simp only [List.map_toArray, List.map_cons, List.map_nil]); first | done | rfl | (simp only [List.length_drop, List.length_take]; rfl)) ?_; (with_reducible refine (satchelref08_at.calls k _ _ l0 a1 t475 _ ?side1 ?side2 A5.out).mono ?_); (case side1 => repeat (first | exact (Kd.C_below HR0.out HB.out) | (with_reducible refine Kd.C_alloc ?_ _) | (with_reducible refine Kd.C_drewN ?_ _) | (with_reducible refine Kd.C_drew ?_))); (case side2 => exact HC0.out); rintro e w' ⟨rfl, ⟨nd, rfl⟩⟩; refine ⟨_, rfl, ?_⟩))
   go_loopg [8, 9] k (fun kq v8 v9 w' => ∃ (x8_1 : List (S31)) (x9_1 : Int), v9 = .int .i64 x9_1 ∧ Aside0 (satchelref08_Drop.l0 kq l0 a1 x8_1 x9_1 = some (r1, r2)) ∧ Aside0 (kq ≤ k) ∧ Aside0 (Kd.S k31 31 w' w.heap.size (fun _ => True) v8 x8_1) ∧ Aside0 (Below w.heap.size w w'))
   case atStart => exact ⟨(([] : List (S31))), (0), (by first | rfl | (simp; done) | (simp [*]; done)), H', ⟨Nat.le_refl _⟩, ⟨by first | exact Kd.S_nil _ _ _ _ _ | exact Kd.N_nil _ _ _ _ _ | exact Kd.V_nil _ _ _ _ _ | exact Kd.Q_nil _ _ _ _ _ | exact Kd.R_nil _ _ _ _ _⟩, ⟨by repeat (first | (with_reducible first | exact HB.out | apply below_alloc | apply pw_below_drewN | apply below_drew1) | exact HB.out)⟩⟩
   case round =>
    clear H'
    try clear c1
    try clear p2
    try clear c3
    try clear c4
    try clear c4b0
    try clear c4b1
    try clear c5
    try clear c6
    try clear c6b0
    obtain ⟨x8_1, x9_1, rfl, HA, HK1, HO_8, HB⟩ := hrel
    cases gk with
    | zero => exact absurd HA.out (by simp [satchelref08_Drop.l0])
    | succ k1 =>
     have H := HA.out
     clear HA
     simp only [satchelref08_Drop.l0] at H
     by_cases c9 : x9_1 < (l0.length : Int)
     ·rw [if_pos c9] at H
      have c9b0 : decide (x9_1 < (l0.length : Int)) = true := decide_eq_true c9
      clear c9
      by_cases c10 : 0 ≤ x9_1
      ·rw [if_pos c10] at H
       have c10b0 : decide (0 ≤ x9_1) = true := decide_eq_true c10
       clear c10
       by_cases c11 : ((rd_T31 l0 x9_1).f0).toList = a1.toList
       ·rw [if_pos c11] at H
        have c11b0 : (((rd_T31 l0 x9_1).f0).toList == a1.toList) = true := beq_iff_eq.mpr c11
        have c11b1 : (((rd_T31 l0 x9_1).f0).toList != a1.toList) = false := bne_eq_false_iff_eq.mpr c11
        clear c11
        have H' := Aside0.mk H
        clear H
        have p476 : 0 ≤ (x9_1 : Int) := of_decide_eq_true (by first | (with_reducible assumption) | assumption)
        have q476 : x9_1 < (l0.length : Int) := of_decide_eq_true (by first | (with_reducible assumption) | assumption)
        obtain ⟨ad476, A476_3, c476_3, e476, hx476_0, hx476_1, hx476_2, hx476_3, hx476_4, hl476_3, hi476_3⟩ := at_T31 HR0.out x9_1 p476 q476
        cases e476
        replace hx476_0 := (HB.out.cell (World.block_lt_of_cell? w _ hx476_0)).trans hx476_0
        replace hx476_1 := (HB.out.cell (World.block_lt_of_cell? w _ hx476_1)).trans hx476_1
        replace hx476_2 := (HB.out.cell (World.block_lt_of_cell? w _ hx476_2)).trans hx476_2
        replace hx476_3 := (HB.out.cell (World.block_lt_of_cell? w _ hx476_3)).trans hx476_3
        replace hx476_4 := (HB.out.cell (World.block_lt_of_cell? w _ hx476_4)).trans hx476_4
        have HR476_3 := Aside0.mk hi476_3
        have HC476_3 := Aside0.mk hl476_3
        clear hi476_3 hl476_3
        replace p476 := eq_true p476
        replace q476 := eq_true q476
        go_wp2
        go_roundg k1
        case measure => have := HK1.out; omega
        case rel => exact ⟨(x8_1), (wrap64 (x9_1 + 1)), (by first | rfl | (simp; done) | (simp [*]; done)), H', ⟨by have := HK1.out; omega⟩, ⟨by (with_reducible repeat (first | apply Kd.S_alloc | apply Kd.S_drewN | apply Kd.S_drew)); exact HO_8.out⟩, ⟨by repeat (first | (with_reducible first | exact HB.out | apply below_alloc | apply pw_below_drewN | apply below_drew1) | exact HB.out)⟩⟩
       ·rw [if_neg c11] at H
        have c11b0 : (((rd_T31 l0 x9_1).f0).toList == a1.toList) = false := beq_eq_false_iff_ne.mpr c11
        have c11b1 : (((rd_T31 l0 x9_1).f0).toList != a1.toList) = true := bne_iff_ne.mpr c11
        replace H := Option.bind_eq_some_iff.mp H
        obtain ⟨t478, A120, H⟩ := H
        replace H : (if t478 = true then (satchelref08_Drop.l0 k1 l0 a1 x8_1 (wrap64 (x9_1 + 1))) else ((satchelref08_Own.f ((rd_T31 l0 x9_1).f0) ((rd_T31 l0 x9_1).f1) ((rd_T31 l0 x9_1).f2) ((rd_T31 l0 x9_1).f3) ((rd_T31 l0 x9_1).f4)).bind fun bt480 => (if x8_1.length < 1954687338268 then (satchelref08_Drop.l0 k1 l0 a1 (x8_1 ++ [(⟨bt480.1, bt480.2.1, bt480.2.2.1, bt480.2.2.2.1, bt480.2.2.2.2⟩ : S31)]) (wrap64 (x9_1 + 1))) else (none)))) = some (r1, r2) := H
        have A12 := Aside0.mk A120
        clear A120
        by_cases c13 : t478 = true
        ·subst c13
         have H1 : (satchelref08_Drop.l0 k1 l0 a1 x8_1 (wrap64 (x9_1 + 1))) = some (r1, r2) := by rw [if_pos rfl] at H; exact H
         clear H
         have H := H1
         clear H1
         have H' := Aside0.mk H
         clear H
         have p476 : 0 ≤ (x9_1 : Int) := of_decide_eq_true (by first | (with_reducible assumption) | assumption)
         have q476 : x9_1 < (l0.length : Int) := of_decide_eq_true (by first | (with_reducible assumption) | assumption)
         obtain ⟨ad476, A476_3, c476_3, e476, hx476_0, hx476_1, hx476_2, hx476_3, hx476_4, hl476_3, hi476_3⟩ := at_T31 HR0.out x9_1 p476 q476
         cases e476
         replace hx476_0 := (HB.out.cell (World.block_lt_of_cell? w _ hx476_0)).trans hx476_0
         replace hx476_1 := (HB.out.cell (World.block_lt_of_cell? w _ hx476_1)).trans hx476_1
         replace hx476_2 := (HB.out.cell (World.block_lt_of_cell? w _ hx476_2)).trans hx476_2
         replace hx476_3 := (HB.out.cell (World.block_lt_of_cell? w _ hx476_3)).trans hx476_3
         replace hx476_4 := (HB.out.cell (World.block_lt_of_cell? w _ hx476_4)).trans hx476_4
         have HR476_3 := Aside0.mk hi476_3
         have HC476_3 := Aside0.mk hl476_3
         clear hi476_3 hl476_3
         replace p476 := eq_true p476
         replace q476 := eq_true q476
         have p477 : 0 ≤ (x9_1 : Int) := of_decide_eq_true (by first | (with_reducible assumption) | assumption)
         have q477 : x9_1 < (l0.length : Int) := of_decide_eq_true (by first | (with_reducible assumption) | assumption)
         obtain ⟨ad477, A477_3, c477_3, e477, hx477_0, hx477_1, hx477_2, hx477_3, hx477_4, hl477_3, hi477_3⟩ := at_T31 HR0.out x9_1 p477 q477
         obtain rfl : ad476 = ad477 := (by injection e477)
         replace hx477_0 := (HB.out.cell (World.block_lt_of_cell? w _ hx477_0)).trans hx477_0
         replace hx477_1 := (HB.out.cell (World.block_lt_of_cell? w _ hx477_1)).trans hx477_1
         replace hx477_2 := (HB.out.cell (World.block_lt_of_cell? w _ hx477_2)).trans hx477_2
         replace hx477_3 := (HB.out.cell (World.block_lt_of_cell? w _ hx477_3)).trans hx477_3
         replace hx477_4 := (HB.out.cell (World.block_lt_of_cell? w _ hx477_4)).trans hx477_4
         have HR477_3 := Aside0.mk hi477_3
         have HC477_3 := Aside0.mk hl477_3
         clear hi477_3 hl477_3
         replace p477 := eq_true p477
         replace q477 := eq_true q477
         have ea_ := Option.some.inj (hx476_3.symm.trans hx477_3)
         injection ea_ with ea_ en_ ec_
         subst ea_
         subst ec_
         clear en_
         go_wp2_with (first | (go_at_call 59; (with_reducible refine (satchelref07_Under.calls k1 ((rd_T31 l0 x9_1).f0) a1 true _ A12.out).mono ?_); rintro e w14 ⟨rfl, hb⟩; have n0_ := Aside0.mk (Kd.S_below (by (with_reducible repeat (first | apply Kd.S_alloc | apply Kd.S_drewN | apply Kd.S_drew)); exact HO_8.out) hb); have n1_ := Aside0.mk (below_step (by repeat (first | (with_reducible first | exact HB.out | apply below_alloc | apply pw_below_drewN | apply below_drew1) | exact HB.out)) hb); clear HO_8; clear HB; have HO_8 := n0_; have HB := n1_; clear n0_ n1_; (try clear hb); (try clear hb2); (try clear hk); (try clear hi)))
         go_roundg k1
         case measure => have := HK1.out; omega
         case rel => exact ⟨(x8_1), (wrap64 (x9_1 + 1)), (by first | rfl | (simp; done) | (simp [*]; done)), H', ⟨by have := HK1.out; omega⟩, ⟨by (with_reducible repeat (first | apply Kd.S_alloc | apply Kd.S_drewN | apply Kd.S_drew)); exact HO_8.out⟩, ⟨by repeat (first | (with_reducible first | exact HB.out | apply below_alloc | apply pw_below_drewN | apply below_drew1) | exact HB.out)⟩⟩
        ·replace c13 := Bool.eq_false_iff.mpr c13
         subst c13
         have H1 : ((satchelref08_Own.f ((rd_T31 l0 x9_1).f0) ((rd_T31 l0 x9_1).f1) ((rd_T31 l0 x9_1).f2) ((rd_T31 l0 x9_1).f3) ((rd_T31 l0 x9_1).f4)).bind fun bt480 => (if x8_1.length < 1954687338268 then (satchelref08_Drop.l0 k1 l0 a1 (x8_1 ++ [(⟨bt480.1, bt480.2.1, bt480.2.2.1, bt480.2.2.2.1, bt480.2.2.2.2⟩ : S31)]) (wrap64 (x9_1 + 1))) else (none))) = some (r1, r2) := by rw [if_neg (show ¬ (false = true) by decide)] at H; exact H
         clear H
         have H := H1
         clear H1
         replace H := Option.bind_eq_some_iff.mp H
         obtain ⟨⟨t480, t481, t482, t483, t486⟩, A150, H⟩ := H
         replace H : (if x8_1.length < 1954687338268 then (satchelref08_Drop.l0 k1 l0 a1 (x8_1 ++ [(⟨t480, t481, t482, t483, t486⟩ : S31)]) (wrap64 (x9_1 + 1))) else (none)) = some (r1, r2) := H
         have A15 := Aside0.mk A150
         clear A150
         by_cases c16 : x8_1.length < 1954687338268
         ·rw [if_pos c16] at H
          have LMc16 := Aside0.mk c16
          clear c16
          obtain ⟨y487, hy487⟩ : ∃ y_ : List (S31), y_ = (x8_1 ++ [(⟨t480, t481, t482, t483, t486⟩ : S31)]) := ⟨_, rfl⟩
          replace H : (satchelref08_Drop.l0 k1 l0 a1 y487 (wrap64 (x9_1 + 1))) = some (r1, r2) := by first | (rw [hy487]; with_reducible exact H) | (have H2_ := (Option.bind_some _ _).symm.trans H; rw [hy487]; with_reducible exact H2_) | (have H2_ := (Option.bind_some _ _).symm.trans H; with_reducible exact H2_) | with_reducible exact H | (rw [hy487]; exact H) | exact H
          have Ny487 := Aside0.mk hy487
          clear hy487
          have H' := Aside0.mk H
          clear H
          have p476 : 0 ≤ (x9_1 : Int) := of_decide_eq_true (by first | (with_reducible assumption) | assumption)
          have q476 : x9_1 < (l0.length : Int) := of_decide_eq_true (by first | (with_reducible assumption) | assumption)
          obtain ⟨ad476, A476_3, c476_3, e476, hx476_0, hx476_1, hx476_2, hx476_3, hx476_4, hl476_3, hi476_3⟩ := at_T31 HR0.out x9_1 p476 q476
          cases e476
          replace hx476_0 := (HB.out.cell (World.block_lt_of_cell? w _ hx476_0)).trans hx476_0
          replace hx476_1 := (HB.out.cell (World.block_lt_of_cell? w _ hx476_1)).trans hx476_1
          replace hx476_2 := (HB.out.cell (World.block_lt_of_cell? w _ hx476_2)).trans hx476_2
          replace hx476_3 := (HB.out.cell (World.block_lt_of_cell? w _ hx476_3)).trans hx476_3
          replace hx476_4 := (HB.out.cell (World.block_lt_of_cell? w _ hx476_4)).trans hx476_4
          have HR476_3 := Aside0.mk hi476_3
          have HC476_3 := Aside0.mk hl476_3
          clear hi476_3 hl476_3
          replace p476 := eq_true p476
          replace q476 := eq_true q476
          have p477 : 0 ≤ (x9_1 : Int) := of_decide_eq_true (by first | (with_reducible assumption) | assumption)
          have q477 : x9_1 < (l0.length : Int) := of_decide_eq_true (by first | (with_reducible assumption) | assumption)
          obtain ⟨ad477, A477_3, c477_3, e477, hx477_0, hx477_1, hx477_2, hx477_3, hx477_4, hl477_3, hi477_3⟩ := at_T31 HR0.out x9_1 p477 q477
          obtain rfl : ad476 = ad477 := (by injection e477)
          replace hx477_0 := (HB.out.cell (World.block_lt_of_cell? w _ hx477_0)).trans hx477_0
          replace hx477_1 := (HB.out.cell (World.block_lt_of_cell? w _ hx477_1)).trans hx477_1
          replace hx477_2 := (HB.out.cell (World.block_lt_of_cell? w _ hx477_2)).trans hx477_2
          replace hx477_3 := (HB.out.cell (World.block_lt_of_cell? w _ hx477_3)).trans hx477_3
          replace hx477_4 := (HB.out.cell (World.block_lt_of_cell? w _ hx477_4)).trans hx477_4
          have HR477_3 := Aside0.mk hi477_3
          have HC477_3 := Aside0.mk hl477_3
          clear hi477_3 hl477_3
          replace p477 := eq_true p477
          replace q477 := eq_true q477
          have ea_ := Option.some.inj (hx476_3.symm.trans hx477_3)
          injection ea_ with ea_ en_ ec_
          subst ea_
          subst ec_
          clear en_
          go_wp2_with (first | (go_at_call 59; (with_reducible refine (satchelref07_Under.calls k1 ((rd_T31 l0 x9_1).f0) a1 false _ A12.out).mono ?_); rintro e w17 ⟨rfl, hb⟩; have n0_ := Aside0.mk (Kd.S_below (by (with_reducible repeat (first | apply Kd.S_alloc | apply Kd.S_drewN | apply Kd.S_drew)); exact HO_8.out) hb); have n1_ := Aside0.mk (below_step (by repeat (first | (with_reducible first | exact HB.out | apply below_alloc | apply pw_below_drewN | apply below_drew1) | exact HB.out)) hb); clear HO_8; clear HB; have HO_8 := n0_; have HB := n1_; clear n0_ n1_; (try clear hb); (try clear hb2); (try clear hk); (try clear hi); have p479 : 0 ≤ (x9_1 : Int) := of_decide_eq_true (by first | (with_reducible assumption) | assumption); have q479 : x9_1 < (l0.length : Int) := of_decide_eq_true (by first | (with_reducible assumption) | assumption); obtain ⟨ad479, A479_3, c479_3, e479, hx479_0, hx479_1, hx479_2, hx479_3, hx479_4, hl479_3, hi479_3⟩ := at_T31 HR0.out x9_1 p479 q479; obtain rfl : ad476 = ad479 := (by injection e479); replace hx479_0 := (HB.out.cell (World.block_lt_of_cell? w _ hx479_0)).trans hx479_0; replace hx479_1 := (HB.out.cell (World.block_lt_of_cell? w _ hx479_1)).trans hx479_1; replace hx479_2 := (HB.out.cell (World.block_lt_of_cell? w _ hx479_2)).trans hx479_2; replace hx479_3 := (HB.out.cell (World.block_lt_of_cell? w _ hx479_3)).trans hx479_3; replace hx479_4 := (HB.out.cell (World.block_lt_of_cell? w _ hx479_4)).trans hx479_4; have HR479_3 := Aside0.mk hi479_3; have HC479_3 := Aside0.mk hl479_3; clear hi479_3 hl479_3; replace p479 := eq_true p479; replace q479 := eq_true q479) | ((with_reducible refine gate_callee (f := 52) rfl ?_); refine goesL_ (some 50) rfl rfl Try.func52 (by kernel_rfl) rfl #[.agg #[.string ((rd_T31 l0 x9_1).f0), .int .i64 ((rd_T31 l0 x9_1).f1), .int .i64 ((rd_T31 l0 x9_1).f2), .slice A479_3 ((rd_T31 l0 x9_1).f3).length c479_3, .string ((rd_T31 l0 x9_1).f4)]] rfl (by (try simp only [List.map_toArray, List.map_cons, List.map_nil]); first | done | rfl | (simp only [List.length_drop, List.length_take]; rfl)) ?_; (with_reducible refine (satchelref08_Own.calls ((rd_T31 l0 x9_1).f0) ((rd_T31 l0 x9_1).f1) ((rd_T31 l0 x9_1).f2) _ _ ((rd_T31 l0 x9_1).f3) ((rd_T31 l0 x9_1).f4) t480 t481 t482 t483 t486 _ ?side1 ?side2 A15.out).mono ?_); (case side1 => repeat (first | exact (Kd.C_below HR479_3.out HB.out) | (with_reducible refine Kd.C_alloc ?_ _) | (with_reducible refine Kd.C_drewN ?_ _) | (with_reducible refine Kd.C_drew ?_))); (case side2 => exact HC479_3.out); rintro e w18 ⟨v484, rfl, ho0, hb⟩; refine ⟨_, rfl, ?_⟩; have n0_ := Aside0.mk (Kd.S_elder' (by (with_reducible repeat (first | apply Kd.S_alloc | apply Kd.S_drewN | apply Kd.S_drew)); exact HO_8.out) (Kd.R_base ho0) hb); have n1_ := Aside0.mk (Kd.R_lower ho0 (below_size (by repeat (first | (with_reducible first | exact HB.out | apply below_alloc | apply pw_below_drewN | apply below_drew1) | exact HB.out)))); have n2_ := Aside0.mk (below_step (by repeat (first | (with_reducible first | exact HB.out | apply below_alloc | apply pw_below_drewN | apply below_drew1) | exact HB.out)) hb); clear HO_8; clear HB; have HO_8 := n0_; have HO485 := n1_; have HB := n2_; clear n0_ n1_ n2_; (try clear hb); (try clear hb2); (try clear hk); (try clear hi); (try clear ho0); obtain ⟨Ao20, co20, eo20⟩ := Kd.R_slice HO485.out; subst eo20) | ((with_reducible refine gate_builtin (b := .append) (xs := #[.tmp 45, .tmp 51]) rfl ?_); at_builtin; refine Kd.S_append k31 (w0 := w) w.heap.size rfl (.tmp 45) (.tmp 51) 22 31 (.agg #[(.string ⟨#[]⟩), (.int .i64 0), (.int .i64 0), (.slice none 0 0), (.string ⟨#[]⟩)]) 72 rfl Try.underlying22 info31 rfl (by decide) (by omega) u8 x8_1 (⟨t480, t481, t482, t483, t486⟩ : S31) [.string t480, .int .i64 t481, .int .i64 t482, .slice Ao20 t483.length co20, .string t486] (fun _ => True) (fun k_ => some k_ = (.slice Ao20 t483.length co20 : Value).ownBlock) rfl rfl ?aP (fun k_ hk_ => ((Kd.R_mono (ok' := fun k_ => ((fun _ => True)) k_ ∧ some k_ ≠ (u8 : Value).ownBlock) (Kd.R_apart' (HO485.out) (Kd.S_typed HO_8.out) (by decide)) (fun k_ hk => ⟨trivial, hk.2⟩))).1 k_ hk_.symm) ?aF ?aO ?aB ?aS ?aL ?_; (case aP => exact k31_mkM _ _ _ (⟨t480, t481, t482, t483, t486⟩ : S31) (Kd.R_mono (Kd.R_tight rfl (Kd.R_mono (ok' := fun k_ => ((fun _ => True)) k_ ∧ some k_ ≠ (u8 : Value).ownBlock) (Kd.R_apart' (HO485.out) (Kd.S_typed HO_8.out) (by decide)) (fun k_ hk => ⟨trivial, hk.2⟩))) (fun _ h_ => h_))); (case aB => exact (by repeat (first | (with_reducible first | exact HB.out | apply below_alloc | apply pw_below_drewN | apply below_drew1) | exact HB.out))); (case aF => exact (fun _ _ => trivial)); (case aO => exact (by (with_reducible repeat (first | apply Kd.S_alloc | apply Kd.S_drewN | apply Kd.S_drew)); exact Kd.S_mono HO_8.out (fun k_ hk => ⟨trivial, fun e_ => hk.2 e_⟩))); (case aS => exact (below_size (by repeat (first | (with_reducible first | exact HB.out | apply below_alloc | apply pw_below_drewN | apply below_drew1) | exact HB.out)))); (case aL => have := LMc16.out; omega); intro v488 w19 ho hb hg hat; rw [← Ny487.out] at ho; have n0_ := Aside0.mk (hb); have n1_ := Aside0.mk (ho); clear HB; clear HO_8; clear HO485; have HB := n0_; have HO489 := n1_; clear n0_ n1_; clear ho hb hg hat))
          go_roundg k1
          case measure => have := HK1.out; omega
          case rel => exact ⟨(y487), (wrap64 (x9_1 + 1)), (by first | rfl | (simp; done) | (simp [*]; done)), H', ⟨by have := HK1.out; omega⟩, ⟨by (with_reducible repeat (first | apply Kd.S_alloc | apply Kd.S_drewN | apply Kd.S_drew)); exact HO489.out⟩, ⟨by repeat (first | (with_reducible first | exact HB.out | apply below_alloc | apply pw_below_drewN | apply below_drew1) | exact HB.out)⟩⟩
         ·rw [if_neg c16] at H
          exact absurd H (by simp)
      ·rw [if_neg c10] at H
       exact absurd H (by simp)
     ·rw [if_neg c9] at H
      have c9b0 : decide (x9_1 < (l0.length : Int)) = false := decide_eq_false c9
      clear c9
      simp only [Option.some.injEq, Prod.mk.injEq] at H
      obtain ⟨rfl, rfl⟩ := H
      go_wp2
      go_ret2
      exact ⟨_, by first | rfl | (simp [errW_none, errW_some] <;> rfl) | (simp [*, errW_none, errW_some] <;> rfl) | (simp [bt, *]; done) | (simp_all [bt]; done), by (with_reducible repeat (first | apply Kd.S_alloc | apply Kd.S_drewN | apply Kd.S_drew)); exact HO_8.out, by repeat (first | (with_reducible first | exact HB.out | apply below_alloc | apply pw_below_drewN | apply below_drew1) | exact HB.out)⟩
 ·rw [if_neg c4] at H
  have c4b0 : (t473 == 0) = false := beq_eq_false_iff_ne.mpr c4
  have c4b1 : (t473 != 0) = true := bne_iff_ne.mpr c4
  simp only [Option.some.injEq, Prod.mk.injEq] at H
  obtain ⟨rfl, rfl⟩ := H
  go_enter Try.func33, Try.ntmps33
  go_wp2_with (first | ((with_reducible refine gate_callee (f := 19) rfl ?_); refine goesL_ (some 12) rfl rfl Try.func19 (by kernel_rfl) rfl #[.slice A0 l0.length c0] rfl (by (try simp only [List.map_toArray, List.map_cons, List.map_nil]); first | done | rfl | (simp only [List.length_drop, List.length_take]; rfl)) ?_; (with_reducible refine (satchelref08_Check.calls k _ _ l0 t473 t474 _ ?side1 ?side2 A3.out).mono ?_); (case side1 => repeat (first | exact HR0.out | (with_reducible refine Kd.C_alloc ?_ _) | (with_reducible refine Kd.C_drewN ?_ _) | (with_reducible refine Kd.C_drew ?_))); (case side2 => exact HC0.out); rintro e w21 ⟨rfl, hb⟩; refine ⟨_, rfl, ?_⟩; have n0_ := Aside0.mk (below_step (by repeat (first | (with_reducible first | exact HB.out | apply below_alloc | apply pw_below_drewN | apply below_drew1) | exact HB.out)) hb); clear HB; have HB := n0_; clear n0_; (try clear hb); (try clear hb2); (try clear hk); (try clear hi)))
  go_ret2
  exact ⟨_, by first | rfl | (simp [errW_none, errW_some] <;> rfl) | (simp [*, errW_none, errW_some] <;> rfl) | (simp [bt, *]; done) | (simp_all [bt]; done), by first | exact Kd.S_nil _ _ _ _ _ | exact Kd.N_nil _ _ _ _ _ | exact Kd.V_nil _ _ _ _ _ | exact Kd.Q_nil _ _ _ _ _ | exact Kd.R_nil _ _ _ _ _, by repeat (first | (with_reducible first | exact HB.out | apply below_alloc | apply pw_below_drewN | apply below_drew1) | exact HB.out)⟩

end Go.Proofs.Ytopkmchkfcjjmaa.X
end

/-! ## PurePuts -/
section
namespace Go.Proofs.Ytopkmchkfcjjmaa.X
open Go.RowKit Go.Proofs.YtopkmchkfcjjmaaW.PrintWords Go.Proofs.YtopkmchkfcjjmaaW.PrintLast Go.Proofs.YtopkmchkfcjjmaaW.PrintMore
set_option linter.unusedVariables false
set_option linter.unusedSimpArgs false
theorem own_self {x : S31} (h : x.f3.length < 140737488355328) : satchelref08_Own.f x.f0 x.f1 x.f2 x.f3 x.f4 = some (x.f0, x.f1, x.f2, x.f3, x.f4) := by
 unfold satchelref08_Own.f
 rw [Option.bind_some, if_pos (by simpa using h)]
 rfl
theorem Fits.take {l : List (S31)} (h : Fits l) (n : Nat) : Fits (l.take n) := fun e he => h e (List.mem_of_mem_take he)
theorem Fits.drop {l : List (S31)} (h : Fits l) (n : Nat) : Fits (l.drop n) := fun e he => h e (List.mem_of_mem_drop he)
theorem Fits.app {l m : List (S31)} (h : Fits l) (h' : Fits m) : Fits (l ++ m) := fun e he => by
 rcases List.mem_append.1 he with h1 | h1
 ·exact h e h1
 ·exact h' e h1
theorem Fits.cons {l : List (S31)} {x : S31} (hx : x.f3.length < 140737488355328) (h : Fits l) : Fits (x :: l) := fun e he => by
 rcases List.mem_cons.1 he with rfl | h1
 ·exact hx
 ·exact h e h1
theorem Fits.data {l : List (S31)} (h : Fits l) : ∀ i : Nat, i < l.length → (rd_T31 l (i : Int)).f3.length < 140737488355328 := fun i hi => h.at hi
/-! ### Put -/
theorem rput_l2 (rest : List (S31)) (hf : Fits rest) (hl : rest.length ≤ 1000000) : ∀ (m i : Nat) (out : List (S31)), i + m = rest.length → out.length + m ≤ 3000000 →
  Ev (fun k => satchelref08_Put.l2 k rest out (i : Int)) (if (treeV (out ++ rest.drop i)).1 = 0 then (out ++ rest.drop i, 0) else ([], (treeV (out ++ rest.drop i)).1))
 | 0, i, out, h, ho => by
  refine Ev.shift ?_
  simp only [satchelref08_Put.l2]
  refine Ev.ifn (by omega) ?_
  rw [List.drop_eq_nil_of_le (by omega), List.append_nil]
  refine Ev.bind (check8_ev out) ?_
  by_cases hc : (treeV out).1 = 0
  ·simp only [if_pos hc]; exact Ev.const _
  ·simp only [if_neg hc]; exact Ev.const _
 | m + 1, i, out, h, ho => by
  have hi : i < rest.length := by omega
  have ew : wrap64 ((i : Int) + 1) = ((i + 1 : Nat) : Int) := by rw [wrap_id _ (by omega)]; omega
  refine Ev.shift ?_
  simp only [satchelref08_Put.l2, ew]
  refine Ev.ifp (by omega) (Ev.ifp (by omega) ?_)
  rw [own_self (hf.at hi)]
  simp only [Option.bind_some]
  refine Ev.ifp (by omega) ?_
  have ih := rput_l2 rest hf hl m (i + 1) (out ++ [rd_T31 rest (i : Int)]) (by omega) (by simp; omega)
  rw [List.append_assoc, rd_at rest i hi, List.singleton_append, ← List.drop_eq_getElem_cons hi, ← rd_at rest i hi] at ih
  exact ih
theorem rput_l1 (l rest : List (S31)) (x : S31) (n : Nat) (hn : n ≤ l.length) (hl : l.length ≤ 1000000) (hr : rest.length ≤ 1000000) (hf : Fits l) (hfr : Fits rest) (hx : x.f3.length < 140737488355328) : ∀ (m i : Nat), i + m = n →
  Ev (fun k => satchelref08_Put.l1 k l (n : Int) rest (l.take i) (i : Int) x.f0 x.f1 x.f2 x.f3 x.f4) (if (treeV (l.take n ++ x :: rest)).1 = 0 then (l.take n ++ x :: rest, 0) else ([], (treeV (l.take n ++ x :: rest)).1))
 | 0, i, h => by
  have hi : i = n := by omega
  subst hi
  refine Ev.shift ?_
  simp only [satchelref08_Put.l1]
  refine Ev.ifn (by omega) ?_
  rw [own_self hx]
  simp only [Option.bind_some]
  refine Ev.ifp (by rw [List.length_take]; omega) ?_
  have h2 := rput_l2 rest hfr hr rest.length 0 (l.take i ++ [x]) (by omega) (by simp; omega)
  rw [List.drop_zero, List.append_assoc, List.singleton_append] at h2
  exact h2
 | m + 1, i, h => by
  have hi : i < l.length := by omega
  have ew : wrap64 ((i : Int) + 1) = ((i + 1 : Nat) : Int) := by rw [wrap_id _ (by omega)]; omega
  refine Ev.shift ?_
  simp only [satchelref08_Put.l1, ew]
  refine Ev.ifp (by omega) (Ev.ifp (by omega) (Ev.ifp (by omega) ?_))
  rw [own_self (hf.at hi)]
  simp only [Option.bind_some]
  refine Ev.ifp (by rw [List.length_take]; omega) ?_
  have ih := rput_l1 l rest x n hn hl hr hf hfr hx m (i + 1) (by omega)
  rw [List.take_succ_eq_append_getElem hi, ← rd_at l i hi] at ih
  exact ih
/-- What stands behind the place: the entry of the path itself is left out. -/
def restV (l : List (S31)) (s : ByteArray) : List (S31) := match l with
 | [] => []
 | y :: t => if y.f0 = s then t else y :: t
theorem rput_j1 (l : List (S31)) (x : S31) (n : Nat) (hn : n ≤ l.length) (hl : l.length ≤ 1000000) (hf : Fits l) (hx : x.f3.length < 140737488355328) :
  Ev (fun k => satchelref08_Put.j1 k l (n : Int) x.f0 x.f1 x.f2 x.f3 x.f4) (if (treeV (l.take n ++ x :: restV (l.drop n) x.f0)).1 = 0 then (l.take n ++ x :: restV (l.drop n) x.f0, 0) else ([], (treeV (l.take n ++ x :: restV (l.drop n) x.f0)).1)) := by
 have fin : ∀ rest : List (S31), rest = restV (l.drop n) x.f0 → Ev (fun k => satchelref08_Put.j3 k l (n : Int) rest x.f0 x.f1 x.f2 x.f3 x.f4) (if (treeV (l.take n ++ x :: restV (l.drop n) x.f0)).1 = 0 then (l.take n ++ x :: restV (l.drop n) x.f0, 0) else ([], (treeV (l.take n ++ x :: restV (l.drop n) x.f0)).1)) := by
  rintro rest rfl
  refine Ev.shift ?_
  simp only [satchelref08_Put.j3]
  have hfr : Fits (restV (l.drop n) x.f0) ∧ (restV (l.drop n) x.f0).length ≤ 1000000 := by
   have h1 := hf.drop n
   have h2 : (l.drop n).length ≤ 1000000 := by rw [List.length_drop]; omega
   unfold restV
   cases hd : l.drop n with
   | nil => exact ⟨fun e he => (by cases he), by simp⟩
   | cons y t =>
    rw [hd] at h1 h2
    simp at h2
    dsimp only
    split
    ·exact ⟨fun e he => h1 e (List.mem_cons_of_mem _ he), by omega⟩
    ·exact ⟨h1, by simp; omega⟩
  exact rput_l1 l _ x n hn hl hfr.2 hf hfr.1 hx n 0 (by omega)
 refine Ev.shift ?_
 simp only [satchelref08_Put.j1, Option.bind_some, Int.toNat_natCast]
 refine Ev.ifp (by omega) (Ev.ifp (by omega) ?_)
 cases hd : l.drop n with
 | nil =>
  refine Ev.ifn (by simp) (Ev.shift ?_)
  simp only [satchelref08_Put.j2]
  rw [hd] at fin
  exact Ev.ifn (by simp) (fin [] rfl)
 | cons y t =>
  rw [hd] at fin
  refine Ev.ifp (by simp) (Ev.ifp (by simp) (Ev.shift ?_))
  simp only [satchelref08_Put.j2]
  rw [show rd_T31 (y :: t) 0 = y from rfl]
  by_cases h : y.f0 = x.f0
  ·refine Ev.ifp (by rw [h]; simp) (Ev.ifp (by simp; omega) ?_)
   exact fin t (by unfold restV; exact (if_pos h).symm)
  ·refine Ev.ifn (by simpa using fun e => h (bytes_ext e)) ?_
   exact fin (y :: t) (by unfold restV; exact (if_neg h).symm)
theorem rput_l0 (l : List (S31)) (x : S31) (n : Nat) (hn : n ≤ l.length) (hl : l.length ≤ 1000000) (hf : Fits l) (hx : x.f3.length < 140737488355328)
  (h1 : ∀ a : Nat, a < n → cmpV (rd_T31 l (a : Int)).f0 x.f0 < 0) (h2 : ∀ a : Nat, n ≤ a → a < l.length → ¬ cmpV (rd_T31 l (a : Int)).f0 x.f0 < 0) : ∀ (m i : Nat), i + m = n →
  Ev (fun k => satchelref08_Put.l0 k l (i : Int) x.f0 x.f1 x.f2 x.f3 x.f4) (if (treeV (l.take n ++ x :: restV (l.drop n) x.f0)).1 = 0 then (l.take n ++ x :: restV (l.drop n) x.f0, 0) else ([], (treeV (l.take n ++ x :: restV (l.drop n) x.f0)).1))
 | 0, i, h => by
  have hi : i = n := by omega
  subst hi
  refine Ev.shift ?_
  simp only [satchelref08_Put.l0]
  by_cases hil : i < l.length
  ·refine Ev.ifp (by omega) (Ev.ifp (by omega) (Ev.bind (compare7_ev _ _) (Ev.ifn (h2 i (Nat.le_refl _) hil) ?_)))
   exact rput_j1 l x i hn hl hf hx
  ·exact Ev.ifn (by omega) (rput_j1 l x i hn hl hf hx)
 | m + 1, i, h => by
  have ew : wrap64 ((i : Int) + 1) = ((i + 1 : Nat) : Int) := by rw [wrap_id _ (by omega)]; omega
  refine Ev.shift ?_
  simp only [satchelref08_Put.l0, ew]
  exact Ev.ifp (by omega) (Ev.ifp (by omega) (Ev.bind (compare7_ev _ _) (Ev.ifp (h1 i (by omega)) (rput_l0 l x n hn hl hf hx h1 h2 m (i + 1) (by omega)))))
theorem set_split (l : List (S31)) (n : Nat) (x : S31) (h : n < l.length) : l.set n x = l.take n ++ x :: l.drop (n + 1) := by
 rw [List.set_eq_take_append_cons_drop, if_pos h]
/-- What comes of a put: the tree, or why it may not be. -/
def putV (l : List (S31)) (x : S31) : List (S31) × Int := if (treeV l).1 = 0 then (if (treeV (putAt l (placeV l x.f0) x)).1 = 0 then (putAt l (placeV l x.f0) x, 0) else ([], (treeV (putAt l (placeV l x.f0) x)).1)) else ([], (treeV l).1)
theorem put_both (l : List (S31)) (hl : l.length < 1000000) (hf : Fits l) (x : S31) (hx : x.f3.length < 140737488355328) : Ev (fun k => tree_Put.f k l x.f0 x.f1 x.f2 x.f3 x.f4) (putV l x) ∧ Ev (fun k => satchelref08_Put.f k l x.f0 x.f1 x.f2 x.f3 x.f4) (putV l x) := by
 unfold putV
 simp only [tree_Put.f, satchelref08_Put.f]
 by_cases hg : (treeV l).1 = 0
 ·rw [if_pos hg]
  have hG := good_of hg
  have hlen := hG.1
  obtain ⟨n, h0, h1, h2, h3⟩ := place_spec hG.rising x.f0
  have hout : putAt l (placeV l x.f0) x = l.take n ++ x :: restV (l.drop n) x.f0 ∧ 0 ≤ (placeV l x.f0).1 ∧ (placeV l x.f0).1 ≤ (l.length : Int) ∧ ((placeV l x.f0).2 = true → (placeV l x.f0).1 < (l.length : Int)) := by
   rcases h3 with ⟨h3, h4, h5⟩ | ⟨h3, h4⟩
   ·rw [h3]
    refine ⟨?_, by simp, by simp; omega, fun _ => by simp; omega⟩
    unfold putAt
    rw [if_pos rfl]
    show l.set n x = _
    rw [set_split l n x h4, List.drop_eq_getElem_cons h4]
    unfold restV
    dsimp only
    rw [rd_at l n h4] at h5
    rw [if_pos h5]
   ·rw [h3]
    refine ⟨?_, by simp, by simp; omega, fun h => by cases h⟩
    unfold putAt
    rw [if_neg (by simp)]
    show l.take n ++ x :: l.drop n = _
    congr 2
    unfold restV
    cases hd : l.drop n with
    | nil => rfl
    | cons y t =>
     dsimp only
     rw [if_neg]
     intro e
     have hnl : n < l.length := by
      rcases Nat.lt_or_ge n l.length with h6 | h6
      ·exact h6
      ·rw [List.drop_eq_nil_of_le h6] at hd; cases hd
     rw [List.drop_eq_getElem_cons hnl] at hd
     injection hd with hd _
     exact h4 n hnl (by rw [rd_at l n hnl, hd]; exact e)
  have hfo : Fits (putAt l (placeV l x.f0) x) := by
   rw [hout.1]
   refine (hf.take n).app (Fits.cons hx ?_)
   have h1 := hf.drop n
   unfold restV
   cases hd : l.drop n with
   | nil => exact fun e he => by cases he
   | cons y t =>
    rw [hd] at h1
    dsimp only
    split
    ·exact fun e he => h1 e (List.mem_cons_of_mem _ he)
    ·exact h1
  constructor
  ·refine Ev.ifp hl (Ev.bind (tree_ev l) (Ev.ifp hg (Ev.bind (place_ev l x.f0 (by omega)) (Ev.ifp hout.2 (Ev.bind (tree_ev _) ?_)))))
   by_cases hc : (treeV (putAt l (placeV l x.f0) x)).1 = 0
   ·rw [if_pos hc]
    have hG2 := good_of hc
    have := hG2.1
    exact Ev.ifp hc (Ev.bind (clone_ev (putAt l (placeV l x.f0) x) (by omega) hfo.data) (Ev.const _))
   ·rw [if_neg hc]
    exact Ev.ifn hc (Ev.const _)
  ·refine Ev.bind (check8_ev l) (Ev.ifp hg ?_)
   rw [hout.1]
   exact rput_l0 l x n h0 (by omega) hf hx h1 h2 n 0 (by omega)
 ·rw [if_neg hg]
  exact ⟨Ev.ifp hl (Ev.bind (tree_ev l) (Ev.ifn hg (Ev.const _))), Ev.bind (check8_ev l) (Ev.ifn hg (Ev.const _))⟩
/-! ### Drop -/
def underV (s d : ByteArray) : Bool := validV s && validV d && decide (d.size < s.size ∧ s.toList.take d.size = d.toList ∧ s.toList[d.size]? = some 47)
theorem under_ev (s d : ByteArray) : Ev (fun k => path_Under.f k s d) (underV s d) := by
 simp only [path_Under.f]
 refine Ev.bind (valid_ev s) ?_
 unfold underV
 by_cases h1 : validV s = true
 ·refine Ev.ifp h1 (Ev.bind (valid_ev d) ?_)
  by_cases h2 : validV d = true
  ·have hs := valid_size h1
   have hd := valid_size h2
   refine Ev.ifp h2 (Ev.ifp (by omega) ?_)
   rw [h1, h2]
   simp only [strings_HasPrefix.f, stringslite_HasPrefix.f]
   have hsz : (d ++ (⟨#[47]⟩ : ByteArray)).size = d.size + 1 := by rw [← toList_len, app_list, List.length_append, toList_len, toList_len]; rfl
   have hli : (d ++ (⟨#[47]⟩ : ByteArray)).toList = d.toList ++ [47] := by rw [app_list]; congr 1; rw [ByteArray.toList_eq]
   rw [hsz]
   by_cases h3 : d.size < s.size
   ·refine Ev.bind (Ev.bind (Ev.ifp (by omega) (Ev.ifp (by omega) (Ev.ifp (by omega) (Ev.const _)))) (Ev.const _)) ?_
    have he : ((s.extract 0 (((d.size + 1 : Nat) : Int)).toNat).toList == (d ++ (⟨#[47]⟩ : ByteArray)).toList) = (true && true && decide (d.size < s.size ∧ s.toList.take d.size = d.toList ∧ s.toList[d.size]? = some 47)) := by
     rw [Int.toNat_natCast, extract_list, List.drop_zero, hli, Bool.eq_iff_iff, beq_iff_eq]
     have hl : d.size < s.toList.length := by rw [toList_len]; exact h3
     rw [List.take_succ_eq_append_getElem hl, List.getElem?_eq_getElem hl]
     have hlt : (s.toList.take d.size).length = d.toList.length := by rw [List.length_take, toList_len, toList_len]; omega
     constructor
     ·intro h
      obtain ⟨h4, h5⟩ := List.append_inj h hlt
      simp only [Bool.true_and, decide_eq_true_eq]
      exact ⟨h3, h4, by injection h5 with h5 _; rw [h5]⟩
     ·intro h
      simp only [Bool.true_and, decide_eq_true_eq] at h
      rw [h.2.1, Option.some.inj h.2.2]
    rw [he]
    exact Ev.const _
   ·refine Ev.bind (Ev.bind (Ev.ifn (by omega) (Ev.const _)) (Ev.const _)) ?_
    rw [show decide (d.size < s.size ∧ s.toList.take d.size = d.toList ∧ s.toList[d.size]? = some 47) = false from decide_eq_false (fun c => h3 c.1)]
    exact Ev.const _
  ·rw [h1, show validV d = false by simpa using h2]
   exact Ev.ifn (by simp) (Ev.const _)
 ·rw [show validV s = false by simpa using h1]
  exact Ev.ifn (by simp) (Ev.const _)
theorem under7_ev (s d : ByteArray) : Ev (fun k => satchelref07_Under.f k s d) (underV s d) := by
 simp only [satchelref07_Under.f]
 refine Ev.bind (valid7_ev s) ?_
 unfold underV
 by_cases h1 : validV s = true
 ·refine Ev.ifp h1 (Ev.bind (valid7_ev d) ?_)
  by_cases h2 : validV d = true
  ·have hs := valid_size h1
   have hd := valid_size h2
   rw [h1, h2]
   refine Ev.ifp rfl ?_
   by_cases h3 : d.size < s.size
   ·have hl : d.size < s.toList.length := by rw [toList_len]; exact h3
    refine Ev.ifp (by omega) (Ev.ifp (by omega) (Ev.ifp (by omega) ?_))
    rw [Int.toNat_natCast, extract_list, List.drop_zero, bt_list s d.size hl, List.getElem?_eq_getElem hl]
    by_cases h4 : s.toList.take d.size = d.toList
    ·refine Ev.ifp h4 (Ev.ifp (by omega) ?_)
     refine (Ev.const _).to_eq ?_
     rw [Bool.eq_iff_iff, beq_iff_eq]
     simp only [Bool.true_and, decide_eq_true_eq]
     constructor
     ·intro h5
      exact ⟨h3, h4, congrArg some (UInt8.toNat_inj.1 (by show _ = 47; omega))⟩
     ·intro h5
      rw [Option.some.inj h5.2.2]; rfl
    ·rw [show decide (d.size < s.size ∧ s.toList.take d.size = d.toList ∧ some (s.toList[d.size]'hl) = some 47) = false from decide_eq_false (fun c => h4 c.2.1)]
     exact Ev.ifn h4 (Ev.const _)
   ·rw [show decide (d.size < s.size ∧ s.toList.take d.size = d.toList ∧ s.toList[d.size]? = some 47) = false from decide_eq_false (fun c => h3 c.1)]
    exact Ev.ifn (by omega) (Ev.const _)
  ·rw [h1, show validV d = false by simpa using h2]
   exact Ev.ifn (by simp) (Ev.const _)
 ·rw [show validV s = false by simpa using h1]
  exact Ev.ifn (by simp) (Ev.const _)
def goneV (s : ByteArray) (x : S31) : Bool := decide (x.f0 = s) || underV x.f0 s
theorem gone_ev (s : ByteArray) (x : S31) : Ev (fun k => goneOf k s x) (goneV s x) := by
 simp only [goneOf]
 unfold goneV
 by_cases h : x.f0 = s
 ·rw [decide_eq_true h]
  exact Ev.ifp (by rw [h]) (Ev.const _)
 ·rw [decide_eq_false h, Bool.false_or]
  exact Ev.ifn (fun e => h (bytes_ext e)) (under_ev _ _)
theorem kept_ev (s : ByteArray) (l : List (S31)) : Ev (fun k => keptOf k l s) (l.filter fun x => !goneV s x) := by
 have hall : ∃ K, ∀ k, K ≤ k → ∀ x ∈ l, goneOf k s x = some (goneV s x) := by
  induction l with
  | nil => exact ⟨0, fun _ _ x hx => by cases hx⟩
  | cons y t ih =>
   obtain ⟨K1, h1⟩ := ih
   obtain ⟨K2, h2⟩ := gone_ev s y
   refine ⟨K1 + K2, fun k hk x hx => ?_⟩
   rcases List.mem_cons.1 hx with rfl | hx
   ·exact h2 k (by omega)
   ·exact h1 k (by omega) x hx
 obtain ⟨K, hK⟩ := hall
 refine ⟨K, fun k hk => ?_⟩
 show keptOf k l s = _
 unfold keptOf
 rw [if_pos (List.all_eq_true.2 fun x hx => by rw [hK k hk x hx]; rfl)]
 congr 1
 refine List.filter_congr fun x hx => ?_
 unfold isGone
 rw [hK k hk x hx]
 rfl
theorem rdrop_l0 (l : List (S31)) (hl : l.length ≤ 1000000) (hf : Fits l) (s : ByteArray) : ∀ (m i : Nat) (out : List (S31)), i + m = l.length → out.length + m ≤ 3000000 → Ev (fun k => satchelref08_Drop.l0 k l s out (i : Int)) (out ++ (l.drop i).filter (fun x => !goneV s x), 0)
 | 0, i, out, h, ho => by
  refine Ev.shift ?_
  simp only [satchelref08_Drop.l0]
  rw [List.drop_eq_nil_of_le (by omega)]
  show Ev _ (out ++ [], 0)
  rw [List.append_nil]
  exact Ev.ifn (by omega) (Ev.const _)
 | m + 1, i, out, h, ho => by
  have hi : i < l.length := by omega
  have ew : wrap64 ((i : Int) + 1) = ((i + 1 : Nat) : Int) := by rw [wrap_id _ (by omega)]; omega
  refine Ev.shift ?_
  simp only [satchelref08_Drop.l0, ew]
  refine Ev.ifp (by omega) (Ev.ifp (by omega) ?_)
  rw [List.drop_eq_getElem_cons hi, List.filter_cons, ← rd_at l i hi]
  by_cases h1 : (rd_T31 l (i : Int)).f0 = s
  ·have hg : goneV s (rd_T31 l (i : Int)) = true := by unfold goneV; rw [decide_eq_true h1, Bool.true_or]
   rw [hg]
   exact Ev.ifp (by rw [h1]) (rdrop_l0 l hl hf s m (i + 1) out (by omega) (by omega))
  ·have hg : goneV s (rd_T31 l (i : Int)) = underV (rd_T31 l (i : Int)).f0 s := by unfold goneV; rw [decide_eq_false h1, Bool.false_or]
   refine Ev.ifn (fun e => h1 (bytes_ext e)) (Ev.bind (under7_ev _ _) ?_)
   rw [← hg]
   by_cases h2 : goneV s (rd_T31 l (i : Int)) = true
   ·rw [h2]
    exact Ev.ifp rfl (rdrop_l0 l hl hf s m (i + 1) out (by omega) (by omega))
   ·rw [show goneV s (rd_T31 l (i : Int)) = false by simpa using h2]
    refine Ev.ifn (by simp) ?_
    rw [own_self (hf.at hi)]
    simp only [Option.bind_some]
    refine Ev.ifp (by omega) ?_
    have ih := rdrop_l0 l hl hf s m (i + 1) (out ++ [rd_T31 l (i : Int)]) (by omega) (by simp; omega)
    rw [List.append_assoc, List.singleton_append] at ih
    exact ih
/-- What comes of a drop. -/
def dropV (l : List (S31)) (s : ByteArray) : List (S31) × Int := if (treeV l).1 = 0 then (if hasP l s = true then (l.filter fun x => !goneV s x, 0) else ([], 6)) else ([], (treeV l).1)
theorem drop_ev (l : List (S31)) (hl : l.length < 1000000) (hf : Fits l) (s : ByteArray) : Ev (fun k => tree_Drop.f k l s) (dropV l s) := by
 unfold dropV
 simp only [tree_Drop.f]
 by_cases hg : (treeV l).1 = 0
 ·rw [if_pos hg]
  have hG := good_of hg
  have hlen := hG.1
  obtain ⟨n, h0, h1, h2, h3⟩ := place_spec hG.rising s
  refine Ev.bind (tree_ev l) (Ev.ifp hg (Ev.bind (place_ev l s (by omega)) ?_))
  rcases h3 with ⟨h3, h4, h5⟩ | ⟨h3, h4⟩
  ·rw [h3, hasP_at h4 h5, if_pos rfl]
   refine Ev.ifp rfl ?_
   rw [show api_Entry_55.f l = some l from by unfold api_Entry_55.f; rw [if_pos (by omega)]]
   simp only [Option.bind_some]
   have hff : Fits (l.filter fun x => !goneV s x) := fun e he => hf e (List.mem_filter.1 he).1
   have hlf := List.length_filter_le (fun x => !goneV s x) l
   exact Ev.bind (kept_ev s l) (Ev.bind (clone_ev _ (by omega) hff.data) (Ev.const _))
  ·rw [h3, hasP_of l s h4, if_neg (by simp)]
   exact Ev.ifn (by simp) (Ev.const _)
 ·rw [if_neg hg]
  exact Ev.bind (tree_ev l) (Ev.ifn hg (Ev.const _))
theorem rdrop_ev (l : List (S31)) (hl : l.length < 1000000) (hf : Fits l) (s : ByteArray) : Ev (fun k => satchelref08_Drop.f k l s) (dropV l s) := by
 unfold dropV
 simp only [satchelref08_Drop.f]
 by_cases hg : (treeV l).1 = 0
 ·rw [if_pos hg]
  obtain ⟨r, hr, h2⟩ := at_ev l (by omega) s
  refine Ev.bind (check8_ev l) (Ev.ifp hg (Ev.bind hr ?_))
  rcases h2 with ⟨rfl, h3⟩ | ⟨q, rfl, h3, h4⟩
  ·rw [hasP_of l s h3, if_neg (by simp)]
   exact Ev.ifp (by omega) (Ev.const _)
  ·rw [hasP_at h3 h4, if_pos rfl]
   have := rdrop_l0 l (by omega) hf s l.length 0 [] (by omega) (by simp; omega)
   exact Ev.ifn (by omega) this
 ·rw [if_neg hg]
  exact Ev.bind (check8_ev l) (Ev.ifn hg (Ev.const _))
end Go.Proofs.Ytopkmchkfcjjmaa.X
end

/-! ## Over -/
section
namespace Go.Proofs.Ytopkmchkfcjjmaa.X
open Go.RowKit Go.Proofs.YtopkmchkfcjjmaaW.PrintWords Go.Proofs.YtopkmchkfcjjmaaW.PrintLast Go.Proofs.YtopkmchkfcjjmaaW.PrintMore
set_option linter.unusedVariables false
set_option linter.unusedSimpArgs false
/-- A row of bytes of one's own, from block base on; its room holds bytes, too. -/
def Bytes8 (w : World) (base : Nat) (v : Value) : Prop :=
 v = .slice none 0 0 ∨ ∃ (g n cap : Nat) (cur : Array Value), v = .slice (some ⟨g, 0, none⟩) n cap ∧ base ≤ g ∧ w.heap[g]? = some (.cells cur 5 (0, 0)) ∧ cur.size = cap ∧ n ≤ cap ∧ cap ≤ maxLen ∧ ∀ i : Nat, i < cap → ∃ z : Int, cur[i]? = some (.int .u8 z)
theorem Bytes8.of_R {w : World} {base : Nat} {ok : Nat → Prop} {v : Value} {xs : List Int} (h : Kd.R (Kd.int .u8) 5 w base ok v xs) (hf : Full8 w v) : Bytes8 w base v := by
 obtain ⟨_, inner, ho, _⟩ := h
 rcases ho.2 with ⟨h1, _⟩ | ⟨g, cap, cur, hv, hg, hh, hn, hc, hs, _⟩
 ·exact .inl h1
 ·subst hv
  obtain ⟨cur', h1, h2⟩ := hf g rfl
  rw [hh] at h1
  injection h1 with h1
  injection h1 with h1 _ _
  subst h1
  rw [show cap * (Kd.int .u8).sz = cap from Nat.mul_one _] at hs
  refine .inr ⟨g, _, cap, cur, rfl, hg, hh, hs, hn, hc, fun i hi => ?_⟩
  have hi' : i < cur.size := by omega
  obtain ⟨z, hz⟩ := h2 cur[i] (by rw [← Array.getElem_toList]; exact List.getElem_mem _)
  exact ⟨z, by rw [Array.getElem?_eq_getElem hi', hz]⟩
theorem Bytes8.step {w w1 : World} {base : Nat} {v : Value} (h : Bytes8 w base v) (hm : ∀ k, v.ownBlock = some k → k < w.heap.size → w1.heap[k]? = w.heap[k]?) : Bytes8 w1 base v := by
 rcases h with h | ⟨g, n, cap, cur, rfl, h1, h2, h3⟩
 ·exact .inl h
 ·exact .inr ⟨g, n, cap, cur, rfl, h1, (hm g rfl (blk_lt h2)).trans h2, h3⟩
theorem Bytes8.below {w w1 : World} {base : Nat} {v : Value} (h : Bytes8 w base v) (hb : Below w.heap.size w w1) : Bytes8 w1 base v := h.step fun k _ hk => hb.block k hk
theorem Bytes8.base {w : World} {base : Nat} {v : Value} (h : Bytes8 w base v) : ∀ k, v.ownBlock = some k → base ≤ k := by
 rcases h with rfl | ⟨g, n, cap, cur, rfl, h1, _⟩
 ·intro k hk; simp [Value.ownBlock] at hk
 ·intro k hk
  obtain rfl := Option.some.inj hk
  exact h1
/-- What has turned is a row's own block, at most. -/
structure OnlyRow (w w' : World) (row : Option Nat) : Prop where
 os : w'.os = w.os
 tape : w'.tape = w.tape
 output : w'.output = w.output
 size : w'.heap.size = w.heap.size
 block : ∀ k, some k ≠ row → w'.heap[k]? = w.heap[k]?
theorem OnlyRow.refl (w : World) (row : Option Nat) : OnlyRow w w row := ⟨rfl, rfl, rfl, rfl, fun _ _ => rfl⟩
theorem OnlyRow.set {w w1 : World} {row : Option Nat} (h : OnlyRow w w1 row) {p : Addr} (hp : row = some p.block) (u : Value) : OnlyRow w (w1.setCell p u) row :=
 ⟨h.os, h.tape, h.output, by simp [World.setCell, h.size], fun k hk => (Below.heap_setCell w1 p u k (fun e => hk (by rw [hp, e]))).trans (h.block k hk)⟩
theorem OnlyRow.below {w w1 : World} {row : Option Nat} (h : OnlyRow w w1 row) {base : Nat} (hr : ∀ k, row = some k → base ≤ k) : Below base w w1 :=
 ⟨h.os, h.tape, h.output, Nat.le_of_eq h.size.symm, fun k hk => h.block k (fun e => by have := hr k e.symm; omega)⟩
set_option maxHeartbeats 8000000 in
set_option maxRecDepth 100000 in
theorem satchelkit_OverBytes.calls (base : Nat) (v : Value) (w : World) (h : Bytes8 w base v) :
  Calls Try.prog 24 #[v] w fun e w' => e = .returned (.tuple #[]) ∧ OnlyRow w w' v.ownBlock ∧ Bytes8 w' base v := by
 obtain ⟨i0, hi, hz0, hz1, hz2⟩ := info_parts info5
 rcases h with rfl | ⟨g, n, cap, cur, rfl, hg, hh, hs, hn, hc, hall⟩
 ·have hcap : ∀ W : World, (Builtin.cap_ #[29] 3 #[.slice none 0 0]).run Try.prog W = .ok (.int .i64 0) W := fun W => by kernel_rfl
  have hcut : ∀ W : World, (Instr.slice 29 (.slice none 0 0) none (some (.int .i64 0)) none).run Try.prog W = .ok (.slice none 0 0) W := fun W => cut_to (P := Try.prog) 29 5 .i64 Try.underlying29 hi none 0 0 0 (by omega) (by omega) (by omega) W
  clear hi hz0 hz1 hz2
  go_enter Try.func24, Try.ntmps24
  go_wp2
  go_loop [3] (fun i => i = .int .i64 0) (fun _ => 0)
  case atStart => rfl
  case round =>
   subst hrel
   go_wp2
   go_end0
   exact ⟨rfl, OnlyRow.refl _ _, .inl rfl⟩
 ·have hcut : ∀ W : World, (Instr.slice 29 (.slice (some ⟨g, 0, none⟩) n cap) none (some (.int .i64 cap)) none).run Try.prog W = .ok (.slice (some ⟨g, 0, none⟩) cap cap) W := by
   intro W
   have hel : Try.prog.elem 29 = 5 := by simp [Program.elem, Try.underlying29]
   have hu : Try.prog.underlying 29 = some (.slice (Try.prog.elem 29)) := by rw [hel]; exact Try.underlying29
   rw [run_slice_h W 29 (some ⟨g, 0, none⟩) n cap hu .i64 cap (by omega) (by omega), hel]
   simp [sizeOf, typeInfo, hi, sliced, Result.andThen, Addr.add]
  clear hi hz0 hz1 hz2
  have HH := Aside0.mk hh
  have HS := Aside0.mk hs
  have HALL := Aside0.mk hall
  unfold maxLen at hc
  clear hh hs hall
  go_enter Try.func24, Try.ntmps24
  go_wp2
  go_loopw [3] (fun v3 wr => ∃ (i : Nat) (cu : Array Value), v3 = .int .i64 (i : Int) ∧ i ≤ cap ∧ Aside0 (wr.heap[g]? = some (.cells cu 5 (0, 0))) ∧ Aside0 (cu.size = cap) ∧ Aside0 (∀ i : Nat, i < cap → ∃ z : Int, cu[i]? = some (.int .u8 z)) ∧ Aside0 (OnlyRow w wr (some g))) (fun v3 _ => cap - (intOf v3).toNat)
  case atStart => exact ⟨0, cur, rfl, by omega, HH, HS, HALL, ⟨OnlyRow.refl _ _⟩⟩
  case round =>
   clear HH HS HALL
   obtain ⟨i, cu, rfl, hil, HH, HS, HALL, HO⟩ := hrel
   by_cases c1 : i < cap
   ·have d1 : decide (i < cap) = true := decide_eq_true c1
    obtain ⟨z, hz⟩ := HALL.out i c1
    have hcell : wr.cell? ⟨g, i, none⟩ = some (.int .u8 z) := (blk_cell HH.out i).trans hz
    have hfz : wr.frozen? ⟨g, i, none⟩ = false := blk_frozen HH.out i
    have HZ := Aside0.mk hz
    clear hz
    go_wp2
    go_roundw
    case rel =>
     refine ⟨i + 1, cu.setIfInBounds i _, by congr 1, by omega, ⟨blk_set HH.out i _⟩, ⟨by rw [Array.size_setIfInBounds]; exact HS.out⟩, ⟨fun j hj => ?_⟩, ⟨HO.out.set rfl _⟩⟩
     by_cases e : i = j
     ·subst e
      exact ⟨_, by rw [Array.getElem?_setIfInBounds_self_of_lt (by rw [HS.out]; exact hj)]⟩
     ·rw [Array.getElem?_setIfInBounds_ne e]
      exact HALL.out j hj
    case measure => simp [intOf]; omega
   ·have d1 : decide (i < cap) = false := decide_eq_false c1
    go_wp2
    go_end0
    exact ⟨rfl, HO.out, .inr ⟨g, n, cap, cu, rfl, hg, HH.out, HS.out, hn, by unfold maxLen; exact hc, HALL.out⟩⟩
/-- What is left of a tree that is written over: from entry i on its bytes are rows of one's own, apart from each other and from the tree's row. -/
structure LeftOver (w : World) (base g cap n : Nat) (f : Nat → Nat) (i : Nat) : Prop where
 row : ∃ cu : Array Value, w.heap[g]? = some (.cells cu 31 (0, 0)) ∧ cu.size = cap * 5
 data : ∀ j : Nat, i ≤ j → j < n → ∃ vj : Value, w.cell? ⟨g, j * 5 + 3, none⟩ = some vj ∧ Bytes8 w base vj ∧ ∀ k, vj.ownBlock = some k → k ≠ g ∧ f k = j
theorem LeftOver.of_S {w : World} {base top : Nat} {ok : Nat → Prop} {g n cap : Nat} {l : List (S31)} (h : Kd.S k31 31 w base ok (.slice (some ⟨g, 0, none⟩) n cap) l) (hF : FullRow w (.slice (some ⟨g, 0, none⟩) n cap) l) (htop : ∀ k, ok k → k < top) : ∃ f, n = l.length ∧ n ≤ cap ∧ cap ≤ maxLen ∧ base ≤ g ∧ LeftOver w base g cap n f 0 ∧ g < top ∧ ∀ k, top ≤ k → f k = n := by
 obtain ⟨f, h0, inner, ho, hr⟩ := h
 have hlz : l.zipIdx.length = l.length := List.length_zipIdx
 rw [hlz] at ho
 rcases ho.2 with ⟨h1, _⟩ | ⟨g', cap', cur, hv, hg, hh, hn, hc, hs, htk⟩
 ·cases h1
 ·injection hv with ha hn' hc'
  injection ha with ha
  injection ha with ha _ _
  subst ha hn' hc'
  refine ⟨fun k => if k < top then f k else l.length, rfl, hn, hc, hg, ⟨⟨cur, hh, hs⟩, fun j _ hj => ?_⟩, htop _ (h0 g rfl), fun k hk => if_neg (by omega)⟩
  have hjz : l.zipIdx[j]? = some (l[j], j) := by rw [List.getElem?_zipIdx, Nat.zero_add, List.getElem?_eq_getElem hj]; rfl
  have hM := hr.2 j (l[j], j) hjz
  obtain ⟨v3, hcs, hR⟩ := k31_openM (show k31.M w base (fun k => (ok k ∧ some k ≠ (Value.slice (some ⟨g, 0, none⟩) l.length cap).ownBlock) ∧ f k = j) l[j] ((inner.drop (j * 5)).take 5) from hM)
  have hcell : w.cell? ⟨g, j * 5 + 3, none⟩ = some v3 := by
   rw [blk_cell hh]
   have e1 : ((inner.drop (j * 5)).take 5)[3]? = some v3 := by rw [hcs]; rfl
   rw [List.getElem?_take_of_lt (by omega), List.getElem?_drop, ← htk, List.getElem?_take_of_lt (by have : l.length * 5 = l.length * (Kd.tag f k31).sz := rfl; omega), Array.getElem?_toList] at e1
   exact e1
  obtain ⟨vj, hc2, hf2⟩ := hF ⟨g, 0, none⟩ l.length cap rfl j hj
  rw [Nat.zero_add, hcell] at hc2
  obtain rfl := Option.some.inj hc2
  refine ⟨v3, hcell, Bytes8.of_R hR hf2, fun k hk => ?_⟩
  have := hR.1 k hk
  exact ⟨fun e => this.1.2 (by rw [e]; rfl), by show (if k < top then f k else l.length) = j; rw [if_pos (htop _ this.1.1)]; exact this.2⟩
theorem LeftOver.over {w w1 : World} {base g cap n i : Nat} {f : Nat → Nat} (h : LeftOver w base g cap n f i) {vi : Value} (hvi : ∀ k, vi.ownBlock = some k → k ≠ g ∧ f k = i) (ho : OnlyRow w w1 vi.ownBlock) : LeftOver w1 base g cap n f (i + 1) := by
 have hg : w1.heap[g]? = w.heap[g]? := ho.block g (fun e => (hvi g e.symm).1 rfl)
 refine ⟨by rw [hg]; exact h.row, fun j h1 h2 => ?_⟩
 obtain ⟨vj, h3, h4, h5⟩ := h.data j (by omega) h2
 refine ⟨vj, (World.cell?_of_block (w := w) (a := ⟨g, j * 5 + 3, none⟩) hg).trans h3, h4.step (fun k hk _ => ho.block k (fun e => ?_)), h5⟩
 have a1 := (h5 k hk).2
 have a2 := (hvi k e.symm).2
 omega
theorem LeftOver.set {w : World} {base g cap n i q : Nat} {f : Nat → Nat} (h : LeftOver w base g cap n f (i + 1)) (hq : q < 5) (u : Value) : LeftOver (w.setCell ⟨g, i * 5 + q, none⟩ u) base g cap n f (i + 1) := by
 obtain ⟨cu, h1, h2⟩ := h.row
 refine ⟨⟨_, blk_set h1 _ u, by rw [Array.size_setIfInBounds]; exact h2⟩, fun j h3 h4 => ?_⟩
 obtain ⟨vj, h5, h6, h7⟩ := h.data j h3 h4
 refine ⟨vj, ?_, h6.step (fun k hk _ => Below.heap_setCell w ⟨g, i * 5 + q, none⟩ u k (h7 k hk).1), h7⟩
 rw [World.cell?_setCell_other w ⟨g, i * 5 + q, none⟩ ⟨g, j * 5 + 3, none⟩ u (fun e => by injection e; omega)]
 exact h5
theorem LeftOver.there {w : World} {base g cap n i q : Nat} {f : Nat → Nat} {s : Nat} (h : LeftOver w base g cap n f s) (hi : i < cap) (hq : q < 5) : (w.cell? ⟨g, i * 5 + q, none⟩).isSome = true ∧ w.frozen? ⟨g, i * 5 + q, none⟩ = false := by
 obtain ⟨cu, h1, h2⟩ := h.row
 refine ⟨?_, blk_frozen h1 _⟩
 rw [blk_cell h1, Array.getElem?_eq_getElem (by omega)]
 rfl
set_option maxHeartbeats 8000000 in
set_option maxRecDepth 100000 in
theorem satchelkit_OverTree.calls2 (base top : Nat) (ok : Nat → Prop) (v : Value) (l : List (S31)) (w : World) (h : Kd.S k31 31 w base ok v l) (hF : FullRow w v l) (htop : ∀ k, ok k → k < top) :
  Calls Try.prog 34 #[v] w fun e w' => e = .returned (.tuple #[]) ∧ Below base w w' ∧ ∀ k, top ≤ k → w'.heap[k]? = w.heap[k]? := by
 obtain ⟨A, c, rfl⟩ := Kd.R_slice (Kd.S_R h)
 have hlen := (Kd.R_reads' (Kd.S_R h)).2.1
 have hmax := Kd.C_max (Kd.R_reads' (Kd.S_R h)).2.2
 cases A with
 | none =>
  have hl : l.length = 0 := by
   obtain ⟨_, _, h3⟩ := (Kd.R_reads' (Kd.S_R h)).2.2
   rcases Nat.eq_zero_or_pos l.length with h0 | h0
   ·exact h0
   ·obtain ⟨ad, h4, _⟩ := h3 h0
    cases h4
  rw [hl]
  clear h hF hlen hmax hl
  go_enter Try.func34, Try.ntmps34
  go_wp2
  go_loop [2] (fun i => i = .int .i64 0) (fun _ => 0)
  case atStart => rfl
  case round =>
   subst hrel
   go_wp2
   go_end0
   exact ⟨rfl, Below.refl _ _, fun _ _ => rfl⟩
 | some ad =>
  obtain ⟨g, rfl⟩ := Kd.R_head (Kd.S_R h)
  obtain ⟨f, hn, hnc, hcm, hg, hlo, hgt, hft⟩ := LeftOver.of_S h hF htop
  obtain ⟨n, hnn⟩ : ∃ n, n = l.length := ⟨_, rfl⟩
  rw [← hnn] at hnc hlo hmax hft ⊢
  have HFT := Aside0.mk hft
  have HGT := Aside0.mk hgt
  have HLO := Aside0.mk hlo
  clear h hF hn hlo hcm hlen hnn htop hft hgt
  go_enter Try.func34, Try.ntmps34
  go_wp2
  go_loopw [2] (fun v2 wr => ∃ (i : Nat), v2 = .int .i64 (i : Int) ∧ i ≤ n ∧ Aside0 (LeftOver wr base g c n f i) ∧ Aside0 (Below base w wr) ∧ Aside0 (∀ k, top ≤ k → wr.heap[k]? = w.heap[k]?)) (fun v2 _ => n - (intOf v2).toNat)
  case atStart => exact ⟨0, rfl, by omega, HLO, ⟨Below.refl _ _⟩, ⟨fun _ _ => rfl⟩⟩
  case round =>
   clear HLO
   obtain ⟨i, rfl, hil, HL, HB, HTP⟩ := hrel
   by_cases c1 : i < n
   ·have d1 : decide (i < n) = true := decide_eq_true c1
    obtain ⟨vi, hvi, hbi, howi⟩ := HL.out.data i (Nat.le_refl _) c1
    have HBI := Aside0.mk hbi
    have HOW := Aside0.mk howi
    have hic : i < c := by omega
    clear hbi howi
    go_wp2_with (go_at_call 24; refine (satchelkit_OverBytes.calls base vi _ HBI.out).mono ?_; rintro e w2 ⟨rfl, ho, hb8⟩; have HO := Aside0.mk ho; have HL2 := Aside0.mk (HL.out.over HOW.out ho); clear ho hb8; obtain ⟨x0, hx0⟩ := Option.isSome_iff_exists.1 (HL2.out.there (i := i) (q := 0) hic (by decide)).1; have hf0 := (HL2.out.there (i := i) (q := 0) hic (by decide)).2; obtain ⟨x1, hx1⟩ := Option.isSome_iff_exists.1 (HL2.out.there (i := i) (q := 1) hic (by decide)).1; have hf1 := (HL2.out.there (i := i) (q := 1) hic (by decide)).2; obtain ⟨x2, hx2⟩ := Option.isSome_iff_exists.1 (HL2.out.there (i := i) (q := 2) hic (by decide)).1; have hf2 := (HL2.out.there (i := i) (q := 2) hic (by decide)).2; obtain ⟨x3, hx3⟩ := Option.isSome_iff_exists.1 (HL2.out.there (i := i) (q := 3) hic (by decide)).1; have hf3 := (HL2.out.there (i := i) (q := 3) hic (by decide)).2; obtain ⟨x4, hx4⟩ := Option.isSome_iff_exists.1 (HL2.out.there (i := i) (q := 4) hic (by decide)).1; have hf4 := (HL2.out.there (i := i) (q := 4) hic (by decide)).2; rw [Nat.add_zero] at hx0 hf0)
    go_roundw
    case rel =>
     refine ⟨i + 1, by congr 1, by omega, ⟨((((HL2.out.set (q := 0) (by decide) _).set (q := 1) (by decide) _).set (q := 2) (by decide) _).set (q := 3) (by decide) _).set (q := 4) (by decide) _⟩, ⟨((((((HB.out.trans (HO.out.below HBI.out.base)).setCell (p := ⟨g, i * 5, none⟩) hg _).setCell (p := ⟨g, i * 5 + 1, none⟩) hg _).setCell (p := ⟨g, i * 5 + 2, none⟩) hg _).setCell (p := ⟨g, i * 5 + 3, none⟩) hg _).setCell (p := ⟨g, i * 5 + 4, none⟩) hg _)⟩, ⟨fun k hk => ?_⟩⟩
     have hkg : k ≠ g := by have := HGT.out; omega
     refine (Below.heap_setCell _ ⟨g, i * 5 + 4, none⟩ _ k hkg).trans ((Below.heap_setCell _ ⟨g, i * 5 + 3, none⟩ _ k hkg).trans ((Below.heap_setCell _ ⟨g, i * 5 + 2, none⟩ _ k hkg).trans ((Below.heap_setCell _ ⟨g, i * 5 + 1, none⟩ _ k hkg).trans ((Below.heap_setCell _ ⟨g, i * 5, none⟩ _ k hkg).trans ((HO.out.block k (fun e => ?_)).trans (HTP.out k hk))))))
     have h1 := (HOW.out k e.symm).2
     have h2 := HFT.out k hk
     omega
    case measure => simp [intOf]; omega
   ·have d1 : decide (i < n) = false := decide_eq_false c1
    go_wp2
    go_end0
    exact ⟨rfl, HB.out, HTP.out⟩
theorem satchelkit_OverTree.calls (base : Nat) (ok : Nat → Prop) (v : Value) (l : List (S31)) (w : World) (h : Kd.S k31 31 w base ok v l) (hF : FullRow w v l) :
  Calls Try.prog 34 #[v] w fun e w' => e = .returned (.tuple #[]) ∧ Below base w w' :=
 (satchelkit_OverTree.calls2 base w.heap.size _ v l w (Kd.S_bound h) hF (fun _ hk => hk.2.2.1)).mono fun e w' ⟨h1, h2, _⟩ => ⟨h1, h2⟩
/-- A tree's rows stay full where its blocks stay. -/
theorem FullRow.move {w w1 : World} {base top : Nat} {ok : Nat → Prop} {v : Value} {l : List (S31)} (h : Kd.S k31 31 w base ok v l) (hF : FullRow w v l) (htop : ∀ k, ok k → k < top) (hm : ∀ k, base ≤ k → k < top → w1.heap[k]? = w.heap[k]?) : FullRow w1 v l := by
 obtain ⟨A, c, rfl⟩ := Kd.R_slice (Kd.S_R h)
 cases A with
 | none => intro ad n c' he; injection he with ha; cases ha
 | some ad =>
  obtain ⟨g, rfl⟩ := Kd.R_head (Kd.S_R h)
  obtain ⟨f, hn, hnc, hcm, hg, hlo, hgt, hft⟩ := LeftOver.of_S h hF htop
  intro ad' n' c' he j hj
  injection he with ha _ _
  injection ha with ha
  subst ha
  obtain ⟨vj, hc, h8⟩ := hF _ _ _ rfl j hj
  obtain ⟨vj', hc', hb8, hown⟩ := hlo.data j (Nat.zero_le _) hj
  have e1 : (⟨g, 0 + (j * 5 + 3), none⟩ : Addr) = ⟨g, j * 5 + 3, none⟩ := by rw [Nat.zero_add]
  rw [e1, hc'] at hc
  obtain rfl := Option.some.inj hc
  refine ⟨_, by rw [e1]; exact (World.cell?_of_block (w := w) (a := ⟨g, j * 5 + 3, none⟩) (hm g hg hgt)).trans hc', fun k hk => ?_⟩
  have h1 := hb8.base k hk
  have h2 : k < top := by
   rcases Nat.lt_or_ge k top with h | h
   ·exact h
   ·have a1 := hft k h
    have a2 := (hown k hk).2
    omega
  rw [hm k h1 h2]
  exact h8 k hk
end Go.Proofs.Ytopkmchkfcjjmaa.X
end

/-! ## WalkPuts -/
section
namespace Go.Proofs.Ytopkmchkfcjjmaa.X
open Go.RowKit Go.Proofs.YtopkmchkfcjjmaaW.PrintWords Go.Proofs.YtopkmchkfcjjmaaW.PrintLast Go.Proofs.YtopkmchkfcjjmaaW.PrintMore
set_option linter.unusedVariables false
set_option linter.unusedSimpArgs false
/-- All that the walk of TreePuts asks, at one number of rounds. -/
theorem puts_at (l : List (S31)) (hl : l.length ≤ 100) (hf : Fits l) (x : S31) (hx : x.f3.length < 140737488355328) (s : ByteArray) : ∃ (k : Nat) (p q : List (S31)) (e1 e2 : Int), satchelkit_CopyTree.f k l = some l ∧ satchelkit_CopyTree.f k [x] = some [x] ∧ tree_Put.f k l x.f0 x.f1 x.f2 x.f3 x.f4 = some (p, e1) ∧ satchelref08_Put.f k l x.f0 x.f1 x.f2 x.f3 x.f4 = some (p, e1) ∧
  tree_Drop.f k l s = some (q, e2) ∧ satchelref08_Drop.f k l s = some (q, e2) ∧ satchellaw08_awake.f k = some true := by
 obtain ⟨K1, h1⟩ := copy_ev l (by omega) hf
 obtain ⟨K2, h2⟩ := copy_ev [x] (by simp) (fun e he => by rw [List.mem_singleton.1 he]; exact hx)
 have hA := put_both l (by omega) hf x hx
 have hB := drop_ev l (by omega) hf s
 have hC := rdrop_ev l (by omega) hf s
 generalize putV l x = pv at hA
 generalize dropV l s = dv at hB hC
 obtain ⟨r, e1⟩ := pv
 obtain ⟨t, e2⟩ := dv
 obtain ⟨⟨K3, h3⟩, ⟨K4, h4⟩⟩ := hA
 obtain ⟨K5, h5⟩ := hB
 obtain ⟨K6, h6⟩ := hC
 obtain ⟨K7, h7⟩ := awake_ev
 let k := K1 + K2 + K3 + K4 + K5 + K6 + K7
 exact ⟨k, r, t, e1, e2, h1 k (by omega), h2 k (by omega), h3 k (by omega), h4 k (by omega), h5 k (by omega), h6 k (by omega), h7 k (by omega)⟩
set_option maxHeartbeats 8000000 in
set_option maxRecDepth 100000 in
theorem treePuts.main (A0 : Option Addr) (c0 : Nat) (l0 : List (S31)) (y0 : ByteArray) (y1 y2 : Int) (y3 : List Int) (y4 : ByteArray) (A1 : Option Addr) (c1 : Nat) (p : ByteArray) (w : World) (hr0 : Kd.C k31 w A0 l0.length l0) (hc0 : l0.length ≤ c0) (hf0 : Fits l0) (hr1 : Kd.C (Kd.int .u8) w A1 y3.length y3) (hc1 : y3.length ≤ c1) (hfx : y3.length < 140737488355328) (hp : p.size ≤ 300) (K K' : Nat) (hbig : satchelkit_BigTree.f K l0 100 6000 = some false) (hbig1 : satchelkit_BigTree.f K' [(⟨y0, y1, y2, y3, y4⟩ : S31)] 1 6000 = some false) (hlen : l0.length ≤ 100) :
  Calls Try.prog 6 #[.slice A0 l0.length c0, .agg #[.string y0, .int .i64 y1, .int .i64 y2, .slice A1 y3.length c1, .string y4], .string p] w fun e w' => e = .returned (.bool true) ∧ Below w.heap.size w w' := by
 obtain ⟨k, r, s, e1, e2, q1, q2, q3, q4, q5, q6, q7⟩ := puts_at l0 hlen hf0 (⟨y0, y1, y2, y3, y4⟩ : S31) hfx p
 have HBIG := Aside0.mk hbig
 have HBIG1 := Aside0.mk hbig1
 have Q1 := Aside0.mk q1
 have Q2 := Aside0.mk q2
 have Q3 := Aside0.mk q3
 have Q4 := Aside0.mk q4
 have Q5 := Aside0.mk q5
 have Q6 := Aside0.mk q6
 have Q7 := Aside0.mk q7
 have HR0 := Aside0.mk hr0
 have HR1 := Aside0.mk hr1
 have hp2 : decide (300 < (p.size : Int)) = false := decide_eq_false (by omega)
 have hp3 : decide (300 < p.size) = false := decide_eq_false (by omega)
 clear hbig hbig1 q1 q2 q3 q4 q5 q6 q7 hr0 hr1
 go_enter Try.func6, Try.ntmps6
 go_wp2_with (first
  | (go_at_call 12; have G_ := HBIG; refine (satchelkit_BigTree.calls K A0 c0 l0 100 6000 false _ (Kd.C_below HR0.out (below_alloc (Below.refl _ w) (.cells #[.string y0, .int .i64 y1, .int .i64 y2, .slice A1 y3.length c1, .string y4] 31))) hc0 HBIG.out).mono ?_; rintro e w1 ⟨rfl, hd⟩; have hb := Drawn0.below hd; have HB1 := Aside0.mk (below_step (below_alloc (Below.refl _ w) (.cells #[.string y0, .int .i64 y1, .int .i64 y2, .slice A1 y3.length c1, .string y4] 31)) hb); have BK1 := Aside0.mk (blk_below (heap_alloc_new w (.cells #[.string y0, .int .i64 y1, .int .i64 y2, .slice A1 y3.length c1, .string y4] 31)) hb); clear hd hb; have hx0 : w1.cell? ⟨w.heap.size, 0, none⟩ = some (.string y0) := (blk_cell BK1.out 0).trans rfl; have hx1 : w1.cell? ⟨w.heap.size, 1, none⟩ = some (.int .i64 y1) := (blk_cell BK1.out 1).trans rfl; have hx2 : w1.cell? ⟨w.heap.size, 2, none⟩ = some (.int .i64 y2) := (blk_cell BK1.out 2).trans rfl; have hx3 : w1.cell? ⟨w.heap.size, 3, none⟩ = some (.slice A1 y3.length c1) := (blk_cell BK1.out 3).trans rfl; have hx4 : w1.cell? ⟨w.heap.size, 4, none⟩ = some (.string y4) := (blk_cell BK1.out 4).trans rfl; clear G_ HBIG)
  | (go_at_call 12; have G_ := HBIG1; refine (satchelkit_BigTree.calls K' (some ⟨w1.heap.size, 0, none⟩) 1 [(⟨y0, y1, y2, y3, y4⟩ : S31)] 1 6000 false _ (row1_C (x := (⟨y0, y1, y2, y3, y4⟩ : S31)) (heap_alloc_new w1 (.cells #[.string y0, .int .i64 y1, .int .i64 y2, .slice A1 y3.length c1, .string y4] 31)) hc1 (Kd.C_below HR1.out (below_alloc HB1.out (.cells #[.string y0, .int .i64 y1, .int .i64 y2, .slice A1 y3.length c1, .string y4] 31)))) (Nat.le_refl _) HBIG1.out).mono ?_; rintro e w2 ⟨rfl, hd⟩; have hb := Drawn0.below hd; have HB2 := Aside0.mk (below_step (below_alloc HB1.out (.cells #[.string y0, .int .i64 y1, .int .i64 y2, .slice A1 y3.length c1, .string y4] 31)) hb); have BK2 := Aside0.mk (blk_below (blk_alloc BK1.out (.cells #[.string y0, .int .i64 y1, .int .i64 y2, .slice A1 y3.length c1, .string y4] 31)) hb); clear hd hb; clear hx0 hx1 hx2 hx3 hx4; have hx0 : w2.cell? ⟨w.heap.size, 0, none⟩ = some (.string y0) := (blk_cell BK2.out 0).trans rfl; have hx1 : w2.cell? ⟨w.heap.size, 1, none⟩ = some (.int .i64 y1) := (blk_cell BK2.out 1).trans rfl; have hx2 : w2.cell? ⟨w.heap.size, 2, none⟩ = some (.int .i64 y2) := (blk_cell BK2.out 2).trans rfl; have hx3 : w2.cell? ⟨w.heap.size, 3, none⟩ = some (.slice A1 y3.length c1) := (blk_cell BK2.out 3).trans rfl; have hx4 : w2.cell? ⟨w.heap.size, 4, none⟩ = some (.string y4) := (blk_cell BK2.out 4).trans rfl; clear G_ HBIG1))
 go_region_with (first
  | (go_at_call 18; have G_ := Q1; refine (satchelkit_CopyTree.calls k _ A0 c0 l0 l0 _ (Kd.V_mk hc0 (Kd.C_F k31_heap (Kd.C_below HR0.out (by repeat (first | exact HB2.out | apply below_alloc | apply below_drew1 | apply pw_below_drewN))))) Q1.out).mono ?_; rintro e w3 ⟨v5, rfl, hn, hb⟩; obtain ⟨A5, c5, rfl⟩ := Kd.N_slice hn; have HC5 := Aside0.mk (Kd.N_reads' hn).2.2; have HL5 := Aside0.mk (Kd.N_reads' hn).2.1; have HI3 := Aside0.mk hb; have HB3 := Aside0.mk (below_step (by repeat (first | exact HB2.out | apply below_alloc | apply below_drew1 | apply pw_below_drewN)) hb); have BK3 := Aside0.mk (blk_below (by repeat (first | exact BK2.out | apply blk_alloc)) hb); clear hn hb; clear hx0 hx1 hx2 hx3 hx4; have hx0 : w3.cell? ⟨w.heap.size, 0, none⟩ = some (.string y0) := (blk_cell BK3.out 0).trans rfl; have hx1 : w3.cell? ⟨w.heap.size, 1, none⟩ = some (.int .i64 y1) := (blk_cell BK3.out 1).trans rfl; have hx2 : w3.cell? ⟨w.heap.size, 2, none⟩ = some (.int .i64 y2) := (blk_cell BK3.out 2).trans rfl; have hx3 : w3.cell? ⟨w.heap.size, 3, none⟩ = some (.slice A1 y3.length c1) := (blk_cell BK3.out 3).trans rfl; have hx4 : w3.cell? ⟨w.heap.size, 4, none⟩ = some (.string y4) := (blk_cell BK3.out 4).trans rfl; clear G_ Q1)
  | (go_at_call 18; have G_ := Q2; refine (satchelkit_CopyTree.calls k _ _ 1 [(⟨y0, y1, y2, y3, y4⟩ : S31)] [(⟨y0, y1, y2, y3, y4⟩ : S31)] _ (Kd.V_mk (Nat.le_refl 1) (Kd.C_F k31_heap (by first | exact row1_C (x := (⟨y0, y1, y2, y3, y4⟩ : S31)) (heap_alloc_new w3 (.cells #[.string y0, .int .i64 y1, .int .i64 y2, .slice A1 y3.length c1, .string y4] 31)) hc1 (Kd.C_below HR1.out (below_alloc HB3.out (.cells #[.string y0, .int .i64 y1, .int .i64 y2, .slice A1 y3.length c1, .string y4] 31))) | exact row1_C (x := (⟨y0, y1, y2, y3, y4⟩ : S31)) (blk_below (heap_alloc_new w2.drew (.cells #[.string y0, .int .i64 y1, .int .i64 y2, .slice A1 y3.length c1, .string y4] 31)) HI3.out) hc1 (Kd.C_below HR1.out HB3.out)))) Q2.out).mono ?_; rintro e w4 ⟨v6, rfl, hn, hb⟩; obtain ⟨g6, c6, rfl, hg6, hgl6, hgc6⟩ := Kd.N_form hn (by simp); have HC6 := Aside0.mk (Kd.N_reads' hn).2.2; have HL6 := Aside0.mk (Kd.N_reads' hn).2.1; have HB4 := Aside0.mk (below_step (by repeat (first | exact HB3.out | apply below_alloc | apply below_drew1 | apply pw_below_drewN)) hb); have HI4 := Aside0.mk (below_step (by repeat (first | exact (Below.refl w3.heap.size w3) | apply below_alloc | apply below_drew1 | apply pw_below_drewN)) hb); have BK4 := Aside0.mk (blk_below (by repeat (first | exact BK3.out | apply blk_alloc)) hb); clear hn hb hg6 hgl6 hgc6; clear hx0 hx1 hx2 hx3 hx4; have hx0 : w4.cell? ⟨w.heap.size, 0, none⟩ = some (.string y0) := (blk_cell BK4.out 0).trans rfl; have hx1 : w4.cell? ⟨w.heap.size, 1, none⟩ = some (.int .i64 y1) := (blk_cell BK4.out 1).trans rfl; have hx2 : w4.cell? ⟨w.heap.size, 2, none⟩ = some (.int .i64 y2) := (blk_cell BK4.out 2).trans rfl; have hx3 : w4.cell? ⟨w.heap.size, 3, none⟩ = some (.slice A1 y3.length c1) := (blk_cell BK4.out 3).trans rfl; have hx4 : w4.cell? ⟨w.heap.size, 4, none⟩ = some (.string y4) := (blk_cell BK4.out 4).trans rfl; obtain ⟨A7, c7, hy0, hy1, hy2, hy3, hy4, hlc7, hcc7⟩ := row1_open HC6.out; have HLC7 := Aside0.mk hlc7; have HCC7 := Aside0.mk hcc7; clear hlc7 hcc7; clear G_ Q2))
 all_goals (go_wp2_with (first
  | (go_at_call 30; refine (tree_Put.calls2 k A5 c5 l0 y0 y1 y2 A7 c7 y3 y4 r e1 _ (Kd.C_below HC5.out (by repeat (first | exact HI4.out | apply below_alloc | apply below_drew1 | apply pw_below_drewN))) HL5.out (by repeat (first | exact HCC7.out | apply Kd.C_drew | apply Kd.C_drewN)) HLC7.out Q3.out).mono ?_; rintro e w5 ⟨v9, rfl, hs, hf, hb⟩; obtain ⟨A9, c9, rfl⟩ := Kd.R_slice (Kd.S_R hs); have HS9 := Aside0.mk hs; have HF9 := Aside0.mk hf; have HB5 := Aside0.mk (below_step (by repeat (first | exact HB4.out | apply below_alloc | apply below_drew1 | apply pw_below_drewN)) hb); have HI5 := Aside0.mk (below_step (by repeat (first | exact HI4.out | apply below_alloc | apply below_drew1 | apply pw_below_drewN)) hb); have HM5 := Aside0.mk (below_step (by repeat (first | exact (Below.refl w4.heap.size w4) | apply below_alloc | apply below_drew1 | apply pw_below_drewN)) hb); have BK5 := Aside0.mk (blk_below BK4.out hb); clear hs hf hb hy0 hy1 hy2 hy3 hy4; clear hx0 hx1 hx2 hx3 hx4; have hx0 : w5.cell? ⟨w.heap.size, 0, none⟩ = some (.string y0) := (blk_cell BK5.out 0).trans rfl; have hx1 : w5.cell? ⟨w.heap.size, 1, none⟩ = some (.int .i64 y1) := (blk_cell BK5.out 1).trans rfl; have hx2 : w5.cell? ⟨w.heap.size, 2, none⟩ = some (.int .i64 y2) := (blk_cell BK5.out 2).trans rfl; have hx3 : w5.cell? ⟨w.heap.size, 3, none⟩ = some (.slice A1 y3.length c1) := (blk_cell BK5.out 3).trans rfl; have hx4 : w5.cell? ⟨w.heap.size, 4, none⟩ = some (.string y4) := (blk_cell BK5.out 4).trans rfl)
  | (go_at_call 31; refine (satchelref08_Put.calls k _ A0 c0 l0 y0 y1 y2 A1 c1 y3 y4 r e1 _ (Kd.V_mk hc0 (Kd.C_F k31_heap (Kd.C_below HR0.out HB5.out))) (Kd.C_below HR1.out HB5.out) hc1 Q4.out).mono ?_; rintro e w6 ⟨v11, rfl, hs, hb⟩; obtain ⟨A11, c11, rfl⟩ := Kd.R_slice (Kd.S_R hs); have HS11 := Aside0.mk hs; have HB6 := Aside0.mk (below_step HB5.out hb); have HI6 := Aside0.mk (below_step HI5.out hb); have HM6 := Aside0.mk (below_step HM5.out hb); have HX6 := Aside0.mk hb; have BK6 := Aside0.mk (blk_below BK5.out hb); clear hs hb; clear hx0 hx1 hx2 hx3 hx4; have hx0 : w6.cell? ⟨w.heap.size, 0, none⟩ = some (.string y0) := (blk_cell BK6.out 0).trans rfl; have hx1 : w6.cell? ⟨w.heap.size, 1, none⟩ = some (.int .i64 y1) := (blk_cell BK6.out 1).trans rfl; have hx2 : w6.cell? ⟨w.heap.size, 2, none⟩ = some (.int .i64 y2) := (blk_cell BK6.out 2).trans rfl; have hx3 : w6.cell? ⟨w.heap.size, 3, none⟩ = some (.slice A1 y3.length c1) := (blk_cell BK6.out 3).trans rfl; have hx4 : w6.cell? ⟨w.heap.size, 4, none⟩ = some (.string y4) := (blk_cell BK6.out 4).trans rfl)
  | (go_at_call 32; refine (tree_Drop.calls2 k A5 c5 l0 p s e2 _ (Kd.C_below HC5.out HI6.out) HL5.out Q5.out).mono ?_; rintro e w7 ⟨v13, rfl, hs, hf, hb⟩; obtain ⟨A13, c13, rfl⟩ := Kd.R_slice (Kd.S_R hs); have HS13 := Aside0.mk hs; have HF13 := Aside0.mk hf; have HB7 := Aside0.mk (below_step HB6.out hb); have HI7 := Aside0.mk (below_step HI6.out hb); have HM7 := Aside0.mk (below_step HM6.out hb); have HX7 := Aside0.mk (below_step HX6.out hb); have HY7 := Aside0.mk hb; have BK7 := Aside0.mk (blk_below BK6.out hb); clear hs hf hb; clear hx0 hx1 hx2 hx3 hx4; have hx0 : w7.cell? ⟨w.heap.size, 0, none⟩ = some (.string y0) := (blk_cell BK7.out 0).trans rfl; have hx1 : w7.cell? ⟨w.heap.size, 1, none⟩ = some (.int .i64 y1) := (blk_cell BK7.out 1).trans rfl; have hx2 : w7.cell? ⟨w.heap.size, 2, none⟩ = some (.int .i64 y2) := (blk_cell BK7.out 2).trans rfl; have hx3 : w7.cell? ⟨w.heap.size, 3, none⟩ = some (.slice A1 y3.length c1) := (blk_cell BK7.out 3).trans rfl; have hx4 : w7.cell? ⟨w.heap.size, 4, none⟩ = some (.string y4) := (blk_cell BK7.out 4).trans rfl)
  | (go_at_call 33; refine (satchelref08_Drop.calls k A0 c0 l0 p s e2 _ (Kd.C_below HR0.out HB7.out) hc0 Q6.out).mono ?_; rintro e w8 ⟨v15, rfl, hs, hb⟩; obtain ⟨A15, c15, rfl⟩ := Kd.R_slice (Kd.S_R hs); have HS15 := Aside0.mk hs; have HB8 := Aside0.mk (below_step HB7.out hb); have HI8 := Aside0.mk (below_step HI7.out hb); have HM8 := Aside0.mk (below_step HM7.out hb); have HX8 := Aside0.mk (below_step HX7.out hb); have HY8 := Aside0.mk (below_step HY7.out hb); have HZ8 := Aside0.mk hb; have BK8 := Aside0.mk (blk_below BK7.out hb); clear hs hb; clear hx0 hx1 hx2 hx3 hx4; have hx0 : w8.cell? ⟨w.heap.size, 0, none⟩ = some (.string y0) := (blk_cell BK8.out 0).trans rfl; have hx1 : w8.cell? ⟨w.heap.size, 1, none⟩ = some (.int .i64 y1) := (blk_cell BK8.out 1).trans rfl; have hx2 : w8.cell? ⟨w.heap.size, 2, none⟩ = some (.int .i64 y2) := (blk_cell BK8.out 2).trans rfl; have hx3 : w8.cell? ⟨w.heap.size, 3, none⟩ = some (.slice A1 y3.length c1) := (blk_cell BK8.out 3).trans rfl; have hx4 : w8.cell? ⟨w.heap.size, 4, none⟩ = some (.string y4) := (blk_cell BK8.out 4).trans rfl)
  | (go_at_call 16; have G_ := HY8; refine (satchelkit_SameTree.calls A9 c9 r A11 c11 r true _ (Kd.C_below (Kd.R_reads' (Kd.S_R HS9.out)).2.2 HX8.out) (Kd.R_reads' (Kd.S_R HS9.out)).2.1 (Kd.C_below (Kd.R_reads' (Kd.S_R HS11.out)).2.2 HY8.out) (Kd.R_reads' (Kd.S_R HS11.out)).2.1 (by rw [sameTree_f, sameV_refl])).mono ?_; rintro e w9 ⟨rfl, hd⟩; have hb := Drawn0.below hd; have HB9 := Aside0.mk (below_step HB8.out hb); have HI9 := Aside0.mk (below_step HI8.out hb); have HM9 := Aside0.mk (below_step HM8.out hb); have HX9 := Aside0.mk (below_step HX8.out hb); have HZ9 := Aside0.mk (below_step HZ8.out hb); have HV9 := Aside0.mk hb; have BK9 := Aside0.mk (blk_below BK8.out hb); clear hd hb; clear hx0 hx1 hx2 hx3 hx4; have hx0 : w9.cell? ⟨w.heap.size, 0, none⟩ = some (.string y0) := (blk_cell BK9.out 0).trans rfl; have hx1 : w9.cell? ⟨w.heap.size, 1, none⟩ = some (.int .i64 y1) := (blk_cell BK9.out 1).trans rfl; have hx2 : w9.cell? ⟨w.heap.size, 2, none⟩ = some (.int .i64 y2) := (blk_cell BK9.out 2).trans rfl; have hx3 : w9.cell? ⟨w.heap.size, 3, none⟩ = some (.slice A1 y3.length c1) := (blk_cell BK9.out 3).trans rfl; have hx4 : w9.cell? ⟨w.heap.size, 4, none⟩ = some (.string y4) := (blk_cell BK9.out 4).trans rfl; clear G_ HY8)
  | (go_at_call 16; have G_ := HV9; refine (satchelkit_SameTree.calls A13 c13 s A15 c15 s true _ (Kd.C_below (Kd.R_reads' (Kd.S_R HS13.out)).2.2 HZ9.out) (Kd.R_reads' (Kd.S_R HS13.out)).2.1 (Kd.C_below (Kd.R_reads' (Kd.S_R HS15.out)).2.2 HV9.out) (Kd.R_reads' (Kd.S_R HS15.out)).2.1 (by rw [sameTree_f, sameV_refl])).mono ?_; rintro e w10 ⟨rfl, hd⟩; have hb := Drawn0.below hd; have HB10 := Aside0.mk (below_step HB9.out hb); have HI10 := Aside0.mk (below_step HI9.out hb); have HM10 := Aside0.mk (below_step HM9.out hb); have HX10 := Aside0.mk (below_step HX9.out hb); have HZ10 := Aside0.mk (below_step HZ9.out hb); have BK10 := Aside0.mk (blk_below BK9.out hb); clear hd hb; clear hx0 hx1 hx2 hx3 hx4; have hx0 : w10.cell? ⟨w.heap.size, 0, none⟩ = some (.string y0) := (blk_cell BK10.out 0).trans rfl; have hx1 : w10.cell? ⟨w.heap.size, 1, none⟩ = some (.int .i64 y1) := (blk_cell BK10.out 1).trans rfl; have hx2 : w10.cell? ⟨w.heap.size, 2, none⟩ = some (.int .i64 y2) := (blk_cell BK10.out 2).trans rfl; have hx3 : w10.cell? ⟨w.heap.size, 3, none⟩ = some (.slice A1 y3.length c1) := (blk_cell BK10.out 3).trans rfl; have hx4 : w10.cell? ⟨w.heap.size, 4, none⟩ = some (.string y4) := (blk_cell BK10.out 4).trans rfl; clear G_ HV9)
  | (go_at_call 34; have G_ := HX10; refine (satchelkit_OverTree.calls2 w4.heap.size w5.heap.size _ _ r _ (Kd.S_below (Kd.S_bound HS9.out) HX10.out) (HF9.out.below HX10.out) (fun _ hk => hk.2.2.1)).mono ?_; rintro e w11 ⟨rfl, hb, hq⟩; have HQ11 := Aside0.mk hq; have HM11 := Aside0.mk (HM10.out.trans hb); have HI11 := Aside0.mk (HI10.out.trans (hb.mono HI4.out.size)); have HB11 := Aside0.mk (HB10.out.trans (hb.mono HB4.out.size)); have hmv : ∀ k, w6.heap.size ≤ k → k < w7.heap.size → w11.heap[k]? = w7.heap[k]? := fun k h1 h2 => (HQ11.out k (Nat.le_trans HX6.out.size h1)).trans (HZ10.out.block k h2); have HF11 := Aside0.mk (FullRow.move (top := w7.heap.size) (Kd.S_bound HS13.out) HF13.out (fun _ hk => hk.2.2.1) hmv); have HS11z := Aside0.mk (Kd.S_move (Kd.S_bound HS13.out) (fun k hk => hmv k hk.2.1 hk.2.2.1)); have BK11 := Aside0.mk ((hb.block w.heap.size (Nat.lt_of_lt_of_le (blk_lt BK3.out) HI4.out.size)).trans BK10.out); clear hb hq hmv; clear hx0 hx1 hx2 hx3 hx4; have hx0 : w11.cell? ⟨w.heap.size, 0, none⟩ = some (.string y0) := (blk_cell BK11.out 0).trans rfl; have hx1 : w11.cell? ⟨w.heap.size, 1, none⟩ = some (.int .i64 y1) := (blk_cell BK11.out 1).trans rfl; have hx2 : w11.cell? ⟨w.heap.size, 2, none⟩ = some (.int .i64 y2) := (blk_cell BK11.out 2).trans rfl; have hx3 : w11.cell? ⟨w.heap.size, 3, none⟩ = some (.slice A1 y3.length c1) := (blk_cell BK11.out 3).trans rfl; have hx4 : w11.cell? ⟨w.heap.size, 4, none⟩ = some (.string y4) := (blk_cell BK11.out 4).trans rfl; clear G_ HX10)
  | (go_at_call 34; have G_ := HF11; refine (satchelkit_OverTree.calls w6.heap.size _ _ s _ HS11z.out HF11.out).mono ?_; rintro e w12 ⟨rfl, hb⟩; have hb := hb.mono HM6.out.size; have HM12 := Aside0.mk (HM11.out.trans hb); have HI12 := Aside0.mk (HI11.out.trans (hb.mono HI4.out.size)); have HB12 := Aside0.mk (HB11.out.trans (hb.mono HB4.out.size)); have BK12 := Aside0.mk ((hb.block w.heap.size (Nat.lt_of_lt_of_le (blk_lt BK3.out) HI4.out.size)).trans BK11.out); clear hb; clear hx0 hx1 hx2 hx3 hx4; have hx0 : w12.cell? ⟨w.heap.size, 0, none⟩ = some (.string y0) := (blk_cell BK12.out 0).trans rfl; have hx1 : w12.cell? ⟨w.heap.size, 1, none⟩ = some (.int .i64 y1) := (blk_cell BK12.out 1).trans rfl; have hx2 : w12.cell? ⟨w.heap.size, 2, none⟩ = some (.int .i64 y2) := (blk_cell BK12.out 2).trans rfl; have hx3 : w12.cell? ⟨w.heap.size, 3, none⟩ = some (.slice A1 y3.length c1) := (blk_cell BK12.out 3).trans rfl; have hx4 : w12.cell? ⟨w.heap.size, 4, none⟩ = some (.string y4) := (blk_cell BK12.out 4).trans rfl; clear G_ HF11)
  | (go_at_call 16; have G_ := HI12; refine (satchelkit_SameTree.calls A5 c5 l0 A0 c0 l0 true _ (Kd.C_below HC5.out HI12.out) HL5.out (Kd.C_below HR0.out HB12.out) hc0 (by rw [sameTree_f, sameV_refl])).mono ?_; rintro e w13 ⟨rfl, hd⟩; have hb := Drawn0.below hd; have HB13 := Aside0.mk (below_step HB12.out hb); have HM13 := Aside0.mk (below_step HM12.out hb); have BK13 := Aside0.mk (blk_below BK12.out hb); clear hd hb; clear hx0 hx1 hx2 hx3 hx4; have hx0 : w13.cell? ⟨w.heap.size, 0, none⟩ = some (.string y0) := (blk_cell BK13.out 0).trans rfl; have hx1 : w13.cell? ⟨w.heap.size, 1, none⟩ = some (.int .i64 y1) := (blk_cell BK13.out 1).trans rfl; have hx2 : w13.cell? ⟨w.heap.size, 2, none⟩ = some (.int .i64 y2) := (blk_cell BK13.out 2).trans rfl; have hx3 : w13.cell? ⟨w.heap.size, 3, none⟩ = some (.slice A1 y3.length c1) := (blk_cell BK13.out 3).trans rfl; have hx4 : w13.cell? ⟨w.heap.size, 4, none⟩ = some (.string y4) := (blk_cell BK13.out 4).trans rfl; clear G_ HI12)
  | (go_at_call 16; have G_ := HM13; refine (satchelkit_SameTree.calls (some ⟨g6, 0, none⟩) c6 [(⟨y0, y1, y2, y3, y4⟩ : S31)] (some ⟨w13.heap.size, 0, none⟩) 1 [(⟨y0, y1, y2, y3, y4⟩ : S31)] true _ (Kd.C_below HC6.out (below_alloc HM13.out (.cells #[.string y0, .int .i64 y1, .int .i64 y2, .slice A1 y3.length c1, .string y4] 31))) HL6.out (row1_C (x := (⟨y0, y1, y2, y3, y4⟩ : S31)) (heap_alloc_new w13 (.cells #[.string y0, .int .i64 y1, .int .i64 y2, .slice A1 y3.length c1, .string y4] 31)) hc1 (Kd.C_below HR1.out (below_alloc HB13.out (.cells #[.string y0, .int .i64 y1, .int .i64 y2, .slice A1 y3.length c1, .string y4] 31)))) (Nat.le_refl _) (by rw [sameTree_f, sameV_refl])).mono ?_; rintro e w14 ⟨rfl, hd⟩; have hb := Drawn0.below hd; have HB14 := Aside0.mk (below_step (below_alloc HB13.out (.cells #[.string y0, .int .i64 y1, .int .i64 y2, .slice A1 y3.length c1, .string y4] 31)) hb); clear hd hb; clear G_ HM13)
  | (go_at_call 10; refine (satchellaw08_awake.calls k true _ Q7.out).mono ?_; rintro e w15 ⟨rfl, hb⟩; have HB15 := Aside0.mk (below_step HB14.out hb); clear hb)))
 all_goals go_ret
 all_goals exact ⟨rfl, HB15.out⟩
set_option maxHeartbeats 4000000 in
set_option maxRecDepth 100000 in
theorem treePuts.big (A0 : Option Addr) (c0 : Nat) (l0 : List (S31)) (y0 : ByteArray) (y1 y2 : Int) (y3 : List Int) (y4 : ByteArray) (A1 : Option Addr) (c1 : Nat) (p : ByteArray) (w : World) (hr0 : Kd.C k31 w A0 l0.length l0) (hc0 : l0.length ≤ c0) (hr1 : Kd.C (Kd.int .u8) w A1 y3.length y3) (hc1 : y3.length ≤ c1) (K : Nat) (hbig : satchelkit_BigTree.f K l0 100 6000 = some true) (hp : p.size ≤ maxLen) :
  Calls Try.prog 6 #[.slice A0 l0.length c0, .agg #[.string y0, .int .i64 y1, .int .i64 y2, .slice A1 y3.length c1, .string y4], .string p] w fun e w' => e = .returned (.bool true) ∧ Below w.heap.size w w' := by
 obtain ⟨k, q8⟩ := awake_ev
 have Q7 := Aside0.mk (q8 k (Nat.le_refl _))
 have HR0 := Aside0.mk hr0
 have HR1 := Aside0.mk hr1
 have HBIG := Aside0.mk hbig
 clear hbig
 clear hr0 hr1 q8
 go_enter Try.func6, Try.ntmps6
 go_wp2_with (first
  | (go_at_call 12; have G_ := HBIG; refine (satchelkit_BigTree.calls K A0 c0 l0 100 6000 true _ (Kd.C_below HR0.out (below_alloc (Below.refl _ w) (.cells #[.string y0, .int .i64 y1, .int .i64 y2, .slice A1 y3.length c1, .string y4] 31))) hc0 HBIG.out).mono ?_; rintro e w1 ⟨rfl, hd⟩; have hb := Drawn0.below hd; have HB1 := Aside0.mk (below_step (below_alloc (Below.refl _ w) (.cells #[.string y0, .int .i64 y1, .int .i64 y2, .slice A1 y3.length c1, .string y4] 31)) hb); have BK1 := Aside0.mk (blk_below (heap_alloc_new w (.cells #[.string y0, .int .i64 y1, .int .i64 y2, .slice A1 y3.length c1, .string y4] 31)) hb); clear hd hb; have hx0 : w1.cell? ⟨w.heap.size, 0, none⟩ = some (.string y0) := (blk_cell BK1.out 0).trans rfl; have hx1 : w1.cell? ⟨w.heap.size, 1, none⟩ = some (.int .i64 y1) := (blk_cell BK1.out 1).trans rfl; have hx2 : w1.cell? ⟨w.heap.size, 2, none⟩ = some (.int .i64 y2) := (blk_cell BK1.out 2).trans rfl; have hx3 : w1.cell? ⟨w.heap.size, 3, none⟩ = some (.slice A1 y3.length c1) := (blk_cell BK1.out 3).trans rfl; have hx4 : w1.cell? ⟨w.heap.size, 4, none⟩ = some (.string y4) := (blk_cell BK1.out 4).trans rfl; clear G_ HBIG)
  | (go_at_call 10; refine (satchellaw08_awake.calls k true _ Q7.out).mono ?_; rintro e w15 ⟨rfl, hb⟩; have HB15 := Aside0.mk (below_step HB1.out hb); clear hb))
 go_ret
 exact ⟨rfl, HB15.out⟩
set_option maxHeartbeats 4000000 in
set_option maxRecDepth 100000 in
theorem treePuts.big1 (A0 : Option Addr) (c0 : Nat) (l0 : List (S31)) (y0 : ByteArray) (y1 y2 : Int) (y3 : List Int) (y4 : ByteArray) (A1 : Option Addr) (c1 : Nat) (p : ByteArray) (w : World) (hr0 : Kd.C k31 w A0 l0.length l0) (hc0 : l0.length ≤ c0) (hr1 : Kd.C (Kd.int .u8) w A1 y3.length y3) (hc1 : y3.length ≤ c1) (K : Nat) (hbig : satchelkit_BigTree.f K l0 100 6000 = some false) (K' : Nat) (hbig1 : satchelkit_BigTree.f K' [(⟨y0, y1, y2, y3, y4⟩ : S31)] 1 6000 = some true) (hp : p.size ≤ maxLen) :
  Calls Try.prog 6 #[.slice A0 l0.length c0, .agg #[.string y0, .int .i64 y1, .int .i64 y2, .slice A1 y3.length c1, .string y4], .string p] w fun e w' => e = .returned (.bool true) ∧ Below w.heap.size w w' := by
 obtain ⟨k, q8⟩ := awake_ev
 have Q7 := Aside0.mk (q8 k (Nat.le_refl _))
 have HR0 := Aside0.mk hr0
 have HR1 := Aside0.mk hr1
 have HBIG := Aside0.mk hbig
 clear hbig
 have HBIG1 := Aside0.mk hbig1
 clear hbig1
 clear hr0 hr1 q8
 go_enter Try.func6, Try.ntmps6
 go_wp2_with (first
  | (go_at_call 12; have G_ := HBIG; refine (satchelkit_BigTree.calls K A0 c0 l0 100 6000 false _ (Kd.C_below HR0.out (below_alloc (Below.refl _ w) (.cells #[.string y0, .int .i64 y1, .int .i64 y2, .slice A1 y3.length c1, .string y4] 31))) hc0 HBIG.out).mono ?_; rintro e w1 ⟨rfl, hd⟩; have hb := Drawn0.below hd; have HB1 := Aside0.mk (below_step (below_alloc (Below.refl _ w) (.cells #[.string y0, .int .i64 y1, .int .i64 y2, .slice A1 y3.length c1, .string y4] 31)) hb); have BK1 := Aside0.mk (blk_below (heap_alloc_new w (.cells #[.string y0, .int .i64 y1, .int .i64 y2, .slice A1 y3.length c1, .string y4] 31)) hb); clear hd hb; have hx0 : w1.cell? ⟨w.heap.size, 0, none⟩ = some (.string y0) := (blk_cell BK1.out 0).trans rfl; have hx1 : w1.cell? ⟨w.heap.size, 1, none⟩ = some (.int .i64 y1) := (blk_cell BK1.out 1).trans rfl; have hx2 : w1.cell? ⟨w.heap.size, 2, none⟩ = some (.int .i64 y2) := (blk_cell BK1.out 2).trans rfl; have hx3 : w1.cell? ⟨w.heap.size, 3, none⟩ = some (.slice A1 y3.length c1) := (blk_cell BK1.out 3).trans rfl; have hx4 : w1.cell? ⟨w.heap.size, 4, none⟩ = some (.string y4) := (blk_cell BK1.out 4).trans rfl; clear G_ HBIG)
  | (go_at_call 12; have G_ := HBIG1; refine (satchelkit_BigTree.calls K' (some ⟨w1.heap.size, 0, none⟩) 1 [(⟨y0, y1, y2, y3, y4⟩ : S31)] 1 6000 true _ (row1_C (x := (⟨y0, y1, y2, y3, y4⟩ : S31)) (heap_alloc_new w1 (.cells #[.string y0, .int .i64 y1, .int .i64 y2, .slice A1 y3.length c1, .string y4] 31)) hc1 (Kd.C_below HR1.out (below_alloc HB1.out (.cells #[.string y0, .int .i64 y1, .int .i64 y2, .slice A1 y3.length c1, .string y4] 31)))) (Nat.le_refl _) HBIG1.out).mono ?_; rintro e w2 ⟨rfl, hd⟩; have hb := Drawn0.below hd; have HB2 := Aside0.mk (below_step (below_alloc HB1.out (.cells #[.string y0, .int .i64 y1, .int .i64 y2, .slice A1 y3.length c1, .string y4] 31)) hb); have BK2 := Aside0.mk (blk_below (blk_alloc BK1.out (.cells #[.string y0, .int .i64 y1, .int .i64 y2, .slice A1 y3.length c1, .string y4] 31)) hb); clear hd hb; clear hx0 hx1 hx2 hx3 hx4; have hx0 : w2.cell? ⟨w.heap.size, 0, none⟩ = some (.string y0) := (blk_cell BK2.out 0).trans rfl; have hx1 : w2.cell? ⟨w.heap.size, 1, none⟩ = some (.int .i64 y1) := (blk_cell BK2.out 1).trans rfl; have hx2 : w2.cell? ⟨w.heap.size, 2, none⟩ = some (.int .i64 y2) := (blk_cell BK2.out 2).trans rfl; have hx3 : w2.cell? ⟨w.heap.size, 3, none⟩ = some (.slice A1 y3.length c1) := (blk_cell BK2.out 3).trans rfl; have hx4 : w2.cell? ⟨w.heap.size, 4, none⟩ = some (.string y4) := (blk_cell BK2.out 4).trans rfl; clear G_ HBIG1)
  | (go_at_call 10; refine (satchellaw08_awake.calls k true _ Q7.out).mono ?_; rintro e w15 ⟨rfl, hb⟩; have HB15 := Aside0.mk (below_step HB2.out hb); clear hb))
 go_ret
 exact ⟨rfl, HB15.out⟩
set_option maxHeartbeats 4000000 in
set_option maxRecDepth 100000 in
theorem treePuts.long (A0 : Option Addr) (c0 : Nat) (l0 : List (S31)) (y0 : ByteArray) (y1 y2 : Int) (y3 : List Int) (y4 : ByteArray) (A1 : Option Addr) (c1 : Nat) (p : ByteArray) (w : World) (hr0 : Kd.C k31 w A0 l0.length l0) (hc0 : l0.length ≤ c0) (hr1 : Kd.C (Kd.int .u8) w A1 y3.length y3) (hc1 : y3.length ≤ c1) (K : Nat) (hbig : satchelkit_BigTree.f K l0 100 6000 = some false) (K' : Nat) (hbig1 : satchelkit_BigTree.f K' [(⟨y0, y1, y2, y3, y4⟩ : S31)] 1 6000 = some false) (hp : ¬ p.size ≤ 300) :
  Calls Try.prog 6 #[.slice A0 l0.length c0, .agg #[.string y0, .int .i64 y1, .int .i64 y2, .slice A1 y3.length c1, .string y4], .string p] w fun e w' => e = .returned (.bool true) ∧ Below w.heap.size w w' := by
 obtain ⟨k, q8⟩ := awake_ev
 have Q7 := Aside0.mk (q8 k (Nat.le_refl _))
 have HR0 := Aside0.mk hr0
 have HR1 := Aside0.mk hr1
 have HBIG := Aside0.mk hbig
 clear hbig
 have HBIG1 := Aside0.mk hbig1
 clear hbig1
 have hp2 : decide (300 < (p.size : Int)) = true := decide_eq_true (by omega)
 have hp3 : decide (300 < p.size) = true := decide_eq_true (by omega)
 clear hr0 hr1 q8
 go_enter Try.func6, Try.ntmps6
 go_wp2_with (first
  | (go_at_call 12; have G_ := HBIG; refine (satchelkit_BigTree.calls K A0 c0 l0 100 6000 false _ (Kd.C_below HR0.out (below_alloc (Below.refl _ w) (.cells #[.string y0, .int .i64 y1, .int .i64 y2, .slice A1 y3.length c1, .string y4] 31))) hc0 HBIG.out).mono ?_; rintro e w1 ⟨rfl, hd⟩; have hb := Drawn0.below hd; have HB1 := Aside0.mk (below_step (below_alloc (Below.refl _ w) (.cells #[.string y0, .int .i64 y1, .int .i64 y2, .slice A1 y3.length c1, .string y4] 31)) hb); have BK1 := Aside0.mk (blk_below (heap_alloc_new w (.cells #[.string y0, .int .i64 y1, .int .i64 y2, .slice A1 y3.length c1, .string y4] 31)) hb); clear hd hb; have hx0 : w1.cell? ⟨w.heap.size, 0, none⟩ = some (.string y0) := (blk_cell BK1.out 0).trans rfl; have hx1 : w1.cell? ⟨w.heap.size, 1, none⟩ = some (.int .i64 y1) := (blk_cell BK1.out 1).trans rfl; have hx2 : w1.cell? ⟨w.heap.size, 2, none⟩ = some (.int .i64 y2) := (blk_cell BK1.out 2).trans rfl; have hx3 : w1.cell? ⟨w.heap.size, 3, none⟩ = some (.slice A1 y3.length c1) := (blk_cell BK1.out 3).trans rfl; have hx4 : w1.cell? ⟨w.heap.size, 4, none⟩ = some (.string y4) := (blk_cell BK1.out 4).trans rfl; clear G_ HBIG)
  | (go_at_call 12; have G_ := HBIG1; refine (satchelkit_BigTree.calls K' (some ⟨w1.heap.size, 0, none⟩) 1 [(⟨y0, y1, y2, y3, y4⟩ : S31)] 1 6000 false _ (row1_C (x := (⟨y0, y1, y2, y3, y4⟩ : S31)) (heap_alloc_new w1 (.cells #[.string y0, .int .i64 y1, .int .i64 y2, .slice A1 y3.length c1, .string y4] 31)) hc1 (Kd.C_below HR1.out (below_alloc HB1.out (.cells #[.string y0, .int .i64 y1, .int .i64 y2, .slice A1 y3.length c1, .string y4] 31)))) (Nat.le_refl _) HBIG1.out).mono ?_; rintro e w2 ⟨rfl, hd⟩; have hb := Drawn0.below hd; have HB2 := Aside0.mk (below_step (below_alloc HB1.out (.cells #[.string y0, .int .i64 y1, .int .i64 y2, .slice A1 y3.length c1, .string y4] 31)) hb); have BK2 := Aside0.mk (blk_below (blk_alloc BK1.out (.cells #[.string y0, .int .i64 y1, .int .i64 y2, .slice A1 y3.length c1, .string y4] 31)) hb); clear hd hb; clear hx0 hx1 hx2 hx3 hx4; have hx0 : w2.cell? ⟨w.heap.size, 0, none⟩ = some (.string y0) := (blk_cell BK2.out 0).trans rfl; have hx1 : w2.cell? ⟨w.heap.size, 1, none⟩ = some (.int .i64 y1) := (blk_cell BK2.out 1).trans rfl; have hx2 : w2.cell? ⟨w.heap.size, 2, none⟩ = some (.int .i64 y2) := (blk_cell BK2.out 2).trans rfl; have hx3 : w2.cell? ⟨w.heap.size, 3, none⟩ = some (.slice A1 y3.length c1) := (blk_cell BK2.out 3).trans rfl; have hx4 : w2.cell? ⟨w.heap.size, 4, none⟩ = some (.string y4) := (blk_cell BK2.out 4).trans rfl; clear G_ HBIG1)
  | (go_at_call 10; refine (satchellaw08_awake.calls k true _ Q7.out).mono ?_; rintro e w15 ⟨rfl, hb⟩; have HB15 := Aside0.mk (below_step HB2.out hb); clear hb))
 go_ret
 exact ⟨rfl, HB15.out⟩
theorem treePuts.walk (A0 : Option Addr) (c0 : Nat) (l0 : List (S31)) (y0 : ByteArray) (y1 y2 : Int) (y3 : List Int) (y4 : ByteArray) (A1 : Option Addr) (c1 : Nat) (p : ByteArray) (w : World) (hr0 : Kd.C k31 w A0 l0.length l0) (hc0 : l0.length ≤ c0) (hf0 : Fits l0) (hr1 : Kd.C (Kd.int .u8) w A1 y3.length y3) (hc1 : y3.length ≤ c1) (hfx : y3.length < 140737488355328) (hp : p.size ≤ maxLen) :
  Calls Try.prog 6 #[.slice A0 l0.length c0, .agg #[.string y0, .int .i64 y1, .int .i64 y2, .slice A1 y3.length c1, .string y4], .string p] w fun e w' => e = .returned (.bool true) ∧ Below w.heap.size w w' := by
 obtain ⟨b, ⟨K, hb⟩, hlen⟩ := big_ev l0 100 6000 (by decide)
 have hK := hb K (Nat.le_refl _)
 obtain ⟨b', ⟨K', hb'⟩, _⟩ := big_ev [(⟨y0, y1, y2, y3, y4⟩ : S31)] 1 6000 (by decide)
 have hK' := hb' K' (Nat.le_refl _)
 cases b with
 | true => exact treePuts.big A0 c0 l0 y0 y1 y2 y3 y4 A1 c1 p w hr0 hc0 hr1 hc1 K hK hp
 | false =>
  cases b' with
  | true => exact treePuts.big1 A0 c0 l0 y0 y1 y2 y3 y4 A1 c1 p w hr0 hc0 hr1 hc1 K hK K' hK' hp
  | false =>
   by_cases h : p.size ≤ 300
   ·exact treePuts.main A0 c0 l0 y0 y1 y2 y3 y4 A1 c1 p w hr0 hc0 hf0 hr1 hc1 hfx h K K' hK hK' (hlen rfl)
   ·exact treePuts.long A0 c0 l0 y0 y1 y2 y3 y4 A1 c1 p w hr0 hc0 hr1 hc1 K hK K' hK' h
end Go.Proofs.Ytopkmchkfcjjmaa.X
end
