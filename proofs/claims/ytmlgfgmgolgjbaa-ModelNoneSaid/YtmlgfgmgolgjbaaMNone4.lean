/- Functions, one behind the other: a plain Lean function for each, and the proof that the call comes to its answer, whatever the world (conditions: what the arguments read as); and plain laws of them. -/
import Derived.Test.YtmlgfgmgolgjbaaMNone3
import Derived.BigRegion
import Derived.Test.YtmlgfgmgolgjbaaMNone2
/-! ## mAwake -/
section
namespace Go.Proofs.Ytmlgfgmgolgjbaa.X
open Go.RowKit Go.Maps Go.Proofs.YtmlgfgmgolgjbaaW.PrintWords Go.Proofs.YtmlgfgmgolgjbaaW.PrintLast Go.Proofs.YtmlgfgmgolgjbaaW.PrintMore
set_option linter.unusedVariables false
set_option linter.unusedSimpArgs false
/-- What the model's step asks, and that a snapshot of the command is there. -/
theorem model_Backup.hit {w0 w : World} {mm mb n : Nat} {C : List Cl} (h : Held w0 w mm mb n C) (hn : n < 1000000) {k cmd tick : Int} (hk : (Lit.int .i64 k).wf = true) (A : Option Addr) (c : Nat) (l : List S89) (hC : Kd.C k89 w A l.length l) (hc : l.length ≤ c) (hf : Fits l) (hl : l.length < 1000000)
  (hfit : fitsV k 1 cmd tick l = 0) {xs : List Sn} {g : Int} (hget : getC C k = (xs, g)) (hg0 : 0 ≤ g) (hg : g < 1000000) (hx : xs.length < 64) {num : Int} (hlast : lastCmd xs cmd = some num) :
  Calls Try.prog 10 #[.pointer (some ⟨mm, 0, none⟩), .int .i64 k, .int .i64 cmd, .int .i64 tick, .slice A l.length c] w fun e w' => e = .returned (.tuple #[.int .i64 num, .int .i64 0]) ∧ Below w.heap.size w w' := by
 have hfit2 : fitsV k (g + 1) cmd tick l = 0 := by
  unfold fitsV at hfit ⊢
  split at hfit
  ·rename_i h1
   rw [if_pos (by omega)]
   exact hfit
  ·cases hfit
 obtain ⟨kf, h1⟩ := fits_ev k 1 cmd tick l
 obtain ⟨kf2, h2⟩ := fits_ev k (g + 1) cmd tick l
 obtain ⟨kc, h3⟩ := mclone_ev l hl hf
 rw [hfit] at h1
 rw [hfit2] at h2
 refine (model_Backup.calls h hn hk A c l hC hc kf kf2 kc (h1 kf (Nat.le_refl _)) hget (h2 kf2 (Nat.le_refl _)) (h3 kc (Nat.le_refl _)) hg0 hg hx).mono ?_
 rintro e w' (⟨num', e1, rfl, hb⟩ | ⟨e1, _⟩)
 ·rw [hlast] at e1
  obtain rfl := Option.some.inj e1
  exact ⟨rfl, hb⟩
 ·rw [hlast] at e1
  cases e1
theorem model_Backup.miss {w0 w : World} {mm mb n : Nat} {C : List Cl} (h : Held w0 w mm mb n C) (hn : n < 1000000) {k cmd tick : Int} (hk : (Lit.int .i64 k).wf = true) (A : Option Addr) (c : Nat) (l : List S89) (hC : Kd.C k89 w A l.length l) (hc : l.length ≤ c) (hf : Fits l) (hl : l.length < 1000000)
  (hfit : fitsV k 1 cmd tick l = 0) {xs : List Sn} {g : Int} (hget : getC C k = (xs, g)) (hg0 : 0 ≤ g) (hg : g < 1000000) (hx : xs.length < 64) (hlast : lastCmd xs cmd = none) :
  Calls Try.prog 10 #[.pointer (some ⟨mm, 0, none⟩), .int .i64 k, .int .i64 cmd, .int .i64 tick, .slice A l.length c] w fun e w' => e = .returned (.tuple #[.int .i64 (g + 1), .int .i64 0]) ∧
   ∃ C', Held w0 w' mm mb (n + 1) C' ∧ getC C' k = (xs ++ [(g + 1, cmd, tick)], g + 1) ∧ (∀ k', k' ≠ k → getC C' k' = getC C k') ∧ Spares mb w w' := by
 have hfit2 : fitsV k (g + 1) cmd tick l = 0 := by
  unfold fitsV at hfit ⊢
  split at hfit
  ·rename_i h1
   rw [if_pos (by omega)]
   exact hfit
  ·cases hfit
 obtain ⟨kf, h1⟩ := fits_ev k 1 cmd tick l
 obtain ⟨kf2, h2⟩ := fits_ev k (g + 1) cmd tick l
 obtain ⟨kc, h3⟩ := mclone_ev l hl hf
 rw [hfit] at h1
 rw [hfit2] at h2
 refine (model_Backup.calls h hn hk A c l hC hc kf kf2 kc (h1 kf (Nat.le_refl _)) hget (h2 kf2 (Nat.le_refl _)) (h3 kc (Nat.le_refl _)) hg0 hg hx).mono ?_
 rintro e w' (⟨num', e1, _⟩ | ⟨_, rfl, r⟩)
 ·rw [hlast] at e1
  cases e1
 ·exact ⟨rfl, r⟩
def sampleT : List S89 := [(⟨(⟨#[97]⟩ : ByteArray), 1, 0, ([] : List Int), (⟨#[]⟩ : ByteArray)⟩ : S89)]
theorem sample_f : satchellaw30_sample.f = some sampleT := rfl
theorem sample_fits : Fits sampleT := fun e he => by
 obtain rfl := List.mem_singleton.1 he
 decide
theorem sample_tree : (treeV sampleT).1 = 0 := by
 have h1 : tree_Check.f 30 sampleT = some (0, 0) := by kernel_rfl
 have h2 := Ev.of_mono (g := fun k => tree_Check.f k sampleT) (fun k => tree_Check.mono sampleT k) h1
 have h3 := Ev.uniq h2 (tree_ev sampleT)
 rw [← h3]
theorem seven : (Lit.int .i64 7).wf = true := by decide
theorem eight : (Lit.int .i64 8).wf = true := by decide
set_option maxRecDepth 100000 in
theorem backs.hit {w0 w : World} {mm mb n : Nat} {C : List Cl} (h : Held w0 w mm mb n C) (hn : n < 1000000) {cmd : Int} (hc1 : 1 ≤ cmd) (hc2 : cmd ≤ 1000) {xs : List Sn} {g : Int} (hget : getC C 7 = (xs, g)) (hg0 : 0 ≤ g) (hg : g < 1000000) (hx : xs.length < 64) {num : Int} (hlast : lastCmd xs cmd = some num) :
  Calls Try.prog 19 #[.pointer (some ⟨mm, 0, none⟩), .int .i64 cmd, .int .i64 num] w fun e w' => e = .returned (.bool true) ∧ Below w.heap.size w w' := by
 have H := Aside0.mk h
 have GET := Aside0.mk hget
 have LAST := Aside0.mk hlast
 have HF : Aside0 (fitsV 7 1 cmd 5 sampleT = 0) := ⟨by unfold fitsV; rw [if_pos (by omega), if_pos sample_tree]⟩
 clear h hget hlast
 go_enter Try.func19, Try.ntmps19
 go_wp2_with (first
  | (go_at_call 36; refine (satchellaw30_sample.calls _ _ sample_f).mono ?_; rintro e w1 ⟨v1, rfl, hS, hb⟩; obtain ⟨A1, c1, rfl⟩ := Kd.R_slice (Kd.S_R hS); have R1 := Aside0.mk (Kd.R_reads' (Kd.S_R hS)); have B1 := Aside0.mk hb; clear hS hb)
  | (go_at_call 10; refine (model_Backup.hit (H.out.after B1.out) hn seven A1 c1 sampleT R1.out.2.2 R1.out.2.1 sample_fits (by decide) HF.out GET.out hg0 hg hx LAST.out).mono ?_; rintro e w2 ⟨rfl, hb⟩; have B2 := Aside0.mk (below_step B1.out hb); clear hb))
 go_ret
 exact ⟨by simp, B2.out⟩
set_option maxRecDepth 100000 in
theorem backs.miss {w0 w : World} {mm mb n : Nat} {C : List Cl} (h : Held w0 w mm mb n C) (hn : n < 1000000) {cmd : Int} (hc1 : 1 ≤ cmd) (hc2 : cmd ≤ 1000) {xs : List Sn} {g : Int} (hget : getC C 7 = (xs, g)) (hg0 : 0 ≤ g) (hg : g < 1000000) (hx : xs.length < 64) (hlast : lastCmd xs cmd = none) :
  Calls Try.prog 19 #[.pointer (some ⟨mm, 0, none⟩), .int .i64 cmd, .int .i64 (g + 1)] w fun e w' => e = .returned (.bool true) ∧
   ∃ C', Held w0 w' mm mb (n + 1) C' ∧ getC C' 7 = (xs ++ [(g + 1, cmd, 5)], g + 1) ∧ (∀ k', k' ≠ 7 → getC C' k' = getC C k') := by
 have H := Aside0.mk h
 have GET := Aside0.mk hget
 have LAST := Aside0.mk hlast
 have HF : Aside0 (fitsV 7 1 cmd 5 sampleT = 0) := ⟨by unfold fitsV; rw [if_pos (by omega), if_pos sample_tree]⟩
 clear h hget hlast
 go_enter Try.func19, Try.ntmps19
 go_wp2_with (first
  | (go_at_call 36; refine (satchellaw30_sample.calls _ _ sample_f).mono ?_; rintro e w1 ⟨v1, rfl, hS, hb⟩; obtain ⟨A1, c1, rfl⟩ := Kd.R_slice (Kd.S_R hS); have R1 := Aside0.mk (Kd.R_reads' (Kd.S_R hS)); have B1 := Aside0.mk hb; clear hS hb)
  | (go_at_call 10; refine (model_Backup.miss (H.out.after B1.out) hn seven A1 c1 sampleT R1.out.2.2 R1.out.2.1 sample_fits (by decide) HF.out GET.out hg0 hg hx LAST.out).mono ?_; rintro e w2 ⟨rfl, C', hH, g1, g2, _⟩; have HH := Aside0.mk hH; have G1 := Aside0.mk g1; have G2 := Aside0.mk g2; clear hH g1 g2))
 go_ret
 exact ⟨by simp, C', HH.out, G1.out, G2.out⟩
/-- A row of two of what is listed, read out of its block. -/
theorem row2_L {W : World} {g : Nat} (a b : S61) (h : W.heap[g]? = some (.cells #[.int .i64 a.f0, .int .i64 a.f1, .int .i64 a.f2, .bool a.f3, .int .i64 b.f0, .int .i64 b.f1, .int .i64 b.f2, .bool b.f3] 61 (0, 0))) : Kd.C k61 W (some ⟨g, 0, none⟩) 2 [a, b] := by
 refine ⟨rfl, by decide, fun _ => ⟨⟨g, 0, none⟩, rfl, fun j p hj => ?_⟩⟩
 have key : ∀ n, W.cell? ((⟨g, 0, none⟩ : Addr).add n) = (#[.int .i64 a.f0, .int .i64 a.f1, .int .i64 a.f2, .bool a.f3, .int .i64 b.f0, .int .i64 b.f1, .int .i64 b.f2, .bool b.f3] : Array Value)[n]? := by
  intro n
  have e : (⟨g, 0, none⟩ : Addr).add n = ⟨g, n, none⟩ := by
   unfold Addr.add
   split
   ·rename_i h0; rw [h0]
   ·simp
  rw [e]
  exact blk_cell h n
 match j with
 | 0 =>
  obtain rfl := Option.some.inj hj
  refine ⟨[.int .i64 a.f0, .int .i64 a.f1, .int .i64 a.f2, .bool a.f3], rfl, k61_mk W a, fun i u hu => ?_⟩
  show W.cell? ((⟨g, 0, none⟩ : Addr).add (_ * 4 + i)) = some u
  rw [key]
  match i with
  | 0 => exact hu
  | 1 => exact hu
  | 2 => exact hu
  | 3 => exact hu
  | i + 4 => simp at hu
 | 1 =>
  obtain rfl := Option.some.inj hj
  refine ⟨[.int .i64 b.f0, .int .i64 b.f1, .int .i64 b.f2, .bool b.f3], rfl, k61_mk W b, fun i u hu => ?_⟩
  show W.cell? ((⟨g, 0, none⟩ : Addr).add (_ * 4 + i)) = some u
  rw [key]
  match i with
  | 0 => exact hu
  | 1 => exact hu
  | 2 => exact hu
  | 3 => exact hu
  | i + 4 => simp at hu
 | j + 2 => cases hj
theorem backs.miss' {w0 w : World} {mm mb n : Nat} {C : List Cl} (h : Held w0 w mm mb n C) (hn : n < 1000000) {cmd num : Int} (hc1 : 1 ≤ cmd) (hc2 : cmd ≤ 1000) {xs : List Sn} {g : Int} (hget : getC C 7 = (xs, g)) (hg0 : 0 ≤ g) (hg : g < 1000000) (hx : xs.length < 64) (hlast : lastCmd xs cmd = none) (hnum : g + 1 = num) :
  Calls Try.prog 19 #[.pointer (some ⟨mm, 0, none⟩), .int .i64 cmd, .int .i64 num] w fun e w' => e = .returned (.bool true) ∧
   ∃ C', Held w0 w' mm mb (n + 1) C' ∧ getC C' 7 = (xs ++ [(num, cmd, 5)], num) ∧ (∀ k', k' ≠ 7 → getC C' k' = getC C k') := by
 subst hnum
 exact backs.miss h hn hc1 hc2 hget hg0 hg hx hlast
set_option maxHeartbeats 1000000 in
set_option maxRecDepth 100000 in
theorem awake.calls (w : World) : Calls Try.prog 7 #[] w fun e w' => e = .returned (.bool true) ∧ Below w.heap.size w w' := by
 obtain ⟨ks, hks⟩ := same_ev [(⟨1, 5, 3, true⟩ : S61), ⟨2, 5, 4, true⟩] (by decide)
 have SAME := Aside0.mk (hks ks (Nat.le_refl _))
 clear hks
 have GATE1 := Aside0.mk True.intro
 go_enter Try.func7, Try.ntmps7
 go_wp2_with (first
  | (go_at_call 8; have G_ := GATE1; refine (model_New.calls _).mono ?_; rintro e w1 ⟨rfl, hw⟩; have H1 := Aside0.mk (hw ▸ Held.new (Below.refl w.heap.size w)); clear hw G_ GATE1)
  | (go_at_call 19; have G_ := H1; refine (backs.miss' H1.out (by decide) (by decide) (by decide) (xs := []) (g := 0) rfl (by decide) (by decide) (by decide) rfl rfl).mono ?_; rintro e w2 ⟨rfl, C2, hH, g1, g2⟩; have H2 := Aside0.mk hH; have G12 := Aside0.mk g1; have G22 := Aside0.mk g2; clear hH g1 g2 G_ H1)
  | (go_at_call 19; have G_ := H2; refine (backs.hit H2.out (by decide) (by decide) (by decide) G12.out (by decide) (by decide) (by decide) (num := 1) rfl).mono ?_; rintro e w3 ⟨rfl, hb⟩; have H3 := Aside0.mk (H2.out.after hb); clear hb G_ H2)
  | (go_at_call 19; have G_ := H3; refine (backs.miss' H3.out (by decide) (by decide) (by decide) G12.out (by decide) (by decide) (by decide) rfl rfl).mono ?_; rintro e w4 ⟨rfl, C4, hH, g1, g2⟩; have H4 := Aside0.mk hH; have G14 := Aside0.mk g1; have G24 := Aside0.mk (show getC C4 8 = ([], 0) from (g2 8 (by decide)).trans (G22.out 8 (by decide))); clear hH g1 g2 G_ H3)
  | (go_at_call 11; refine (model_List.calls H4.out seven G14.out (by decide)).mono ?_; rintro e w5 ⟨v5, rfl, hR, hb⟩; obtain ⟨A5, c5, rfl⟩ := Kd.R_slice hR; have R5 := Aside0.mk (Kd.R_reads' hR); have H5 := Aside0.mk (H4.out.after hb); clear hR hb)
  | (go_at_call 12; refine (satchelkit_SameListed.calls ks A5 c5 [(⟨1, 5, 3, true⟩ : S61), ⟨2, 5, 4, true⟩] _ 2 [(⟨1, 5, 3, true⟩ : S61), ⟨2, 5, 4, true⟩] true _ (Kd.C_alloc R5.out.2.2 _) R5.out.2.1 (row2_L ⟨1, 5, 3, true⟩ ⟨2, 5, 4, true⟩ (heap_alloc_new w5 _)) (Nat.le_refl _) SAME.out).mono ?_; rintro e w6 ⟨rfl, hd⟩; have H6 := Aside0.mk (H5.out.after (below_step (below_alloc (Below.refl _ w5) _) (Drawn0.below hd))); clear hd)
  | (go_at_call 17; refine (model_Greatest.calls H6.out eight G24.out).mono ?_; rintro e w7 ⟨rfl, hb⟩; have H7 := Aside0.mk (H6.out.after hb); clear hb))
 go_ret
 exact ⟨rfl, H7.out.below⟩
end Go.Proofs.Ytmlgfgmgolgjbaa.X
end

/-! ## mWalkAgain -/
section
namespace Go.Proofs.Ytmlgfgmgolgjbaa.X
open Go.RowKit Go.Maps Go.Proofs.YtmlgfgmgolgjbaaW.PrintWords Go.Proofs.YtmlgfgmgolgjbaaW.PrintLast Go.Proofs.YtmlgfgmgolgjbaaW.PrintMore
set_option linter.unusedVariables false
set_option linter.unusedSimpArgs false
structure ActIn (x : S31) : Prop where
 client : (Lit.int .i64 x.f1).wf = true
 tree : Fits x.f5
end Go.Proofs.Ytmlgfgmgolgjbaa.X
end

/-! ## mOpenAct -/
section
namespace Go.Proofs.Ytmlgfgmgolgjbaa.X
open Go.ChangeShapes Go.WideShapes Go.ChangeAt Go.RowKit Go.Proofs.YtmlgfgmgolgjbaaW.PrintWords Go.Proofs.YtmlgfgmgolgjbaaW.PrintLast Go.Proofs.YtmlgfgmgolgjbaaW.PrintMore Go.Deep
set_option linter.unusedVariables false
set_option linter.unusedSimpArgs false
variable {H : Type} {enc : TypeId × Value → H} {W : World} {spare : Nat → Bool} {held : Bool}
theorem fits_of {l : List (S89)} (h : ∀ e ∈ l, EntryIn e) : Fits l := fun e he => Nat.lt_of_le_of_lt (h e he).data (by decide)
set_option maxRecDepth 100000 in
theorem opens_policy {fuel : Nat} {cs : List Value} {y : DataW H × List MemPlace} (h : DataW.trod enc Try.prog W 0 spare held fuel 29 cs = some y) : ∃ x : S29, cs = [.int .i64 x.f0, .int .i64 x.f1, .int .i64 x.f2] := by
 obtain ⟨xs, n, rfl, rfl, hcs, hxs, hf⟩ := DataW.trod_struct Try.underlying29 h
 have hcl : cs.length = 3 := hcs
 have at_ : ∀ i (hi : i < 3), ∃ y, xs[i]? = some y := fun i hi => ⟨xs[i]'(by rw [hxs]; exact hi), List.getElem?_eq_getElem _⟩
 match cs, hcl with
 | [c0, c1, c2], _ =>
  obtain ⟨y0, e0⟩ := at_ 0 (by decide)
  obtain ⟨y1, e1⟩ := at_ 1 (by decide)
  obtain ⟨y2, e2⟩ := at_ 2 (by decide)
  obtain ⟨z0, h0, _, w0⟩ := DataW.trod_int Try.underlying3 ((hf 0 _ rfl).trans e0)
  obtain ⟨z1, h1, _, w1⟩ := DataW.trod_int Try.underlying3 ((hf 1 _ rfl).trans e1)
  obtain ⟨z2, h2, _, w2⟩ := DataW.trod_int Try.underlying3 ((hf 2 _ rfl).trans e2)
  have q0 : [c0] = [.int .i64 z0] := h0
  have q1 : [c1] = [.int .i64 z1] := h1
  have q2 : [c2] = [.int .i64 z2] := h2
  obtain rfl := (List.cons.inj q0).1
  obtain rfl := (List.cons.inj q1).1
  obtain rfl := (List.cons.inj q2).1
  exact ⟨⟨z0, z1, z2⟩, rfl⟩
set_option maxRecDepth 100000 in
theorem opens_act {fuel : Nat} {cs : List Value} {y : DataW H × List MemPlace} (h : DataW.trod enc Try.prog W 0 spare held fuel 31 cs = some y) :
  ∃ x, k31.K W x cs ∧ ((∀ n ∈ y.1.weights Try.prog 31, n ≤ reachBytes) → ActIn x) := by
 obtain ⟨xs, n, rfl, rfl, hcs, hxs, hf⟩ := DataW.trod_struct Try.underlying31 h
 have hcl : cs.length = 9 := hcs
 have at_ : ∀ i (hi : i < 7), ∃ y, xs[i]? = some y := fun i hi => ⟨xs[i]'(by rw [hxs]; exact hi), List.getElem?_eq_getElem _⟩
 match cs, hcl with
 | [c0, c1, c2, c3, c4, c5, c6, c7, c8], _ =>
  obtain ⟨y0, e0⟩ := at_ 0 (by decide)
  obtain ⟨y1, e1⟩ := at_ 1 (by decide)
  obtain ⟨y2, e2⟩ := at_ 2 (by decide)
  obtain ⟨y3, e3⟩ := at_ 3 (by decide)
  obtain ⟨y4, e4⟩ := at_ 4 (by decide)
  obtain ⟨y5, e5⟩ := at_ 5 (by decide)
  obtain ⟨y6, e6⟩ := at_ 6 (by decide)
  obtain ⟨z0, h0, _, w0⟩ := DataW.trod_int Try.underlying3 ((hf 0 _ rfl).trans e0)
  obtain ⟨z1, h1, _, w1⟩ := DataW.trod_int Try.underlying3 ((hf 1 _ rfl).trans e1)
  obtain ⟨z2, h2, _, w2⟩ := DataW.trod_int Try.underlying3 ((hf 2 _ rfl).trans e2)
  obtain ⟨z3, h3, _, w3⟩ := DataW.trod_int Try.underlying3 ((hf 3 _ rfl).trans e3)
  obtain ⟨z4, h4, _, w4⟩ := DataW.trod_int Try.underlying3 ((hf 4 _ rfl).trans e4)
  obtain ⟨A5, len5, cap5, l5, h5, hle5, _, hl5, hC5, _, hin5⟩ := opens_entries ((hf 5 _ rfl).trans e5)
  obtain ⟨p6, h6⟩ := opens_policy ((hf 6 _ rfl).trans e6)
  have q0 : [c0] = [.int .i64 z0] := h0
  have q1 : [c1] = [.int .i64 z1] := h1
  have q2 : [c2] = [.int .i64 z2] := h2
  have q3 : [c3] = [.int .i64 z3] := h3
  have q4 : [c4] = [.int .i64 z4] := h4
  have q5 : [c5] = [.slice A5 len5 cap5] := h5
  have q6 : [c6, c7, c8] = [.int .i64 p6.f0, .int .i64 p6.f1, .int .i64 p6.f2] := h6
  obtain rfl := (List.cons.inj q0).1
  obtain rfl := (List.cons.inj q1).1
  obtain rfl := (List.cons.inj q2).1
  obtain rfl := (List.cons.inj q3).1
  obtain rfl := (List.cons.inj q4).1
  obtain rfl := (List.cons.inj q5).1
  obtain ⟨rfl, q7⟩ := List.cons.inj q6
  obtain ⟨rfl, q8⟩ := List.cons.inj q7
  obtain rfl := (List.cons.inj q8).1
  subst hl5
  refine ⟨⟨z0, z1, z2, z3, z4, l5, p6⟩, k31_mk W ⟨z0, z1, z2, z3, z4, l5, p6⟩ hle5 hC5, fun hw => ⟨w1, fits_of (hin5 (fun n hn => hw n ?_))⟩⟩
  simp only [DataW.weights, Try.underlying31]
  exact DataW.weights_mem_each (j := 5) (ts := [3, 3, 3, 3, 3, 27, 29]) rfl (by rw [List.getElem?_map, e5]; rfl) n hn
end Go.Proofs.Ytmlgfgmgolgjbaa.X
end

/-! ## mNoModel -/
section
namespace Go.Proofs.Ytmlgfgmgolgjbaa.X
open Go.RowKit Go.Maps Go.Proofs.YtmlgfgmgolgjbaaW.PrintWords Go.Proofs.YtmlgfgmgolgjbaaW.PrintLast Go.Proofs.YtmlgfgmgolgjbaaW.PrintMore
set_option linter.unusedVariables false
set_option linter.unusedSimpArgs false
/-- A model that is none: nil, or not made. -/
def NoModel (w : World) (v : Value) : Prop := v = .pointer none ∨ ∃ b : Nat, v = .pointer (some ⟨b, 0, none⟩) ∧ w.heap[b]? = some (.cells #[.map none] 40 (0, 0))
theorem NoModel.below {w w' : World} {v : Value} (h : NoModel w v) (hb : Below w.heap.size w w') : NoModel w' v := by
 rcases h with rfl | ⟨b, rfl, h⟩
 ·exact .inl rfl
 ·exact .inr ⟨b, rfl, blk_below h hb⟩
theorem no_none {w : World} {v : Value} (h : NoModel w v) : Calls Try.prog 26 #[v] w fun e w' => e = .returned (.bool true) ∧ w' = w := by
 rcases h with rfl | ⟨b, rfl, h⟩
 ·exact model_none.nil w
 ·exact model_none.unmade b w h
set_option maxRecDepth 100000 in
theorem no_Take {w : World} {v : Value} (h : NoModel w v) (a b c d : Int) (A : Option Addr) (n m : Nat) : Calls Try.prog 15 #[v, .int .i64 a, .int .i64 b, .int .i64 c, .int .i64 d, .slice A n m] w fun e w' => e = .returned (.int .i64 1) ∧ w' = w := by
 have H := Aside0.mk h
 clear h
 go_enter Try.func15, Try.ntmps15
 go_wp2_with (go_at_call 26; refine (no_none H.out).mono ?_; rintro e w1 ⟨rfl, hw⟩; obtain rfl : w = w1 := hw.symm; clear hw)
 go_ret
 exact ⟨rfl, rfl⟩
set_option maxRecDepth 100000 in
theorem no_Forget {w : World} {v : Value} (h : NoModel w v) (a b : Int) : Calls Try.prog 16 #[v, .int .i64 a, .int .i64 b] w fun e w' => e = .returned (.int .i64 1) ∧ w' = w := by
 have H := Aside0.mk h
 clear h
 go_enter Try.func16, Try.ntmps16
 go_wp2_with (go_at_call 26; refine (no_none H.out).mono ?_; rintro e w1 ⟨rfl, hw⟩; obtain rfl : w = w1 := hw.symm; clear hw)
 go_ret
 exact ⟨rfl, rfl⟩
set_option maxRecDepth 100000 in
theorem no_Get {w : World} {v : Value} (h : NoModel w v) (a b : Int) : Calls Try.prog 14 #[v, .int .i64 a, .int .i64 b] w fun e w' => e = .returned (.tuple #[.slice none 0 0, .int .i64 1]) ∧ w' = w := by
 have H := Aside0.mk h
 clear h
 go_enter Try.func14, Try.ntmps14
 go_wp2_with (go_at_call 26; refine (no_none H.out).mono ?_; rintro e w1 ⟨rfl, hw⟩; obtain rfl : w = w1 := hw.symm; clear hw)
 go_ret2
 exact ⟨rfl, rfl⟩
set_option maxRecDepth 100000 in
theorem no_List {w : World} {v : Value} (h : NoModel w v) (a : Int) : Calls Try.prog 11 #[v, .int .i64 a] w fun e w' => e = .returned (.slice none 0 0) ∧ w' = w := by
 have H := Aside0.mk h
 clear h
 go_enter Try.func11, Try.ntmps11
 go_wp2_with (go_at_call 26; refine (no_none H.out).mono ?_; rintro e w1 ⟨rfl, hw⟩; obtain rfl : w = w1 := hw.symm; clear hw)
 go_ret
 exact ⟨rfl, rfl⟩
set_option maxRecDepth 100000 in
theorem no_Greatest {w : World} {v : Value} (h : NoModel w v) (a : Int) : Calls Try.prog 17 #[v, .int .i64 a] w fun e w' => e = .returned (.int .i64 0) ∧ w' = w := by
 have H := Aside0.mk h
 clear h
 go_enter Try.func17, Try.ntmps17
 go_wp2_with (go_at_call 26; refine (no_none H.out).mono ?_; rintro e w1 ⟨rfl, hw⟩; obtain rfl : w = w1 := hw.symm; clear hw)
 go_ret
 exact ⟨rfl, rfl⟩
set_option maxRecDepth 100000 in
theorem no_Clients {w : World} {v : Value} (h : NoModel w v)  : Calls Try.prog 18 #[v] w fun e w' => e = .returned (.slice none 0 0) ∧ w' = w := by
 have H := Aside0.mk h
 clear h
 go_enter Try.func18, Try.ntmps18
 go_wp2_with (go_at_call 26; refine (no_none H.out).mono ?_; rintro e w1 ⟨rfl, hw⟩; obtain rfl : w = w1 := hw.symm; clear hw)
 go_ret
 exact ⟨rfl, rfl⟩
set_option maxRecDepth 100000 in
theorem no_Expire {w : World} {v : Value} (h : NoModel w v) (a p q r : Int) : Calls Try.prog 13 #[v, .int .i64 a, .agg #[.int .i64 p, .int .i64 q, .int .i64 r]] w fun e w' => e = .returned (.tuple #[.slice none 0 0, .int .i64 1]) ∧ Below w.heap.size w w' := by
 have H := Aside0.mk h
 clear h
 go_enter Try.func13, Try.ntmps13
 have hb0 : Aside0 (Below w.heap.size w (w.alloc (.cells #[.int .i64 p, .int .i64 q, .int .i64 r] 29))) := ⟨below_alloc (Below.refl _ w) _⟩
 go_wp2_with (go_at_call 26; refine (no_none (H.out.below hb0.out)).mono ?_; rintro e w1 ⟨rfl, rfl⟩)
 go_ret2
 exact ⟨rfl, hb0.out⟩
set_option maxRecDepth 100000 in
theorem no_Backup {w : World} {v : Value} (h : NoModel w v) (a b c : Int) (A : Option Addr) (n m : Nat) : Calls Try.prog 10 #[v, .int .i64 a, .int .i64 b, .int .i64 c, .slice A n m] w fun e w' => e = .returned (.tuple #[.int .i64 0, .int .i64 1]) ∧ Below w.heap.size w w' := by
 have H := Aside0.mk h
 clear h
 go_enter Try.func10, Try.ntmps10
 have h3 := Aside0.mk (three_new w (.cells #[.int .i64 b] 3) (.cells #[.int .i64 0] 3) (.cells #[.int .i64 0] 32))
 have hB3 : Aside0 (Below w.heap.size w (((w.alloc (.cells #[.int .i64 b] 3)).alloc (.cells #[.int .i64 0] 3)).alloc (.cells #[.int .i64 0] 32))) := ⟨(((Below.refl _ w).alloc (Nat.le_refl _) _).alloc (by simp) _).alloc (by simp; omega) _⟩
 have hc1 : (((w.alloc (.cells #[.int .i64 b] 3)).alloc (.cells #[.int .i64 0] 3)).alloc (.cells #[.int .i64 0] 32)).cell? ⟨w.heap.size + 1, 0, none⟩ = some (.int .i64 0) := (blk_cell h3.out.2.1 0).trans rfl
 have hc2 : (((w.alloc (.cells #[.int .i64 b] 3)).alloc (.cells #[.int .i64 0] 3)).alloc (.cells #[.int .i64 0] 32)).cell? ⟨w.heap.size + 1 + 1, 0, none⟩ = some (.int .i64 0) := (blk_cell h3.out.2.2 0).trans rfl
 have hf1 : (((w.alloc (.cells #[.int .i64 b] 3)).alloc (.cells #[.int .i64 0] 3)).alloc (.cells #[.int .i64 0] 32)).frozen? ⟨w.heap.size + 1, 0, none⟩ = false := blk_frozen h3.out.2.1 0
 have hf2 : (((w.alloc (.cells #[.int .i64 b] 3)).alloc (.cells #[.int .i64 0] 3)).alloc (.cells #[.int .i64 0] 32)).frozen? ⟨w.heap.size + 1 + 1, 0, none⟩ = false := blk_frozen h3.out.2.2 0
 go_wp2_with (go_at_call 26; refine (no_none (H.out.below hB3.out)).mono ?_; rintro e w1 ⟨rfl, rfl⟩)
 exact bodyPost_ret (v := .tuple #[.int .i64 0, .int .i64 1]) (by simp [results, Try.results10, go_sem, hc1, hc2, hf1, hf2]) rfl ⟨rfl, (((Below.refl _ w).alloc (Nat.le_refl _) _).alloc (by simp) _).alloc (by simp; omega) _⟩
end Go.Proofs.Ytmlgfgmgolgjbaa.X
end

/-! ## mWalkNone -/
section
namespace Go.Proofs.Ytmlgfgmgolgjbaa.X
open Go.RowKit Go.Maps Go.Proofs.YtmlgfgmgolgjbaaW.PrintWords Go.Proofs.YtmlgfgmgolgjbaaW.PrintLast Go.Proofs.YtmlgfgmgolgjbaaW.PrintMore
set_option linter.unusedVariables false
set_option linter.unusedSimpArgs false
/-- A row of one call, read out of its block. -/
theorem row1_A {W : World} {g : Nat} {x : S31} {A5 : Option Addr} {c5 : Nat} (h : W.heap[g]? = some (.cells #[.int .i64 x.f0, .int .i64 x.f1, .int .i64 x.f2, .int .i64 x.f3, .int .i64 x.f4, .slice A5 x.f5.length c5, .int .i64 x.f6.f0, .int .i64 x.f6.f1, .int .i64 x.f6.f2] 31 (0, 0))) (hl : x.f5.length ≤ c5) (hr : Kd.C k89 W A5 x.f5.length x.f5) : Kd.C k31 W (some ⟨g, 0, none⟩) 1 [x] := by
 refine ⟨rfl, by decide, fun _ => ⟨⟨g, 0, none⟩, rfl, fun j p hj => ?_⟩⟩
 match j with
 | 0 =>
  obtain rfl := Option.some.inj hj
  refine ⟨_, rfl, k31_mk W x hl hr, fun i u hu => ?_⟩
  have e : (⟨g, 0, none⟩ : Addr).add (0 * 9 + i) = ⟨g, i, none⟩ := by
   rw [Nat.zero_mul, Nat.zero_add]
   unfold Addr.add
   split
   ·rename_i h0; rw [h0]
   ·simp
  show W.cell? ((⟨g, 0, none⟩ : Addr).add (0 * 9 + i)) = some u
  rw [e, blk_cell h i, ← hu]
  simp
 | j + 1 => cases hj
set_option maxHeartbeats 2000000 in
set_option maxRecDepth 100000 in
theorem modelNone.long (x : S31) (A5 : Option Addr) (c5 : Nat) (w : World) (hr5 : Kd.C k89 w A5 x.f5.length x.f5) (hc5 : x.f5.length ≤ c5) (K : Nat) (hK : satchellaw30_long.f K [x] = some true) : Calls Try.prog 4 #[.agg #[.int .i64 x.f0, .int .i64 x.f1, .int .i64 x.f2, .int .i64 x.f3, .int .i64 x.f4, .slice A5 x.f5.length c5, .int .i64 x.f6.f0, .int .i64 x.f6.f1, .int .i64 x.f6.f2]] w fun e w' => e = .returned (.bool true) ∧ Below w.heap.size w w' := by
 have HR5 := Aside0.mk hr5
 have LG := Aside0.mk hK
 have HN0 : Aside0 (((w.alloc (.cells #[.int .i64 x.f0, .int .i64 x.f1, .int .i64 x.f2, .int .i64 x.f3, .int .i64 x.f4, .slice A5 x.f5.length c5, .int .i64 x.f6.f0, .int .i64 x.f6.f1, .int .i64 x.f6.f2] 31)).alloc (.cells #[.int .i64 x.f0, .int .i64 x.f1, .int .i64 x.f2, .int .i64 x.f3, .int .i64 x.f4, .slice A5 x.f5.length c5, .int .i64 x.f6.f0, .int .i64 x.f6.f1, .int .i64 x.f6.f2] 31)).heap[w.heap.size + 1]? = some (.cells #[.int .i64 x.f0, .int .i64 x.f1, .int .i64 x.f2, .int .i64 x.f3, .int .i64 x.f4, .slice A5 x.f5.length c5, .int .i64 x.f6.f0, .int .i64 x.f6.f1, .int .i64 x.f6.f2] 31 (0, 0))) := ⟨by have h_ := heap_alloc_new (w.alloc (.cells #[.int .i64 x.f0, .int .i64 x.f1, .int .i64 x.f2, .int .i64 x.f3, .int .i64 x.f4, .slice A5 x.f5.length c5, .int .i64 x.f6.f0, .int .i64 x.f6.f1, .int .i64 x.f6.f2] 31)) (.cells #[.int .i64 x.f0, .int .i64 x.f1, .int .i64 x.f2, .int .i64 x.f3, .int .i64 x.f4, .slice A5 x.f5.length c5, .int .i64 x.f6.f0, .int .i64 x.f6.f1, .int .i64 x.f6.f2] 31); rw [World.size_alloc] at h_; exact h_⟩
 clear hr5 hK
 go_enter Try.func4, Try.ntmps4
 go_wp2_with (first
  | (go_at_call 9; refine (satchellaw30_long.calls K (some ⟨w.heap.size + 1, 0, none⟩) 1 [x] true _ (row1_A (x := x) HN0.out hc5 (Kd.C_alloc (Kd.C_alloc HR5.out (.cells #[.int .i64 x.f0, .int .i64 x.f1, .int .i64 x.f2, .int .i64 x.f3, .int .i64 x.f4, .slice A5 x.f5.length c5, .int .i64 x.f6.f0, .int .i64 x.f6.f1, .int .i64 x.f6.f2] 31)) (.cells #[.int .i64 x.f0, .int .i64 x.f1, .int .i64 x.f2, .int .i64 x.f3, .int .i64 x.f4, .slice A5 x.f5.length c5, .int .i64 x.f6.f0, .int .i64 x.f6.f1, .int .i64 x.f6.f2] 31))) (Nat.le_refl _) LG.out).mono ?_; rintro e w1 ⟨rfl, hd⟩; have B1 := Aside0.mk (below_step (below_alloc (below_alloc (Below.refl _ w) (.cells #[.int .i64 x.f0, .int .i64 x.f1, .int .i64 x.f2, .int .i64 x.f3, .int .i64 x.f4, .slice A5 x.f5.length c5, .int .i64 x.f6.f0, .int .i64 x.f6.f1, .int .i64 x.f6.f2] 31)) (.cells #[.int .i64 x.f0, .int .i64 x.f1, .int .i64 x.f2, .int .i64 x.f3, .int .i64 x.f4, .slice A5 x.f5.length c5, .int .i64 x.f6.f0, .int .i64 x.f6.f1, .int .i64 x.f6.f2] 31)) (Drawn0.below hd)); clear hd)
  | (go_at_call 7; refine (awake.calls _).mono ?_; rintro e w2 ⟨rfl, hb⟩; have B2 := Aside0.mk (below_step B1.out hb); clear hb))
 go_ret
 exact ⟨rfl, B2.out⟩
set_option maxHeartbeats 4000000 in
set_option maxRecDepth 100000 in
theorem modelNone.main (x : S31) (A5 : Option Addr) (c5 : Nat) (w : World) (hr5 : Kd.C k89 w A5 x.f5.length x.f5) (hc5 : x.f5.length ≤ c5) (K : Nat) (hK : satchellaw30_long.f K [x] = some false) : Calls Try.prog 4 #[.agg #[.int .i64 x.f0, .int .i64 x.f1, .int .i64 x.f2, .int .i64 x.f3, .int .i64 x.f4, .slice A5 x.f5.length c5, .int .i64 x.f6.f0, .int .i64 x.f6.f1, .int .i64 x.f6.f2]] w fun e w' => e = .returned (.bool true) ∧ Below w.heap.size w w' := by
 have HR5 := Aside0.mk hr5
 have LG := Aside0.mk hK
 have HN0 : Aside0 (((w.alloc (.cells #[.int .i64 x.f0, .int .i64 x.f1, .int .i64 x.f2, .int .i64 x.f3, .int .i64 x.f4, .slice A5 x.f5.length c5, .int .i64 x.f6.f0, .int .i64 x.f6.f1, .int .i64 x.f6.f2] 31)).alloc (.cells #[.int .i64 x.f0, .int .i64 x.f1, .int .i64 x.f2, .int .i64 x.f3, .int .i64 x.f4, .slice A5 x.f5.length c5, .int .i64 x.f6.f0, .int .i64 x.f6.f1, .int .i64 x.f6.f2] 31)).heap[w.heap.size + 1]? = some (.cells #[.int .i64 x.f0, .int .i64 x.f1, .int .i64 x.f2, .int .i64 x.f3, .int .i64 x.f4, .slice A5 x.f5.length c5, .int .i64 x.f6.f0, .int .i64 x.f6.f1, .int .i64 x.f6.f2] 31 (0, 0))) := ⟨by have h_ := heap_alloc_new (w.alloc (.cells #[.int .i64 x.f0, .int .i64 x.f1, .int .i64 x.f2, .int .i64 x.f3, .int .i64 x.f4, .slice A5 x.f5.length c5, .int .i64 x.f6.f0, .int .i64 x.f6.f1, .int .i64 x.f6.f2] 31)) (.cells #[.int .i64 x.f0, .int .i64 x.f1, .int .i64 x.f2, .int .i64 x.f3, .int .i64 x.f4, .slice A5 x.f5.length c5, .int .i64 x.f6.f0, .int .i64 x.f6.f1, .int .i64 x.f6.f2] 31); rw [World.size_alloc] at h_; exact h_⟩
 clear hr5 hK
 go_enter Try.func4, Try.ntmps4
 go_wp2_with (go_at_call 9; refine (satchellaw30_long.calls K (some ⟨w.heap.size + 1, 0, none⟩) 1 [x] false _ (row1_A (x := x) HN0.out hc5 (Kd.C_alloc (Kd.C_alloc HR5.out (.cells #[.int .i64 x.f0, .int .i64 x.f1, .int .i64 x.f2, .int .i64 x.f3, .int .i64 x.f4, .slice A5 x.f5.length c5, .int .i64 x.f6.f0, .int .i64 x.f6.f1, .int .i64 x.f6.f2] 31)) (.cells #[.int .i64 x.f0, .int .i64 x.f1, .int .i64 x.f2, .int .i64 x.f3, .int .i64 x.f4, .slice A5 x.f5.length c5, .int .i64 x.f6.f0, .int .i64 x.f6.f1, .int .i64 x.f6.f2] 31))) (Nat.le_refl _) LG.out).mono ?_; rintro e w1 ⟨rfl, hd⟩; have B1 := Aside0.mk (below_step (below_alloc (below_alloc (Below.refl _ w) (.cells #[.int .i64 x.f0, .int .i64 x.f1, .int .i64 x.f2, .int .i64 x.f3, .int .i64 x.f4, .slice A5 x.f5.length c5, .int .i64 x.f6.f0, .int .i64 x.f6.f1, .int .i64 x.f6.f2] 31)) (.cells #[.int .i64 x.f0, .int .i64 x.f1, .int .i64 x.f2, .int .i64 x.f3, .int .i64 x.f4, .slice A5 x.f5.length c5, .int .i64 x.f6.f0, .int .i64 x.f6.f1, .int .i64 x.f6.f2] 31)) (Drawn0.below hd)); have BX0 := Aside0.mk (blk_below (blk_alloc (heap_alloc_new w (.cells #[.int .i64 x.f0, .int .i64 x.f1, .int .i64 x.f2, .int .i64 x.f3, .int .i64 x.f4, .slice A5 x.f5.length c5, .int .i64 x.f6.f0, .int .i64 x.f6.f1, .int .i64 x.f6.f2] 31)) (.cells #[.int .i64 x.f0, .int .i64 x.f1, .int .i64 x.f2, .int .i64 x.f3, .int .i64 x.f4, .slice A5 x.f5.length c5, .int .i64 x.f6.f0, .int .i64 x.f6.f1, .int .i64 x.f6.f2] 31)) (Drawn0.below hd)); clear hd)
 have MD3 := Aside0.mk (blk_alloc (heap_alloc_new w1 (.cells #[.map none] 40)) (.cells #[.pointer none, .pointer (some ⟨w1.heap.size, 0, none⟩)] 24))
 have RW3 : Aside0 (((w1.alloc (.cells #[.map none] 40)).alloc (.cells #[.pointer none, .pointer (some ⟨w1.heap.size, 0, none⟩)] 24)).heap[w1.heap.size + 1]? = some (.cells #[.pointer none, .pointer (some ⟨w1.heap.size, 0, none⟩)] 24 (0, 0))) := ⟨by have h_ := heap_alloc_new (w1.alloc (.cells #[.map none] 40)) (.cells #[.pointer none, .pointer (some ⟨w1.heap.size, 0, none⟩)] 24); rw [World.size_alloc] at h_; exact h_⟩
 have BX3 := Aside0.mk (blk_alloc (blk_alloc BX0.out (.cells #[.map none] 40)) (.cells #[.pointer none, .pointer (some ⟨w1.heap.size, 0, none⟩)] 24))
 have B3 := Aside0.mk (below_alloc (below_alloc B1.out (.cells #[.map none] 40)) (.cells #[.pointer none, .pointer (some ⟨w1.heap.size, 0, none⟩)] 24))
 go_wp2_with (fail)
 generalize hw3 : ((w1.alloc (.cells #[.map none] 40)).alloc (.cells #[.pointer none, .pointer (some ⟨w1.heap.size, 0, none⟩)] 24)) = w3 at MD3 RW3 BX3 B3 ⊢
 have HJ0 := Aside0.mk (Below.refl w3.heap.size w3)
 clear hw3
 go_loopw [4] (fun v4 wr => (v4 = .int .i64 0 ∨ v4 = .int .i64 1 ∨ v4 = .int .i64 2) ∧ Aside0 (Below w3.heap.size w3 wr)) (fun v4 _ => (2 - intOf v4).toNat)
 case atStart => exact ⟨.inl rfl, HJ0⟩
 case round =>
  obtain ⟨hv, HJ⟩ := hrel
  have BXr := Aside0.mk (blk_below BX3.out HJ.out)
  have Br := Aside0.mk (below_step B3.out HJ.out)
  have hr0 : wr.cell? ⟨w1.heap.size + 1, 0, none⟩ = some (.pointer none) := (blk_cell (blk_below RW3.out HJ.out) 0).trans rfl
  have hr1 : wr.cell? ⟨w1.heap.size + 1, 1, none⟩ = some (.pointer (some ⟨w1.heap.size, 0, none⟩)) := (blk_cell (blk_below RW3.out HJ.out) 1).trans rfl
  have hb0 : wr.cell? ⟨w.heap.size, 0, none⟩ = some (.int .i64 x.f0) := (blk_cell BXr.out 0).trans rfl
  have hb1 : wr.cell? ⟨w.heap.size, 1, none⟩ = some (.int .i64 x.f1) := (blk_cell BXr.out 1).trans rfl
  have hb2 : wr.cell? ⟨w.heap.size, 2, none⟩ = some (.int .i64 x.f2) := (blk_cell BXr.out 2).trans rfl
  have hb3 : wr.cell? ⟨w.heap.size, 3, none⟩ = some (.int .i64 x.f3) := (blk_cell BXr.out 3).trans rfl
  have hb4 : wr.cell? ⟨w.heap.size, 4, none⟩ = some (.int .i64 x.f4) := (blk_cell BXr.out 4).trans rfl
  have hb5 : wr.cell? ⟨w.heap.size, 5, none⟩ = some (.slice A5 x.f5.length c5) := (blk_cell BXr.out 5).trans rfl
  have hb6 : wr.cell? ⟨w.heap.size, 6, none⟩ = some (.int .i64 x.f6.f0) := (blk_cell BXr.out 6).trans rfl
  have hb7 : wr.cell? ⟨w.heap.size, 7, none⟩ = some (.int .i64 x.f6.f1) := (blk_cell BXr.out 7).trans rfl
  have hb8 : wr.cell? ⟨w.heap.size, 8, none⟩ = some (.int .i64 x.f6.f2) := (blk_cell BXr.out 8).trans rfl
  rcases hv with rfl | rfl | rfl
  ·have NMr : Aside0 (NoModel wr (.pointer none)) := ⟨.inl rfl⟩
   clear hr1
   go_wp2_with (first
    | (go_at_call 10; refine (no_Backup NMr.out _ _ _ _ _ _).mono ?_; rintro e wr1 ⟨rfl, hb⟩; have NM1 := Aside0.mk (NMr.out.below hb); have BX1 := Aside0.mk (blk_below BXr.out hb); have B1 := Aside0.mk (below_step Br.out hb); have J1 := Aside0.mk (below_step HJ.out hb); clear hb0 hb1 hb2 hb3 hb4 hb5 hb6 hb7 hb8; have hb0 : wr1.cell? ⟨w.heap.size, 0, none⟩ = some (.int .i64 x.f0) := (blk_cell BX1.out 0).trans rfl; have hb1 : wr1.cell? ⟨w.heap.size, 1, none⟩ = some (.int .i64 x.f1) := (blk_cell BX1.out 1).trans rfl; have hb2 : wr1.cell? ⟨w.heap.size, 2, none⟩ = some (.int .i64 x.f2) := (blk_cell BX1.out 2).trans rfl; have hb3 : wr1.cell? ⟨w.heap.size, 3, none⟩ = some (.int .i64 x.f3) := (blk_cell BX1.out 3).trans rfl; have hb4 : wr1.cell? ⟨w.heap.size, 4, none⟩ = some (.int .i64 x.f4) := (blk_cell BX1.out 4).trans rfl; have hb5 : wr1.cell? ⟨w.heap.size, 5, none⟩ = some (.slice A5 x.f5.length c5) := (blk_cell BX1.out 5).trans rfl; have hb6 : wr1.cell? ⟨w.heap.size, 6, none⟩ = some (.int .i64 x.f6.f0) := (blk_cell BX1.out 6).trans rfl; have hb7 : wr1.cell? ⟨w.heap.size, 7, none⟩ = some (.int .i64 x.f6.f1) := (blk_cell BX1.out 7).trans rfl; have hb8 : wr1.cell? ⟨w.heap.size, 8, none⟩ = some (.int .i64 x.f6.f2) := (blk_cell BX1.out 8).trans rfl; clear hb)
    | (go_at_call 13; refine (no_Expire NM1.out _ _ _ _).mono ?_; rintro e wr2 ⟨rfl, hb⟩; have NM2 := Aside0.mk (NM1.out.below hb); have BX2 := Aside0.mk (blk_below BX1.out hb); have B2 := Aside0.mk (below_step B1.out hb); have J2 := Aside0.mk (below_step J1.out hb); clear hb0 hb1 hb2 hb3 hb4 hb5 hb6 hb7 hb8; have hb0 : wr2.cell? ⟨w.heap.size, 0, none⟩ = some (.int .i64 x.f0) := (blk_cell BX2.out 0).trans rfl; have hb1 : wr2.cell? ⟨w.heap.size, 1, none⟩ = some (.int .i64 x.f1) := (blk_cell BX2.out 1).trans rfl; have hb2 : wr2.cell? ⟨w.heap.size, 2, none⟩ = some (.int .i64 x.f2) := (blk_cell BX2.out 2).trans rfl; have hb3 : wr2.cell? ⟨w.heap.size, 3, none⟩ = some (.int .i64 x.f3) := (blk_cell BX2.out 3).trans rfl; have hb4 : wr2.cell? ⟨w.heap.size, 4, none⟩ = some (.int .i64 x.f4) := (blk_cell BX2.out 4).trans rfl; have hb5 : wr2.cell? ⟨w.heap.size, 5, none⟩ = some (.slice A5 x.f5.length c5) := (blk_cell BX2.out 5).trans rfl; have hb6 : wr2.cell? ⟨w.heap.size, 6, none⟩ = some (.int .i64 x.f6.f0) := (blk_cell BX2.out 6).trans rfl; have hb7 : wr2.cell? ⟨w.heap.size, 7, none⟩ = some (.int .i64 x.f6.f1) := (blk_cell BX2.out 7).trans rfl; have hb8 : wr2.cell? ⟨w.heap.size, 8, none⟩ = some (.int .i64 x.f6.f2) := (blk_cell BX2.out 8).trans rfl; clear hb)
    | (go_at_call 14; refine (no_Get NM2.out _ _).mono ?_; rintro e w' ⟨rfl, hw_⟩; obtain rfl : wr2 = w' := hw_.symm; clear hw_)
    | (go_at_call 15; refine (no_Take NM2.out _ _ _ _ _ _ _).mono ?_; rintro e w' ⟨rfl, hw_⟩; obtain rfl : wr2 = w' := hw_.symm; clear hw_)
    | (go_at_call 16; refine (no_Forget NM2.out _ _).mono ?_; rintro e w' ⟨rfl, hw_⟩; obtain rfl : wr2 = w' := hw_.symm; clear hw_)
    | (go_at_call 11; refine (no_List NM2.out _).mono ?_; rintro e w' ⟨rfl, hw_⟩; obtain rfl : wr2 = w' := hw_.symm; clear hw_)
    | (go_at_call 17; refine (no_Greatest NM2.out _).mono ?_; rintro e w' ⟨rfl, hw_⟩; obtain rfl : wr2 = w' := hw_.symm; clear hw_)
    | (go_at_call 18; refine (no_Clients NM2.out).mono ?_; rintro e w' ⟨rfl, hw_⟩; obtain rfl : wr2 = w' := hw_.symm; clear hw_))
   go_roundw
   case rel => exact ⟨.inr (.inl rfl), J2⟩
   case measure => simp [intOf]
  ·have NMr : Aside0 (NoModel wr (.pointer (some ⟨w1.heap.size, 0, none⟩))) := ⟨.inr ⟨_, rfl, blk_below MD3.out HJ.out⟩⟩
   clear hr0
   go_wp2_with (first
    | (go_at_call 10; refine (no_Backup NMr.out _ _ _ _ _ _).mono ?_; rintro e wr1 ⟨rfl, hb⟩; have NM1 := Aside0.mk (NMr.out.below hb); have BX1 := Aside0.mk (blk_below BXr.out hb); have B1 := Aside0.mk (below_step Br.out hb); have J1 := Aside0.mk (below_step HJ.out hb); clear hb0 hb1 hb2 hb3 hb4 hb5 hb6 hb7 hb8; have hb0 : wr1.cell? ⟨w.heap.size, 0, none⟩ = some (.int .i64 x.f0) := (blk_cell BX1.out 0).trans rfl; have hb1 : wr1.cell? ⟨w.heap.size, 1, none⟩ = some (.int .i64 x.f1) := (blk_cell BX1.out 1).trans rfl; have hb2 : wr1.cell? ⟨w.heap.size, 2, none⟩ = some (.int .i64 x.f2) := (blk_cell BX1.out 2).trans rfl; have hb3 : wr1.cell? ⟨w.heap.size, 3, none⟩ = some (.int .i64 x.f3) := (blk_cell BX1.out 3).trans rfl; have hb4 : wr1.cell? ⟨w.heap.size, 4, none⟩ = some (.int .i64 x.f4) := (blk_cell BX1.out 4).trans rfl; have hb5 : wr1.cell? ⟨w.heap.size, 5, none⟩ = some (.slice A5 x.f5.length c5) := (blk_cell BX1.out 5).trans rfl; have hb6 : wr1.cell? ⟨w.heap.size, 6, none⟩ = some (.int .i64 x.f6.f0) := (blk_cell BX1.out 6).trans rfl; have hb7 : wr1.cell? ⟨w.heap.size, 7, none⟩ = some (.int .i64 x.f6.f1) := (blk_cell BX1.out 7).trans rfl; have hb8 : wr1.cell? ⟨w.heap.size, 8, none⟩ = some (.int .i64 x.f6.f2) := (blk_cell BX1.out 8).trans rfl; clear hb)
    | (go_at_call 13; refine (no_Expire NM1.out _ _ _ _).mono ?_; rintro e wr2 ⟨rfl, hb⟩; have NM2 := Aside0.mk (NM1.out.below hb); have BX2 := Aside0.mk (blk_below BX1.out hb); have B2 := Aside0.mk (below_step B1.out hb); have J2 := Aside0.mk (below_step J1.out hb); clear hb0 hb1 hb2 hb3 hb4 hb5 hb6 hb7 hb8; have hb0 : wr2.cell? ⟨w.heap.size, 0, none⟩ = some (.int .i64 x.f0) := (blk_cell BX2.out 0).trans rfl; have hb1 : wr2.cell? ⟨w.heap.size, 1, none⟩ = some (.int .i64 x.f1) := (blk_cell BX2.out 1).trans rfl; have hb2 : wr2.cell? ⟨w.heap.size, 2, none⟩ = some (.int .i64 x.f2) := (blk_cell BX2.out 2).trans rfl; have hb3 : wr2.cell? ⟨w.heap.size, 3, none⟩ = some (.int .i64 x.f3) := (blk_cell BX2.out 3).trans rfl; have hb4 : wr2.cell? ⟨w.heap.size, 4, none⟩ = some (.int .i64 x.f4) := (blk_cell BX2.out 4).trans rfl; have hb5 : wr2.cell? ⟨w.heap.size, 5, none⟩ = some (.slice A5 x.f5.length c5) := (blk_cell BX2.out 5).trans rfl; have hb6 : wr2.cell? ⟨w.heap.size, 6, none⟩ = some (.int .i64 x.f6.f0) := (blk_cell BX2.out 6).trans rfl; have hb7 : wr2.cell? ⟨w.heap.size, 7, none⟩ = some (.int .i64 x.f6.f1) := (blk_cell BX2.out 7).trans rfl; have hb8 : wr2.cell? ⟨w.heap.size, 8, none⟩ = some (.int .i64 x.f6.f2) := (blk_cell BX2.out 8).trans rfl; clear hb)
    | (go_at_call 14; refine (no_Get NM2.out _ _).mono ?_; rintro e w' ⟨rfl, hw_⟩; obtain rfl : wr2 = w' := hw_.symm; clear hw_)
    | (go_at_call 15; refine (no_Take NM2.out _ _ _ _ _ _ _).mono ?_; rintro e w' ⟨rfl, hw_⟩; obtain rfl : wr2 = w' := hw_.symm; clear hw_)
    | (go_at_call 16; refine (no_Forget NM2.out _ _).mono ?_; rintro e w' ⟨rfl, hw_⟩; obtain rfl : wr2 = w' := hw_.symm; clear hw_)
    | (go_at_call 11; refine (no_List NM2.out _).mono ?_; rintro e w' ⟨rfl, hw_⟩; obtain rfl : wr2 = w' := hw_.symm; clear hw_)
    | (go_at_call 17; refine (no_Greatest NM2.out _).mono ?_; rintro e w' ⟨rfl, hw_⟩; obtain rfl : wr2 = w' := hw_.symm; clear hw_)
    | (go_at_call 18; refine (no_Clients NM2.out).mono ?_; rintro e w' ⟨rfl, hw_⟩; obtain rfl : wr2 = w' := hw_.symm; clear hw_))
   go_roundw
   case rel => exact ⟨.inr (.inr rfl), J2⟩
   case measure => simp [intOf]
  ·clear hr0 hr1 hb0 hb1 hb2 hb3 hb4 hb5 hb6 hb7 hb8
   go_wp2_with (go_at_call 7; refine (awake.calls _).mono ?_; rintro e w9 ⟨rfl, hb⟩; have B9 := Aside0.mk (below_step Br.out hb); clear hb)
   go_ret
   exact ⟨rfl, B9.out⟩
theorem long_one (x : S31) : ∃ b, Ev (fun k => satchellaw30_long.f k [x]) b := let ⟨b, h, _⟩ := long_ev [x]; ⟨b, h⟩
theorem modelNone.walk (x : S31) (A5 : Option Addr) (c5 : Nat) (w : World) (hr5 : Kd.C k89 w A5 x.f5.length x.f5) (hc5 : x.f5.length ≤ c5) : Calls Try.prog 4 #[.agg #[.int .i64 x.f0, .int .i64 x.f1, .int .i64 x.f2, .int .i64 x.f3, .int .i64 x.f4, .slice A5 x.f5.length c5, .int .i64 x.f6.f0, .int .i64 x.f6.f1, .int .i64 x.f6.f2]] w fun e w' => e = .returned (.bool true) ∧ Below w.heap.size w w' := by
 obtain ⟨b, K, hK⟩ := long_one x
 have hK := hK K (Nat.le_refl _)
 cases b with
 | true => exact modelNone.long x A5 c5 w hr5 hc5 K hK
 | false => exact modelNone.main x A5 c5 w hr5 hc5 K hK
end Go.Proofs.Ytmlgfgmgolgjbaa.X
end

/-! ## mOpenVal -/
section
namespace Go.Proofs.Ytmlgfgmgolgjbaa.X
open Go.RowKit Go.Proofs.YtmlgfgmgolgjbaaW.PrintWords Go.Proofs.YtmlgfgmgolgjbaaW.PrintLast Go.Proofs.YtmlgfgmgolgjbaaW.PrintMore
set_option maxRecDepth 100000 in
theorem opens_act_val {H : Type} {enc : TypeId × Value → H} {W : World} {base : Nat} {spare : Nat → Bool} {held : Bool} {v : Value} (hv : Value.okWide Try.prog W .any base 31 v) {fuel : Nat} {d : DataW H} {p : List MemPlace} (h : DataW.trod enc Try.prog W 0 spare held fuel 31 v.cells.toList = some (d, p)) :
  ∃ (x : S31) (A : Option Addr) (c : Nat), v = .agg #[.int .i64 x.f0, .int .i64 x.f1, .int .i64 x.f2, .int .i64 x.f3, .int .i64 x.f4, .slice A x.f5.length c, .int .i64 x.f6.f0, .int .i64 x.f6.f1, .int .i64 x.f6.f2] ∧ x.f5.length ≤ c ∧ Kd.C k89 W A x.f5.length x.f5 := by
 obtain ⟨cs, rfl, _⟩ := Go.WideShapes.okWide_struct Try.underlying31 hv
 obtain ⟨x, hK, _⟩ := opens_act h
 obtain ⟨A, c, hcs, hl, hC⟩ := k31_open hK
 refine ⟨x, A, c, ?_, hl, hC⟩
 have h2 : cs.toList = [.int .i64 x.f0, .int .i64 x.f1, .int .i64 x.f2, .int .i64 x.f3, .int .i64 x.f4, .slice A x.f5.length c, .int .i64 x.f6.f0, .int .i64 x.f6.f1, .int .i64 x.f6.f2] := hcs
 rw [← Array.toArray_toList (xs := cs), h2]
end Go.Proofs.Ytmlgfgmgolgjbaa.X
end
