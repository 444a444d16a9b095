/- Functions, one behind the other: a plain Lean function for each, and the proof that the call comes to its answer, whatever the world (conditions: what the arguments read as); and plain laws of them. -/
import Derived.Test.YtmlgfgmgolgjbaaMAgain3
import Derived.BigRegion
import Derived.Test.YtmlgfgmgolgjbaaMAgain2
/-! ## mAwake -/
section
namespace Go.Proofs.Ytmlgfgmgolgjbaa.X
open Go.RowKit Go.Maps Go.Proofs.YtmlgfgmgolgjbaaW.PrintWords Go.Proofs.YtmlgfgmgolgjbaaW.PrintLast Go.Proofs.YtmlgfgmgolgjbaaW.PrintMore
set_option linter.unusedVariables false
set_option linter.unusedSimpArgs false
/-- What the model's step asks, and that a snapshot of the command is there. -/
theorem model_Backup.hit {w0 w : World} {mm mb n : Nat} {C : List Cl} (h : Held w0 w mm mb n C) (hn : n < 1000000) {k cmd tick : Int} (hk : (Lit.int .i64 k).wf = true) (A : Option Addr) (c : Nat) (l : List S89) (hC : Kd.C k89 w A l.length l) (hc : l.length ≤ c) (hf : Fits l) (hl : l.length < 1000000)
  (hfit : fitsV k 1 cmd tick l = 0) {xs : List Sn} {g : Int} (hget : getC C k = (xs, g)) (hg0 : 0 ≤ g) (hg : g < 1000000) (hx : xs.length < 64) {num : Int} (hlast : lastCmd xs cmd = some num) :
  Calls Try.prog 10 #[.pointer (some ⟨mm, 0, none⟩), .int .i64 k, .int .i64 cmd, .int .i64 tick, .slice A l.length c] w fun e w' => e = .returned (.tuple #[.int .i64 num, .int .i64 0]) ∧ Below w.heap.size w w' := by
 have hfit2 : fitsV k (g + 1) cmd tick l = 0 := by
  unfold fitsV at hfit ⊢
  split at hfit
  ·rename_i h1
   rw [if_pos (by omega)]
   exact hfit
  ·cases hfit
 obtain ⟨kf, h1⟩ := fits_ev k 1 cmd tick l
 obtain ⟨kf2, h2⟩ := fits_ev k (g + 1) cmd tick l
 obtain ⟨kc, h3⟩ := mclone_ev l hl hf
 rw [hfit] at h1
 rw [hfit2] at h2
 refine (model_Backup.calls h hn hk A c l hC hc kf kf2 kc (h1 kf (Nat.le_refl _)) hget (h2 kf2 (Nat.le_refl _)) (h3 kc (Nat.le_refl _)) hg0 hg hx).mono ?_
 rintro e w' (⟨num', e1, rfl, hb⟩ | ⟨e1, _⟩)
 ·rw [hlast] at e1
  obtain rfl := Option.some.inj e1
  exact ⟨rfl, hb⟩
 ·rw [hlast] at e1
  cases e1
theorem model_Backup.miss {w0 w : World} {mm mb n : Nat} {C : List Cl} (h : Held w0 w mm mb n C) (hn : n < 1000000) {k cmd tick : Int} (hk : (Lit.int .i64 k).wf = true) (A : Option Addr) (c : Nat) (l : List S89) (hC : Kd.C k89 w A l.length l) (hc : l.length ≤ c) (hf : Fits l) (hl : l.length < 1000000)
  (hfit : fitsV k 1 cmd tick l = 0) {xs : List Sn} {g : Int} (hget : getC C k = (xs, g)) (hg0 : 0 ≤ g) (hg : g < 1000000) (hx : xs.length < 64) (hlast : lastCmd xs cmd = none) :
  Calls Try.prog 10 #[.pointer (some ⟨mm, 0, none⟩), .int .i64 k, .int .i64 cmd, .int .i64 tick, .slice A l.length c] w fun e w' => e = .returned (.tuple #[.int .i64 (g + 1), .int .i64 0]) ∧
   ∃ C', Held w0 w' mm mb (n + 1) C' ∧ getC C' k = (xs ++ [(g + 1, cmd, tick)], g + 1) ∧ (∀ k', k' ≠ k → getC C' k' = getC C k') ∧ Spares mb w w' := by
 have hfit2 : fitsV k (g + 1) cmd tick l = 0 := by
  unfold fitsV at hfit ⊢
  split at hfit
  ·rename_i h1
   rw [if_pos (by omega)]
   exact hfit
  ·cases hfit
 obtain ⟨kf, h1⟩ := fits_ev k 1 cmd tick l
 obtain ⟨kf2, h2⟩ := fits_ev k (g + 1) cmd tick l
 obtain ⟨kc, h3⟩ := mclone_ev l hl hf
 rw [hfit] at h1
 rw [hfit2] at h2
 refine (model_Backup.calls h hn hk A c l hC hc kf kf2 kc (h1 kf (Nat.le_refl _)) hget (h2 kf2 (Nat.le_refl _)) (h3 kc (Nat.le_refl _)) hg0 hg hx).mono ?_
 rintro e w' (⟨num', e1, _⟩ | ⟨_, rfl, r⟩)
 ·rw [hlast] at e1
  cases e1
 ·exact ⟨rfl, r⟩
def sampleT : List S89 := [(⟨(⟨#[97]⟩ : ByteArray), 1, 0, ([] : List Int), (⟨#[]⟩ : ByteArray)⟩ : S89)]
theorem sample_f : satchellaw30_sample.f = some sampleT := rfl
theorem sample_fits : Fits sampleT := fun e he => by
 obtain rfl := List.mem_singleton.1 he
 decide
theorem sample_tree : (treeV sampleT).1 = 0 := by
 have h1 : tree_Check.f 30 sampleT = some (0, 0) := by kernel_rfl
 have h2 := Ev.of_mono (g := fun k => tree_Check.f k sampleT) (fun k => tree_Check.mono sampleT k) h1
 have h3 := Ev.uniq h2 (tree_ev sampleT)
 rw [← h3]
theorem seven : (Lit.int .i64 7).wf = true := by decide
theorem eight : (Lit.int .i64 8).wf = true := by decide
set_option maxRecDepth 100000 in
theorem backs.hit {w0 w : World} {mm mb n : Nat} {C : List Cl} (h : Held w0 w mm mb n C) (hn : n < 1000000) {cmd : Int} (hc1 : 1 ≤ cmd) (hc2 : cmd ≤ 1000) {xs : List Sn} {g : Int} (hget : getC C 7 = (xs, g)) (hg0 : 0 ≤ g) (hg : g < 1000000) (hx : xs.length < 64) {num : Int} (hlast : lastCmd xs cmd = some num) :
  Calls Try.prog 19 #[.pointer (some ⟨mm, 0, none⟩), .int .i64 cmd, .int .i64 num] w fun e w' => e = .returned (.bool true) ∧ Below w.heap.size w w' := by
 have H := Aside0.mk h
 have GET := Aside0.mk hget
 have LAST := Aside0.mk hlast
 have HF : Aside0 (fitsV 7 1 cmd 5 sampleT = 0) := ⟨by unfold fitsV; rw [if_pos (by omega), if_pos sample_tree]⟩
 clear h hget hlast
 go_enter Try.func19, Try.ntmps19
 go_wp2_with (first
  | (go_at_call 36; refine (satchellaw30_sample.calls _ _ sample_f).mono ?_; rintro e w1 ⟨v1, rfl, hS, hb⟩; obtain ⟨A1, c1, rfl⟩ := Kd.R_slice (Kd.S_R hS); have R1 := Aside0.mk (Kd.R_reads' (Kd.S_R hS)); have B1 := Aside0.mk hb; clear hS hb)
  | (go_at_call 10; refine (model_Backup.hit (H.out.after B1.out) hn seven A1 c1 sampleT R1.out.2.2 R1.out.2.1 sample_fits (by decide) HF.out GET.out hg0 hg hx LAST.out).mono ?_; rintro e w2 ⟨rfl, hb⟩; have B2 := Aside0.mk (below_step B1.out hb); clear hb))
 go_ret
 exact ⟨by simp, B2.out⟩
set_option maxRecDepth 100000 in
theorem backs.miss {w0 w : World} {mm mb n : Nat} {C : List Cl} (h : Held w0 w mm mb n C) (hn : n < 1000000) {cmd : Int} (hc1 : 1 ≤ cmd) (hc2 : cmd ≤ 1000) {xs : List Sn} {g : Int} (hget : getC C 7 = (xs, g)) (hg0 : 0 ≤ g) (hg : g < 1000000) (hx : xs.length < 64) (hlast : lastCmd xs cmd = none) :
  Calls Try.prog 19 #[.pointer (some ⟨mm, 0, none⟩), .int .i64 cmd, .int .i64 (g + 1)] w fun e w' => e = .returned (.bool true) ∧
   ∃ C', Held w0 w' mm mb (n + 1) C' ∧ getC C' 7 = (xs ++ [(g + 1, cmd, 5)], g + 1) ∧ (∀ k', k' ≠ 7 → getC C' k' = getC C k') := by
 have H := Aside0.mk h
 have GET := Aside0.mk hget
 have LAST := Aside0.mk hlast
 have HF : Aside0 (fitsV 7 1 cmd 5 sampleT = 0) := ⟨by unfold fitsV; rw [if_pos (by omega), if_pos sample_tree]⟩
 clear h hget hlast
 go_enter Try.func19, Try.ntmps19
 go_wp2_with (first
  | (go_at_call 36; refine (satchellaw30_sample.calls _ _ sample_f).mono ?_; rintro e w1 ⟨v1, rfl, hS, hb⟩; obtain ⟨A1, c1, rfl⟩ := Kd.R_slice (Kd.S_R hS); have R1 := Aside0.mk (Kd.R_reads' (Kd.S_R hS)); have B1 := Aside0.mk hb; clear hS hb)
  | (go_at_call 10; refine (model_Backup.miss (H.out.after B1.out) hn seven A1 c1 sampleT R1.out.2.2 R1.out.2.1 sample_fits (by decide) HF.out GET.out hg0 hg hx LAST.out).mono ?_; rintro e w2 ⟨rfl, C', hH, g1, g2, _⟩; have HH := Aside0.mk hH; have G1 := Aside0.mk g1; have G2 := Aside0.mk g2; clear hH g1 g2))
 go_ret
 exact ⟨by simp, C', HH.out, G1.out, G2.out⟩
/-- A row of two of what is listed, read out of its block. -/
theorem row2_L {W : World} {g : Nat} (a b : S61) (h : W.heap[g]? = some (.cells #[.int .i64 a.f0, .int .i64 a.f1, .int .i64 a.f2, .bool a.f3, .int .i64 b.f0, .int .i64 b.f1, .int .i64 b.f2, .bool b.f3] 61 (0, 0))) : Kd.C k61 W (some ⟨g, 0, none⟩) 2 [a, b] := by
 refine ⟨rfl, by decide, fun _ => ⟨⟨g, 0, none⟩, rfl, fun j p hj => ?_⟩⟩
 have key : ∀ n, W.cell? ((⟨g, 0, none⟩ : Addr).add n) = (#[.int .i64 a.f0, .int .i64 a.f1, .int .i64 a.f2, .bool a.f3, .int .i64 b.f0, .int .i64 b.f1, .int .i64 b.f2, .bool b.f3] : Array Value)[n]? := by
  intro n
  have e : (⟨g, 0, none⟩ : Addr).add n = ⟨g, n, none⟩ := by
   unfold Addr.add
   split
   ·rename_i h0; rw [h0]
   ·simp
  rw [e]
  exact blk_cell h n
 match j with
 | 0 =>
  obtain rfl := Option.some.inj hj
  refine ⟨[.int .i64 a.f0, .int .i64 a.f1, .int .i64 a.f2, .bool a.f3], rfl, k61_mk W a, fun i u hu => ?_⟩
  show W.cell? ((⟨g, 0, none⟩ : Addr).add (_ * 4 + i)) = some u
  rw [key]
  match i with
  | 0 => exact hu
  | 1 => exact hu
  | 2 => exact hu
  | 3 => exact hu
  | i + 4 => simp at hu
 | 1 =>
  obtain rfl := Option.some.inj hj
  refine ⟨[.int .i64 b.f0, .int .i64 b.f1, .int .i64 b.f2, .bool b.f3], rfl, k61_mk W b, fun i u hu => ?_⟩
  show W.cell? ((⟨g, 0, none⟩ : Addr).add (_ * 4 + i)) = some u
  rw [key]
  match i with
  | 0 => exact hu
  | 1 => exact hu
  | 2 => exact hu
  | 3 => exact hu
  | i + 4 => simp at hu
 | j + 2 => cases hj
theorem backs.miss' {w0 w : World} {mm mb n : Nat} {C : List Cl} (h : Held w0 w mm mb n C) (hn : n < 1000000) {cmd num : Int} (hc1 : 1 ≤ cmd) (hc2 : cmd ≤ 1000) {xs : List Sn} {g : Int} (hget : getC C 7 = (xs, g)) (hg0 : 0 ≤ g) (hg : g < 1000000) (hx : xs.length < 64) (hlast : lastCmd xs cmd = none) (hnum : g + 1 = num) :
  Calls Try.prog 19 #[.pointer (some ⟨mm, 0, none⟩), .int .i64 cmd, .int .i64 num] w fun e w' => e = .returned (.bool true) ∧
   ∃ C', Held w0 w' mm mb (n + 1) C' ∧ getC C' 7 = (xs ++ [(num, cmd, 5)], num) ∧ (∀ k', k' ≠ 7 → getC C' k' = getC C k') := by
 subst hnum
 exact backs.miss h hn hc1 hc2 hget hg0 hg hx hlast
set_option maxHeartbeats 1000000 in
set_option maxRecDepth 100000 in
theorem awake.calls (w : World) : Calls Try.prog 7 #[] w fun e w' => e = .returned (.bool true) ∧ Below w.heap.size w w' := by
 obtain ⟨ks, hks⟩ := same_ev [(⟨1, 5, 3, true⟩ : S61), ⟨2, 5, 4, true⟩] (by decide)
 have SAME := Aside0.mk (hks ks (Nat.le_refl _))
 clear hks
 have GATE1 := Aside0.mk True.intro
 go_enter Try.func7, Try.ntmps7
 go_wp2_with (first
  | (go_at_call 8; have G_ := GATE1; refine (model_New.calls _).mono ?_; rintro e w1 ⟨rfl, hw⟩; have H1 := Aside0.mk (hw ▸ Held.new (Below.refl w.heap.size w)); clear hw G_ GATE1)
  | (go_at_call 19; have G_ := H1; refine (backs.miss' H1.out (by decide) (by decide) (by decide) (xs := []) (g := 0) rfl (by decide) (by decide) (by decide) rfl rfl).mono ?_; rintro e w2 ⟨rfl, C2, hH, g1, g2⟩; have H2 := Aside0.mk hH; have G12 := Aside0.mk g1; have G22 := Aside0.mk g2; clear hH g1 g2 G_ H1)
  | (go_at_call 19; have G_ := H2; refine (backs.hit H2.out (by decide) (by decide) (by decide) G12.out (by decide) (by decide) (by decide) (num := 1) rfl).mono ?_; rintro e w3 ⟨rfl, hb⟩; have H3 := Aside0.mk (H2.out.after hb); clear hb G_ H2)
  | (go_at_call 19; have G_ := H3; refine (backs.miss' H3.out (by decide) (by decide) (by decide) G12.out (by decide) (by decide) (by decide) rfl rfl).mono ?_; rintro e w4 ⟨rfl, C4, hH, g1, g2⟩; have H4 := Aside0.mk hH; have G14 := Aside0.mk g1; have G24 := Aside0.mk (show getC C4 8 = ([], 0) from (g2 8 (by decide)).trans (G22.out 8 (by decide))); clear hH g1 g2 G_ H3)
  | (go_at_call 11; refine (model_List.calls H4.out seven G14.out (by decide)).mono ?_; rintro e w5 ⟨v5, rfl, hR, hb⟩; obtain ⟨A5, c5, rfl⟩ := Kd.R_slice hR; have R5 := Aside0.mk (Kd.R_reads' hR); have H5 := Aside0.mk (H4.out.after hb); clear hR hb)
  | (go_at_call 12; refine (satchelkit_SameListed.calls ks A5 c5 [(⟨1, 5, 3, true⟩ : S61), ⟨2, 5, 4, true⟩] _ 2 [(⟨1, 5, 3, true⟩ : S61), ⟨2, 5, 4, true⟩] true _ (Kd.C_alloc R5.out.2.2 _) R5.out.2.1 (row2_L ⟨1, 5, 3, true⟩ ⟨2, 5, 4, true⟩ (heap_alloc_new w5 _)) (Nat.le_refl _) SAME.out).mono ?_; rintro e w6 ⟨rfl, hd⟩; have H6 := Aside0.mk (H5.out.after (below_step (below_alloc (Below.refl _ w5) _) (Drawn0.below hd))); clear hd)
  | (go_at_call 17; refine (model_Greatest.calls H6.out eight G24.out).mono ?_; rintro e w7 ⟨rfl, hb⟩; have H7 := Aside0.mk (H6.out.after hb); clear hb))
 go_ret
 exact ⟨rfl, H7.out.below⟩
end Go.Proofs.Ytmlgfgmgolgjbaa.X
end

/-! ## mWalkAgain -/
section
namespace Go.Proofs.Ytmlgfgmgolgjbaa.X
open Go.RowKit Go.Maps Go.Proofs.YtmlgfgmgolgjbaaW.PrintWords Go.Proofs.YtmlgfgmgolgjbaaW.PrintLast Go.Proofs.YtmlgfgmgolgjbaaW.PrintMore
set_option linter.unusedVariables false
set_option linter.unusedSimpArgs false
structure ActIn (x : S31) : Prop where
  client : (Lit.int .i64 x.f1).wf = true
  tree : Fits x.f5
def Small (C : List Cl) (i : Nat) : Prop := ∀ k, 0 ≤ (getC C k).2 ∧ (getC C k).2 ≤ (i : Int) ∧ (getC C k).1.length ≤ i
theorem Small.more {C : List Cl} {i : Nat} (h : Small C i) : Small C (i + 1) := fun k => by have := h k; omega
theorem treeV_nil : (treeV ([] : List S89)).1 = 0 := by
 unfold treeV
 rfl
theorem fits_nil {k cmd tick : Int} {l : List S89} (h : fitsV k 1 cmd tick l = 0) : fitsV k 1 cmd tick [] = 0 := by
 unfold fitsV at h ⊢
 split at h
 ·rename_i h1
  rw [if_pos h1, if_pos treeV_nil]
 ·cases h
theorem fits_len {k cmd tick : Int} {l : List S89} (h : fitsV k 1 cmd tick l = 0) : l.length < 1000000 := by
 unfold fitsV at h
 split at h
 ·split at h
  ·rename_i h2
   have := (good_of h2).1
   omega
  ·cases h
 ·cases h
theorem last_snoc (xs : List Sn) (num cmd tick : Int) : lastCmd (xs ++ [(num, cmd, tick)]) cmd = some num := by
 unfold lastCmd
 rw [List.reverse_append, List.reverse_singleton, List.singleton_append, List.find?_cons_of_pos (by simp)]
 rfl
set_option maxHeartbeats 1000000 in
set_option maxRecDepth 100000 in
theorem modelAgain.short (A0 : Option Addr) (c0 : Nat) (l0 : List (S31)) (w : World) (hr0 : Kd.C k31 w A0 l0.length l0) (hc0 : l0.length ≤ c0) (b : Bool) (K : Nat) (hK : satchellaw30_long.f K l0 = some b) (hb : b = true ∨ 30 < l0.length) :
  Calls Try.prog 3 #[.slice A0 l0.length c0] w fun e w' => e = .returned (.bool true) ∧ Below w.heap.size w w' := by
 have HR0 := Aside0.mk hr0
 have LG := Aside0.mk hK
 clear hr0 hK
 cases b with
 | true =>
  clear hb
  go_enter Try.func3, Try.ntmps3
  go_wp2_with (first
   | (go_at_call 7; refine (awake.calls _).mono ?_; rintro e w1 ⟨rfl, hb1⟩; have B1 := Aside0.mk hb1; clear hb1)
   | (go_at_call 8; refine (model_New.calls _).mono ?_; rintro e w2 ⟨rfl, hw⟩; have B2 := Aside0.mk (below_step B1.out (hw ▸ newW_below w1)); clear hw)
   | (go_at_call 9; refine (satchellaw30_long.calls K A0 c0 l0 _ _ (Kd.C_below HR0.out B2.out) hc0 LG.out).mono ?_; rintro e w3 ⟨rfl, hd⟩; have B3 := Aside0.mk (below_step B2.out (Drawn0.below hd)); clear hd))
  go_ret
  exact ⟨rfl, B3.out⟩
 | false =>
  have hl : 30 < l0.length := by rcases hb with h | h; cases h; exact h
  have d1 : decide ((l0.length : Int) > 30) = true := decide_eq_true (by omega)
  have d2 : decide (30 < (l0.length : Int)) = true := decide_eq_true (by omega)
  have d3 : decide (30 < l0.length) = true := decide_eq_true hl
  clear hb
  go_enter Try.func3, Try.ntmps3
  go_wp2_with (first
   | (go_at_call 7; refine (awake.calls _).mono ?_; rintro e w1 ⟨rfl, hb1⟩; have B1 := Aside0.mk hb1; clear hb1)
   | (go_at_call 8; refine (model_New.calls _).mono ?_; rintro e w2 ⟨rfl, hw⟩; have B2 := Aside0.mk (below_step B1.out (hw ▸ newW_below w1)); clear hw)
   | (go_at_call 9; refine (satchellaw30_long.calls K A0 c0 l0 _ _ (Kd.C_below HR0.out B2.out) hc0 LG.out).mono ?_; rintro e w3 ⟨rfl, hd⟩; have B3 := Aside0.mk (below_step B2.out (Drawn0.below hd)); clear hd))
  go_ret
  exact ⟨rfl, B3.out⟩
set_option maxHeartbeats 4000000 in
set_option maxRecDepth 100000 in
theorem modelAgain.main (A0 : Option Addr) (c0 : Nat) (l0 : List (S31)) (w : World) (hr0 : Kd.C k31 w A0 l0.length l0) (hc0 : l0.length ≤ c0) (hfit : ∀ x ∈ l0, ActIn x) (K : Nat) (hK : satchellaw30_long.f K l0 = some false) (hlen : l0.length ≤ 30) :
  Calls Try.prog 3 #[.slice A0 l0.length c0] w fun e w' => e = .returned (.bool true) ∧ Below w.heap.size w w' := by
 have HR0 := Aside0.mk hr0
 have LG := Aside0.mk hK
 have HF := Aside0.mk hfit
 have d1 : decide ((l0.length : Int) > 30) = false := decide_eq_false (by omega)
 have d2 : decide (30 < (l0.length : Int)) = false := decide_eq_false (by omega)
 have d3 : decide (30 < l0.length) = false := decide_eq_false (by omega)
 clear hr0 hK hfit
 go_enter Try.func3, Try.ntmps3
 go_wp2_with (first
  | (go_at_call 7; refine (awake.calls _).mono ?_; rintro e w1 ⟨rfl, hb1⟩; have B1 := Aside0.mk hb1; clear hb1)
  | (go_at_call 8; refine (model_New.calls _).mono ?_; rintro e w2 ⟨rfl, hw⟩; have H2 := Aside0.mk (hw ▸ Held.new B1.out); clear hw)
  | (go_at_call 9; refine (satchellaw30_long.calls K A0 c0 l0 false _ (Kd.C_below HR0.out H2.out.below) hc0 LG.out).mono ?_; rintro e w3 ⟨rfl, hd⟩; have H3 := Aside0.mk (H2.out.after (Drawn0.below hd)); clear hd H2))
 have SM0 : Aside0 (Small [] 0) := ⟨fun k => ⟨Int.le_refl _, Int.le_refl _, Nat.le_refl _⟩⟩
 obtain ⟨mm, hmm⟩ : ∃ mm, mm = w1.heap.size + 1 := ⟨_, rfl⟩
 obtain ⟨mb, hmb⟩ : ∃ mb, mb = w1.heap.size := ⟨_, rfl⟩
 rw [← hmm, ← hmb] at H3
 rw [← hmm]
 clear hmm hmb d1 d2 d3
 go_loopw [5] (fun v5 wr => ∃ (i n : Nat) (C : List Cl), v5 = .int .i64 (i : Int) ∧ i ≤ l0.length ∧ n ≤ i ∧ Aside0 (Held w wr mm mb n C) ∧ Aside0 (Small C i)) (fun v5 _ => l0.length - (intOf v5).toNat)
 case atStart => exact ⟨0, 0, [], rfl, Nat.zero_le _, Nat.le_refl _, H3, SM0⟩
 case round =>
  obtain ⟨i, n, C, rfl, hil, hni, HH, SM⟩ := hrel
  clear H3 SM0
  by_cases hlt : i < l0.length
  ·have b0 : decide (i < l0.length) = true := decide_eq_true hlt
   obtain ⟨ad, A5, c5, e_, hx0, hx1, hx2, hx3, hx4, hx5, hx6, hx7, hx8, hl5, hi5⟩ := at_T31 (Kd.C_below HR0.out HH.out.below) (i : Int) (Int.natCast_nonneg i) (Int.ofNat_lt.2 hlt)
   cases e_
   obtain ⟨x, hx⟩ : ∃ x, x = rd_T31 l0 (i : Int) := ⟨_, rfl⟩
   rw [Int.toNat_natCast] at hx0 hx1 hx2 hx3 hx4 hx5 hx6 hx7 hx8
   rw [← hx] at hx0 hx1 hx2 hx3 hx4 hx5 hx6 hx7 hx8 hl5 hi5
   have hxm : x ∈ l0 := by rw [hx]; unfold rd_T31; rw [Int.toNat_natCast, List.getD_eq_getElem?_getD, List.getElem?_eq_getElem hlt]; exact List.getElem_mem _
   have hact := HF.out x hxm
   have hk : (Lit.int .i64 x.f1).wf = true := hact.client
   have HT := Aside0.mk hact.tree
   have L5 := Aside0.mk hl5
   have I5 := Aside0.mk hi5
   have p_ := eq_true (Int.natCast_nonneg i)
   have q_ : ((i : Int) < (l0.length : Int)) = True := eq_true (by omega)
   obtain ⟨xs, g, hget⟩ : ∃ xs g, getC C x.f1 = (xs, g) := ⟨_, _, rfl⟩
   have hsm := SM.out x.f1
   rw [hget] at hsm
   obtain ⟨hg0, hg1, hg2⟩ := hsm
   dsimp only at hg0 hg1 hg2
   have GET := Aside0.mk hget
   have BX1 : Aside0 ((wr.alloc (.cells #[.int .i64 x.f0, .int .i64 x.f1, .int .i64 x.f2, .int .i64 x.f3, .int .i64 x.f4, .slice A5 x.f5.length c5, .int .i64 x.f6.f0, .int .i64 x.f6.f1, .int .i64 x.f6.f2] 31)).heap[wr.heap.size]? = some (.cells #[.int .i64 x.f0, .int .i64 x.f1, .int .i64 x.f2, .int .i64 x.f3, .int .i64 x.f4, .slice A5 x.f5.length c5, .int .i64 x.f6.f0, .int .i64 x.f6.f1, .int .i64 x.f6.f2] 31 (0, 0))) := ⟨heap_alloc_new wr (.cells #[.int .i64 x.f0, .int .i64 x.f1, .int .i64 x.f2, .int .i64 x.f3, .int .i64 x.f4, .slice A5 x.f5.length c5, .int .i64 x.f6.f0, .int .i64 x.f6.f1, .int .i64 x.f6.f2] 31)⟩
   have H1 := Aside0.mk (HH.out.after (below_alloc (Below.refl _ wr) (.cells #[.int .i64 x.f0, .int .i64 x.f1, .int .i64 x.f2, .int .i64 x.f3, .int .i64 x.f4, .slice A5 x.f5.length c5, .int .i64 x.f6.f0, .int .i64 x.f6.f1, .int .i64 x.f6.f2] 31)))
   have I1 := Aside0.mk (Kd.C_alloc I5.out (.cells #[.int .i64 x.f0, .int .i64 x.f1, .int .i64 x.f2, .int .i64 x.f3, .int .i64 x.f4, .slice A5 x.f5.length c5, .int .i64 x.f6.f0, .int .i64 x.f6.f1, .int .i64 x.f6.f2] 31))
   clear hx hxm hact hl5 hi5 hget
   have GA1 := Aside0.mk True.intro
   have GA2 := Aside0.mk True.intro
   have GA3 := Aside0.mk True.intro
   have GA4 := Aside0.mk True.intro
   have GA0 := Aside0.mk True.intro
   by_cases hf : fitsV x.f1 1 x.f3 x.f4 x.f5 = 0
   ·have FN := Aside0.mk (fits_nil hf)
    have FX := Aside0.mk hf
    have HL := Aside0.mk (fits_len hf)
    clear hf
    cases hlast : lastCmd xs x.f3 with
    | some num =>
     have LAST3 := Aside0.mk hlast
     have GET3 := GET
     obtain ⟨xs', hxs'⟩ : ∃ xs', xs' = xs := ⟨_, rfl⟩
     subst hxs'
     obtain ⟨L, hL⟩ : ∃ L, L = xs'.map toL := ⟨_, rfl⟩
     obtain ⟨ks, hks⟩ := same_ev L (by rw [hL, List.length_map]; omega)
     have LL := Aside0.mk hL
     clear hL
     have SAME := Aside0.mk (hks ks (Nat.le_refl _))
     have nn : (num != num) = false := by simp
     clear hlast hks
     go_wp2_with (first
      | (go_at_call 10; have G_ := GA0; refine (model_Backup.hit H1.out (by omega) hk A5 c5 x.f5 I1.out L5.out HT.out HL.out FX.out GET.out hg0 (by omega) (by omega) LAST3.out).mono ?_; rintro e w3 ⟨rfl, hb⟩; have H3 := Aside0.mk (H1.out.after hb); have BX3 := Aside0.mk (blk_below BX1.out hb); have hb1 : w3.cell? ⟨wr.heap.size, 1, none⟩ = some (.int .i64 x.f1) := (blk_cell BX3.out 1).trans rfl; have hb3 : w3.cell? ⟨wr.heap.size, 3, none⟩ = some (.int .i64 x.f3) := (blk_cell BX3.out 3).trans rfl; have hb4 : w3.cell? ⟨wr.heap.size, 4, none⟩ = some (.int .i64 x.f4) := (blk_cell BX3.out 4).trans rfl; clear hb; clear G_ GA0)
      | (go_at_call 11; have G_ := GA1; refine (model_List.calls H3.out hk GET3.out (by omega)).mono ?_; rintro e w4 ⟨v4, rfl, hR, hb⟩; rw [← LL.out] at hR; obtain ⟨A4, c4, rfl⟩ := Kd.R_slice hR; have R4 := Aside0.mk (Kd.R_reads' hR); have H4 := Aside0.mk (H3.out.after hb); have BX4 := Aside0.mk (blk_below BX3.out hb); clear hb1 hb3 hb4; have hb1 : w4.cell? ⟨wr.heap.size, 1, none⟩ = some (.int .i64 x.f1) := (blk_cell BX4.out 1).trans rfl; have hb3 : w4.cell? ⟨wr.heap.size, 3, none⟩ = some (.int .i64 x.f3) := (blk_cell BX4.out 3).trans rfl; have hb4 : w4.cell? ⟨wr.heap.size, 4, none⟩ = some (.int .i64 x.f4) := (blk_cell BX4.out 4).trans rfl; clear hR hb; clear G_ GA1)
      | (go_at_call 10; have G_ := GA2; refine (model_Backup.hit H4.out (by omega) hk none 0 [] (Kd.C_nil _ _) (Nat.le_refl _) (fun e he => by cases he) (by decide) FN.out GET3.out (by omega) (by omega) (by omega) LAST3.out).mono ?_; rintro e w5 ⟨rfl, hb⟩; have R5 := Aside0.mk (Kd.C_below R4.out.2.2 hb); have H5 := Aside0.mk (H4.out.after hb); have BX5 := Aside0.mk (blk_below BX4.out hb); clear hb1 hb3 hb4; have hb1 : w5.cell? ⟨wr.heap.size, 1, none⟩ = some (.int .i64 x.f1) := (blk_cell BX5.out 1).trans rfl; have hb3 : w5.cell? ⟨wr.heap.size, 3, none⟩ = some (.int .i64 x.f3) := (blk_cell BX5.out 3).trans rfl; have hb4 : w5.cell? ⟨wr.heap.size, 4, none⟩ = some (.int .i64 x.f4) := (blk_cell BX5.out 4).trans rfl; clear hb; clear G_ GA2)
      | (go_at_call 11; have G_ := GA3; refine (model_List.calls H5.out hk GET3.out (by omega)).mono ?_; rintro e w6 ⟨v6, rfl, hR, hb⟩; rw [← LL.out] at hR; obtain ⟨A6, c6, rfl⟩ := Kd.R_slice hR; have R6 := Aside0.mk (Kd.R_reads' hR); have R56 := Aside0.mk (Kd.C_below R5.out hb); have H6 := Aside0.mk (H5.out.after hb); clear hR hb; clear G_ GA3)
      | (go_at_call 12; have G_ := GA4; refine (satchelkit_SameListed.calls ks A6 c6 L A4 c4 L true _ R6.out.2.2 R6.out.2.1 R56.out R4.out.2.1 SAME.out).mono ?_; rintro e w7 ⟨rfl, hd⟩; have H7 := Aside0.mk (H6.out.after (Drawn0.below hd)); clear hd; clear G_ GA4))
     go_roundw
     case rel => exact ⟨i + 1, n, C, by congr 1, by omega, by omega, H7, ⟨SM.out.more⟩⟩
     case measure => simp [intOf]; omega
    | none =>
     have LAST := Aside0.mk hlast
     have LAST3 := Aside0.mk (last_snoc xs (g + 1) x.f3 x.f4)
     obtain ⟨xs', hxs'⟩ : ∃ xs', xs' = xs ++ [(g + 1, x.f3, x.f4)] := ⟨_, rfl⟩
     have hl' : xs'.length = xs.length + 1 := by rw [hxs']; simp
     have hl2 : xs'.length ≤ i + 1 := by omega
     rw [← hxs'] at LAST3
     obtain ⟨L, hL⟩ : ∃ L, L = xs'.map toL := ⟨_, rfl⟩
     obtain ⟨ks, hks⟩ := same_ev L (by rw [hL, List.length_map]; omega)
     have LL := Aside0.mk hL
     clear hL
     have SAME := Aside0.mk (hks ks (Nat.le_refl _))
     have XS := Aside0.mk hxs'
     obtain ⟨num, hnum⟩ : ∃ num, num = g + 1 := ⟨_, rfl⟩
     have hn1 : num ≤ (i : Int) + 1 := by omega
     have hn0 : 0 ≤ num := by omega
     have NUM := Aside0.mk hnum
     rw [← hnum] at LAST3
     have nn : (num != num) = false := by simp
     clear hlast hks hxs' hl' hnum
     go_wp2_with (first
      | (go_at_call 10; have G_ := GA0; refine (model_Backup.miss H1.out (by omega) hk A5 c5 x.f5 I1.out L5.out HT.out HL.out FX.out GET.out hg0 (by omega) (by omega) LAST.out).mono ?_; rintro e w3 ⟨he, C3, hH, hg3, hoth, hsp⟩; rw [← NUM.out] at he; subst he; have H3 := Aside0.mk hH; have GET3 : Aside0 (getC C3 x.f1 = (xs', num)) := ⟨by rw [hg3, XS.out, NUM.out]⟩; have OTH3 := Aside0.mk hoth; have BX3 : Aside0 (w3.heap[wr.heap.size]? = some (.cells #[.int .i64 x.f0, .int .i64 x.f1, .int .i64 x.f2, .int .i64 x.f3, .int .i64 x.f4, .slice A5 x.f5.length c5, .int .i64 x.f6.f0, .int .i64 x.f6.f1, .int .i64 x.f6.f2] 31 (0, 0))) := ⟨hsp.2 _ _ BX1.out (by intro e; obtain ⟨D_, ⟨es, cl, h1, _⟩, _⟩ := H1.out.map; rw [← e, BX1.out] at h1; cases h1) (by simp) (by simp)⟩; have hb1 : w3.cell? ⟨wr.heap.size, 1, none⟩ = some (.int .i64 x.f1) := (blk_cell BX3.out 1).trans rfl; have hb3 : w3.cell? ⟨wr.heap.size, 3, none⟩ = some (.int .i64 x.f3) := (blk_cell BX3.out 3).trans rfl; have hb4 : w3.cell? ⟨wr.heap.size, 4, none⟩ = some (.int .i64 x.f4) := (blk_cell BX3.out 4).trans rfl; clear hH hg3 hoth hsp; clear G_ GA0)
      | (go_at_call 11; have G_ := GA1; refine (model_List.calls H3.out hk GET3.out (by omega)).mono ?_; rintro e w4 ⟨v4, rfl, hR, hb⟩; rw [← LL.out] at hR; obtain ⟨A4, c4, rfl⟩ := Kd.R_slice hR; have R4 := Aside0.mk (Kd.R_reads' hR); have H4 := Aside0.mk (H3.out.after hb); have BX4 := Aside0.mk (blk_below BX3.out hb); clear hb1 hb3 hb4; have hb1 : w4.cell? ⟨wr.heap.size, 1, none⟩ = some (.int .i64 x.f1) := (blk_cell BX4.out 1).trans rfl; have hb3 : w4.cell? ⟨wr.heap.size, 3, none⟩ = some (.int .i64 x.f3) := (blk_cell BX4.out 3).trans rfl; have hb4 : w4.cell? ⟨wr.heap.size, 4, none⟩ = some (.int .i64 x.f4) := (blk_cell BX4.out 4).trans rfl; clear hR hb; clear G_ GA1)
      | (go_at_call 10; have G_ := GA2; refine (model_Backup.hit H4.out (by omega) hk none 0 [] (Kd.C_nil _ _) (Nat.le_refl _) (fun e he => by cases he) (by decide) FN.out GET3.out (by omega) (by omega) (by omega) LAST3.out).mono ?_; rintro e w5 ⟨rfl, hb⟩; have R5 := Aside0.mk (Kd.C_below R4.out.2.2 hb); have H5 := Aside0.mk (H4.out.after hb); have BX5 := Aside0.mk (blk_below BX4.out hb); clear hb1 hb3 hb4; have hb1 : w5.cell? ⟨wr.heap.size, 1, none⟩ = some (.int .i64 x.f1) := (blk_cell BX5.out 1).trans rfl; have hb3 : w5.cell? ⟨wr.heap.size, 3, none⟩ = some (.int .i64 x.f3) := (blk_cell BX5.out 3).trans rfl; have hb4 : w5.cell? ⟨wr.heap.size, 4, none⟩ = some (.int .i64 x.f4) := (blk_cell BX5.out 4).trans rfl; clear hb; clear G_ GA2)
      | (go_at_call 11; have G_ := GA3; refine (model_List.calls H5.out hk GET3.out (by omega)).mono ?_; rintro e w6 ⟨v6, rfl, hR, hb⟩; rw [← LL.out] at hR; obtain ⟨A6, c6, rfl⟩ := Kd.R_slice hR; have R6 := Aside0.mk (Kd.R_reads' hR); have R56 := Aside0.mk (Kd.C_below R5.out hb); have H6 := Aside0.mk (H5.out.after hb); clear hR hb; clear G_ GA3)
      | (go_at_call 12; have G_ := GA4; refine (satchelkit_SameListed.calls ks A6 c6 L A4 c4 L true _ R6.out.2.2 R6.out.2.1 R56.out R4.out.2.1 SAME.out).mono ?_; rintro e w7 ⟨rfl, hd⟩; have H7 := Aside0.mk (H6.out.after (Drawn0.below hd)); clear hd; clear G_ GA4))
     go_roundw
     case rel =>
      refine ⟨i + 1, n + 1, C3, by congr 1, by omega, by omega, H7, ⟨fun k => ?_⟩⟩
      by_cases e : k = x.f1
      ·rw [e, GET3.out]
       exact ⟨by omega, by omega, hl2⟩
      ·rw [OTH3.out k e]
       exact SM.out.more k
     case measure => simp [intOf]; omega
   ·obtain ⟨kf, hkf⟩ := fits_ev x.f1 1 x.f3 x.f4 x.f5
    have FX := Aside0.mk (hkf kf (Nat.le_refl _))
    obtain ⟨e0, he0⟩ : ∃ e0, e0 = fitsV x.f1 1 x.f3 x.f4 x.f5 := ⟨_, rfl⟩
    rw [← he0] at FX hf
    have b1 : (e0 != 0) = true := bne_iff_ne.mpr hf
    have HE := Aside0.mk hf
    clear hkf he0 hf
    go_wp2_with (go_at_call 10; refine (model_Backup.bad H1.out A5 c5 x.f5 I1.out L5.out kf FX.out HE.out).mono ?_; rintro e w3 ⟨rfl, hb⟩; have H7 := Aside0.mk (H1.out.after hb); clear hb)
    go_roundw
    case rel => exact ⟨i + 1, n, C, by congr 1, by omega, by omega, H7, ⟨SM.out.more⟩⟩
    case measure => simp [intOf]; omega
  ·have b0 : decide (i < l0.length) = false := decide_eq_false hlt
   go_wp2
   go_ret
   exact ⟨rfl, HH.out.below⟩
theorem modelAgain.walk (A0 : Option Addr) (c0 : Nat) (l0 : List (S31)) (w : World) (hr0 : Kd.C k31 w A0 l0.length l0) (hc0 : l0.length ≤ c0) (hfit : ∀ x ∈ l0, ActIn x) :
  Calls Try.prog 3 #[.slice A0 l0.length c0] w fun e w' => e = .returned (.bool true) ∧ Below w.heap.size w w' := by
 obtain ⟨b, ⟨K, hK⟩, hq⟩ := long_ev l0
 have hK := hK K (Nat.le_refl _)
 cases b with
 | true => exact modelAgain.short A0 c0 l0 w hr0 hc0 true K hK (.inl rfl)
 | false =>
  by_cases h : l0.length ≤ 30
  ·exact modelAgain.main A0 c0 l0 w hr0 hc0 hfit K hK h
  ·exact modelAgain.short A0 c0 l0 w hr0 hc0 false K hK (.inr (by omega))
end Go.Proofs.Ytmlgfgmgolgjbaa.X
end

/-! ## mOpenAct -/
section
namespace Go.Proofs.Ytmlgfgmgolgjbaa.X
open Go.ChangeShapes Go.WideShapes Go.ChangeAt Go.RowKit Go.Proofs.YtmlgfgmgolgjbaaW.PrintWords Go.Proofs.YtmlgfgmgolgjbaaW.PrintLast Go.Proofs.YtmlgfgmgolgjbaaW.PrintMore Go.Deep
set_option linter.unusedVariables false
set_option linter.unusedSimpArgs false
variable {H : Type} {enc : TypeId × Value → H} {W : World} {spare : Nat → Bool} {held : Bool}
theorem fits_of {l : List (S89)} (h : ∀ e ∈ l, EntryIn e) : Fits l := fun e he => Nat.lt_of_le_of_lt (h e he).data (by decide)
set_option maxRecDepth 100000 in
theorem opens_policy {fuel : Nat} {cs : List Value} {y : DataW H × List MemPlace} (h : DataW.trod enc Try.prog W 0 spare held fuel 29 cs = some y) : ∃ x : S29, cs = [.int .i64 x.f0, .int .i64 x.f1, .int .i64 x.f2] := by
 obtain ⟨xs, n, rfl, rfl, hcs, hxs, hf⟩ := DataW.trod_struct Try.underlying29 h
 have hcl : cs.length = 3 := hcs
 have at_ : ∀ i (hi : i < 3), ∃ y, xs[i]? = some y := fun i hi => ⟨xs[i]'(by rw [hxs]; exact hi), List.getElem?_eq_getElem _⟩
 match cs, hcl with
 | [c0, c1, c2], _ =>
  obtain ⟨y0, e0⟩ := at_ 0 (by decide)
  obtain ⟨y1, e1⟩ := at_ 1 (by decide)
  obtain ⟨y2, e2⟩ := at_ 2 (by decide)
  obtain ⟨z0, h0, _, w0⟩ := DataW.trod_int Try.underlying3 ((hf 0 _ rfl).trans e0)
  obtain ⟨z1, h1, _, w1⟩ := DataW.trod_int Try.underlying3 ((hf 1 _ rfl).trans e1)
  obtain ⟨z2, h2, _, w2⟩ := DataW.trod_int Try.underlying3 ((hf 2 _ rfl).trans e2)
  have q0 : [c0] = [.int .i64 z0] := h0
  have q1 : [c1] = [.int .i64 z1] := h1
  have q2 : [c2] = [.int .i64 z2] := h2
  obtain rfl := (List.cons.inj q0).1
  obtain rfl := (List.cons.inj q1).1
  obtain rfl := (List.cons.inj q2).1
  exact ⟨⟨z0, z1, z2⟩, rfl⟩
set_option maxRecDepth 100000 in
theorem opens_act {fuel : Nat} {cs : List Value} {y : DataW H × List MemPlace} (h : DataW.trod enc Try.prog W 0 spare held fuel 31 cs = some y) :
  ∃ x, k31.K W x cs ∧ ((∀ n ∈ y.1.weights Try.prog 31, n ≤ reachBytes) → ActIn x) := by
 obtain ⟨xs, n, rfl, rfl, hcs, hxs, hf⟩ := DataW.trod_struct Try.underlying31 h
 have hcl : cs.length = 9 := hcs
 have at_ : ∀ i (hi : i < 7), ∃ y, xs[i]? = some y := fun i hi => ⟨xs[i]'(by rw [hxs]; exact hi), List.getElem?_eq_getElem _⟩
 match cs, hcl with
 | [c0, c1, c2, c3, c4, c5, c6, c7, c8], _ =>
  obtain ⟨y0, e0⟩ := at_ 0 (by decide)
  obtain ⟨y1, e1⟩ := at_ 1 (by decide)
  obtain ⟨y2, e2⟩ := at_ 2 (by decide)
  obtain ⟨y3, e3⟩ := at_ 3 (by decide)
  obtain ⟨y4, e4⟩ := at_ 4 (by decide)
  obtain ⟨y5, e5⟩ := at_ 5 (by decide)
  obtain ⟨y6, e6⟩ := at_ 6 (by decide)
  obtain ⟨z0, h0, _, w0⟩ := DataW.trod_int Try.underlying3 ((hf 0 _ rfl).trans e0)
  obtain ⟨z1, h1, _, w1⟩ := DataW.trod_int Try.underlying3 ((hf 1 _ rfl).trans e1)
  obtain ⟨z2, h2, _, w2⟩ := DataW.trod_int Try.underlying3 ((hf 2 _ rfl).trans e2)
  obtain ⟨z3, h3, _, w3⟩ := DataW.trod_int Try.underlying3 ((hf 3 _ rfl).trans e3)
  obtain ⟨z4, h4, _, w4⟩ := DataW.trod_int Try.underlying3 ((hf 4 _ rfl).trans e4)
  obtain ⟨A5, len5, cap5, l5, h5, hle5, _, hl5, hC5, _, hin5⟩ := opens_entries ((hf 5 _ rfl).trans e5)
  obtain ⟨p6, h6⟩ := opens_policy ((hf 6 _ rfl).trans e6)
  have q0 : [c0] = [.int .i64 z0] := h0
  have q1 : [c1] = [.int .i64 z1] := h1
  have q2 : [c2] = [.int .i64 z2] := h2
  have q3 : [c3] = [.int .i64 z3] := h3
  have q4 : [c4] = [.int .i64 z4] := h4
  have q5 : [c5] = [.slice A5 len5 cap5] := h5
  have q6 : [c6, c7, c8] = [.int .i64 p6.f0, .int .i64 p6.f1, .int .i64 p6.f2] := h6
  obtain rfl := (List.cons.inj q0).1
  obtain rfl := (List.cons.inj q1).1
  obtain rfl := (List.cons.inj q2).1
  obtain rfl := (List.cons.inj q3).1
  obtain rfl := (List.cons.inj q4).1
  obtain rfl := (List.cons.inj q5).1
  obtain ⟨rfl, q7⟩ := List.cons.inj q6
  obtain ⟨rfl, q8⟩ := List.cons.inj q7
  obtain rfl := (List.cons.inj q8).1
  subst hl5
  refine ⟨⟨z0, z1, z2, z3, z4, l5, p6⟩, k31_mk W ⟨z0, z1, z2, z3, z4, l5, p6⟩ hle5 hC5, fun hw => ⟨w1, fits_of (hin5 (fun n hn => hw n ?_))⟩⟩
  simp only [DataW.weights, Try.underlying31]
  exact DataW.weights_mem_each (j := 5) (ts := [3, 3, 3, 3, 3, 27, 29]) rfl (by rw [List.getElem?_map, e5]; rfl) n hn
set_option maxRecDepth 100000 in
theorem opens_acts {fuel : Nat} {cs : List Value} {x : DataW H × List MemPlace} (h : DataW.trod enc Try.prog W 0 spare held fuel 22 cs = some x) :
  ∃ A len cap xs, cs = [.slice A len cap] ∧ len ≤ cap ∧ xs.length = len ∧ Kd.C k31 W A len xs ∧ ((∀ n ∈ x.1.weights Try.prog 22, n ≤ reachBytes) → ∀ e ∈ xs, ActIn e) := by
 rcases open_slice Try.underlying22 h with ⟨rfl, _⟩ | ⟨a, len, cap, m, n, D, Pl, rfl, hb, hl, hm, hmm, rfl, hx⟩
 ·exact ⟨none, 0, 0, [], rfl, Nat.le_refl _, rfl, Kd.C_nil _ _, fun _ _ h => by cases h⟩
 ·have hlm : len ≤ m := by rw [hmm]; split <;> omega
  have hz : ∀ i, i < len → ∃ e : S31, ((∀ n ∈ (D i).weights Try.prog 31, n ≤ reachBytes) → ActIn e) ∧ ∃ c, c.length = 9 ∧ k31.K W e c ∧ ∀ q u, c[q]? = some u → W.cell? (a.add (i * 9 + q)) = some u := by
   intro i hi
   obtain ⟨cs', h1, h2⟩ := hx i (by omega)
   obtain ⟨e, he, hin⟩ := opens_act h2
   obtain ⟨_, hlen, hcell⟩ := World.cells?_some h1
   have hlen' : cs'.length = 9 := hlen
   refine ⟨e, hin, cs', hlen', he, fun q u hu => ?_⟩
   have hq : q < 9 := by have := (List.getElem?_eq_some_iff.1 hu).1; omega
   have h3 := hcell q hq
   rw [Deep.add_add, hu] at h3
   exact h3
  have : Inhabited (S31) := ⟨z31⟩
  obtain ⟨f, hf⟩ := choose_lt hz
  refine ⟨some a, len, cap, (List.range len).map f, rfl, hl, by simp, ⟨by simp, Nat.le_trans (Nat.le_trans hl hm) (by decide), fun _ => ⟨a, rfl, fun j p hj => ?_⟩⟩, fun hw e he => ?_⟩
  ·have hjl : j < len := by have := (List.getElem?_eq_some_iff.1 hj).1; simpa using this
   have hp : p = f j := by
    rw [List.getElem?_map, List.getElem?_range hjl] at hj
    exact (Option.some.inj hj).symm
   subst hp
   obtain ⟨_, c, h1, h2, h3⟩ := hf j hjl
   exact ⟨c, h1, h2, h3⟩
  ·obtain ⟨j, hj, rfl⟩ := List.mem_map.1 he
   refine (hf j (List.mem_range.1 hj)).1 fun n hn => hw n ?_
   simp only [DataW.weights, Try.underlying22, List.mem_cons, List.mem_append]
   exact .inr (.inl (weights_all (List.mem_map.2 ⟨j, hj, rfl⟩) n hn))
end Go.Proofs.Ytmlgfgmgolgjbaa.X
end
