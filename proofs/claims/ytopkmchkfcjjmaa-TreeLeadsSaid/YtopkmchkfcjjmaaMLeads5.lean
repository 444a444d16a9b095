/- Functions, one behind the other: a plain Lean function for each, and the proof that the call comes to its answer, whatever the world (conditions: what the arguments read as); and plain laws of them. -/
import Derived.Test.YtopkmchkfcjjmaaMLeads4
import Derived.Test.YtopkmchkfcjjmaaMLeads2
import Derived.ArgAppend
import Derived.BigRegion
import Derived.Test.YtopkmchkfcjjmaaMLeads3
/-! ## PurePuts -/
section
namespace Go.Proofs.Ytopkmchkfcjjmaa.X
open Go.RowKit Go.Proofs.YtopkmchkfcjjmaaW.PrintWords Go.Proofs.YtopkmchkfcjjmaaW.PrintLast Go.Proofs.YtopkmchkfcjjmaaW.PrintMore
set_option linter.unusedVariables false
set_option linter.unusedSimpArgs false
theorem Fits.take {l : List (S31)} (h : Fits l) (n : Nat) : Fits (l.take n) := fun e he => h e (List.mem_of_mem_take he)
theorem Fits.drop {l : List (S31)} (h : Fits l) (n : Nat) : Fits (l.drop n) := fun e he => h e (List.mem_of_mem_drop he)
theorem Fits.app {l m : List (S31)} (h : Fits l) (h' : Fits m) : Fits (l ++ m) := fun e he => by
 rcases List.mem_append.1 he with h1 | h1
 ·exact h e h1
 ·exact h' e h1
theorem Fits.cons {l : List (S31)} {x : S31} (hx : x.f3.length < 140737488355328) (h : Fits l) : Fits (x :: l) := fun e he => by
 rcases List.mem_cons.1 he with rfl | h1
 ·exact hx
 ·exact h e h1
theorem Fits.data {l : List (S31)} (h : Fits l) : ∀ i : Nat, i < l.length → (rd_T31 l (i : Int)).f3.length < 140737488355328 := fun i hi => h.at hi
/-! ### Put -/
theorem set_split (l : List (S31)) (n : Nat) (x : S31) (h : n < l.length) : l.set n x = l.take n ++ x :: l.drop (n + 1) := by
 rw [List.set_eq_take_append_cons_drop, if_pos h]
/-- What comes of a put: the tree, or why it may not be. -/
def putV (l : List (S31)) (x : S31) : List (S31) × Int := if (treeV l).1 = 0 then (if (treeV (putAt l (placeV l x.f0) x)).1 = 0 then (putAt l (placeV l x.f0) x, 0) else ([], (treeV (putAt l (placeV l x.f0) x)).1)) else ([], (treeV l).1)
/-! ### Drop -/
def underV (s d : ByteArray) : Bool := validV s && validV d && decide (d.size < s.size ∧ s.toList.take d.size = d.toList ∧ s.toList[d.size]? = some 47)
theorem under_ev (s d : ByteArray) : Ev (fun k => path_Under.f k s d) (underV s d) := by
 simp only [path_Under.f]
 refine Ev.bind (valid_ev s) ?_
 unfold underV
 by_cases h1 : validV s = true
 ·refine Ev.ifp h1 (Ev.bind (valid_ev d) ?_)
  by_cases h2 : validV d = true
  ·have hs := valid_size h1
   have hd := valid_size h2
   refine Ev.ifp h2 (Ev.ifp (by omega) ?_)
   rw [h1, h2]
   simp only [strings_HasPrefix.f, stringslite_HasPrefix.f]
   have hsz : (d ++ (⟨#[47]⟩ : ByteArray)).size = d.size + 1 := by rw [← toList_len, app_list, List.length_append, toList_len, toList_len]; rfl
   have hli : (d ++ (⟨#[47]⟩ : ByteArray)).toList = d.toList ++ [47] := by rw [app_list]; congr 1; rw [ByteArray.toList_eq]
   rw [hsz]
   by_cases h3 : d.size < s.size
   ·refine Ev.bind (Ev.bind (Ev.ifp (by omega) (Ev.ifp (by omega) (Ev.ifp (by omega) (Ev.const _)))) (Ev.const _)) ?_
    have he : ((s.extract 0 (((d.size + 1 : Nat) : Int)).toNat).toList == (d ++ (⟨#[47]⟩ : ByteArray)).toList) = (true && true && decide (d.size < s.size ∧ s.toList.take d.size = d.toList ∧ s.toList[d.size]? = some 47)) := by
     rw [Int.toNat_natCast, extract_list, List.drop_zero, hli, Bool.eq_iff_iff, beq_iff_eq]
     have hl : d.size < s.toList.length := by rw [toList_len]; exact h3
     rw [List.take_succ_eq_append_getElem hl, List.getElem?_eq_getElem hl]
     have hlt : (s.toList.take d.size).length = d.toList.length := by rw [List.length_take, toList_len, toList_len]; omega
     constructor
     ·intro h
      obtain ⟨h4, h5⟩ := List.append_inj h hlt
      simp only [Bool.true_and, decide_eq_true_eq]
      exact ⟨h3, h4, by injection h5 with h5 _; rw [h5]⟩
     ·intro h
      simp only [Bool.true_and, decide_eq_true_eq] at h
      rw [h.2.1, Option.some.inj h.2.2]
    rw [he]
    exact Ev.const _
   ·refine Ev.bind (Ev.bind (Ev.ifn (by omega) (Ev.const _)) (Ev.const _)) ?_
    rw [show decide (d.size < s.size ∧ s.toList.take d.size = d.toList ∧ s.toList[d.size]? = some 47) = false from decide_eq_false (fun c => h3 c.1)]
    exact Ev.const _
  ·rw [h1, show validV d = false by simpa using h2]
   exact Ev.ifn (by simp) (Ev.const _)
 ·rw [show validV s = false by simpa using h1]
  exact Ev.ifn (by simp) (Ev.const _)
def goneV (s : ByteArray) (x : S31) : Bool := decide (x.f0 = s) || underV x.f0 s
theorem gone_ev (s : ByteArray) (x : S31) : Ev (fun k => goneOf k s x) (goneV s x) := by
 simp only [goneOf]
 unfold goneV
 by_cases h : x.f0 = s
 ·rw [decide_eq_true h]
  exact Ev.ifp (by rw [h]) (Ev.const _)
 ·rw [decide_eq_false h, Bool.false_or]
  exact Ev.ifn (fun e => h (bytes_ext e)) (under_ev _ _)
theorem kept_ev (s : ByteArray) (l : List (S31)) : Ev (fun k => keptOf k l s) (l.filter fun x => !goneV s x) := by
 have hall : ∃ K, ∀ k, K ≤ k → ∀ x ∈ l, goneOf k s x = some (goneV s x) := by
  induction l with
  | nil => exact ⟨0, fun _ _ x hx => by cases hx⟩
  | cons y t ih =>
   obtain ⟨K1, h1⟩ := ih
   obtain ⟨K2, h2⟩ := gone_ev s y
   refine ⟨K1 + K2, fun k hk x hx => ?_⟩
   rcases List.mem_cons.1 hx with rfl | hx
   ·exact h2 k (by omega)
   ·exact h1 k (by omega) x hx
 obtain ⟨K, hK⟩ := hall
 refine ⟨K, fun k hk => ?_⟩
 show keptOf k l s = _
 unfold keptOf
 rw [if_pos (List.all_eq_true.2 fun x hx => by rw [hK k hk x hx]; rfl)]
 congr 1
 refine List.filter_congr fun x hx => ?_
 unfold isGone
 rw [hK k hk x hx]
 rfl
/-- What comes of a drop. -/
def dropV (l : List (S31)) (s : ByteArray) : List (S31) × Int := if (treeV l).1 = 0 then (if hasP l s = true then (l.filter fun x => !goneV s x, 0) else ([], 6)) else ([], (treeV l).1)
theorem drop_ev (l : List (S31)) (hl : l.length < 1000000) (hf : Fits l) (s : ByteArray) : Ev (fun k => tree_Drop.f k l s) (dropV l s) := by
 unfold dropV
 simp only [tree_Drop.f]
 by_cases hg : (treeV l).1 = 0
 ·rw [if_pos hg]
  have hG := good_of hg
  have hlen := hG.1
  obtain ⟨n, h0, h1, h2, h3⟩ := place_spec hG.rising s
  refine Ev.bind (tree_ev l) (Ev.ifp hg (Ev.bind (place_ev l s (by omega)) ?_))
  rcases h3 with ⟨h3, h4, h5⟩ | ⟨h3, h4⟩
  ·rw [h3, hasP_at h4 h5, if_pos rfl]
   refine Ev.ifp rfl ?_
   rw [show api_Entry_55.f l = some l from by unfold api_Entry_55.f; rw [if_pos (by omega)]]
   simp only [Option.bind_some]
   have hff : Fits (l.filter fun x => !goneV s x) := fun e he => hf e (List.mem_filter.1 he).1
   have hlf := List.length_filter_le (fun x => !goneV s x) l
   exact Ev.bind (kept_ev s l) (Ev.bind (clone_ev _ (by omega) hff.data) (Ev.const _))
  ·rw [h3, hasP_of l s h4, if_neg (by simp)]
   exact Ev.ifn (by simp) (Ev.const _)
 ·rw [if_neg hg]
  exact Ev.bind (tree_ev l) (Ev.ifn hg (Ev.const _))
end Go.Proofs.Ytopkmchkfcjjmaa.X
end

/-! ## PureDrops -/
section
namespace Go.Proofs.Ytopkmchkfcjjmaa.X
open Go.RowKit Go.Proofs.YtopkmchkfcjjmaaW.PrintWords Go.Proofs.YtopkmchkfcjjmaaW.PrintLast Go.Proofs.YtopkmchkfcjjmaaW.PrintMore
set_option linter.unusedVariables false
set_option linter.unusedSimpArgs false
theorem sameEntry_self (x : S31) : sameEntry x x = true := by simp [sameEntry, sameBytes]
theorem fits_putAt {l : List (S31)} (hf : Fits l) {x : S31} (hx : x.f3.length < 140737488355328) (p : Int × Bool) : Fits (putAt l p x) := by
 unfold putAt
 split
 ·intro e he
  rcases List.mem_or_eq_of_mem_set he with h | rfl
  ·exact hf _ h
  ·exact hx
 ·exact (hf.take _).app (Fits.cons hx (hf.drop _))
theorem put_ev (l : List (S31)) (hl : l.length < 1000000) (hf : Fits l) (x : S31) (hx : x.f3.length < 140737488355328) : Ev (fun k => tree_Put.f k l x.f0 x.f1 x.f2 x.f3 x.f4) (putV l x) := by
 unfold putV
 simp only [tree_Put.f]
 by_cases hg : (treeV l).1 = 0
 ·rw [if_pos hg]
  have hG := good_of hg
  have hlen := hG.1
  obtain ⟨n, h0, h1, h2, h3⟩ := place_spec hG.rising x.f0
  have hout : 0 ≤ (placeV l x.f0).1 ∧ (placeV l x.f0).1 ≤ (l.length : Int) ∧ ((placeV l x.f0).2 = true → (placeV l x.f0).1 < (l.length : Int)) := by
   rcases h3 with ⟨h3, h4, h5⟩ | ⟨h3, h4⟩
   ·rw [h3]
    exact ⟨by simp, by simp; omega, fun _ => by simp; omega⟩
   ·rw [h3]
    exact ⟨by simp, by simp; omega, fun h => by cases h⟩
  refine Ev.ifp hl (Ev.bind (tree_ev l) (Ev.ifp hg (Ev.bind (place_ev l x.f0 (by omega)) (Ev.ifp hout (Ev.bind (tree_ev _) ?_)))))
  by_cases hc : (treeV (putAt l (placeV l x.f0) x)).1 = 0
  ·rw [if_pos hc]
   have hG2 := good_of hc
   have := hG2.1
   exact Ev.ifp hc (Ev.bind (clone_ev (putAt l (placeV l x.f0) x) (by omega) (fits_putAt hf hx _).data) (Ev.const _))
  ·rw [if_neg hc]
   exact Ev.ifn hc (Ev.const _)
 ·rw [if_neg hg]
  exact Ev.ifp hl (Ev.bind (tree_ev l) (Ev.ifn hg (Ev.const _)))
/-! ### What a drop leaves -/
end Go.Proofs.Ytopkmchkfcjjmaa.X
end

/-! ## Sample -/
section
namespace Go.Proofs.Ytopkmchkfcjjmaa.X
open Go.RowKit Go.Proofs.YtopkmchkfcjjmaaW.PrintWords Go.Proofs.YtopkmchkfcjjmaaW.PrintLast Go.Proofs.YtopkmchkfcjjmaaW.PrintMore
set_option linter.unusedVariables false
set_option linter.unusedSimpArgs false
/-- The cells of the examples' tree, the one byte lying in block b. -/
def sampleCells (b : Nat) : Array Value := #[.string (⟨#[97]⟩ : ByteArray), .int .i64 1, .int .i64 493, .slice none 0 0, .string (⟨#[]⟩ : ByteArray), .string (⟨#[97, 47, 98]⟩ : ByteArray), .int .i64 2, .int .i64 420, .slice (some ⟨b, 0, none⟩) 1 1, .string (⟨#[]⟩ : ByteArray), .string (⟨#[99]⟩ : ByteArray), .int .i64 3, .int .i64 0, .slice none 0 0, .string (⟨#[97, 47, 98]⟩ : ByteArray)]
/-- The world with the examples' tree laid in it. -/
def sampleW (w : World) : World := ((w.alloc (.cells #[.int .u8 120] 5)).freeze ⟨w.heap.size, 1, none⟩ 1).alloc (.cells (sampleCells w.heap.size) 31)
set_option maxHeartbeats 2000000 in
set_option maxRecDepth 100000 in
theorem satchellaw08_sample.calls3 (w : World) : Calls Try.prog 35 #[] w fun e w' => e = .returned (.slice (some ⟨w.heap.size + 1, 0, none⟩) 3 3) ∧ w' = sampleW w := by
 have hu31 := Try.underlying31
 obtain ⟨w1, hw1⟩ : ∃ w1, (w.alloc (.cells #[.int .u8 120] 5)).freeze ⟨w.heap.size, 1, none⟩ 1 = w1 := ⟨_, rfl⟩
 have hcv := cv_lit w.heap.size 1 1 #[.int .u8 120] 5 (0, 0) (w.alloc (.cells #[.int .u8 120] 5)) (heap_alloc_new w _)
 replace hcv : (convert 29 29 (.slice (some ⟨w.heap.size, 0, none⟩) 1 1)).run Try.prog (w.alloc (.cells #[.int .u8 120] 5)) = .ok (.slice (some ⟨w.heap.size, 0, none⟩) 1 1) w1 := by rw [← hw1]; exact hcv
 have hsz : w1.heap.size = w.heap.size + 1 := by
  rw [← hw1]
  unfold World.freeze
  rw [if_neg (by decide)]
  simp
 have HW1 := Aside0.mk hw1
 clear hw1
 go_enter Try.func35, Try.ntmps35
 go_wp2
 go_ret
 exact ⟨rfl, by unfold sampleW; rw [HW1.out]; rfl⟩
theorem satchellaw08_sample.calls4 (w : World) (g : Nat) (h : w.heap.size + 1 = g) : Calls Try.prog 35 #[] w fun e w' => e = .returned (.slice (some ⟨g, 0, none⟩) 3 3) ∧ w' = sampleW w := by
 subst h
 exact satchellaw08_sample.calls3 w
theorem sampleW_mid (w : World) : ((w.alloc (.cells #[.int .u8 120] 5)).freeze ⟨w.heap.size, 1, none⟩ 1).heap[w.heap.size]? = some (.cells #[.int .u8 120] 5 (1, 2)) ∧ ((w.alloc (.cells #[.int .u8 120] 5)).freeze ⟨w.heap.size, 1, none⟩ 1).heap.size = w.heap.size + 1 := by
 unfold World.freeze
 rw [if_neg (by decide)]
 constructor
 ·simp only [Array.getElem?_modify, heap_alloc_new]
  rfl
 ·simp
theorem sampleW_below (w : World) : Below w.heap.size w (sampleW w) := below_alloc (freeze_below ((Below.refl _ w).alloc (Nat.le_refl _) _) _ _ (Nat.le_refl _)) _
theorem sampleW_size (w : World) : (sampleW w).heap.size = w.heap.size + 2 := by
 unfold sampleW
 have h := (sampleW_mid w).2
 simp only [World.alloc] at h ⊢
 rw [Array.size_push, h]
theorem sampleW_new (w : World) : (sampleW w).heap[w.heap.size + 1]? = some (.cells (sampleCells w.heap.size) 31 (0, 0)) := by
 have h := heap_alloc_new ((w.alloc (.cells #[.int .u8 120] 5)).freeze ⟨w.heap.size, 1, none⟩ 1) (.cells (sampleCells w.heap.size) 31)
 rw [(sampleW_mid w).2] at h
 exact h
theorem sampleW_byte (w : World) : (sampleW w).heap[w.heap.size]? = some (.cells #[.int .u8 120] 5 (1, 2)) := by
 refine (Below.heap_alloc _ _ w.heap.size ?_).trans (sampleW_mid w).1
 rw [(sampleW_mid w).2]; omega
theorem sampleW_old (w : World) {k : Nat} {o : Obj} (h : w.heap[k]? = some o) : (sampleW w).heap[k]? = some o := by
 have hk : k < w.heap.size := (Array.getElem?_eq_some_iff.1 h).1
 exact ((sampleW_below w).block k hk).trans h
end Go.Proofs.Ytopkmchkfcjjmaa.X
end

/-! ## TreeSize -/
section
namespace Go.Proofs.Ytopkmchkfcjjmaa.X
open Go.RowKit Go.Proofs.YtopkmchkfcjjmaaW.PrintWords Go.Proofs.YtopkmchkfcjjmaaW.PrintLast Go.Proofs.YtopkmchkfcjjmaaW.PrintMore
attribute [local go_sem] max2_int min2_int max_two min_two max_three min_three max_four min_four   -- for this text's walks alone
set_option linter.unusedVariables false
set_option linter.unusedSimpArgs false

attribute [local go_sem] str_gtr fld_fault0 fld_fault1
/-! ### tree_Size: function 22 -/
def tree_Size.l0 : Nat → Int → List (S31) → Int → Int → Option (Int)
 | 0, _, _, _, _ => none
 | k + 1, x3, x6, x7, x8 => if x8 < x7 then (if 0 ≤ x8 then (if x8 < (x6.length : Int) then (tree_Size.l0 k (wrap64 (x3 + (((rd_T31 x6 x8).f3).length : Int))) x6 x7 (wrap64 (x8 + 1))) else (none)) else (none)) else (some x3)
def tree_Size.f (k : Nat) (l0 : List (S31)) : Option (Int) := tree_Size.l0 k 0 l0 (l0.length : Int) 0
theorem tree_Size.mono_l : ∀ k, (∀ y0 y1 y2 y3, LeO (tree_Size.l0 k y0 y1 y2 y3) (tree_Size.l0 (k + 1) y0 y1 y2 y3))
 | 0 => fun _ _ _ _ r h => by simp [tree_Size.l0] at h
 | k + 1 => by
  have ih0 := tree_Size.mono_l k
  ·intro y0 y1 y2 y3
   unfold tree_Size.l0
   repeat' first
   | (with_reducible exact ih0 _ _ _ _)
   | (with_reducible exact LeO.refl _)
   | (with_reducible exact LeO.none _)
   | (with_reducible refine LeO.ite ?_ ?_)
   | (with_reducible refine LeO.bind ?_ (fun _ => ?_))
   | exact ih0 _ _ _ _
   | exact LeO.none _
   | refine LeO.ite ?_ ?_
   | refine LeO.bind ?_ (fun _ => ?_)
theorem tree_Size.mono : ∀ a0 k, LeO (tree_Size.f k a0) (tree_Size.f (k + 1) a0) := by
 intro a0 k
 have ih0 := tree_Size.mono_l k
 unfold tree_Size.f
 repeat' first
   | (with_reducible exact ih0 _ _ _ _)
   | (with_reducible exact LeO.refl _)
   | (with_reducible exact LeO.none _)
   | (with_reducible refine LeO.ite ?_ ?_)
   | (with_reducible refine LeO.bind ?_ (fun _ => ?_))
   | exact ih0 _ _ _ _
   | exact LeO.none _
   | refine LeO.ite ?_ ?_
   | refine LeO.bind ?_ (fun _ => ?_)
set_option maxHeartbeats 8000000 in
set_option maxRecDepth 100000 in
theorem tree_Size.calls (k : Nat) (A0 : Option Addr) (c0 : Nat) (l0 : List (S31)) (r : Int) (w : World) (hr0 : Kd.C k31 w A0 l0.length l0) (hc0 : l0.length ≤ c0) (h : tree_Size.f k l0 = some r) :
  Calls Try.prog 22 #[.slice A0 l0.length c0] w fun e w' => e = .returned (.int .i64 r) ∧ Below w.heap.size w w' := by
 have hu31 := Try.underlying31
 have HR0 := Aside0.mk hr0
 have HC0 := Aside0.mk hc0
 clear hr0 hc0
 have HB := Aside0.mk (Below.refl w.heap.size w)
 have H : (tree_Size.l0 k 0 l0 (l0.length : Int) 0) = some r := h
 clear h
 have H' := Aside0.mk H
 clear H
 go_enter Try.func22, Try.ntmps22
 go_wp2
 go_loopg [3, 8] k (fun kq v3 v8 w' => ∃ (x3_1 : Int) (x8_1 : Int), v3 = .int .i64 x3_1 ∧ v8 = .int .i64 x8_1 ∧ Aside0 (tree_Size.l0 kq x3_1 l0 (l0.length : Int) x8_1 = some r) ∧ Aside0 (kq ≤ k) ∧ Aside0 (Below w.heap.size w w'))
 case atStart => exact ⟨(0), (0), (by first | rfl | (simp; done) | (simp [*]; done)), (by first | rfl | (simp; done) | (simp [*]; done)), H', ⟨Nat.le_refl _⟩, ⟨by repeat (first | (with_reducible first | exact HB.out | apply below_alloc | apply pw_below_drewN | apply below_drew1) | exact HB.out)⟩⟩
 case round =>
  clear H'
  obtain ⟨x3_1, x8_1, rfl, rfl, HA, HK1, HB⟩ := hrel
  cases gk with
  | zero => exact absurd HA.out (by simp [tree_Size.l0])
  | succ k1 =>
   have H := HA.out
   clear HA
   simp only [tree_Size.l0] at H
   by_cases c2 : x8_1 < (l0.length : Int)
   ·rw [if_pos c2] at H
    have c2b0 : decide (x8_1 < (l0.length : Int)) = true := decide_eq_true c2
    clear c2
    by_cases c3 : 0 ≤ x8_1
    ·rw [if_pos c3] at H
     have c3b0 : decide (0 ≤ x8_1) = true := decide_eq_true c3
     clear c3
     by_cases c4 : x8_1 < (l0.length : Int)
     ·rw [if_pos c4] at H
      have c4b0 : decide (x8_1 < (l0.length : Int)) = true := decide_eq_true c4
      clear c4
      have H' := Aside0.mk H
      clear H
      have p335 : 0 ≤ (x8_1 : Int) := of_decide_eq_true (by first | (with_reducible assumption) | assumption)
      have q335 : x8_1 < (l0.length : Int) := of_decide_eq_true (by first | (with_reducible assumption) | assumption)
      obtain ⟨ad335, A335_3, c335_3, e335, hx335_0, hx335_1, hx335_2, hx335_3, hx335_4, hl335_3, hi335_3⟩ := at_T31 HR0.out x8_1 p335 q335
      cases e335
      replace hx335_0 := (HB.out.cell (World.block_lt_of_cell? w _ hx335_0)).trans hx335_0
      replace hx335_1 := (HB.out.cell (World.block_lt_of_cell? w _ hx335_1)).trans hx335_1
      replace hx335_2 := (HB.out.cell (World.block_lt_of_cell? w _ hx335_2)).trans hx335_2
      replace hx335_3 := (HB.out.cell (World.block_lt_of_cell? w _ hx335_3)).trans hx335_3
      replace hx335_4 := (HB.out.cell (World.block_lt_of_cell? w _ hx335_4)).trans hx335_4
      have HR335_3 := Aside0.mk hi335_3
      have HC335_3 := Aside0.mk hl335_3
      clear hi335_3 hl335_3
      replace p335 := eq_true p335
      replace q335 := eq_true q335
      go_wp2_with (first | ((with_reducible refine gate_dst (N := 5) rfl ?_); refine box_event ?hg (N := 5) ?hd (cs := #[.string (⟨#[]⟩ : ByteArray), .int .i64 0, .int .i64 0, .slice none 0 0, .string (⟨#[]⟩ : ByteArray)]) (t := 31) ?hr ?_; (case hd => rfl); (case hg => rfl); (case hr => first | (go_simp; done) | (go_simp; rfl)); intro gb336 hg w5 hbox hb; have n0_ := Aside0.mk (below_step (by repeat (first | (with_reducible first | exact HB.out | apply below_alloc | apply pw_below_drewN | apply below_drew1) | exact HB.out)) hb); have n1_ := Aside0.mk (hbox); have n2_ := Aside0.mk ((by rw [hg]; exact (below_size (by repeat (first | (with_reducible first | exact HB.out | apply below_alloc | apply pw_below_drewN | apply below_drew1) | exact HB.out))) : w.heap.size ≤ gb336)); have n3_ := Aside0.mk ((by rw [hg]; exact (below_size (by repeat (first | (with_reducible first | exact HB.out | apply below_alloc | apply pw_below_drewN | apply below_drew1) | exact HB.out))) : w.heap.size ≤ gb336)); clear HB; have HB := n0_; have BK336 := n1_; have GW336 := n2_; have GE336 := n3_; clear n0_ n1_ n2_ n3_; clear hb hbox hg; have hcz6_0 : w5.cell? ⟨gb336, 0, none⟩ = some (.string (⟨#[]⟩ : ByteArray)) := (blk_cell BK336.out 0).trans rfl; have hcz6_1 : w5.cell? ⟨gb336, 1, none⟩ = some (.int .i64 0) := (blk_cell BK336.out 1).trans rfl; have hcz6_2 : w5.cell? ⟨gb336, 2, none⟩ = some (.int .i64 0) := (blk_cell BK336.out 2).trans rfl; have hcz6_3 : w5.cell? ⟨gb336, 3, none⟩ = some (.slice none 0 0) := (blk_cell BK336.out 3).trans rfl; have hcz6_4 : w5.cell? ⟨gb336, 4, none⟩ = some (.string (⟨#[]⟩ : ByteArray)) := (blk_cell BK336.out 4).trans rfl; have hfz6_0 := blk_frozen BK336.out 0; have hfz6_1 := blk_frozen BK336.out 1; have hfz6_2 := blk_frozen BK336.out 2; have hfz6_3 := blk_frozen BK336.out 3; have hfz6_4 := blk_frozen BK336.out 4))
      go_roundg k1
      case measure => have := HK1.out; omega
      case rel => exact ⟨(wrap64 (x3_1 + (((rd_T31 l0 x8_1).f3).length : Int))), (wrap64 (x8_1 + 1)), (by first | rfl | (simp; done) | (simp [*]; done)), (by first | rfl | (simp; done) | (simp [*]; done)), H', ⟨by have := HK1.out; omega⟩, ⟨by repeat (first | (with_reducible first | exact HB.out | apply below_alloc | apply pw_below_drewN | apply below_drew1 | refine below_set ?_ GE336.out) | exact HB.out)⟩⟩
     ·rw [if_neg c4] at H
      exact absurd H (by simp)
    ·rw [if_neg c3] at H
     exact absurd H (by simp)
   ·rw [if_neg c2] at H
    have c2b0 : decide (x8_1 < (l0.length : Int)) = false := decide_eq_false c2
    clear c2
    obtain rfl := Option.some.inj H
    go_wp2
    go_ret
    exact ⟨by first | rfl | (simp [errW_none, errW_some] <;> rfl) | (simp [*, errW_none, errW_some] <;> rfl) | (simp [bt, *]; done) | (simp_all [bt]; done), by repeat (first | (with_reducible first | exact HB.out | apply below_alloc | apply pw_below_drewN | apply below_drew1) | exact HB.out)⟩

end Go.Proofs.Ytopkmchkfcjjmaa.X
end

/-! ## WalkKnown -/
section
namespace Go.Proofs.Ytopkmchkfcjjmaa.X
open Go.RowKit Go.Proofs.YtopkmchkfcjjmaaW.PrintWords Go.Proofs.YtopkmchkfcjjmaaW.PrintLast Go.Proofs.YtopkmchkfcjjmaaW.PrintMore
set_option linter.unusedVariables false
set_option linter.unusedSimpArgs false
theorem drew_size (w : World) : w.drew.heap.size = w.heap.size := rfl
theorem Reps_nil0 {α : Type} {R : α → List Value → Prop} {size : Nat} : Reps R size ([] : List α) [] := ⟨by simp, fun j p hj => by cases hj⟩
def turnedL : List S31 := [⟨⟨#[99]⟩, 3, 0, [], ⟨#[97, 47, 98]⟩⟩, ⟨⟨#[97]⟩, 1, 493, [], ⟨#[]⟩⟩]
def dataL : List S31 := [⟨⟨#[97]⟩, 1, 493, [120], ⟨#[]⟩⟩]
def otherL : List S31 := [⟨⟨#[97]⟩, 1, 493, [], ⟨#[]⟩⟩, ⟨⟨#[97, 47, 98]⟩, 2, 420, [121], ⟨#[]⟩⟩, ⟨⟨#[100]⟩, 1, 0, [], ⟨#[]⟩⟩]
theorem known_drop : tree_Drop.f 40 sampleTree ⟨#[98]⟩ = some ([], 6) := by kernel_rfl
theorem known_put : tree_Put.f 40 sampleTree ⟨#[97]⟩ 2 0 [] ⟨#[]⟩ = some ([], 6) := by kernel_rfl
theorem known_diff : tree_Diff.f 40 sampleTree otherL = some ([⟨#[100]⟩], [⟨#[99]⟩], [⟨#[97, 47, 98]⟩]) := by kernel_rfl
theorem known_turned : satchellaw08_fails.f 40 turnedL 7 1 = some true := by kernel_rfl
theorem known_data : satchellaw08_fails.f 40 dataL 2 0 = some true := by kernel_rfl
theorem known_size : tree_Size.f 40 sampleTree = some 1 := by kernel_rfl
theorem known_awake : satchellaw08_awake.f 40 = some true := by kernel_rfl
/-- A row of one text, read out of its block. -/
theorem rowS_C {W : World} {g : Nat} {t : ByteArray} (h : W.heap[g]? = some (.cells #[.string t] 9 (0, 0))) : Kd.C Kd.string W (some ⟨g, 0, none⟩) 1 [t] := by
 have ho : W.ownsRow g 9 1 (.slice (some ⟨g, 0, none⟩) 1 1) 1 [.string t] := ⟨rfl, .inr ⟨g, 1, _, rfl, Nat.le_refl _, h, Nat.le_refl _, by decide, rfl, rfl⟩⟩
 obtain ⟨A, c, he, hC⟩ := own_reads_row (ps := [t]) (R := fun x c => Kd.string.K W x c) ho ⟨rfl, fun j p hj => by
  match j with
  | 0 => obtain rfl := Option.some.inj hj; exact rfl
  | j + 1 => cases hj⟩ rfl
 injection he with ha _ _
 rw [ha]
 exact hC
/-- A row of entries, read out of its block. -/
theorem rows_C {W : World} {g n cap : Nat} {cur : Array Value} {l : List (S31)} (h : W.heap[g]? = some (.cells cur 31 (0, 0))) (hc : cur.size = cap * 5) (hn : n ≤ cap) (hm : cap ≤ maxLen) (hl : l.length = n) (hr : Reps (fun x c => k31.K W x c) 5 l (cur.toList.take (n * 5))) : Kd.C k31 W (some ⟨g, 0, none⟩) n l := by
 have ho : W.ownsRow g 31 5 (.slice (some ⟨g, 0, none⟩) n cap) n (cur.toList.take (n * 5)) := ⟨by rw [List.length_take, Array.length_toList]; omega, .inr ⟨g, cap, cur, rfl, Nat.le_refl _, h, hn, hm, hc, rfl⟩⟩
 obtain ⟨A, c, he, _, hC⟩ := own_C (l := l) ho hr hl
 injection he with ha _ _
 rw [ha, ← hl]
 exact hC
theorem byte_C {W : World} {g : Nat} {x : Int} {t : TypeId} {fr : Nat × Nat} (h : W.heap[g]? = some (.cells #[.int .u8 x] t fr)) : Kd.C (Kd.int .u8) W (some ⟨g, 0, none⟩) ([x] : List Int).length [x] := one_byte W g x t fr (fun _ => True) trivial h W (fun _ _ _ => rfl)
theorem set_row_lit {W : World} {g : Nat} {cur : Array Value} {t : TypeId} (h : W.heap[g]? = some (.cells cur t (0, 0))) (o : Nat) (vs : List Value) (cur2 : Array Value) (hle : o + vs.length ≤ cur.size) (he : cur.toList.take o ++ vs ++ cur.toList.drop (o + vs.length) = cur2.toList) : (W.setCells g o vs).heap[g]? = some (.cells cur2 t (0, 0)) := by
 obtain ⟨cur', h1, _, h3⟩ := setCells_row vs o W cur h hle
 rw [h1, show cur' = cur2 from Array.ext' (h3.trans he)]
theorem setCells_below {w W : World} (hb : Below w.heap.size w W) {g : Nat} (hg : w.heap.size ≤ g) (o : Nat) (vs : List Value) : Below w.heap.size w (W.setCells g o vs) := by
 have s := setCells_same g vs o W
 exact ⟨s.1.trans hb.os, s.2.1.trans hb.tape, s.2.2.1.trans hb.output, by rw [s.2.2.2]; exact hb.size, fun k hk => (setCells_far _ _ k (by omega)).trans (hb.block k hk)⟩
theorem lit_below (W : World) (x : Int) : Below W.heap.size W ((W.alloc (.cells #[.int .u8 x] 5)).freeze ⟨W.heap.size, 1, none⟩ 1) := freeze_below ((Below.refl _ W).alloc (Nat.le_refl _) _) _ _ (Nat.le_refl _)
theorem lit_block (W : World) (x : Int) : ((W.alloc (.cells #[.int .u8 x] 5)).freeze ⟨W.heap.size, 1, none⟩ 1).heap[W.heap.size]? = some (.cells #[.int .u8 x] 5 (1, 2)) := by
 unfold World.freeze
 rw [if_neg (by decide)]
 simp only [Array.getElem?_modify, heap_alloc_new]
 rfl
theorem lit_size (W : World) (x : Int) : ((W.alloc (.cells #[.int .u8 x] 5)).freeze ⟨W.heap.size, 1, none⟩ 1).heap.size = W.heap.size + 1 := by
 unfold World.freeze
 rw [if_neg (by decide)]
 simp
theorem lit_conv (W : World) (x : Int) (b : Nat) (hb : W.heap.size = b) : (convert 29 29 (.slice (some ⟨b, 0, none⟩) 1 1)).run Try.prog (W.alloc (.cells #[.int .u8 x] 5)) = .ok (.slice (some ⟨b, 0, none⟩) 1 1) ((W.alloc (.cells #[.int .u8 x] 5)).freeze ⟨W.heap.size, 1, none⟩ 1) := by
 subst hb
 exact cv_lit W.heap.size 1 1 #[.int .u8 x] 5 (0, 0) (W.alloc (.cells #[.int .u8 x] 5)) (heap_alloc_new W _)
set_option maxHeartbeats 4000000 in
set_option maxRecDepth 100000 in
theorem treeKnown.walk (w : World) : Calls Try.prog 7 #[] w fun e w' => e = .returned (.bool true) ∧ Below w.heap.size w w' := by
 go_enter Try.func7, Try.ntmps7
 go_wp2_with (fail)
 go_region_with (go_at_call 35; (first | refine (satchellaw08_sample.calls4 _ (w.heap.size + 5) (by rw [sampleW_size, sampleW_size, drew_size])).mono ?_ | refine (satchellaw08_sample.calls4 _ (w.heap.size + 3) (by rw [sampleW_size, drew_size])).mono ?_ | refine (satchellaw08_sample.calls4 _ (w.heap.size + 1) (by rw [drew_size])).mono ?_); rintro e w' ⟨rfl, rfl⟩)
 obtain ⟨w3, hw3⟩ : ∃ w3, w3 = sampleW (sampleW (sampleW w.drew)) := ⟨_, rfl⟩
 rw [← hw3]
 have hs3 : w3.heap.size = w.heap.size + 6 := by rw [hw3, sampleW_size, sampleW_size, sampleW_size, drew_size]
 have T3 : w3.heap[w.heap.size + 1]? = some (.cells (sampleCells w.heap.size) 31 (0, 0)) := by rw [hw3]; exact sampleW_old _ (sampleW_old _ (sampleW_new w.drew))
 have D3 : w3.heap[w.heap.size + 3]? = some (.cells (sampleCells (w.heap.size + 2)) 31 (0, 0)) := by
  have h := sampleW_new (sampleW w.drew)
  rw [sampleW_size, drew_size] at h
  rw [hw3]; exact sampleW_old _ h
 have O3 : w3.heap[w.heap.size + 5]? = some (.cells (sampleCells (w.heap.size + 4)) 31 (0, 0)) := by
  have h := sampleW_new (sampleW (sampleW w.drew))
  rw [sampleW_size, sampleW_size, drew_size] at h
  rw [hw3]; exact h
 have P3 : w3.heap[w.heap.size + 4]? = some (.cells #[.int .u8 120] 5 (1, 2)) := by
  have h := sampleW_byte (sampleW (sampleW w.drew))
  rw [sampleW_size, sampleW_size, drew_size] at h
  rw [hw3]; exact h
 have HB3 : Below w.heap.size w w3 := by
  rw [hw3]
  exact below_step (below_step (below_step (below_drew (Below.refl _ w)) (sampleW_below w.drew)) (sampleW_below _)) (sampleW_below _)
 clear hw3
 -- region 2
 have hs4 : (sampleW w3.drew).heap.size = w.heap.size + 8 := by rw [sampleW_size, drew_size, hs3]
 have hs5 : (sampleW (sampleW w3.drew)).heap.size = w.heap.size + 10 := by rw [sampleW_size, sampleW_size, drew_size, hs3]
 have S4 : (sampleW w3.drew).heap[w.heap.size + 7]? = some (.cells (sampleCells (w.heap.size + 6)) 31 (0, 0)) := by
  have h := sampleW_new w3.drew
  rw [drew_size, hs3] at h
  exact h
 have S5 : (sampleW (sampleW w3.drew)).heap[w.heap.size + 7]? = some (.cells (sampleCells (w.heap.size + 6)) 31 (0, 0)) := sampleW_old _ S4
 have R5 : (sampleW (sampleW w3.drew)).heap[w.heap.size + 9]? = some (.cells (sampleCells (w.heap.size + 8)) 31 (0, 0)) := by
  have h := sampleW_new (sampleW w3.drew)
  rw [hs4] at h
  exact h
 have old5 : ∀ {k : Nat} {o : Obj}, w3.heap[k]? = some o → (sampleW (sampleW w3.drew)).heap[k]? = some o := fun h => sampleW_old _ (sampleW_old _ h)
 have HB5 : Below w.heap.size w (sampleW (sampleW w3.drew)) := by
  exact below_step (below_step (below_drew HB3) (sampleW_below _)) (sampleW_below _)
 have ha10 : (sampleW w3.drew).cell? ⟨w.heap.size + 7, 10, none⟩ = some (.string (⟨#[99]⟩ : ByteArray)) := (blk_cell S4 10).trans rfl
 have hb10 : (sampleW (sampleW w3.drew)).cell? ⟨w.heap.size + 7, 10, none⟩ = some (.string (⟨#[99]⟩ : ByteArray)) := (blk_cell S5 10).trans rfl
 have ha11 : (sampleW w3.drew).cell? ⟨w.heap.size + 7, 11, none⟩ = some (.int .i64 3) := (blk_cell S4 11).trans rfl
 have hb11 : (sampleW (sampleW w3.drew)).cell? ⟨w.heap.size + 7, 11, none⟩ = some (.int .i64 3) := (blk_cell S5 11).trans rfl
 have ha12 : (sampleW w3.drew).cell? ⟨w.heap.size + 7, 12, none⟩ = some (.int .i64 0) := (blk_cell S4 12).trans rfl
 have hb12 : (sampleW (sampleW w3.drew)).cell? ⟨w.heap.size + 7, 12, none⟩ = some (.int .i64 0) := (blk_cell S5 12).trans rfl
 have ha13 : (sampleW w3.drew).cell? ⟨w.heap.size + 7, 13, none⟩ = some (.slice none 0 0) := (blk_cell S4 13).trans rfl
 have hb13 : (sampleW (sampleW w3.drew)).cell? ⟨w.heap.size + 7, 13, none⟩ = some (.slice none 0 0) := (blk_cell S5 13).trans rfl
 have ha14 : (sampleW w3.drew).cell? ⟨w.heap.size + 7, 14, none⟩ = some (.string (⟨#[97, 47, 98]⟩ : ByteArray)) := (blk_cell S4 14).trans rfl
 have hb14 : (sampleW (sampleW w3.drew)).cell? ⟨w.heap.size + 7, 14, none⟩ = some (.string (⟨#[97, 47, 98]⟩ : ByteArray)) := (blk_cell S5 14).trans rfl
 have hc0 : (sampleW (sampleW w3.drew)).cell? ⟨w.heap.size + 9, 0, none⟩ = some (.string (⟨#[97]⟩ : ByteArray)) := (blk_cell R5 0).trans rfl
 have hc1 : (sampleW (sampleW w3.drew)).cell? ⟨w.heap.size + 9, 1, none⟩ = some (.int .i64 1) := (blk_cell R5 1).trans rfl
 have hc2 : (sampleW (sampleW w3.drew)).cell? ⟨w.heap.size + 9, 2, none⟩ = some (.int .i64 493) := (blk_cell R5 2).trans rfl
 have hc3 : (sampleW (sampleW w3.drew)).cell? ⟨w.heap.size + 9, 3, none⟩ = some (.slice none 0 0) := (blk_cell R5 3).trans rfl
 have hc4 : (sampleW (sampleW w3.drew)).cell? ⟨w.heap.size + 9, 4, none⟩ = some (.string (⟨#[]⟩ : ByteArray)) := (blk_cell R5 4).trans rfl
 have hd0 : (sampleW (sampleW w3.drew)).cell? ⟨w.heap.size + 1, 0, none⟩ = some (.string (⟨#[97]⟩ : ByteArray)) := (blk_cell (old5 T3) 0).trans rfl
 have hf0 : (sampleW (sampleW w3.drew)).frozen? ⟨w.heap.size + 1, 0, none⟩ = false := blk_frozen (old5 T3) 0
 have hd1 : (sampleW (sampleW w3.drew)).cell? ⟨w.heap.size + 1, 1, none⟩ = some (.int .i64 1) := (blk_cell (old5 T3) 1).trans rfl
 have hf1 : (sampleW (sampleW w3.drew)).frozen? ⟨w.heap.size + 1, 1, none⟩ = false := blk_frozen (old5 T3) 1
 have hd2 : (sampleW (sampleW w3.drew)).cell? ⟨w.heap.size + 1, 2, none⟩ = some (.int .i64 493) := (blk_cell (old5 T3) 2).trans rfl
 have hf2 : (sampleW (sampleW w3.drew)).frozen? ⟨w.heap.size + 1, 2, none⟩ = false := blk_frozen (old5 T3) 2
 have hd3 : (sampleW (sampleW w3.drew)).cell? ⟨w.heap.size + 1, 3, none⟩ = some (.slice none 0 0) := (blk_cell (old5 T3) 3).trans rfl
 have hf3 : (sampleW (sampleW w3.drew)).frozen? ⟨w.heap.size + 1, 3, none⟩ = false := blk_frozen (old5 T3) 3
 have hd4 : (sampleW (sampleW w3.drew)).cell? ⟨w.heap.size + 1, 4, none⟩ = some (.string (⟨#[]⟩ : ByteArray)) := (blk_cell (old5 T3) 4).trans rfl
 have hf4 : (sampleW (sampleW w3.drew)).frozen? ⟨w.heap.size + 1, 4, none⟩ = false := blk_frozen (old5 T3) 4
 have hd5 : (sampleW (sampleW w3.drew)).cell? ⟨w.heap.size + 1, 5, none⟩ = some (.string (⟨#[97, 47, 98]⟩ : ByteArray)) := (blk_cell (old5 T3) 5).trans rfl
 have hf5 : (sampleW (sampleW w3.drew)).frozen? ⟨w.heap.size + 1, 5, none⟩ = false := blk_frozen (old5 T3) 5
 have hd6 : (sampleW (sampleW w3.drew)).cell? ⟨w.heap.size + 1, 6, none⟩ = some (.int .i64 2) := (blk_cell (old5 T3) 6).trans rfl
 have hf6 : (sampleW (sampleW w3.drew)).frozen? ⟨w.heap.size + 1, 6, none⟩ = false := blk_frozen (old5 T3) 6
 have hd7 : (sampleW (sampleW w3.drew)).cell? ⟨w.heap.size + 1, 7, none⟩ = some (.int .i64 420) := (blk_cell (old5 T3) 7).trans rfl
 have hf7 : (sampleW (sampleW w3.drew)).frozen? ⟨w.heap.size + 1, 7, none⟩ = false := blk_frozen (old5 T3) 7
 have hd8 : (sampleW (sampleW w3.drew)).cell? ⟨w.heap.size + 1, 8, none⟩ = some (.slice (some ⟨w.heap.size, 0, none⟩) 1 1) := (blk_cell (old5 T3) 8).trans rfl
 have hf8 : (sampleW (sampleW w3.drew)).frozen? ⟨w.heap.size + 1, 8, none⟩ = false := blk_frozen (old5 T3) 8
 have hd9 : (sampleW (sampleW w3.drew)).cell? ⟨w.heap.size + 1, 9, none⟩ = some (.string (⟨#[]⟩ : ByteArray)) := (blk_cell (old5 T3) 9).trans rfl
 have hf9 : (sampleW (sampleW w3.drew)).frozen? ⟨w.heap.size + 1, 9, none⟩ = false := blk_frozen (old5 T3) 9
 go_wp2_with (fail)
 go_region_with (go_at_call 35; first | (refine (satchellaw08_sample.calls4 (sampleW w3.drew) (w.heap.size + 9) (by rw [hs4])).mono ?_; rintro e w' ⟨rfl, rfl⟩) | (refine (satchellaw08_sample.calls4 w3.drew (w.heap.size + 7) (by rw [drew_size, hs3])).mono ?_; rintro e w' ⟨rfl, rfl⟩))
 all_goals
  clear S4 S5 R5 ha10 hb10 ha11 hb11 ha12 hb12 ha13 hb13 ha14 hb14 hc0 hc1 hc2 hc3 hc4 hd0 hf0 hd1 hf1 hd2 hf2 hd3 hf3 hd4 hf4 hd5 hf5 hd6 hf6 hd7 hf7 hd8 hf8 hd9 hf9
  generalize hu : (World.setCell (World.setCell (World.setCell (World.setCell (World.setCell (World.setCell (World.setCell (World.setCell (World.setCell (World.setCell (sampleW (sampleW w3.drew)) ⟨w.heap.size + 1, 0, none⟩ (.string (⟨#[99]⟩ : ByteArray))) ⟨w.heap.size + 1, 1, none⟩ (.int .i64 3)) ⟨w.heap.size + 1, 2, none⟩ (.int .i64 0)) ⟨w.heap.size + 1, 3, none⟩ (.slice none 0 0)) ⟨w.heap.size + 1, 4, none⟩ (.string (⟨#[97, 47, 98]⟩ : ByteArray))) ⟨w.heap.size + 1, 5, none⟩ (.string (⟨#[97]⟩ : ByteArray))) ⟨w.heap.size + 1, 6, none⟩ (.int .i64 1)) ⟨w.heap.size + 1, 7, none⟩ (.int .i64 493)) ⟨w.heap.size + 1, 8, none⟩ (.slice none 0 0)) ⟨w.heap.size + 1, 9, none⟩ (.string (⟨#[]⟩ : ByteArray))) = u5
  replace hu : u5 = World.setCells (sampleW (sampleW w3.drew)) (w.heap.size + 1) 0 [.string (⟨#[99]⟩ : ByteArray), .int .i64 3, .int .i64 0, .slice none 0 0, .string (⟨#[97, 47, 98]⟩ : ByteArray), .string (⟨#[97]⟩ : ByteArray), .int .i64 1, .int .i64 493, .slice none 0 0, .string (⟨#[]⟩ : ByteArray)] := hu.symm.trans rfl
  have TU : u5.heap[w.heap.size + 1]? = some (.cells #[.string (⟨#[99]⟩ : ByteArray), .int .i64 3, .int .i64 0, .slice none 0 0, .string (⟨#[97, 47, 98]⟩ : ByteArray), .string (⟨#[97]⟩ : ByteArray), .int .i64 1, .int .i64 493, .slice none 0 0, .string (⟨#[]⟩ : ByteArray), .string (⟨#[99]⟩ : ByteArray), .int .i64 3, .int .i64 0, .slice none 0 0, .string (⟨#[97, 47, 98]⟩ : ByteArray)] 31 (0, 0)) := by rw [hu]; exact set_row_lit (old5 T3) 0 _ _ (by show 10 ≤ 15; decide) rfl
  have farU : ∀ {k : Nat} {o : Obj}, k ≠ w.heap.size + 1 → w3.heap[k]? = some o → u5.heap[k]? = some o := fun hk h => by rw [hu]; exact (setCells_far _ _ _ hk).trans (old5 h)
  have DU := farU (by omega) D3
  have OU := farU (by omega) O3
  have PU := farU (by omega) P3
  have hsU : u5.heap.size = w.heap.size + 10 := by rw [hu, (setCells_same _ _ _ _).2.2.2, hs5]
  have HBU : Below w.heap.size w u5 := by rw [hu]; exact setCells_below HB5 (by omega) _ _
  clear hu farU old5 T3 D3 O3 P3 HB5 HB3 hs3 hs4 hs5
  clear w3
  -- regions 3, 4: the bytes of two entries
  obtain ⟨u6, hu6⟩ : ∃ u, (u5.alloc (.cells #[.int .u8 120] 5)).freeze ⟨u5.heap.size, 1, none⟩ 1 = u := ⟨_, rfl⟩
  have cv6 := lit_conv u5 120 (w.heap.size + 10) hsU
  rw [hu6] at cv6
  have b6 := lit_below u5 120
  have e6 := lit_block u5 120
  have s6 := lit_size u5 120
  rw [hu6] at b6 e6 s6
  rw [hsU] at e6 s6
  have hD3 : u6.cell? ⟨w.heap.size + 3, 3, none⟩ = some (.slice none 0 0) := (blk_cell (blk_below DU b6) 3).trans rfl
  have hD3f : u6.frozen? ⟨w.heap.size + 3, 3, none⟩ = false := blk_frozen (blk_below DU b6) 3
  have HU6 := Aside0.mk hu6
  clear hu6
  have B6 := below_step HBU b6
  obtain ⟨v6, hv6⟩ : ∃ u, u = u6.setCell ⟨w.heap.size + 3, 3, none⟩ (.slice (some ⟨w.heap.size + 10, 0, none⟩) 1 1) := ⟨_, rfl⟩
  have Dv : v6.heap[w.heap.size + 3]? = some (.cells #[.string (⟨#[97]⟩ : ByteArray), .int .i64 1, .int .i64 493, .slice (some ⟨w.heap.size + 10, 0, none⟩) 1 1, .string (⟨#[]⟩ : ByteArray), .string (⟨#[97, 47, 98]⟩ : ByteArray), .int .i64 2, .int .i64 420, .slice (some ⟨w.heap.size + 2, 0, none⟩) 1 1, .string (⟨#[]⟩ : ByteArray), .string (⟨#[99]⟩ : ByteArray), .int .i64 3, .int .i64 0, .slice none 0 0, .string (⟨#[97, 47, 98]⟩ : ByteArray)] 31 (0, 0)) := by rw [hv6]; exact set_row_lit (blk_below DU b6) 3 [.slice (some ⟨w.heap.size + 10, 0, none⟩) 1 1] _ (by show 4 ≤ 15; decide) rfl
  have farV : ∀ {k : Nat} {o : Obj}, k ≠ w.heap.size + 3 → u5.heap[k]? = some o → v6.heap[k]? = some o := fun hk h => by rw [hv6]; exact (Below.heap_setCell u6 _ _ _ hk).trans (blk_below h b6)
  have Tv := farV (by omega) TU
  have Ov := farV (by omega) OU
  have Ev : v6.heap[w.heap.size + 10]? = some (.cells #[.int .u8 120] 5 (1, 2)) := by rw [hv6]; exact (Below.heap_setCell u6 _ _ _ (by simp)).trans e6
  have Bv : Below w.heap.size w v6 := by rw [hv6]; exact setCells_below B6 (by omega) 3 [.slice (some ⟨w.heap.size + 10, 0, none⟩) 1 1]
  have sv : v6.heap.size = w.heap.size + 10 + 1 := by rw [hv6]; exact (setCells_same (w.heap.size + 3) [.slice (some ⟨w.heap.size + 10, 0, none⟩) 1 1] 3 u6).2.2.2.trans s6
  obtain ⟨u7, hu7⟩ : ∃ u, (v6.alloc (.cells #[.int .u8 121] 5)).freeze ⟨v6.heap.size, 1, none⟩ 1 = u := ⟨_, rfl⟩
  have cv7 := lit_conv v6 121 (w.heap.size + 10 + 1) sv
  rw [hu7] at cv7
  have b7 := lit_below v6 121
  have e7 := lit_block v6 121
  have s7 := lit_size v6 121
  rw [hu7] at b7 e7 s7
  rw [sv] at e7 s7
  rw [hv6] at cv7
  have hO8 : u7.cell? ⟨w.heap.size + 5, 8, none⟩ = some (.slice (some ⟨w.heap.size + 4, 0, none⟩) 1 1) := (blk_cell (blk_below Ov b7) 8).trans rfl
  have hO8f : u7.frozen? ⟨w.heap.size + 5, 8, none⟩ = false := blk_frozen (blk_below Ov b7) 8
  obtain ⟨v7, hv7⟩ : ∃ u, u = u7.setCell ⟨w.heap.size + 5, 8, none⟩ (.slice (some ⟨w.heap.size + 10 + 1, 0, none⟩) 1 1) := ⟨_, rfl⟩
  have B7 := below_step Bv b7
  have O7 : v7.heap[w.heap.size + 5]? = some (.cells #[.string (⟨#[97]⟩ : ByteArray), .int .i64 1, .int .i64 493, .slice none 0 0, .string (⟨#[]⟩ : ByteArray), .string (⟨#[97, 47, 98]⟩ : ByteArray), .int .i64 2, .int .i64 420, .slice (some ⟨w.heap.size + 10 + 1, 0, none⟩) 1 1, .string (⟨#[]⟩ : ByteArray), .string (⟨#[99]⟩ : ByteArray), .int .i64 3, .int .i64 0, .slice none 0 0, .string (⟨#[97, 47, 98]⟩ : ByteArray)] 31 (0, 0)) := by rw [hv7]; exact set_row_lit (blk_below Ov b7) 8 [.slice (some ⟨w.heap.size + 10 + 1, 0, none⟩) 1 1] _ (by show 9 ≤ 15; decide) rfl
  have far7 : ∀ {k : Nat} {o : Obj}, k ≠ w.heap.size + 5 → u7.heap[k]? = some o → v7.heap[k]? = some o := fun hk h => by rw [hv7]; exact (Below.heap_setCell u7 _ _ _ hk).trans h
  have T7 := far7 (by omega) (blk_below Tv b7)
  have D7 := far7 (by omega) (blk_below Dv b7)
  have E7 := far7 (by omega) (blk_below Ev b7)
  have F7 := far7 (by omega) e7
  have B7v : Below w.heap.size w v7 := by rw [hv7]; exact setCells_below B7 (by omega) 8 [.slice (some ⟨w.heap.size + 10 + 1, 0, none⟩) 1 1]
  have s7v : v7.heap.size = w.heap.size + 10 + 1 + 1 := by rw [hv7]; exact (setCells_same (w.heap.size + 5) [.slice (some ⟨w.heap.size + 10 + 1, 0, none⟩) 1 1] 8 u7).2.2.2.trans s7
  clear TU DU OU PU Tv Ov Dv Ev farV far7 b6 b7 e6 e7 B6 B7 Bv HBU
  have HV6 := Aside0.mk hv6
  have HU7 := Aside0.mk hu7
  have HV7 := Aside0.mk hv7
  clear hv6 hu7 hv7
  -- region 5: an entry is appended, there is room
  obtain ⟨x9, hx9⟩ : ∃ u, u = v7.alloc (.cells #[.string (⟨#[100]⟩ : ByteArray), .int .i64 1, .int .i64 0, .slice none 0 0, .string (⟨#[]⟩ : ByteArray)] 31) := ⟨_, rfl⟩
  have n9 : x9.heap[w.heap.size + 10 + 1 + 1]? = some (.cells #[.string (⟨#[100]⟩ : ByteArray), .int .i64 1, .int .i64 0, .slice none 0 0, .string (⟨#[]⟩ : ByteArray)] 31 (0, 0)) := by rw [hx9, ← s7v]; exact heap_alloc_new v7 _
  have o9 : ∀ {k : Nat} {o : Obj}, v7.heap[k]? = some o → x9.heap[k]? = some o := fun h => by rw [hx9]; exact blk_alloc h _
  have B9 : Below w.heap.size w x9 := by rw [hx9]; exact below_alloc B7v _
  obtain ⟨i0, hi, hz0, hz1, hz2⟩ := info_parts info31
  have hap := run_append_room_cells (P := Try.prog) x9 22 22 31 i0 Try.underlying22 hi (w.heap.size + 5) 0 2 3 ⟨w.heap.size + 10 + 1 + 1, 0, none⟩ 1 1 [.string (⟨#[100]⟩ : ByteArray), .int .i64 1, .int .i64 0, .slice none 0 0, .string (⟨#[]⟩ : ByteArray)]
   (by rw [hz1]; rfl)
   (fun j u hj => by rw [show (⟨w.heap.size + 10 + 1 + 1, 0, none⟩ : Addr).add j = ⟨w.heap.size + 10 + 1 + 1, j, none⟩ by (simp [Addr.add]; exact fun h => h.symm), blk_cell n9]; simpa using hj)
   (by intro u hu; simp only [List.mem_cons, List.not_mem_nil, or_false] at hu; rcases hu with rfl | rfl | rfl | rfl | rfl <;> rfl) (by decide)
   (fun j hj => by rw [hz1, blk_cell (o9 O7), Array.getElem?_eq_getElem (by have hj2 : j < 5 := hj; show 0 + 2 * 5 + j < 15; omega)]; rfl)
   (fun j _ => blk_frozen (o9 O7) _)
  rw [hz1] at hap
  obtain ⟨u9, hu9⟩ : ∃ u, u = x9.setCells (w.heap.size + 5) 10 [.string (⟨#[100]⟩ : ByteArray), .int .i64 1, .int .i64 0, .slice none 0 0, .string (⟨#[]⟩ : ByteArray)] := ⟨_, rfl⟩
  replace hap : (Builtin.append_ #[22, 22] 22 #[.slice (some ⟨w.heap.size + 5, 0, none⟩) 2 3, .slice (some ⟨w.heap.size + 10 + 1 + 1, 0, none⟩) 1 1]).run Try.prog x9 = .ok (.slice (some ⟨w.heap.size + 5, 0, none⟩) 3 3) u9 := by rw [hu9]; exact hap
  have OC := set_row_lit (o9 O7) 10 [.string (⟨#[100]⟩ : ByteArray), .int .i64 1, .int .i64 0, .slice none 0 0, .string (⟨#[]⟩ : ByteArray)] (#[.string (⟨#[97]⟩ : ByteArray), .int .i64 1, .int .i64 493, .slice none 0 0, .string (⟨#[]⟩ : ByteArray), .string (⟨#[97, 47, 98]⟩ : ByteArray), .int .i64 2, .int .i64 420, .slice (some ⟨w.heap.size + 10 + 1, 0, none⟩) 1 1, .string (⟨#[]⟩ : ByteArray), .string (⟨#[100]⟩ : ByteArray), .int .i64 1, .int .i64 0, .slice none 0 0, .string (⟨#[]⟩ : ByteArray)]) (by show 15 ≤ 15; decide) rfl
  have far9 : ∀ {k : Nat} {o : Obj}, k ≠ w.heap.size + 5 → v7.heap[k]? = some o → u9.heap[k]? = some o := fun hk h => by rw [hu9]; exact (setCells_far _ _ _ hk).trans (o9 h)
  rw [← hu9] at OC
  have T9 := far9 (by omega) T7
  have D9 := far9 (by omega) D7
  have E9 := far9 (by omega) E7
  have F9 := far9 (by omega) F7
  have BU9 : Below w.heap.size w u9 := by rw [hu9]; exact setCells_below B9 (by omega) _ _
  have CT := Aside0.mk (rows_C (l := turnedL) (n := 2) (cap := 3) T9 rfl (by decide) (by decide) rfl (Reps.snoc (Reps.snoc (Reps_nil0) (show k31.K u9 ⟨⟨#[99]⟩, 3, 0, [], ⟨#[97, 47, 98]⟩⟩ _ from k31_mk u9 ⟨⟨#[99]⟩, 3, 0, [], ⟨#[97, 47, 98]⟩⟩ (Nat.le_refl 0) (Kd.C_nil _ _)) rfl) (show k31.K u9 ⟨⟨#[97]⟩, 1, 493, [], ⟨#[]⟩⟩ _ from k31_mk u9 ⟨⟨#[97]⟩, 1, 493, [], ⟨#[]⟩⟩ (Nat.le_refl 0) (Kd.C_nil _ _)) rfl))
  have CD := Aside0.mk (rows_C (l := dataL) (n := 1) (cap := 3) D9 rfl (by decide) (by decide) rfl (Reps.snoc (Reps_nil0) (show k31.K u9 ⟨⟨#[97]⟩, 1, 493, [120], ⟨#[]⟩⟩ _ from k31_mk u9 ⟨⟨#[97]⟩, 1, 493, [120], ⟨#[]⟩⟩ (Nat.le_refl 1) (byte_C E9)) rfl))
  have CO := Aside0.mk (rows_C (l := otherL) (n := 3) (cap := 3) OC rfl (by decide) (by decide) rfl (Reps.snoc (Reps.snoc (Reps.snoc (Reps_nil0) (show k31.K u9 ⟨⟨#[97]⟩, 1, 493, [], ⟨#[]⟩⟩ _ from k31_mk u9 ⟨⟨#[97]⟩, 1, 493, [], ⟨#[]⟩⟩ (Nat.le_refl 0) (Kd.C_nil _ _)) rfl) (show k31.K u9 ⟨⟨#[97, 47, 98]⟩, 2, 420, [121], ⟨#[]⟩⟩ _ from k31_mk u9 ⟨⟨#[97, 47, 98]⟩, 2, 420, [121], ⟨#[]⟩⟩ (Nat.le_refl 1) (byte_C F9)) rfl) (show k31.K u9 ⟨⟨#[100]⟩, 1, 0, [], ⟨#[]⟩⟩ _ from k31_mk u9 ⟨⟨#[100]⟩, 1, 0, [], ⟨#[]⟩⟩ (Nat.le_refl 0) (Kd.C_nil _ _)) rfl))
  have HB9 := Aside0.mk BU9
  rw [hx9, HV7.out] at hap
  clear OC T9 D9 E9 F9 far9 BU9 hx9 hu9 n9 o9 B9 hi hz0 hz1 hz2 T7 D7 E7 F7 O7 B7v s7v
  have HAP := Aside0.mk hap
  clear hap
  have QS10 := Aside0.mk (show satchellaw08_sample.f = some sampleTree from rfl)
  have QS12 := Aside0.mk (show satchellaw08_sample.f = some sampleTree from rfl)
  have QS14 := Aside0.mk (show satchellaw08_sample.f = some sampleTree from rfl)
  have QS20 := Aside0.mk (show satchellaw08_sample.f = some sampleTree from rfl)
  go_wp2_with (first
   | ((with_reducible refine gate_builtin (b := .append) (xs := #[.tmp 38, .tmp 40]) rfl ?_); refine append_event (v := .slice (some ⟨w.heap.size + 5, 0, none⟩) 3 3) (w1 := u9) rfl (.tmp 38) (.tmp 40) 22 22 rfl _ _ rfl rfl HAP.out ?_)
   | (go_at_call 35; have G_ := QS10; refine (satchellaw08_sample.calls sampleTree _ QS10.out).mono ?_; rintro e w10 ⟨v10, rfl, hn, hb⟩; obtain ⟨A10, c10, rfl⟩ := Kd.N_slice hn; have HC10 := Aside0.mk (Kd.N_reads' hn).2.2; have HL10 := Aside0.mk (Kd.N_reads' hn).2.1; have HX10 := Aside0.mk (below_step (Below.refl u9.heap.size u9) hb); clear hn hb; clear G_ QS10)
   | (go_at_call 32; refine (tree_Drop.calls 40 A10 c10 sampleTree ⟨#[98]⟩ [] 6 _ HC10.out HL10.out known_drop).mono ?_; rintro e w11 ⟨v11, rfl, hs, hb⟩; have HX11 := Aside0.mk (below_step HX10.out hb); obtain ⟨A11, c11, rfl⟩ := Kd.R_slice (Kd.S_R hs); clear hs hb)
   | (go_at_call 35; have G_ := QS12; refine (satchellaw08_sample.calls sampleTree _ QS12.out).mono ?_; rintro e w12 ⟨v12, rfl, hn, hb⟩; obtain ⟨A12, c12, rfl⟩ := Kd.N_slice hn; have HC12 := Aside0.mk (Kd.N_reads' hn).2.2; have HL12 := Aside0.mk (Kd.N_reads' hn).2.1; have HX12 := Aside0.mk (below_step HX11.out hb); clear hn hb; clear G_ QS12)
   | (go_at_call 30; refine (tree_Put.calls 40 A12 c12 sampleTree ⟨#[97]⟩ 2 0 none 0 [] ⟨#[]⟩ [] 6 _ HC12.out HL12.out (Kd.C_nil _ _) (Nat.le_refl _) known_put).mono ?_; rintro e w13 ⟨v13, rfl, hs, hb⟩; have HX13 := Aside0.mk (below_step HX12.out hb); obtain ⟨A13, c13, rfl⟩ := Kd.R_slice (Kd.S_R hs); clear hs hb)
   | (go_at_call 35; have G_ := QS14; refine (satchellaw08_sample.calls sampleTree _ QS14.out).mono ?_; rintro e w14 ⟨v14, rfl, hn, hb⟩; obtain ⟨A14, c14, rfl⟩ := Kd.N_slice hn; have HC14 := Aside0.mk (Kd.N_reads' hn).2.2; have HL14 := Aside0.mk (Kd.N_reads' hn).2.1; have HX14 := Aside0.mk (below_step HX13.out hb); clear hn hb; clear G_ QS14)
   | (go_at_call 25; refine (tree_Diff.calls 40 A14 c14 sampleTree (some ⟨w.heap.size + 5, 0, none⟩) 3 otherL _ _ _ _ HC14.out HL14.out (Kd.C_below CO.out HX14.out) (Nat.le_refl _) known_diff).mono ?_; rintro e w15 ⟨v15, v16, v17, rfl, h1, h2, h3, hb⟩; have HX15 := Aside0.mk (below_step HX14.out hb); obtain ⟨A15, c15, rfl⟩ := Kd.R_slice h1; obtain ⟨A16, c16, rfl⟩ := Kd.R_slice h2; obtain ⟨A17, c17, rfl⟩ := Kd.R_slice h3; have H15 := Aside0.mk (Kd.R_reads' h1).2; have H16 := Aside0.mk (Kd.R_reads' h2).2; have H17 := Aside0.mk (Kd.R_reads' h3).2; have HY15 := Aside0.mk (Below.refl w15.heap.size w15); clear h1 h2 h3 hb)
   | (go_at_call 36; have G_ := CT; refine (satchellaw08_fails.calls 40 (some ⟨w.heap.size + 1, 0, none⟩) 3 turnedL 7 1 true _ (Kd.C_below CT.out HX15.out) (by decide) known_turned).mono ?_; rintro e w18 ⟨rfl, hb⟩; have HX18 := Aside0.mk (below_step HX15.out hb); have HY18 := Aside0.mk (below_step HY15.out hb); clear hb; clear G_ CT)
   | (go_at_call 36; have G_ := CD; refine (satchellaw08_fails.calls 40 (some ⟨w.heap.size + 3, 0, none⟩) 3 dataL 2 0 true _ (Kd.C_below CD.out HX18.out) (by decide) known_data).mono ?_; rintro e w19 ⟨rfl, hb⟩; have HX19 := Aside0.mk (below_step HX18.out hb); have HY19 := Aside0.mk (below_step HY18.out hb); clear hb; clear G_ CD)
   | (go_at_call 35; have G_ := QS20; refine (satchellaw08_sample.calls sampleTree _ QS20.out).mono ?_; rintro e w20 ⟨v20, rfl, hn, hb⟩; obtain ⟨A20, c20, rfl⟩ := Kd.N_slice hn; have HC20 := Aside0.mk (Kd.N_reads' hn).2.2; have HL20 := Aside0.mk (Kd.N_reads' hn).2.1; have HX20 := Aside0.mk (below_step HX19.out hb); have HY20 := Aside0.mk (below_step HY19.out hb); clear hn hb; clear G_ QS20)
   | (go_at_call 22; refine (tree_Size.calls 40 A20 c20 sampleTree 1 _ HC20.out HL20.out known_size).mono ?_; rintro e w21 ⟨rfl, hb⟩; have HX21 := Aside0.mk (below_step HX20.out hb); have HY21 := Aside0.mk (below_step HY20.out hb); clear hb)
   | (go_at_call 10; refine (satchellaw08_awake.calls 40 true _ known_awake).mono ?_; rintro e w22 ⟨rfl, hb⟩; have HX22 := Aside0.mk (below_step HX21.out hb); have HY22 := Aside0.mk (below_step HY21.out hb); clear hb)
   | (go_at_call 27; have G_ := H15; refine (satchelkit_SameTexts.calls 40 A15 c15 [⟨#[100]⟩] (some ⟨w22.heap.size, 0, none⟩) 1 [⟨#[100]⟩] true _ (Kd.C_below H15.out.2 (below_alloc HY22.out (.cells #[.string (⟨#[100]⟩ : ByteArray)] 9))) H15.out.1 (rowS_C (heap_alloc_new w22 (.cells #[.string (⟨#[100]⟩ : ByteArray)] 9))) (Nat.le_refl _) (by kernel_rfl)).mono ?_; rintro e w23 ⟨rfl, hb⟩; have hb := Drawn0.below hb; have HX23 := Aside0.mk (below_step (below_alloc HX22.out (.cells #[.string (⟨#[100]⟩ : ByteArray)] 9)) hb); have HY23 := Aside0.mk (below_step (below_alloc HY22.out (.cells #[.string (⟨#[100]⟩ : ByteArray)] 9)) hb); clear hb; clear G_ H15)
   | (go_at_call 27; have G_ := H16; refine (satchelkit_SameTexts.calls 40 A16 c16 [⟨#[99]⟩] (some ⟨w23.heap.size, 0, none⟩) 1 [⟨#[99]⟩] true _ (Kd.C_below H16.out.2 (below_alloc HY23.out (.cells #[.string (⟨#[99]⟩ : ByteArray)] 9))) H16.out.1 (rowS_C (heap_alloc_new w23 (.cells #[.string (⟨#[99]⟩ : ByteArray)] 9))) (Nat.le_refl _) (by kernel_rfl)).mono ?_; rintro e w24 ⟨rfl, hb⟩; have hb := Drawn0.below hb; have HX24 := Aside0.mk (below_step (below_alloc HX23.out (.cells #[.string (⟨#[99]⟩ : ByteArray)] 9)) hb); have HY24 := Aside0.mk (below_step (below_alloc HY23.out (.cells #[.string (⟨#[99]⟩ : ByteArray)] 9)) hb); clear hb; clear G_ H16)
   | (go_at_call 27; have G_ := H17; refine (satchelkit_SameTexts.calls 40 A17 c17 [⟨#[97, 47, 98]⟩] (some ⟨w24.heap.size, 0, none⟩) 1 [⟨#[97, 47, 98]⟩] true _ (Kd.C_below H17.out.2 (below_alloc HY24.out (.cells #[.string (⟨#[97, 47, 98]⟩ : ByteArray)] 9))) H17.out.1 (rowS_C (heap_alloc_new w24 (.cells #[.string (⟨#[97, 47, 98]⟩ : ByteArray)] 9))) (Nat.le_refl _) (by kernel_rfl)).mono ?_; rintro e w25 ⟨rfl, hb⟩; have hb := Drawn0.below hb; have HX25 := Aside0.mk (below_step (below_alloc HX24.out (.cells #[.string (⟨#[97, 47, 98]⟩ : ByteArray)] 9)) hb); have HY25 := Aside0.mk (below_step (below_alloc HY24.out (.cells #[.string (⟨#[97, 47, 98]⟩ : ByteArray)] 9)) hb); clear hb; clear G_ H17))
  go_ret
  exact ⟨rfl, below_step HB9.out HX25.out⟩
end Go.Proofs.Ytopkmchkfcjjmaa.X
end

/-! ## Satchellaw08TreeKnown -/
section
namespace Go.Proofs.Ytopkmchkfcjjmaa.X
open Go.RowKit Go.Proofs.YtopkmchkfcjjmaaW.PrintWords Go.Proofs.YtopkmchkfcjjmaaW.PrintLast Go.Proofs.YtopkmchkfcjjmaaW.PrintMore
attribute [local go_sem] max2_int min2_int max_two min_two max_three min_three max_four min_four   -- for this text's walks alone
set_option linter.unusedVariables false
set_option linter.unusedSimpArgs false

attribute [local go_sem] str_gtr fld_fault0 fld_fault1
/-! ### satchellaw08_TreeKnown: function 7 -/
def satchellaw08_TreeKnown.f : Option (Bool) := some true
theorem satchellaw08_TreeKnown.calls (r : Bool) (w : World) (h : satchellaw08_TreeKnown.f = some r) :
  Calls Try.prog 7 #[] w fun e w' => e = .returned (.bool r) ∧ Below w.heap.size w w' := by
 obtain rfl : true = r := by injection h
 exact treeKnown.walk w

end Go.Proofs.Ytopkmchkfcjjmaa.X
end

/-! ## Satchellaw08Among -/
section
namespace Go.Proofs.Ytopkmchkfcjjmaa.X
open Go.RowKit Go.Proofs.YtopkmchkfcjjmaaW.PrintWords Go.Proofs.YtopkmchkfcjjmaaW.PrintLast Go.Proofs.YtopkmchkfcjjmaaW.PrintMore
attribute [local go_sem] max2_int min2_int max_two min_two max_three min_three max_four min_four   -- for this text's walks alone
set_option linter.unusedVariables false
set_option linter.unusedSimpArgs false

attribute [local go_sem] str_gtr fld_fault0 fld_fault1
/-! ### satchellaw08_among: function 38 -/
def satchellaw08_among.l0 : Nat → List ByteArray → ByteArray → Int → Option (Bool)
 | 0, _, _, _ => none
 | k + 1, x0, x1, x5 => if x5 < (x0.length : Int) then (if 0 ≤ x5 then (if (rdOf ByteArray.empty x0 x5).toList = x1.toList then (some true) else (satchellaw08_among.l0 k x0 x1 (wrap64 (x5 + 1)))) else (none)) else (some false)
def satchellaw08_among.f (k : Nat) (l0 : List ByteArray) (a1 : ByteArray) : Option (Bool) := satchellaw08_among.l0 k l0 a1 0
theorem satchellaw08_among.mono_l : ∀ k, (∀ y0 y1 y2, LeO (satchellaw08_among.l0 k y0 y1 y2) (satchellaw08_among.l0 (k + 1) y0 y1 y2))
 | 0 => fun _ _ _ r h => by simp [satchellaw08_among.l0] at h
 | k + 1 => by
  have ih0 := satchellaw08_among.mono_l k
  ·intro y0 y1 y2
   unfold satchellaw08_among.l0
   repeat' first
   | (with_reducible exact ih0 _ _ _)
   | (with_reducible exact LeO.refl _)
   | (with_reducible exact LeO.none _)
   | (with_reducible refine LeO.ite ?_ ?_)
   | (with_reducible refine LeO.bind ?_ (fun _ => ?_))
   | exact ih0 _ _ _
   | exact LeO.none _
   | refine LeO.ite ?_ ?_
   | refine LeO.bind ?_ (fun _ => ?_)
theorem satchellaw08_among.mono : ∀ a0 a1 k, LeO (satchellaw08_among.f k a0 a1) (satchellaw08_among.f (k + 1) a0 a1) := by
 intro a0 a1 k
 have ih0 := satchellaw08_among.mono_l k
 unfold satchellaw08_among.f
 repeat' first
   | (with_reducible exact ih0 _ _ _)
   | (with_reducible exact LeO.refl _)
   | (with_reducible exact LeO.none _)
   | (with_reducible refine LeO.ite ?_ ?_)
   | (with_reducible refine LeO.bind ?_ (fun _ => ?_))
   | exact ih0 _ _ _
   | exact LeO.none _
   | refine LeO.ite ?_ ?_
   | refine LeO.bind ?_ (fun _ => ?_)
set_option maxHeartbeats 8000000 in
set_option maxRecDepth 100000 in
theorem satchellaw08_among.calls (k : Nat) (A0 : Option Addr) (c0 : Nat) (l0 : List ByteArray) (a1 : ByteArray) (r : Bool) (w : World) (hr0 : Kd.C Kd.string w A0 l0.length l0) (hc0 : l0.length ≤ c0) (h : satchellaw08_among.f k l0 a1 = some r) :
  Calls Try.prog 38 #[.slice A0 l0.length c0, .string a1] w fun e w' => e = .returned (.bool r) ∧ Drawn0 w w' := by
 have HR0 := Aside0.mk hr0
 have HC0 := Aside0.mk hc0
 clear hr0 hc0
 have H : (satchellaw08_among.l0 k l0 a1 0) = some r := h
 clear h
 have H' := Aside0.mk H
 clear H
 go_enter Try.func38, Try.ntmps38
 go_wp2
 go_loopg [5] k (fun kq v5 w' => ∃ (x5_1 : Int), v5 = .int .i64 x5_1 ∧ Aside0 (satchellaw08_among.l0 kq l0 a1 x5_1 = some r) ∧ Aside0 (kq ≤ k) ∧ Drawn0 w w')
 case atStart => exact ⟨(0), (by first | rfl | (simp; done) | (simp [*]; done)), H', ⟨Nat.le_refl _⟩, by repeat (first | exact Drawn0.refl _ | apply Drawn0.step)⟩
 case round =>
  clear H'
  try clear p2
  obtain ⟨x5_1, rfl, HA, HK1, ⟨m1, rfl⟩⟩ := hrel
  cases gk with
  | zero => exact absurd HA.out (by simp [satchellaw08_among.l0])
  | succ k1 =>
   have H := HA.out
   clear HA
   simp only [satchellaw08_among.l0] at H
   by_cases c3 : x5_1 < (l0.length : Int)
   ·rw [if_pos c3] at H
    have c3b0 : decide (x5_1 < (l0.length : Int)) = true := decide_eq_true c3
    clear c3
    by_cases c4 : 0 ≤ x5_1
    ·rw [if_pos c4] at H
     have c4b0 : decide (0 ≤ x5_1) = true := decide_eq_true c4
     clear c4
     by_cases c5 : (rdOf ByteArray.empty l0 x5_1).toList = a1.toList
     ·rw [if_pos c5] at H
      have c5b0 : ((rdOf ByteArray.empty l0 x5_1).toList == a1.toList) = true := beq_iff_eq.mpr c5
      have c5b1 : ((rdOf ByteArray.empty l0 x5_1).toList != a1.toList) = false := bne_eq_false_iff_eq.mpr c5
      clear c5
      obtain rfl := Option.some.inj H
      have p502 : 0 ≤ (x5_1 : Int) := of_decide_eq_true (by first | (with_reducible assumption) | assumption)
      have q502 : x5_1 < (l0.length : Int) := of_decide_eq_true (by first | (with_reducible assumption) | assumption)
      obtain ⟨ad502, e502, hx502_0⟩ := Kd.at_string HR0.out x5_1 p502 q502
      cases e502
      replace p502 := eq_true p502
      replace q502 := eq_true q502
      go_wp2
      go_ret
      exact ⟨by first | rfl | (simp; done) | (simp [*]; done), by repeat (first | exact Drawn0.refl _ | apply Drawn0.step)⟩
     ·rw [if_neg c5] at H
      have c5b0 : ((rdOf ByteArray.empty l0 x5_1).toList == a1.toList) = false := beq_eq_false_iff_ne.mpr c5
      have c5b1 : ((rdOf ByteArray.empty l0 x5_1).toList != a1.toList) = true := bne_iff_ne.mpr c5
      have H' := Aside0.mk H
      clear H
      have p502 : 0 ≤ (x5_1 : Int) := of_decide_eq_true (by first | (with_reducible assumption) | assumption)
      have q502 : x5_1 < (l0.length : Int) := of_decide_eq_true (by first | (with_reducible assumption) | assumption)
      obtain ⟨ad502, e502, hx502_0⟩ := Kd.at_string HR0.out x5_1 p502 q502
      cases e502
      replace p502 := eq_true p502
      replace q502 := eq_true q502
      go_wp2
      go_roundg k1
      case measure => have := HK1.out; omega
      case rel => exact ⟨(wrap64 (x5_1 + 1)), (by first | rfl | (simp; done) | (simp [*]; done)), H', ⟨by have := HK1.out; omega⟩, by repeat (first | exact Drawn0.refl _ | apply Drawn0.step)⟩
    ·rw [if_neg c4] at H
     exact absurd H (by simp)
   ·rw [if_neg c3] at H
    have c3b0 : decide (x5_1 < (l0.length : Int)) = false := decide_eq_false c3
    clear c3
    obtain rfl := Option.some.inj H
    go_wp2
    go_ret
    exact ⟨by first | rfl | (simp; done) | (simp [*]; done), by repeat (first | exact Drawn0.refl _ | apply Drawn0.step)⟩

end Go.Proofs.Ytopkmchkfcjjmaa.X
end

/-! ## Satchellaw08TreeLeads -/
section
namespace Go.Proofs.Ytopkmchkfcjjmaa.X
open Go.RowKit Go.Proofs.YtopkmchkfcjjmaaW.PrintWords Go.Proofs.YtopkmchkfcjjmaaW.PrintLast Go.Proofs.YtopkmchkfcjjmaaW.PrintMore
attribute [local go_sem] max2_int min2_int max_two min_two max_three min_three max_four min_four   -- for this text's walks alone
set_option linter.unusedVariables false
set_option linter.unusedSimpArgs false

attribute [local go_sem] str_gtr fld_fault0 fld_fault1
/-! ### satchellaw08_TreeLeads: function 9 -/
mutual
def satchellaw08_TreeLeads.j0 : Nat → List (S31) → List (S31) → Bool → Bool → Option (Bool)
 | 0, _, _, _, _ => none
 | k + 1, x0, x1, x5, x51 => if x51 = true then (some x5) else ((tree_Diff.f k x0 x1).bind fun bt510 => ((satchelkit_CopyTree.f k x0).bind fun t519 => (satchellaw08_TreeLeads.l0 k x0 x1 x5 bt510.1 bt510.2.1 bt510.2.2 t519 0)))
def satchellaw08_TreeLeads.l0 : Nat → List (S31) → List (S31) → Bool → List ByteArray → List ByteArray → List ByteArray → List (S31) → Int → Option (Bool)
 | 0, _, _, _, _, _, _, _, _ => none
 | k + 1, x0, x1, x5, x10, x11, x12, x13, x14 => if x14 < (x11.length : Int) then (if 0 ≤ x14 then ((tree_Find.f k x13 (rdOf ByteArray.empty x11 x14)).bind fun bt523 => (if bt523.2.2.2.2.2 = true then ((tree_Drop.f k x13 (rdOf ByteArray.empty x11 x14)).bind fun bt533 => (if bt533.2 = 0 then (if (bt533.1.length : Int) ≥ (x13.length : Int) then (some false) else (satchellaw08_TreeLeads.l0 k x0 x1 x5 x10 x11 x12 bt533.1 (wrap64 (x14 + 1)))) else (some false))) else (satchellaw08_TreeLeads.l0 k x0 x1 x5 x10 x11 x12 x13 (wrap64 (x14 + 1))))) else (none)) else (satchellaw08_TreeLeads.l1 k x0 x1 x5 x10 x11 x12 x13 0 0)
def satchellaw08_TreeLeads.l1 : Nat → List (S31) → List (S31) → Bool → List ByteArray → List ByteArray → List ByteArray → List (S31) → Int → Int → Option (Bool)
 | 0, _, _, _, _, _, _, _, _, _ => none
 | k + 1, x0, x1, x5, x10, x11, x12, x13, x19, x20 => if x20 < (x1.length : Int) then (if 0 ≤ x20 then ((satchellaw08_among.f k x10 ((rd_T31 x1 x20).f0)).bind fun t538 => (if t538 = true then (satchellaw08_TreeLeads.j3 k x0 x1 x5 x10 x11 x12 x13 x19 x20 false) else ((satchellaw08_among.f k x12 ((rd_T31 x1 x20).f0)).bind fun t539 => (satchellaw08_TreeLeads.j3 k x0 x1 x5 x10 x11 x12 x13 x19 x20 (!t539))))) else (none)) else ((tree_Diff.f k x1 x1).bind fun bt545 => (if x5 = true then (if x19 = (wrap64 ((x10.length : Int) + (x12.length : Int))) then ((satchelkit_SameTree.f x13 x1).bind fun t554 => (if t554 = true then ((tree_Same.f x13 x1).bind fun t555 => (if t555 = true then (if (wrap64 ((wrap64 ((bt545.1.length : Int) + (bt545.2.1.length : Int))) + (bt545.2.2.length : Int))) = 0 then ((tree_Same.f x0 x1).bind fun t556 => (some (t556 == ((wrap64 ((wrap64 ((x10.length : Int) + (x11.length : Int))) + (x12.length : Int))) == 0)))) else (some false)) else (some false))) else (some false))) else (some false)) else (some false)))
def satchellaw08_TreeLeads.j3 : Nat → List (S31) → List (S31) → Bool → List ByteArray → List ByteArray → List ByteArray → List (S31) → Int → Int → Bool → Option (Bool)
 | 0, _, _, _, _, _, _, _, _, _, _ => none
 | k + 1, x0, x1, x5, x10, x11, x12, x13, x19, x20, x118 => if x118 = true then (satchellaw08_TreeLeads.l1 k x0 x1 x5 x10 x11 x12 x13 x19 (wrap64 (x20 + 1))) else (if 0 ≤ x20 then (if x20 < (x1.length : Int) then ((tree_Put.f k x13 ((rd_T31 x1 x20).f0) ((rd_T31 x1 x20).f1) ((rd_T31 x1 x20).f2) ((rd_T31 x1 x20).f3) ((rd_T31 x1 x20).f4)).bind fun bt541 => (if bt541.2 = 0 then (satchellaw08_TreeLeads.l1 k x0 x1 x5 x10 x11 x12 bt541.1 (wrap64 (x19 + 1)) (wrap64 (x20 + 1))) else (some false))) else (none)) else (none))
end
def satchellaw08_TreeLeads.f (k : Nat) (l0 : List (S31)) (l1 : List (S31)) : Option (Bool) := (satchellaw08_TreeKnown.f).bind fun t503 => ((tree_Check.f k l0).bind fun bt504 => ((tree_Check.f k l1).bind fun bt506 => ((satchelkit_BigTree.f k l0 60 4000).bind fun t508 => (if t508 = true then (satchellaw08_TreeLeads.j0 k l0 l1 t503 true) else ((satchelkit_BigTree.f k l1 60 4000).bind fun t509 => (if t509 = true then (satchellaw08_TreeLeads.j0 k l0 l1 t503 true) else (if bt504.1 = 0 then (satchellaw08_TreeLeads.j0 k l0 l1 t503 (bt506.1 != 0)) else (satchellaw08_TreeLeads.j0 k l0 l1 t503 true))))))))
theorem satchellaw08_TreeLeads.mono_l : ∀ k, (∀ y0 y1 y2 y3, LeO (satchellaw08_TreeLeads.j0 k y0 y1 y2 y3) (satchellaw08_TreeLeads.j0 (k + 1) y0 y1 y2 y3)) ∧ (∀ y0 y1 y2 y3 y4 y5 y6 y7, LeO (satchellaw08_TreeLeads.l0 k y0 y1 y2 y3 y4 y5 y6 y7) (satchellaw08_TreeLeads.l0 (k + 1) y0 y1 y2 y3 y4 y5 y6 y7)) ∧ (∀ y0 y1 y2 y3 y4 y5 y6 y7 y8, LeO (satchellaw08_TreeLeads.l1 k y0 y1 y2 y3 y4 y5 y6 y7 y8) (satchellaw08_TreeLeads.l1 (k + 1) y0 y1 y2 y3 y4 y5 y6 y7 y8)) ∧ (∀ y0 y1 y2 y3 y4 y5 y6 y7 y8 y9, LeO (satchellaw08_TreeLeads.j3 k y0 y1 y2 y3 y4 y5 y6 y7 y8 y9) (satchellaw08_TreeLeads.j3 (k + 1) y0 y1 y2 y3 y4 y5 y6 y7 y8 y9))
 | 0 => ⟨fun _ _ _ _ r h => by simp [satchellaw08_TreeLeads.j0] at h, fun _ _ _ _ _ _ _ _ r h => by simp [satchellaw08_TreeLeads.l0] at h, fun _ _ _ _ _ _ _ _ _ r h => by simp [satchellaw08_TreeLeads.l1] at h, fun _ _ _ _ _ _ _ _ _ _ r h => by simp [satchellaw08_TreeLeads.j3] at h⟩
 | k + 1 => by
  obtain ⟨ih0, ih1, ih2, ih3⟩ := satchellaw08_TreeLeads.mono_l k
  refine ⟨?_, ?_, ?_, ?_⟩
  ·intro y0 y1 y2 y3
   unfold satchellaw08_TreeLeads.j0
   repeat' first
   | (with_reducible exact ih0 _ _ _ _)
   | (with_reducible exact ih1 _ _ _ _ _ _ _ _)
   | (with_reducible exact ih2 _ _ _ _ _ _ _ _ _)
   | (with_reducible exact ih3 _ _ _ _ _ _ _ _ _ _)
   | (with_reducible exact satchelkit_BigTree.mono _ _ _ _)
   | (with_reducible exact satchelkit_CopyTree.mono _ _)
   | (with_reducible exact satchellaw08_among.mono _ _ _)
   | (with_reducible exact tree_Check.mono _ _)
   | (with_reducible exact tree_Diff.mono _ _ _)
   | (with_reducible exact tree_Drop.mono _ _ _)
   | (with_reducible exact tree_Find.mono _ _ _)
   | (with_reducible exact tree_Put.mono _ _ _ _ _ _ _)
   | (with_reducible exact LeO.refl _)
   | (with_reducible exact LeO.none _)
   | (with_reducible refine LeO.ite ?_ ?_)
   | (with_reducible refine LeO.bind ?_ (fun _ => ?_))
   | exact ih0 _ _ _ _
   | exact ih1 _ _ _ _ _ _ _ _
   | exact ih2 _ _ _ _ _ _ _ _ _
   | exact ih3 _ _ _ _ _ _ _ _ _ _
   | exact satchelkit_BigTree.mono _ _ _ _
   | exact satchelkit_CopyTree.mono _ _
   | exact satchellaw08_among.mono _ _ _
   | exact tree_Check.mono _ _
   | exact tree_Diff.mono _ _ _
   | exact tree_Drop.mono _ _ _
   | exact tree_Find.mono _ _ _
   | exact tree_Put.mono _ _ _ _ _ _ _
   | exact LeO.none _
   | refine LeO.ite ?_ ?_
   | refine LeO.bind ?_ (fun _ => ?_)
  ·intro y0 y1 y2 y3 y4 y5 y6 y7
   unfold satchellaw08_TreeLeads.l0
   repeat' first
   | (with_reducible exact ih0 _ _ _ _)
   | (with_reducible exact ih1 _ _ _ _ _ _ _ _)
   | (with_reducible exact ih2 _ _ _ _ _ _ _ _ _)
   | (with_reducible exact ih3 _ _ _ _ _ _ _ _ _ _)
   | (with_reducible exact satchelkit_BigTree.mono _ _ _ _)
   | (with_reducible exact satchelkit_CopyTree.mono _ _)
   | (with_reducible exact satchellaw08_among.mono _ _ _)
   | (with_reducible exact tree_Check.mono _ _)
   | (with_reducible exact tree_Diff.mono _ _ _)
   | (with_reducible exact tree_Drop.mono _ _ _)
   | (with_reducible exact tree_Find.mono _ _ _)
   | (with_reducible exact tree_Put.mono _ _ _ _ _ _ _)
   | (with_reducible exact LeO.refl _)
   | (with_reducible exact LeO.none _)
   | (with_reducible refine LeO.ite ?_ ?_)
   | (with_reducible refine LeO.bind ?_ (fun _ => ?_))
   | exact ih0 _ _ _ _
   | exact ih1 _ _ _ _ _ _ _ _
   | exact ih2 _ _ _ _ _ _ _ _ _
   | exact ih3 _ _ _ _ _ _ _ _ _ _
   | exact satchelkit_BigTree.mono _ _ _ _
   | exact satchelkit_CopyTree.mono _ _
   | exact satchellaw08_among.mono _ _ _
   | exact tree_Check.mono _ _
   | exact tree_Diff.mono _ _ _
   | exact tree_Drop.mono _ _ _
   | exact tree_Find.mono _ _ _
   | exact tree_Put.mono _ _ _ _ _ _ _
   | exact LeO.none _
   | refine LeO.ite ?_ ?_
   | refine LeO.bind ?_ (fun _ => ?_)
  ·intro y0 y1 y2 y3 y4 y5 y6 y7 y8
   unfold satchellaw08_TreeLeads.l1
   repeat' first
   | (with_reducible exact ih0 _ _ _ _)
   | (with_reducible exact ih1 _ _ _ _ _ _ _ _)
   | (with_reducible exact ih2 _ _ _ _ _ _ _ _ _)
   | (with_reducible exact ih3 _ _ _ _ _ _ _ _ _ _)
   | (with_reducible exact satchelkit_BigTree.mono _ _ _ _)
   | (with_reducible exact satchelkit_CopyTree.mono _ _)
   | (with_reducible exact satchellaw08_among.mono _ _ _)
   | (with_reducible exact tree_Check.mono _ _)
   | (with_reducible exact tree_Diff.mono _ _ _)
   | (with_reducible exact tree_Drop.mono _ _ _)
   | (with_reducible exact tree_Find.mono _ _ _)
   | (with_reducible exact tree_Put.mono _ _ _ _ _ _ _)
   | (with_reducible exact LeO.refl _)
   | (with_reducible exact LeO.none _)
   | (with_reducible refine LeO.ite ?_ ?_)
   | (with_reducible refine LeO.bind ?_ (fun _ => ?_))
   | exact ih0 _ _ _ _
   | exact ih1 _ _ _ _ _ _ _ _
   | exact ih2 _ _ _ _ _ _ _ _ _
   | exact ih3 _ _ _ _ _ _ _ _ _ _
   | exact satchelkit_BigTree.mono _ _ _ _
   | exact satchelkit_CopyTree.mono _ _
   | exact satchellaw08_among.mono _ _ _
   | exact tree_Check.mono _ _
   | exact tree_Diff.mono _ _ _
   | exact tree_Drop.mono _ _ _
   | exact tree_Find.mono _ _ _
   | exact tree_Put.mono _ _ _ _ _ _ _
   | exact LeO.none _
   | refine LeO.ite ?_ ?_
   | refine LeO.bind ?_ (fun _ => ?_)
  ·intro y0 y1 y2 y3 y4 y5 y6 y7 y8 y9
   unfold satchellaw08_TreeLeads.j3
   repeat' first
   | (with_reducible exact ih0 _ _ _ _)
   | (with_reducible exact ih1 _ _ _ _ _ _ _ _)
   | (with_reducible exact ih2 _ _ _ _ _ _ _ _ _)
   | (with_reducible exact ih3 _ _ _ _ _ _ _ _ _ _)
   | (with_reducible exact satchelkit_BigTree.mono _ _ _ _)
   | (with_reducible exact satchelkit_CopyTree.mono _ _)
   | (with_reducible exact satchellaw08_among.mono _ _ _)
   | (with_reducible exact tree_Check.mono _ _)
   | (with_reducible exact tree_Diff.mono _ _ _)
   | (with_reducible exact tree_Drop.mono _ _ _)
   | (with_reducible exact tree_Find.mono _ _ _)
   | (with_reducible exact tree_Put.mono _ _ _ _ _ _ _)
   | (with_reducible exact LeO.refl _)
   | (with_reducible exact LeO.none _)
   | (with_reducible refine LeO.ite ?_ ?_)
   | (with_reducible refine LeO.bind ?_ (fun _ => ?_))
   | exact ih0 _ _ _ _
   | exact ih1 _ _ _ _ _ _ _ _
   | exact ih2 _ _ _ _ _ _ _ _ _
   | exact ih3 _ _ _ _ _ _ _ _ _ _
   | exact satchelkit_BigTree.mono _ _ _ _
   | exact satchelkit_CopyTree.mono _ _
   | exact satchellaw08_among.mono _ _ _
   | exact tree_Check.mono _ _
   | exact tree_Diff.mono _ _ _
   | exact tree_Drop.mono _ _ _
   | exact tree_Find.mono _ _ _
   | exact tree_Put.mono _ _ _ _ _ _ _
   | exact LeO.none _
   | refine LeO.ite ?_ ?_
   | refine LeO.bind ?_ (fun _ => ?_)
theorem satchellaw08_TreeLeads.mono : ∀ a0 a1 k, LeO (satchellaw08_TreeLeads.f k a0 a1) (satchellaw08_TreeLeads.f (k + 1) a0 a1) := by
 intro a0 a1 k
 obtain ⟨ih0, ih1, ih2, ih3⟩ := satchellaw08_TreeLeads.mono_l k
 unfold satchellaw08_TreeLeads.f
 repeat' first
   | (with_reducible exact ih0 _ _ _ _)
   | (with_reducible exact ih1 _ _ _ _ _ _ _ _)
   | (with_reducible exact ih2 _ _ _ _ _ _ _ _ _)
   | (with_reducible exact ih3 _ _ _ _ _ _ _ _ _ _)
   | (with_reducible exact satchelkit_BigTree.mono _ _ _ _)
   | (with_reducible exact satchelkit_CopyTree.mono _ _)
   | (with_reducible exact satchellaw08_among.mono _ _ _)
   | (with_reducible exact tree_Check.mono _ _)
   | (with_reducible exact tree_Diff.mono _ _ _)
   | (with_reducible exact tree_Drop.mono _ _ _)
   | (with_reducible exact tree_Find.mono _ _ _)
   | (with_reducible exact tree_Put.mono _ _ _ _ _ _ _)
   | (with_reducible exact LeO.refl _)
   | (with_reducible exact LeO.none _)
   | (with_reducible refine LeO.ite ?_ ?_)
   | (with_reducible refine LeO.bind ?_ (fun _ => ?_))
   | exact ih0 _ _ _ _
   | exact ih1 _ _ _ _ _ _ _ _
   | exact ih2 _ _ _ _ _ _ _ _ _
   | exact ih3 _ _ _ _ _ _ _ _ _ _
   | exact satchelkit_BigTree.mono _ _ _ _
   | exact satchelkit_CopyTree.mono _ _
   | exact satchellaw08_among.mono _ _ _
   | exact tree_Check.mono _ _
   | exact tree_Diff.mono _ _ _
   | exact tree_Drop.mono _ _ _
   | exact tree_Find.mono _ _ _
   | exact tree_Put.mono _ _ _ _ _ _ _
   | exact LeO.none _
   | refine LeO.ite ?_ ?_
   | refine LeO.bind ?_ (fun _ => ?_)
set_option maxHeartbeats 8000000 in
set_option maxRecDepth 100000 in
theorem satchellaw08_TreeLeads.calls (k : Nat) (A0 : Option Addr) (c0 : Nat) (l0 : List (S31)) (A1 : Option Addr) (c1 : Nat) (l1 : List (S31)) (r : Bool) (w : World) (hr0 : Kd.C k31 w A0 l0.length l0) (hc0 : l0.length ≤ c0) (hr1 : Kd.C k31 w A1 l1.length l1) (hc1 : l1.length ≤ c1) (h : satchellaw08_TreeLeads.f k l0 l1 = some r) :
  Calls Try.prog 9 #[.slice A0 l0.length c0, .slice A1 l1.length c1] w fun e w' => e = .returned (.bool r) ∧ Below w.heap.size w w' := by
 have hu31 := Try.underlying31
 have HR0 := Aside0.mk hr0
 have HC0 := Aside0.mk hc0
 clear hr0 hc0
 have HR1 := Aside0.mk hr1
 have HC1 := Aside0.mk hc1
 clear hr1 hc1
 have HB := Aside0.mk (Below.refl w.heap.size w)
 have H : ((satchellaw08_TreeKnown.f).bind fun t503 => ((tree_Check.f k l0).bind fun bt504 => ((tree_Check.f k l1).bind fun bt506 => ((satchelkit_BigTree.f k l0 60 4000).bind fun t508 => (if t508 = true then (satchellaw08_TreeLeads.j0 k l0 l1 t503 true) else ((satchelkit_BigTree.f k l1 60 4000).bind fun t509 => (if t509 = true then (satchellaw08_TreeLeads.j0 k l0 l1 t503 true) else (if bt504.1 = 0 then (satchellaw08_TreeLeads.j0 k l0 l1 t503 (bt506.1 != 0)) else (satchellaw08_TreeLeads.j0 k l0 l1 t503 true))))))))) = some r := h
 clear h
 replace H := Option.bind_eq_some_iff.mp H
 obtain ⟨t503, A30, H⟩ := H
 replace H : ((tree_Check.f k l0).bind fun bt504 => ((tree_Check.f k l1).bind fun bt506 => ((satchelkit_BigTree.f k l0 60 4000).bind fun t508 => (if t508 = true then (satchellaw08_TreeLeads.j0 k l0 l1 t503 true) else ((satchelkit_BigTree.f k l1 60 4000).bind fun t509 => (if t509 = true then (satchellaw08_TreeLeads.j0 k l0 l1 t503 true) else (if bt504.1 = 0 then (satchellaw08_TreeLeads.j0 k l0 l1 t503 (bt506.1 != 0)) else (satchellaw08_TreeLeads.j0 k l0 l1 t503 true)))))))) = some r := H
 have A3 := Aside0.mk A30
 clear A30
 replace H := Option.bind_eq_some_iff.mp H
 obtain ⟨⟨t504, t505⟩, A40, H⟩ := H
 replace H : ((tree_Check.f k l1).bind fun bt506 => ((satchelkit_BigTree.f k l0 60 4000).bind fun t508 => (if t508 = true then (satchellaw08_TreeLeads.j0 k l0 l1 t503 true) else ((satchelkit_BigTree.f k l1 60 4000).bind fun t509 => (if t509 = true then (satchellaw08_TreeLeads.j0 k l0 l1 t503 true) else (if t504 = 0 then (satchellaw08_TreeLeads.j0 k l0 l1 t503 (bt506.1 != 0)) else (satchellaw08_TreeLeads.j0 k l0 l1 t503 true))))))) = some r := H
 have A4 := Aside0.mk A40
 clear A40
 replace H := Option.bind_eq_some_iff.mp H
 obtain ⟨⟨t506, t507⟩, A50, H⟩ := H
 replace H : ((satchelkit_BigTree.f k l0 60 4000).bind fun t508 => (if t508 = true then (satchellaw08_TreeLeads.j0 k l0 l1 t503 true) else ((satchelkit_BigTree.f k l1 60 4000).bind fun t509 => (if t509 = true then (satchellaw08_TreeLeads.j0 k l0 l1 t503 true) else (if t504 = 0 then (satchellaw08_TreeLeads.j0 k l0 l1 t503 (t506 != 0)) else (satchellaw08_TreeLeads.j0 k l0 l1 t503 true)))))) = some r := H
 have A5 := Aside0.mk A50
 clear A50
 have HC6 := Aside0.mk H
 clear H
 go_enter Try.func9, Try.ntmps9
 go_upto_region 4 with (first | ((with_reducible refine gate_callee (f := 7) rfl ?_); refine goesL_ (some 27) rfl rfl Try.func7 (by kernel_rfl) rfl #[] rfl (by (try simp only [List.map_toArray, List.map_cons, List.map_nil]); first | done | rfl | (simp only [List.length_drop, List.length_take]; rfl)) ?_; (with_reducible refine (satchellaw08_TreeKnown.calls  t503 _ A3.out).mono ?_); rintro e w7 ⟨rfl, hb⟩; refine ⟨_, rfl, ?_⟩; have n0_ := Aside0.mk (below_step (by repeat (first | (with_reducible first | exact HB.out | apply below_alloc | apply pw_below_drewN | apply below_drew1) | exact HB.out)) hb); clear HB; have HB := n0_; clear n0_; (try clear hb); (try clear hb2); (try clear hk); (try clear hi)) | ((with_reducible refine gate_callee (f := 11) rfl ?_); refine goesL_ (some 30) rfl rfl Try.func11 (by kernel_rfl) rfl #[.slice A0 l0.length c0] rfl (by (try simp only [List.map_toArray, List.map_cons, List.map_nil]); first | done | rfl | (simp only [List.length_drop, List.length_take]; rfl)) ?_; (with_reducible refine (tree_Check.calls k _ _ l0 t504 t505 _ ?side1 ?side2 A4.out).mono ?_); (case side1 => repeat (first | exact (Kd.C_below HR0.out HB.out) | (with_reducible refine Kd.C_alloc ?_ _) | (with_reducible refine Kd.C_drewN ?_ _) | (with_reducible refine Kd.C_drew ?_))); (case side2 => exact HC0.out); rintro e w8 ⟨rfl, hb⟩; refine ⟨_, rfl, ?_⟩; have n0_ := Aside0.mk (below_step (by repeat (first | (with_reducible first | exact HB.out | apply below_alloc | apply pw_below_drewN | apply below_drew1) | exact HB.out)) hb); clear HB; have HB := n0_; clear n0_; (try clear hb); (try clear hb2); (try clear hk); (try clear hi)) | ((with_reducible refine gate_callee (f := 11) rfl ?_); refine goesL_ (some 35) rfl rfl Try.func11 (by kernel_rfl) rfl #[.slice A1 l1.length c1] rfl (by (try simp only [List.map_toArray, List.map_cons, List.map_nil]); first | done | rfl | (simp only [List.length_drop, List.length_take]; rfl)) ?_; (with_reducible refine (tree_Check.calls k _ _ l1 t506 t507 _ ?side1 ?side2 A5.out).mono ?_); (case side1 => repeat (first | exact (Kd.C_below HR1.out HB.out) | (with_reducible refine Kd.C_alloc ?_ _) | (with_reducible refine Kd.C_drewN ?_ _) | (with_reducible refine Kd.C_drew ?_))); (case side2 => exact HC1.out); rintro e w9 ⟨rfl, hb⟩; refine ⟨_, rfl, ?_⟩; have n0_ := Aside0.mk (below_step (by repeat (first | (with_reducible first | exact HB.out | apply below_alloc | apply pw_below_drewN | apply below_drew1) | exact HB.out)) hb); clear HB; have HB := n0_; clear n0_; (try clear hb); (try clear hb2); (try clear hk); (try clear hi)))
 (try simp only [Act.put, List.setIfInBounds_toArray, List.set_cons_zero, List.set_cons_succ])
 go_cut [51] (fun v51 wc => ∃ (kq : Nat) (x51_5 : Bool), v51 = .bool x51_5 ∧ Aside0 (satchellaw08_TreeLeads.j0 kq l0 l1 t503 x51_5 = some r) ∧ Aside0 (kq ≤ k) ∧ Aside0 (Below w.heap.size w wc))
 case first =>
  have H := HC6.out
  clear HC6
  replace H := Option.bind_eq_some_iff.mp H
  obtain ⟨t508, A100, H⟩ := H
  replace H : (if t508 = true then (satchellaw08_TreeLeads.j0 k l0 l1 t503 true) else ((satchelkit_BigTree.f k l1 60 4000).bind fun t509 => (if t509 = true then (satchellaw08_TreeLeads.j0 k l0 l1 t503 true) else (if t504 = 0 then (satchellaw08_TreeLeads.j0 k l0 l1 t503 (t506 != 0)) else (satchellaw08_TreeLeads.j0 k l0 l1 t503 true))))) = some r := H
  have A10 := Aside0.mk A100
  clear A100
  by_cases c11 : t508 = true
  ·subst c11
   have H1 : (satchellaw08_TreeLeads.j0 k l0 l1 t503 true) = some r := by rw [if_pos rfl] at H; exact H
   clear H
   have H := H1
   clear H1
   have H' := Aside0.mk H
   clear H
   go_wp2_with (first | ((with_reducible refine gate_callee (f := 12) rfl ?_); refine goesL_ (some 39) rfl rfl Try.func12 (by kernel_rfl) rfl #[.slice A0 l0.length c0, .int .i64 60, .int .i64 4000] rfl (by (try simp only [List.map_toArray, List.map_cons, List.map_nil]); first | done | rfl | (simp only [List.length_drop, List.length_take]; rfl)) ?_; (with_reducible refine (satchelkit_BigTree.calls k _ _ l0 60 4000 true _ ?side1 ?side2 A10.out).mono ?_); (case side1 => repeat (first | exact (Kd.C_below HR0.out HB.out) | (with_reducible refine Kd.C_alloc ?_ _) | (with_reducible refine Kd.C_drewN ?_ _) | (with_reducible refine Kd.C_drew ?_))); (case side2 => exact HC0.out); rintro e w' ⟨rfl, ⟨nd, rfl⟩⟩; refine ⟨_, rfl, ?_⟩))
   go_meet
   case rel => exact ⟨_, (true), (by first | rfl | (simp; done) | (simp [*]; done)), H', ⟨by first | omega | exact Nat.le_refl _⟩, ⟨by repeat (first | (with_reducible first | exact HB.out | apply below_alloc | apply pw_below_drewN | apply below_drew1) | exact HB.out)⟩⟩
  ·replace c11 := Bool.eq_false_iff.mpr c11
   subst c11
   have H1 : ((satchelkit_BigTree.f k l1 60 4000).bind fun t509 => (if t509 = true then (satchellaw08_TreeLeads.j0 k l0 l1 t503 true) else (if t504 = 0 then (satchellaw08_TreeLeads.j0 k l0 l1 t503 (t506 != 0)) else (satchellaw08_TreeLeads.j0 k l0 l1 t503 true)))) = some r := by rw [if_neg (show ¬ (false = true) by decide)] at H; exact H
   clear H
   have H := H1
   clear H1
   replace H := Option.bind_eq_some_iff.mp H
   obtain ⟨t509, A120, H⟩ := H
   replace H : (if t509 = true then (satchellaw08_TreeLeads.j0 k l0 l1 t503 true) else (if t504 = 0 then (satchellaw08_TreeLeads.j0 k l0 l1 t503 (t506 != 0)) else (satchellaw08_TreeLeads.j0 k l0 l1 t503 true))) = some r := H
   have A12 := Aside0.mk A120
   clear A120
   by_cases c13 : t509 = true
   ·subst c13
    have H1 : (satchellaw08_TreeLeads.j0 k l0 l1 t503 true) = some r := by rw [if_pos rfl] at H; exact H
    clear H
    have H := H1
    clear H1
    have H' := Aside0.mk H
    clear H
    go_wp2_with (first | ((with_reducible refine gate_callee (f := 12) rfl ?_); refine goesL_ (some 39) rfl rfl Try.func12 (by kernel_rfl) rfl #[.slice A0 l0.length c0, .int .i64 60, .int .i64 4000] rfl (by (try simp only [List.map_toArray, List.map_cons, List.map_nil]); first | done | rfl | (simp only [List.length_drop, List.length_take]; rfl)) ?_; (with_reducible refine (satchelkit_BigTree.calls k _ _ l0 60 4000 false _ ?side1 ?side2 A10.out).mono ?_); (case side1 => repeat (first | exact (Kd.C_below HR0.out HB.out) | (with_reducible refine Kd.C_alloc ?_ _) | (with_reducible refine Kd.C_drewN ?_ _) | (with_reducible refine Kd.C_drew ?_))); (case side2 => exact HC0.out); rintro e w' ⟨rfl, ⟨nd, rfl⟩⟩; refine ⟨_, rfl, ?_⟩) | (go_at_call 12; (with_reducible refine (satchelkit_BigTree.calls k _ _ l1 60 4000 true _ ?side1 ?side2 A12.out).mono ?_); (case side1 => repeat (first | exact (Kd.C_below HR1.out (by repeat (first | (with_reducible first | exact HB.out | apply below_alloc | apply pw_below_drewN | apply below_drew1) | exact HB.out))) | (with_reducible refine Kd.C_alloc ?_ _) | (with_reducible refine Kd.C_drewN ?_ _) | (with_reducible refine Kd.C_drew ?_))); (case side2 => exact HC1.out); rintro e w' ⟨rfl, ⟨nd, rfl⟩⟩))
    go_meet
    case rel => exact ⟨_, (true), (by first | rfl | (simp; done) | (simp [*]; done)), H', ⟨by first | omega | exact Nat.le_refl _⟩, ⟨by repeat (first | (with_reducible first | exact HB.out | apply below_alloc | apply pw_below_drewN | apply below_drew1) | exact HB.out)⟩⟩
   ·replace c13 := Bool.eq_false_iff.mpr c13
    subst c13
    have H1 : (if t504 = 0 then (satchellaw08_TreeLeads.j0 k l0 l1 t503 (t506 != 0)) else (satchellaw08_TreeLeads.j0 k l0 l1 t503 true)) = some r := by rw [if_neg (show ¬ (false = true) by decide)] at H; exact H
    clear H
    have H := H1
    clear H1
    by_cases c14 : t504 = 0
    ·rw [if_pos c14] at H
     have c14b0 : (t504 == 0) = true := beq_iff_eq.mpr c14
     have c14b1 : (t504 != 0) = false := bne_eq_false_iff_eq.mpr c14
     clear c14
     (first | rw [c14b0] | (simp only [i64_w, i32_w]; rw [c14b0]) | skip)
     have H' := Aside0.mk H
     clear H
     go_wp2_with (first | ((with_reducible refine gate_callee (f := 12) rfl ?_); refine goesL_ (some 39) rfl rfl Try.func12 (by kernel_rfl) rfl #[.slice A0 l0.length c0, .int .i64 60, .int .i64 4000] rfl (by (try simp only [List.map_toArray, List.map_cons, List.map_nil]); first | done | rfl | (simp only [List.length_drop, List.length_take]; rfl)) ?_; (with_reducible refine (satchelkit_BigTree.calls k _ _ l0 60 4000 false _ ?side1 ?side2 A10.out).mono ?_); (case side1 => repeat (first | exact (Kd.C_below HR0.out HB.out) | (with_reducible refine Kd.C_alloc ?_ _) | (with_reducible refine Kd.C_drewN ?_ _) | (with_reducible refine Kd.C_drew ?_))); (case side2 => exact HC0.out); rintro e w' ⟨rfl, ⟨nd, rfl⟩⟩; refine ⟨_, rfl, ?_⟩) | (go_at_call 12; (with_reducible refine (satchelkit_BigTree.calls k _ _ l1 60 4000 false _ ?side1 ?side2 A12.out).mono ?_); (case side1 => repeat (first | exact (Kd.C_below HR1.out (by repeat (first | (with_reducible first | exact HB.out | apply below_alloc | apply pw_below_drewN | apply below_drew1) | exact HB.out))) | (with_reducible refine Kd.C_alloc ?_ _) | (with_reducible refine Kd.C_drewN ?_ _) | (with_reducible refine Kd.C_drew ?_))); (case side2 => exact HC1.out); rintro e w' ⟨rfl, ⟨nd, rfl⟩⟩))
     go_meet
     case rel => exact ⟨_, ((t506 != 0)), (by first | rfl | (simp; done) | (simp [*]; done)), H', ⟨by first | omega | exact Nat.le_refl _⟩, ⟨by repeat (first | (with_reducible first | exact HB.out | apply below_alloc | apply pw_below_drewN | apply below_drew1) | exact HB.out)⟩⟩
    ·rw [if_neg c14] at H
     have c14b0 : (t504 == 0) = false := beq_eq_false_iff_ne.mpr c14
     have c14b1 : (t504 != 0) = true := bne_iff_ne.mpr c14
     (first | rw [c14b0] | (simp only [i64_w, i32_w]; rw [c14b0]) | skip)
     have H' := Aside0.mk H
     clear H
     go_wp2_with (first | ((with_reducible refine gate_callee (f := 12) rfl ?_); refine goesL_ (some 39) rfl rfl Try.func12 (by kernel_rfl) rfl #[.slice A0 l0.length c0, .int .i64 60, .int .i64 4000] rfl (by (try simp only [List.map_toArray, List.map_cons, List.map_nil]); first | done | rfl | (simp only [List.length_drop, List.length_take]; rfl)) ?_; (with_reducible refine (satchelkit_BigTree.calls k _ _ l0 60 4000 false _ ?side1 ?side2 A10.out).mono ?_); (case side1 => repeat (first | exact (Kd.C_below HR0.out HB.out) | (with_reducible refine Kd.C_alloc ?_ _) | (with_reducible refine Kd.C_drewN ?_ _) | (with_reducible refine Kd.C_drew ?_))); (case side2 => exact HC0.out); rintro e w' ⟨rfl, ⟨nd, rfl⟩⟩; refine ⟨_, rfl, ?_⟩) | (go_at_call 12; (with_reducible refine (satchelkit_BigTree.calls k _ _ l1 60 4000 false _ ?side1 ?side2 A12.out).mono ?_); (case side1 => repeat (first | exact (Kd.C_below HR1.out (by repeat (first | (with_reducible first | exact HB.out | apply below_alloc | apply pw_below_drewN | apply below_drew1) | exact HB.out))) | (with_reducible refine Kd.C_alloc ?_ _) | (with_reducible refine Kd.C_drewN ?_ _) | (with_reducible refine Kd.C_drew ?_))); (case side2 => exact HC1.out); rintro e w' ⟨rfl, ⟨nd, rfl⟩⟩))
     go_meet
     case rel => exact ⟨_, (true), (by first | rfl | (simp; done) | (simp [*]; done)), H', ⟨by first | omega | exact Nat.le_refl _⟩, ⟨by repeat (first | (with_reducible first | exact HB.out | apply below_alloc | apply pw_below_drewN | apply below_drew1) | exact HB.out)⟩⟩
 case rest =>
  clear HC6
  try clear c1
  try clear p2
  try clear c7
  try clear c9
  try clear c11
  try clear c12
  try clear c13
  try clear c14
  try clear c14b0
  try clear c14b1
  obtain ⟨kq, x51_5, rfl, HA, HJ5, HB⟩ := hcut
  cases kq with
  | zero => exact absurd HA.out (by simp [satchellaw08_TreeLeads.j0])
  | succ kj5 =>
   have H := HA.out
   clear HA
   simp only [satchellaw08_TreeLeads.j0] at H
   by_cases c15 : x51_5 = true
   ·subst c15
    have H1 : (some t503) = some r := by rw [if_pos rfl] at H; exact H
    clear H
    have H := H1
    clear H1
    obtain rfl := Option.some.inj H
    go_wp2
    go_ret
    exact ⟨by first | rfl | (simp [errW_none, errW_some] <;> rfl) | (simp [*, errW_none, errW_some] <;> rfl) | (simp [bt, *]; done) | (simp_all [bt]; done), by repeat (first | (with_reducible first | exact HB.out | apply below_alloc | apply pw_below_drewN | apply below_drew1) | exact HB.out)⟩
   ·replace c15 := Bool.eq_false_iff.mpr c15
    subst c15
    have H1 : ((tree_Diff.f kj5 l0 l1).bind fun bt510 => ((satchelkit_CopyTree.f kj5 l0).bind fun t519 => (satchellaw08_TreeLeads.l0 kj5 l0 l1 t503 bt510.1 bt510.2.1 bt510.2.2 t519 0))) = some r := by rw [if_neg (show ¬ (false = true) by decide)] at H; exact H
    clear H
    have H := H1
    clear H1
    replace H := Option.bind_eq_some_iff.mp H
    obtain ⟨⟨t510, t511, t512⟩, A160, H⟩ := H
    replace H : ((satchelkit_CopyTree.f kj5 l0).bind fun t519 => (satchellaw08_TreeLeads.l0 kj5 l0 l1 t503 t510 t511 t512 t519 0)) = some r := H
    have A16 := Aside0.mk A160
    clear A160
    replace H := Option.bind_eq_some_iff.mp H
    obtain ⟨t519, A170, H⟩ := H
    replace H : (satchellaw08_TreeLeads.l0 kj5 l0 l1 t503 t510 t511 t512 t519 0) = some r := H
    have A17 := Aside0.mk A170
    clear A170
    have H' := Aside0.mk H
    clear H
    go_wp2_with (first | ((with_reducible refine gate_callee (f := 25) rfl ?_); refine goesL_ (some 56) rfl rfl Try.func25 (by kernel_rfl) rfl #[.slice A0 l0.length c0, .slice A1 l1.length c1] rfl (by (try simp only [List.map_toArray, List.map_cons, List.map_nil]); first | done | rfl | (simp only [List.length_drop, List.length_take]; rfl)) ?_; (with_reducible refine (tree_Diff.calls kj5 _ _ l0 _ _ l1 t510 t511 t512 _ ?side1 ?side2 ?side3 ?side4 A16.out).mono ?_); (case side1 => repeat (first | exact (Kd.C_below HR0.out HB.out) | (with_reducible refine Kd.C_alloc ?_ _) | (with_reducible refine Kd.C_drewN ?_ _) | (with_reducible refine Kd.C_drew ?_))); (case side2 => exact HC0.out); (case side3 => repeat (first | exact (Kd.C_below HR1.out HB.out) | (with_reducible refine Kd.C_alloc ?_ _) | (with_reducible refine Kd.C_drewN ?_ _) | (with_reducible refine Kd.C_drew ?_))); (case side4 => exact HC1.out); rintro e w18 ⟨v513, v515, v517, rfl, ho0, ho1, ho2, hb⟩; refine ⟨_, rfl, ?_⟩; have n0_ := Aside0.mk (Kd.R_lower ho0 (below_size (by repeat (first | (with_reducible first | exact HB.out | apply below_alloc | apply pw_below_drewN | apply below_drew1) | exact HB.out)))); have n1_ := Aside0.mk (Kd.R_lower ho1 (below_size (by repeat (first | (with_reducible first | exact HB.out | apply below_alloc | apply pw_below_drewN | apply below_drew1) | exact HB.out)))); have n2_ := Aside0.mk (Kd.R_lower ho2 (below_size (by repeat (first | (with_reducible first | exact HB.out | apply below_alloc | apply pw_below_drewN | apply below_drew1) | exact HB.out)))); have n3_ := Aside0.mk (below_step (by repeat (first | (with_reducible first | exact HB.out | apply below_alloc | apply pw_below_drewN | apply below_drew1) | exact HB.out)) hb); clear HB; have HO514 := n0_; have HO516 := n1_; have HO518 := n2_; have HB := n3_; clear n0_ n1_ n2_ n3_; (try clear hb); (try clear hb2); (try clear hk); (try clear hi); (try clear ho0); (try clear ho1); (try clear ho2)) | ((with_reducible refine gate_callee (f := 18) rfl ?_); refine goesL_ (some 61) rfl rfl Try.func18 (by kernel_rfl) rfl #[.slice A0 l0.length c0] rfl (by (try simp only [List.map_toArray, List.map_cons, List.map_nil]); first | done | rfl | (simp only [List.length_drop, List.length_take]; rfl)) ?_; (with_reducible refine (satchelkit_CopyTree.calls kj5 (fun k_ => k_ < w.heap.size) _ _ l0 t519 _ ?side1 A17.out).mono ?_); (case side1 => exact Kd.V_mk HC0.out (Kd.F_below (Kd.C_F k31_heap HR0.out) (by repeat (first | (with_reducible first | exact HB.out | apply below_alloc | apply pw_below_drewN | apply below_drew1) | exact HB.out)))); rintro e w19 ⟨v520, rfl, ho0, hb⟩; refine ⟨_, rfl, ?_⟩; have n0_ := Aside0.mk (Kd.R_below (by (with_reducible repeat (first | apply Kd.R_alloc | apply Kd.R_drewN | apply Kd.R_drew)); exact HO514.out) hb); have n1_ := Aside0.mk (Kd.R_below (by (with_reducible repeat (first | apply Kd.R_alloc | apply Kd.R_drewN | apply Kd.R_drew)); exact HO516.out) hb); have n2_ := Aside0.mk (Kd.R_below (by (with_reducible repeat (first | apply Kd.R_alloc | apply Kd.R_drewN | apply Kd.R_drew)); exact HO518.out) hb); have n3_ := Aside0.mk (Kd.N_lower (Kd.N_mono (ok' := fun k_ => some k_ ≠ (v513 : Value).ownBlock ∧ some k_ ≠ (v515 : Value).ownBlock ∧ some k_ ≠ (v517 : Value).ownBlock) ho0 (fun k_ hk_ => ⟨Or.elim hk_ (fun hs_ => fun e_ => Nat.not_le.2 hs_ (Kd.R_base HO514.out k_ e_.symm)) (fun hn_ => (Kd.fresh' (Kd.R_lt (by (with_reducible repeat (first | apply Kd.R_alloc | apply Kd.R_drewN | apply Kd.R_drew)); exact HO514.out)) k_ hn_)), Or.elim hk_ (fun hs_ => fun e_ => Nat.not_le.2 hs_ (Kd.R_base HO516.out k_ e_.symm)) (fun hn_ => (Kd.fresh' (Kd.R_lt (by (with_reducible repeat (first | apply Kd.R_alloc | apply Kd.R_drewN | apply Kd.R_drew)); exact HO516.out)) k_ hn_)), Or.elim hk_ (fun hs_ => fun e_ => Nat.not_le.2 hs_ (Kd.R_base HO518.out k_ e_.symm)) (fun hn_ => (Kd.fresh' (Kd.R_lt (by (with_reducible repeat (first | apply Kd.R_alloc | apply Kd.R_drewN | apply Kd.R_drew)); exact HO518.out)) k_ hn_))⟩)) (below_size (by repeat (first | (with_reducible first | exact HB.out | apply below_alloc | apply pw_below_drewN | apply below_drew1) | exact HB.out)))); have n4_ := Aside0.mk (below_step (by repeat (first | (with_reducible first | exact HB.out | apply below_alloc | apply pw_below_drewN | apply below_drew1) | exact HB.out)) hb); clear HO514; clear HO516; clear HO518; clear HB; have HO514 := n0_; have HO516 := n1_; have HO518 := n2_; have HO521 := n3_; have HB := n4_; clear n0_ n1_ n2_ n3_ n4_; (try clear hb); (try clear hb2); (try clear hk); (try clear hi); (try clear ho0)))
    go_loopg [13, 14] kj5 (fun kq v13 v14 w' => ∃ (x13_2 : List (S31)) (x14_2 : Int), v14 = .int .i64 x14_2 ∧ Aside0 (satchellaw08_TreeLeads.l0 kq l0 l1 t503 t510 t511 t512 x13_2 x14_2 = some r) ∧ Aside0 (kq ≤ kj5) ∧ Aside0 (Kd.R Kd.string 9 w' w.heap.size (fun k_ => some k_ ≠ (v515 : Value).ownBlock ∧ some k_ ≠ (v517 : Value).ownBlock) v513 t510) ∧ Aside0 (Kd.R Kd.string 9 w' w.heap.size (fun k_ => some k_ ≠ (v513 : Value).ownBlock ∧ some k_ ≠ (v517 : Value).ownBlock) v515 t511) ∧ Aside0 (Kd.R Kd.string 9 w' w.heap.size (fun k_ => some k_ ≠ (v513 : Value).ownBlock ∧ some k_ ≠ (v515 : Value).ownBlock) v517 t512) ∧ Aside0 (Kd.N k31 31 w' w.heap.size (fun k_ => some k_ ≠ (v513 : Value).ownBlock ∧ some k_ ≠ (v515 : Value).ownBlock ∧ some k_ ≠ (v517 : Value).ownBlock) v13 x13_2) ∧ Aside0 (Below w.heap.size w w'))
    case atStart => exact ⟨(t519), (0), (by first | rfl | (simp; done) | (simp [*]; done)), H', ⟨Nat.le_refl _⟩, ⟨by (with_reducible repeat (first | apply Kd.R_alloc | apply Kd.R_drewN | apply Kd.R_drew)); exact HO514.out⟩, ⟨by (with_reducible repeat (first | apply Kd.R_alloc | apply Kd.R_drewN | apply Kd.R_drew)); exact HO516.out⟩, ⟨by (with_reducible repeat (first | apply Kd.R_alloc | apply Kd.R_drewN | apply Kd.R_drew)); exact HO518.out⟩, ⟨by (with_reducible repeat (first | apply Kd.N_alloc | apply Kd.N_drewN | apply Kd.N_drew)); exact HO521.out⟩, ⟨by repeat (first | (with_reducible first | exact HB.out | apply below_alloc | apply pw_below_drewN | apply below_drew1) | exact HB.out)⟩⟩
    case round =>
     clear H'
     try clear c1
     try clear c2
     try clear p2
     try clear c7
     try clear c9
     try clear c11
     try clear c12
     try clear c13
     try clear c14
     try clear c14b0
     try clear c14b1
     try clear c15
     try clear c18
     try clear p2
     obtain ⟨x13_2, x14_2, rfl, HA, HK2, HO_10, HO_11, HO_12, HO_13, HB⟩ := hrel
     cases gk with
     | zero => exact absurd HA.out (by simp [satchellaw08_TreeLeads.l0])
     | succ k2 =>
      have H := HA.out
      clear HA
      simp only [satchellaw08_TreeLeads.l0] at H
      by_cases c20 : x14_2 < (t511.length : Int)
      ·rw [if_pos c20] at H
       have c20b0 : decide (x14_2 < (t511.length : Int)) = true := decide_eq_true c20
       clear c20
       by_cases c21 : 0 ≤ x14_2
       ·rw [if_pos c21] at H
        have c21b0 : decide (0 ≤ x14_2) = true := decide_eq_true c21
        clear c21
        replace H := Option.bind_eq_some_iff.mp H
        obtain ⟨⟨t523, t524, t525, t526, t529, t530⟩, A220, H⟩ := H
        replace H : (if t530 = true then ((tree_Drop.f k2 x13_2 (rdOf ByteArray.empty t511 x14_2)).bind fun bt533 => (if bt533.2 = 0 then (if (bt533.1.length : Int) ≥ (x13_2.length : Int) then (some false) else (satchellaw08_TreeLeads.l0 k2 l0 l1 t503 t510 t511 t512 bt533.1 (wrap64 (x14_2 + 1)))) else (some false))) else (satchellaw08_TreeLeads.l0 k2 l0 l1 t503 t510 t511 t512 x13_2 (wrap64 (x14_2 + 1)))) = some r := H
        have A22 := Aside0.mk A220
        clear A220
        by_cases c23 : t530 = true
        ·subst c23
         have H1 : ((tree_Drop.f k2 x13_2 (rdOf ByteArray.empty t511 x14_2)).bind fun bt533 => (if bt533.2 = 0 then (if (bt533.1.length : Int) ≥ (x13_2.length : Int) then (some false) else (satchellaw08_TreeLeads.l0 k2 l0 l1 t503 t510 t511 t512 bt533.1 (wrap64 (x14_2 + 1)))) else (some false))) = some r := by rw [if_pos rfl] at H; exact H
         clear H
         have H := H1
         clear H1
         replace H := Option.bind_eq_some_iff.mp H
         obtain ⟨⟨t533, t534⟩, A240, H⟩ := H
         replace H : (if t534 = 0 then (if (t533.length : Int) ≥ (x13_2.length : Int) then (some false) else (satchellaw08_TreeLeads.l0 k2 l0 l1 t503 t510 t511 t512 t533 (wrap64 (x14_2 + 1)))) else (some false)) = some r := H
         have A24 := Aside0.mk A240
         clear A240
         by_cases c25 : t534 = 0
         ·rw [if_pos c25] at H
          have c25b0 : (t534 == 0) = true := beq_iff_eq.mpr c25
          have c25b1 : (t534 != 0) = false := bne_eq_false_iff_eq.mpr c25
          clear c25
          by_cases c26 : (t533.length : Int) ≥ (x13_2.length : Int)
          ·rw [if_pos c26] at H
           have c26b0 : decide ((x13_2.length : Int) ≤ (t533.length : Int)) = true := decide_eq_true c26
           have c26b1 : decide (x13_2.length ≤ t533.length) = true := decide_eq_true (Int.ofNat_le.mp c26)
           clear c26
           obtain rfl := Option.some.inj H
           obtain ⟨Ao27, co27, eo27⟩ := Kd.R_slice HO_11.out
           subst eo27
           have p522 : 0 ≤ (x14_2 : Int) := of_decide_eq_true (by first | (with_reducible assumption) | assumption)
           have q522 : x14_2 < (t511.length : Int) := of_decide_eq_true (by first | (with_reducible assumption) | assumption)
           obtain ⟨ad522, e522, hx522_0⟩ := Kd.at_string (Kd.R_reads' HO_11.out).2.2 x14_2 p522 q522
           cases e522
           replace p522 := eq_true p522
           replace q522 := eq_true q522
           obtain ⟨Ao28, co28, eo28⟩ := Kd.N_slice HO_13.out
           subst eo28
           go_wp2_with (first | ((with_reducible refine gate_callee (f := 14) rfl ?_); refine goesL_ (some 74) rfl rfl Try.func14 (by kernel_rfl) rfl #[.slice Ao28 x13_2.length co28, .string (rdOf ByteArray.empty t511 x14_2)] rfl (by (try simp only [List.map_toArray, List.map_cons, List.map_nil]); first | done | rfl | (simp only [List.length_drop, List.length_take]; rfl)) ?_; (with_reducible refine (tree_Find.calls k2 _ _ x13_2 (rdOf ByteArray.empty t511 x14_2) t523 t524 t525 t526 t529 true _ ?side1 ?side2 A22.out).mono ?_); (case side1 => repeat (first | exact (Kd.N_reads' HO_13.out).2.2 | (with_reducible refine Kd.C_alloc ?_ _) | (with_reducible refine Kd.C_drewN ?_ _) | (with_reducible refine Kd.C_drew ?_))); (case side2 => exact (Kd.N_reads' HO_13.out).2.1); rintro e w29 ⟨v527, rfl, ho0, hb⟩; refine ⟨_, rfl, ?_⟩; have n0_ := Aside0.mk (Kd.R_below (by (with_reducible repeat (first | apply Kd.R_alloc | apply Kd.R_drewN | apply Kd.R_drew)); exact HO_10.out) hb); have n1_ := Aside0.mk (Kd.R_below (by (with_reducible repeat (first | apply Kd.R_alloc | apply Kd.R_drewN | apply Kd.R_drew)); exact HO_11.out) hb); have n2_ := Aside0.mk (Kd.R_below (by (with_reducible repeat (first | apply Kd.R_alloc | apply Kd.R_drewN | apply Kd.R_drew)); exact HO_12.out) hb); have n3_ := Aside0.mk (Kd.N_elder' (by (with_reducible repeat (first | apply Kd.N_alloc | apply Kd.N_drewN | apply Kd.N_drew)); exact HO_13.out) (Kd.R_base ho0) hb); have n4_ := Aside0.mk (Kd.R_lower ho0 (below_size (by repeat (first | (with_reducible first | exact HB.out | apply below_alloc | apply pw_below_drewN | apply below_drew1) | exact HB.out)))); have n5_ := Aside0.mk (below_step (by repeat (first | (with_reducible first | exact HB.out | apply below_alloc | apply pw_below_drewN | apply below_drew1) | exact HB.out)) hb); clear HO_10; clear HO_11; clear HO_12; clear HO_13; clear HB; have HO_10 := n0_; have HO_11 := n1_; have HO_12 := n2_; have HO_13 := n3_; have HO528 := n4_; have HB := n5_; clear n0_ n1_ n2_ n3_ n4_ n5_; (try clear hb); (try clear hb2); (try clear hk); (try clear hi); (try clear ho0)) | ((with_reducible refine gate_dst (N := 15) rfl ?_); (try (refine gate_guard (by rfl) ?_; dsimp only)); refine box_event ?hg (N := 15) ?hd (cs := #[.string (⟨#[]⟩ : ByteArray), .int .i64 0, .int .i64 0, .slice none 0 0, .string (⟨#[]⟩ : ByteArray)]) (t := 31) ?hr ?_; (case hd => rfl); (case hg => rfl); (case hr => first | (go_simp; done) | (go_simp; rfl)); intro gb531 hg w30 hbox hb; have n0_ := Aside0.mk (Kd.R_below (by (with_reducible repeat (first | apply Kd.R_alloc | apply Kd.R_drewN | apply Kd.R_drew)); exact HO_10.out) hb); have n1_ := Aside0.mk (Kd.R_below (by (with_reducible repeat (first | apply Kd.R_alloc | apply Kd.R_drewN | apply Kd.R_drew)); exact HO_11.out) hb); have n2_ := Aside0.mk (Kd.R_below (by (with_reducible repeat (first | apply Kd.R_alloc | apply Kd.R_drewN | apply Kd.R_drew)); exact HO_12.out) hb); have n3_ := Aside0.mk (Kd.N_below (Kd.N_elderB (by (with_reducible repeat (first | apply Kd.N_alloc | apply Kd.N_drewN | apply Kd.N_drew)); exact HO_13.out) gb531 (Nat.le_of_eq hg.symm)) hb); have n4_ := Aside0.mk (Kd.R_below (by (with_reducible repeat (first | apply Kd.R_alloc | apply Kd.R_drewN | apply Kd.R_drew)); exact HO528.out) hb); have n5_ := Aside0.mk (below_step (by repeat (first | (with_reducible first | exact HB.out | apply below_alloc | apply pw_below_drewN | apply below_drew1) | exact HB.out)) hb); have n6_ := Aside0.mk (hbox); have n7_ := Aside0.mk ((by rw [hg]; exact (below_size (by repeat (first | (with_reducible first | exact HB.out | apply below_alloc | apply pw_below_drewN | apply below_drew1) | exact HB.out))) : w.heap.size ≤ gb531)); have n8_ := Aside0.mk ((by rw [hg]; exact (below_size (by repeat (first | (with_reducible first | exact HB.out | apply below_alloc | apply pw_below_drewN | apply below_drew1) | exact HB.out))) : w.heap.size ≤ gb531)); clear HO_10; clear HO_11; clear HO_12; clear HO_13; clear HO528; clear HB; have HO_10 := n0_; have HO_11 := n1_; have HO_12 := n2_; have HO_13 := n3_; have HO528 := n4_; have HB := n5_; have BK531 := n6_; have GW531 := n7_; have GE531 := n8_; clear n0_ n1_ n2_ n3_ n4_ n5_ n6_ n7_ n8_; clear hb hbox hg; have hcz31_0 : w30.cell? ⟨gb531, 0, none⟩ = some (.string (⟨#[]⟩ : ByteArray)) := (blk_cell BK531.out 0).trans rfl; have hcz31_1 : w30.cell? ⟨gb531, 1, none⟩ = some (.int .i64 0) := (blk_cell BK531.out 1).trans rfl; have hcz31_2 : w30.cell? ⟨gb531, 2, none⟩ = some (.int .i64 0) := (blk_cell BK531.out 2).trans rfl; have hcz31_3 : w30.cell? ⟨gb531, 3, none⟩ = some (.slice none 0 0) := (blk_cell BK531.out 3).trans rfl; have hcz31_4 : w30.cell? ⟨gb531, 4, none⟩ = some (.string (⟨#[]⟩ : ByteArray)) := (blk_cell BK531.out 4).trans rfl; have hfz31_0 := blk_frozen BK531.out 0; have hfz31_1 := blk_frozen BK531.out 1; have hfz31_2 := blk_frozen BK531.out 2; have hfz31_3 := blk_frozen BK531.out 3; have hfz31_4 := blk_frozen BK531.out 4; obtain ⟨Ao32, co32, eo32⟩ := Kd.R_slice HO528.out; subst eo32; have p532 : 0 ≤ (x14_2 : Int) := of_decide_eq_true (by first | (with_reducible assumption) | assumption); have q532 : x14_2 < (t511.length : Int) := of_decide_eq_true (by first | (with_reducible assumption) | assumption); obtain ⟨ad532, e532, hx532_0⟩ := Kd.at_string (Kd.R_reads' HO_11.out).2.2 x14_2 p532 q532; obtain rfl : ad522 = ad532 := (by injection e532); have hn532_0 : ad522.block ≠ gb531 := Kd.own_blk (Kd.R_ne HO_11.out BK531.out (by decide)); have hn532_1 : ad522.block ≠ gb531 := Kd.own_blk (Kd.R_ne HO_11.out BK531.out (by decide)); have hn532_2 : ad522.block ≠ gb531 := Kd.own_blk (Kd.R_ne HO_11.out BK531.out (by decide)); have hn532_3 : ad522.block ≠ gb531 := Kd.own_blk (Kd.R_ne HO_11.out BK531.out (by decide)); have hn532_4 : ad522.block ≠ gb531 := Kd.own_blk (Kd.R_ne HO_11.out BK531.out (by decide)); replace hx532_0 := (cell_far (p := ⟨gb531, 0, none⟩) (by first | (rw [add_block]; exact hn532_0) | (show (Addr.add _ _).block ≠ _; rw [add_block]; exact hn532_0) | exact hn532_0) (.string t523)).trans hx532_0; replace hx532_0 := (cell_far (p := ⟨gb531, 1, none⟩) (by first | (rw [add_block]; exact hn532_1) | (show (Addr.add _ _).block ≠ _; rw [add_block]; exact hn532_1) | exact hn532_1) (.int .i64 t524)).trans hx532_0; replace hx532_0 := (cell_far (p := ⟨gb531, 2, none⟩) (by first | (rw [add_block]; exact hn532_2) | (show (Addr.add _ _).block ≠ _; rw [add_block]; exact hn532_2) | exact hn532_2) (.int .i64 t525)).trans hx532_0; replace hx532_0 := (cell_far (p := ⟨gb531, 3, none⟩) (by first | (rw [add_block]; exact hn532_3) | (show (Addr.add _ _).block ≠ _; rw [add_block]; exact hn532_3) | exact hn532_3) (.slice Ao32 t526.length co32)).trans hx532_0; replace hx532_0 := (cell_far (p := ⟨gb531, 4, none⟩) (by first | (rw [add_block]; exact hn532_4) | (show (Addr.add _ _).block ≠ _; rw [add_block]; exact hn532_4) | exact hn532_4) (.string t529)).trans hx532_0; clear hn532_0; clear hn532_1; clear hn532_2; clear hn532_3; clear hn532_4; replace p532 := eq_true p532; replace q532 := eq_true q532) | ((with_reducible refine gate_callee (f := 32) rfl ?_); refine goesL_ (some 85) rfl rfl Try.func32 (by kernel_rfl) rfl #[.slice Ao28 x13_2.length co28, .string (rdOf ByteArray.empty t511 x14_2)] rfl (by (try simp only [List.map_toArray, List.map_cons, List.map_nil]); first | done | rfl | (simp only [List.length_drop, List.length_take]; rfl)) ?_; (with_reducible refine (tree_Drop.calls k2 _ _ x13_2 (rdOf ByteArray.empty t511 x14_2) t533 t534 _ ?side1 ?side2 A24.out).mono ?_); (case side1 => refine (Kd.N_reads' (e := 31) (base := w.heap.size) (ok := fun k_ => (((some k_ ≠ (v513 : Value).ownBlock ∧ (some k_ ≠ (.slice (some ad522) t511.length co27 : Value).ownBlock ∧ some k_ ≠ (v517 : Value).ownBlock)) ∧ some k_ ≠ (.slice Ao32 t526.length co32 : Value).ownBlock) ∧ k_ ≠ gb531)) (n := x13_2.length) (c := co28) ?_).2.2; exact (by (with_reducible repeat (first | apply Kd.N_alloc | apply Kd.N_drewN | apply Kd.N_drew)); exact (Kd.N_mono (Kd.N_far (p := ⟨gb531, 4, none⟩) (Kd.N_far (p := ⟨gb531, 3, none⟩) (Kd.N_far (p := ⟨gb531, 2, none⟩) (Kd.N_far (p := ⟨gb531, 1, none⟩) (Kd.N_far (p := ⟨gb531, 0, none⟩) (Kd.N_mono HO_13.out (fun k_ hk => (⟨hk, hk.2⟩ : _ ∧ k_ ≠ gb531))) (fun _ hk => hk.2) (.string t523)) (fun _ hk => hk.2) (.int .i64 t524)) (fun _ hk => hk.2) (.int .i64 t525)) (fun _ hk => hk.2) (.slice Ao32 t526.length co32)) (fun _ hk => hk.2) (.string t529)) (fun _ h_ => h_.1)))); (case side2 => exact (Kd.N_reads' HO_13.out).2.1); rintro e w33 ⟨v535, rfl, ho0, hb⟩; refine ⟨_, rfl, ?_⟩; have n0_ := Aside0.mk (Kd.R_below (by (with_reducible repeat (first | apply Kd.R_alloc | apply Kd.R_drewN | apply Kd.R_drew)); exact (Kd.R_mono (Kd.R_far (p := ⟨gb531, 4, none⟩) (Kd.R_far (p := ⟨gb531, 3, none⟩) (Kd.R_far (p := ⟨gb531, 2, none⟩) (Kd.R_far (p := ⟨gb531, 1, none⟩) (Kd.R_far (p := ⟨gb531, 0, none⟩) (Kd.R_types HO_10.out BK531.out (by decide)) (fun _ hk => hk.2) (.string t523)) (fun _ hk => hk.2) (.int .i64 t524)) (fun _ hk => hk.2) (.int .i64 t525)) (fun _ hk => hk.2) (.slice Ao32 t526.length co32)) (fun _ hk => hk.2) (.string t529)) (fun _ h_ => h_.1))) hb); have n1_ := Aside0.mk (Kd.R_below (by (with_reducible repeat (first | apply Kd.R_alloc | apply Kd.R_drewN | apply Kd.R_drew)); exact (Kd.R_mono (Kd.R_far (p := ⟨gb531, 4, none⟩) (Kd.R_far (p := ⟨gb531, 3, none⟩) (Kd.R_far (p := ⟨gb531, 2, none⟩) (Kd.R_far (p := ⟨gb531, 1, none⟩) (Kd.R_far (p := ⟨gb531, 0, none⟩) (Kd.R_types HO_11.out BK531.out (by decide)) (fun _ hk => hk.2) (.string t523)) (fun _ hk => hk.2) (.int .i64 t524)) (fun _ hk => hk.2) (.int .i64 t525)) (fun _ hk => hk.2) (.slice Ao32 t526.length co32)) (fun _ hk => hk.2) (.string t529)) (fun _ h_ => h_.1))) hb); have n2_ := Aside0.mk (Kd.R_below (by (with_reducible repeat (first | apply Kd.R_alloc | apply Kd.R_drewN | apply Kd.R_drew)); exact (Kd.R_mono (Kd.R_far (p := ⟨gb531, 4, none⟩) (Kd.R_far (p := ⟨gb531, 3, none⟩) (Kd.R_far (p := ⟨gb531, 2, none⟩) (Kd.R_far (p := ⟨gb531, 1, none⟩) (Kd.R_far (p := ⟨gb531, 0, none⟩) (Kd.R_types HO_12.out BK531.out (by decide)) (fun _ hk => hk.2) (.string t523)) (fun _ hk => hk.2) (.int .i64 t524)) (fun _ hk => hk.2) (.int .i64 t525)) (fun _ hk => hk.2) (.slice Ao32 t526.length co32)) (fun _ hk => hk.2) (.string t529)) (fun _ h_ => h_.1))) hb); have n3_ := Aside0.mk (Kd.N_elder' (by (with_reducible repeat (first | apply Kd.N_alloc | apply Kd.N_drewN | apply Kd.N_drew)); exact (Kd.N_mono (Kd.N_far (p := ⟨gb531, 4, none⟩) (Kd.N_far (p := ⟨gb531, 3, none⟩) (Kd.N_far (p := ⟨gb531, 2, none⟩) (Kd.N_far (p := ⟨gb531, 1, none⟩) (Kd.N_far (p := ⟨gb531, 0, none⟩) (Kd.N_mono HO_13.out (fun k_ hk => (⟨hk, hk.2⟩ : _ ∧ k_ ≠ gb531))) (fun _ hk => hk.2) (.string t523)) (fun _ hk => hk.2) (.int .i64 t524)) (fun _ hk => hk.2) (.int .i64 t525)) (fun _ hk => hk.2) (.slice Ao32 t526.length co32)) (fun _ hk => hk.2) (.string t529)) (fun _ h_ => h_.1))) (by first | exact Kd.N_base ho0 | exact Kd.S_base ho0) hb); have n4_ := Aside0.mk (Kd.R_below (by (with_reducible repeat (first | apply Kd.R_alloc | apply Kd.R_drewN | apply Kd.R_drew)); exact (Kd.R_mono (Kd.R_far (p := ⟨gb531, 4, none⟩) (Kd.R_far (p := ⟨gb531, 3, none⟩) (Kd.R_far (p := ⟨gb531, 2, none⟩) (Kd.R_far (p := ⟨gb531, 1, none⟩) (Kd.R_far (p := ⟨gb531, 0, none⟩) (Kd.R_types HO528.out BK531.out (by decide)) (fun _ hk => hk.2) (.string t523)) (fun _ hk => hk.2) (.int .i64 t524)) (fun _ hk => hk.2) (.int .i64 t525)) (fun _ hk => hk.2) (.slice Ao32 t526.length co32)) (fun _ hk => hk.2) (.string t529)) (fun _ h_ => h_.1))) hb); have n5_ := Aside0.mk (Kd.N_lower (Kd.N_mono (ok' := fun k_ => some k_ ≠ (v513 : Value).ownBlock ∧ some k_ ≠ (.slice (some ad522) t511.length co27 : Value).ownBlock ∧ some k_ ≠ (v517 : Value).ownBlock ∧ some k_ ≠ (.slice Ao28 x13_2.length co28 : Value).ownBlock ∧ some k_ ≠ (.slice Ao32 t526.length co32 : Value).ownBlock ∧ k_ ≠ gb531) (Kd.S_N (Kd.S_bound ho0)) (fun k_ hk_ => ⟨(Kd.fresh' (Kd.R_lt (by (with_reducible repeat (first | apply Kd.R_alloc | apply Kd.R_drewN | apply Kd.R_drew)); exact (Kd.R_mono (Kd.R_far (p := ⟨gb531, 4, none⟩) (Kd.R_far (p := ⟨gb531, 3, none⟩) (Kd.R_far (p := ⟨gb531, 2, none⟩) (Kd.R_far (p := ⟨gb531, 1, none⟩) (Kd.R_far (p := ⟨gb531, 0, none⟩) (Kd.R_types HO_10.out BK531.out (by decide)) (fun _ hk => hk.2) (.string t523)) (fun _ hk => hk.2) (.int .i64 t524)) (fun _ hk => hk.2) (.int .i64 t525)) (fun _ hk => hk.2) (.slice Ao32 t526.length co32)) (fun _ hk => hk.2) (.string t529)) (fun _ h_ => h_.1)))) k_ hk_.2.1), (Kd.fresh' (Kd.R_lt (by (with_reducible repeat (first | apply Kd.R_alloc | apply Kd.R_drewN | apply Kd.R_drew)); exact (Kd.R_mono (Kd.R_far (p := ⟨gb531, 4, none⟩) (Kd.R_far (p := ⟨gb531, 3, none⟩) (Kd.R_far (p := ⟨gb531, 2, none⟩) (Kd.R_far (p := ⟨gb531, 1, none⟩) (Kd.R_far (p := ⟨gb531, 0, none⟩) (Kd.R_types HO_11.out BK531.out (by decide)) (fun _ hk => hk.2) (.string t523)) (fun _ hk => hk.2) (.int .i64 t524)) (fun _ hk => hk.2) (.int .i64 t525)) (fun _ hk => hk.2) (.slice Ao32 t526.length co32)) (fun _ hk => hk.2) (.string t529)) (fun _ h_ => h_.1)))) k_ hk_.2.1), (Kd.fresh' (Kd.R_lt (by (with_reducible repeat (first | apply Kd.R_alloc | apply Kd.R_drewN | apply Kd.R_drew)); exact (Kd.R_mono (Kd.R_far (p := ⟨gb531, 4, none⟩) (Kd.R_far (p := ⟨gb531, 3, none⟩) (Kd.R_far (p := ⟨gb531, 2, none⟩) (Kd.R_far (p := ⟨gb531, 1, none⟩) (Kd.R_far (p := ⟨gb531, 0, none⟩) (Kd.R_types HO_12.out BK531.out (by decide)) (fun _ hk => hk.2) (.string t523)) (fun _ hk => hk.2) (.int .i64 t524)) (fun _ hk => hk.2) (.int .i64 t525)) (fun _ hk => hk.2) (.slice Ao32 t526.length co32)) (fun _ hk => hk.2) (.string t529)) (fun _ h_ => h_.1)))) k_ hk_.2.1), (Kd.fresh' (Kd.N_lt (by (with_reducible repeat (first | apply Kd.N_alloc | apply Kd.N_drewN | apply Kd.N_drew)); exact (Kd.N_mono (Kd.N_far (p := ⟨gb531, 4, none⟩) (Kd.N_far (p := ⟨gb531, 3, none⟩) (Kd.N_far (p := ⟨gb531, 2, none⟩) (Kd.N_far (p := ⟨gb531, 1, none⟩) (Kd.N_far (p := ⟨gb531, 0, none⟩) (Kd.N_mono HO_13.out (fun k_ hk => (⟨hk, hk.2⟩ : _ ∧ k_ ≠ gb531))) (fun _ hk => hk.2) (.string t523)) (fun _ hk => hk.2) (.int .i64 t524)) (fun _ hk => hk.2) (.int .i64 t525)) (fun _ hk => hk.2) (.slice Ao32 t526.length co32)) (fun _ hk => hk.2) (.string t529)) (fun _ h_ => h_.1)))) k_ hk_.2.1), (Kd.fresh' (Kd.R_lt (by (with_reducible repeat (first | apply Kd.R_alloc | apply Kd.R_drewN | apply Kd.R_drew)); exact (Kd.R_mono (Kd.R_far (p := ⟨gb531, 4, none⟩) (Kd.R_far (p := ⟨gb531, 3, none⟩) (Kd.R_far (p := ⟨gb531, 2, none⟩) (Kd.R_far (p := ⟨gb531, 1, none⟩) (Kd.R_far (p := ⟨gb531, 0, none⟩) (Kd.R_types HO528.out BK531.out (by decide)) (fun _ hk => hk.2) (.string t523)) (fun _ hk => hk.2) (.int .i64 t524)) (fun _ hk => hk.2) (.int .i64 t525)) (fun _ hk => hk.2) (.slice Ao32 t526.length co32)) (fun _ hk => hk.2) (.string t529)) (fun _ h_ => h_.1)))) k_ hk_.2.1), (Kd.freshB (g := gb531) (o := .cells #[.string t523, .int .i64 t524, .int .i64 t525, .slice Ao32 t526.length co32, .string t529] 31 (0, 0)) (by (with_reducible repeat (first | refine blk_drewN ?_ _ | refine blk_drew ?_ | refine blk_alloc ?_ _)); refine blk_put (cs := #[.string t523, .int .i64 t524, .int .i64 t525, .slice Ao32 t526.length co32, .string (⟨#[]⟩ : ByteArray)]) ?_ 4 _ rfl; (with_reducible repeat (first | refine blk_drewN ?_ _ | refine blk_drew ?_ | refine blk_alloc ?_ _)); refine blk_put (cs := #[.string t523, .int .i64 t524, .int .i64 t525, .slice none 0 0, .string (⟨#[]⟩ : ByteArray)]) ?_ 3 _ rfl; (with_reducible repeat (first | refine blk_drewN ?_ _ | refine blk_drew ?_ | refine blk_alloc ?_ _)); refine blk_put (cs := #[.string t523, .int .i64 t524, .int .i64 0, .slice none 0 0, .string (⟨#[]⟩ : ByteArray)]) ?_ 2 _ rfl; (with_reducible repeat (first | refine blk_drewN ?_ _ | refine blk_drew ?_ | refine blk_alloc ?_ _)); refine blk_put (cs := #[.string t523, .int .i64 0, .int .i64 0, .slice none 0 0, .string (⟨#[]⟩ : ByteArray)]) ?_ 1 _ rfl; (with_reducible repeat (first | refine blk_drewN ?_ _ | refine blk_drew ?_ | refine blk_alloc ?_ _)); refine blk_put (cs := #[.string (⟨#[]⟩ : ByteArray), .int .i64 0, .int .i64 0, .slice none 0 0, .string (⟨#[]⟩ : ByteArray)]) ?_ 0 _ rfl; (with_reducible repeat (first | refine blk_drewN ?_ _ | refine blk_drew ?_ | refine blk_alloc ?_ _)); exact BK531.out) k_ hk_.2.1)⟩)) (below_size (by repeat (first | (with_reducible first | exact HB.out | apply below_alloc | apply pw_below_drewN | apply below_drew1 | refine below_set ?_ GE531.out) | exact HB.out)))); have n6_ := Aside0.mk (blk_below (g := gb531) (o := .cells #[.string t523, .int .i64 t524, .int .i64 t525, .slice Ao32 t526.length co32, .string t529] 31 (0, 0)) (by (with_reducible repeat (first | refine blk_drewN ?_ _ | refine blk_drew ?_ | refine blk_alloc ?_ _)); refine blk_put (cs := #[.string t523, .int .i64 t524, .int .i64 t525, .slice Ao32 t526.length co32, .string (⟨#[]⟩ : ByteArray)]) ?_ 4 _ rfl; (with_reducible repeat (first | refine blk_drewN ?_ _ | refine blk_drew ?_ | refine blk_alloc ?_ _)); refine blk_put (cs := #[.string t523, .int .i64 t524, .int .i64 t525, .slice none 0 0, .string (⟨#[]⟩ : ByteArray)]) ?_ 3 _ rfl; (with_reducible repeat (first | refine blk_drewN ?_ _ | refine blk_drew ?_ | refine blk_alloc ?_ _)); refine blk_put (cs := #[.string t523, .int .i64 t524, .int .i64 0, .slice none 0 0, .string (⟨#[]⟩ : ByteArray)]) ?_ 2 _ rfl; (with_reducible repeat (first | refine blk_drewN ?_ _ | refine blk_drew ?_ | refine blk_alloc ?_ _)); refine blk_put (cs := #[.string t523, .int .i64 0, .int .i64 0, .slice none 0 0, .string (⟨#[]⟩ : ByteArray)]) ?_ 1 _ rfl; (with_reducible repeat (first | refine blk_drewN ?_ _ | refine blk_drew ?_ | refine blk_alloc ?_ _)); refine blk_put (cs := #[.string (⟨#[]⟩ : ByteArray), .int .i64 0, .int .i64 0, .slice none 0 0, .string (⟨#[]⟩ : ByteArray)]) ?_ 0 _ rfl; (with_reducible repeat (first | refine blk_drewN ?_ _ | refine blk_drew ?_ | refine blk_alloc ?_ _)); exact BK531.out) hb); have n7_ := Aside0.mk (below_step (by repeat (first | (with_reducible first | exact HB.out | apply below_alloc | apply pw_below_drewN | apply below_drew1 | refine below_set ?_ GE531.out) | exact HB.out)) hb); clear HO_10; clear HO_11; clear HO_12; clear HO_13; clear HO528; clear BK531; clear HB; have HO_10 := n0_; have HO_11 := n1_; have HO_12 := n2_; have HO_13 := n3_; have HO528 := n4_; have HO536 := n5_; have BK531 := n6_; have HB := n7_; clear n0_ n1_ n2_ n3_ n4_ n5_ n6_ n7_; (try clear hb); (try clear hb2); (try clear hk); (try clear hi); (try clear ho0); obtain ⟨Ao34, co34, eo34⟩ := Kd.N_slice HO536.out; subst eo34))
           go_ret
           exact ⟨by first | rfl | (simp [errW_none, errW_some] <;> rfl) | (simp [*, errW_none, errW_some] <;> rfl) | (simp [bt, *]; done) | (simp_all [bt]; done), by repeat (first | (with_reducible first | exact HB.out | apply below_alloc | apply pw_below_drewN | apply below_drew1 | refine below_set ?_ GE531.out) | exact HB.out)⟩
          ·rw [if_neg c26] at H
           have c26b0 : decide ((x13_2.length : Int) ≤ (t533.length : Int)) = false := decide_eq_false c26
           have c26b1 : decide (x13_2.length ≤ t533.length) = false := decide_eq_false (fun h => c26 (Int.ofNat_le.mpr h))
           clear c26
           have H' := Aside0.mk H
           clear H
           obtain ⟨Ao35, co35, eo35⟩ := Kd.R_slice HO_11.out
           subst eo35
           have p522 : 0 ≤ (x14_2 : Int) := of_decide_eq_true (by first | (with_reducible assumption) | assumption)
           have q522 : x14_2 < (t511.length : Int) := of_decide_eq_true (by first | (with_reducible assumption) | assumption)
           obtain ⟨ad522, e522, hx522_0⟩ := Kd.at_string (Kd.R_reads' HO_11.out).2.2 x14_2 p522 q522
           cases e522
           replace p522 := eq_true p522
           replace q522 := eq_true q522
           obtain ⟨Ao36, co36, eo36⟩ := Kd.N_slice HO_13.out
           subst eo36
           go_wp2_with (first | ((with_reducible refine gate_callee (f := 14) rfl ?_); refine goesL_ (some 74) rfl rfl Try.func14 (by kernel_rfl) rfl #[.slice Ao36 x13_2.length co36, .string (rdOf ByteArray.empty t511 x14_2)] rfl (by (try simp only [List.map_toArray, List.map_cons, List.map_nil]); first | done | rfl | (simp only [List.length_drop, List.length_take]; rfl)) ?_; (with_reducible refine (tree_Find.calls k2 _ _ x13_2 (rdOf ByteArray.empty t511 x14_2) t523 t524 t525 t526 t529 true _ ?side1 ?side2 A22.out).mono ?_); (case side1 => repeat (first | exact (Kd.N_reads' HO_13.out).2.2 | (with_reducible refine Kd.C_alloc ?_ _) | (with_reducible refine Kd.C_drewN ?_ _) | (with_reducible refine Kd.C_drew ?_))); (case side2 => exact (Kd.N_reads' HO_13.out).2.1); rintro e w37 ⟨v527, rfl, ho0, hb⟩; refine ⟨_, rfl, ?_⟩; have n0_ := Aside0.mk (Kd.R_below (by (with_reducible repeat (first | apply Kd.R_alloc | apply Kd.R_drewN | apply Kd.R_drew)); exact HO_10.out) hb); have n1_ := Aside0.mk (Kd.R_below (by (with_reducible repeat (first | apply Kd.R_alloc | apply Kd.R_drewN | apply Kd.R_drew)); exact HO_11.out) hb); have n2_ := Aside0.mk (Kd.R_below (by (with_reducible repeat (first | apply Kd.R_alloc | apply Kd.R_drewN | apply Kd.R_drew)); exact HO_12.out) hb); have n3_ := Aside0.mk (Kd.N_elder' (by (with_reducible repeat (first | apply Kd.N_alloc | apply Kd.N_drewN | apply Kd.N_drew)); exact HO_13.out) (Kd.R_base ho0) hb); have n4_ := Aside0.mk (Kd.R_lower ho0 (below_size (by repeat (first | (with_reducible first | exact HB.out | apply below_alloc | apply pw_below_drewN | apply below_drew1) | exact HB.out)))); have n5_ := Aside0.mk (below_step (by repeat (first | (with_reducible first | exact HB.out | apply below_alloc | apply pw_below_drewN | apply below_drew1) | exact HB.out)) hb); clear HO_10; clear HO_11; clear HO_12; clear HO_13; clear HB; have HO_10 := n0_; have HO_11 := n1_; have HO_12 := n2_; have HO_13 := n3_; have HO528 := n4_; have HB := n5_; clear n0_ n1_ n2_ n3_ n4_ n5_; (try clear hb); (try clear hb2); (try clear hk); (try clear hi); (try clear ho0)) | ((with_reducible refine gate_dst (N := 15) rfl ?_); (try (refine gate_guard (by rfl) ?_; dsimp only)); refine box_event ?hg (N := 15) ?hd (cs := #[.string (⟨#[]⟩ : ByteArray), .int .i64 0, .int .i64 0, .slice none 0 0, .string (⟨#[]⟩ : ByteArray)]) (t := 31) ?hr ?_; (case hd => rfl); (case hg => rfl); (case hr => first | (go_simp; done) | (go_simp; rfl)); intro gb531 hg w38 hbox hb; have n0_ := Aside0.mk (Kd.R_below (by (with_reducible repeat (first | apply Kd.R_alloc | apply Kd.R_drewN | apply Kd.R_drew)); exact HO_10.out) hb); have n1_ := Aside0.mk (Kd.R_below (by (with_reducible repeat (first | apply Kd.R_alloc | apply Kd.R_drewN | apply Kd.R_drew)); exact HO_11.out) hb); have n2_ := Aside0.mk (Kd.R_below (by (with_reducible repeat (first | apply Kd.R_alloc | apply Kd.R_drewN | apply Kd.R_drew)); exact HO_12.out) hb); have n3_ := Aside0.mk (Kd.N_below (Kd.N_elderB (by (with_reducible repeat (first | apply Kd.N_alloc | apply Kd.N_drewN | apply Kd.N_drew)); exact HO_13.out) gb531 (Nat.le_of_eq hg.symm)) hb); have n4_ := Aside0.mk (Kd.R_below (by (with_reducible repeat (first | apply Kd.R_alloc | apply Kd.R_drewN | apply Kd.R_drew)); exact HO528.out) hb); have n5_ := Aside0.mk (below_step (by repeat (first | (with_reducible first | exact HB.out | apply below_alloc | apply pw_below_drewN | apply below_drew1) | exact HB.out)) hb); have n6_ := Aside0.mk (hbox); have n7_ := Aside0.mk ((by rw [hg]; exact (below_size (by repeat (first | (with_reducible first | exact HB.out | apply below_alloc | apply pw_below_drewN | apply below_drew1) | exact HB.out))) : w.heap.size ≤ gb531)); have n8_ := Aside0.mk ((by rw [hg]; exact (below_size (by repeat (first | (with_reducible first | exact HB.out | apply below_alloc | apply pw_below_drewN | apply below_drew1) | exact HB.out))) : w.heap.size ≤ gb531)); clear HO_10; clear HO_11; clear HO_12; clear HO_13; clear HO528; clear HB; have HO_10 := n0_; have HO_11 := n1_; have HO_12 := n2_; have HO_13 := n3_; have HO528 := n4_; have HB := n5_; have BK531 := n6_; have GW531 := n7_; have GE531 := n8_; clear n0_ n1_ n2_ n3_ n4_ n5_ n6_ n7_ n8_; clear hb hbox hg; have hcz39_0 : w38.cell? ⟨gb531, 0, none⟩ = some (.string (⟨#[]⟩ : ByteArray)) := (blk_cell BK531.out 0).trans rfl; have hcz39_1 : w38.cell? ⟨gb531, 1, none⟩ = some (.int .i64 0) := (blk_cell BK531.out 1).trans rfl; have hcz39_2 : w38.cell? ⟨gb531, 2, none⟩ = some (.int .i64 0) := (blk_cell BK531.out 2).trans rfl; have hcz39_3 : w38.cell? ⟨gb531, 3, none⟩ = some (.slice none 0 0) := (blk_cell BK531.out 3).trans rfl; have hcz39_4 : w38.cell? ⟨gb531, 4, none⟩ = some (.string (⟨#[]⟩ : ByteArray)) := (blk_cell BK531.out 4).trans rfl; have hfz39_0 := blk_frozen BK531.out 0; have hfz39_1 := blk_frozen BK531.out 1; have hfz39_2 := blk_frozen BK531.out 2; have hfz39_3 := blk_frozen BK531.out 3; have hfz39_4 := blk_frozen BK531.out 4; obtain ⟨Ao40, co40, eo40⟩ := Kd.R_slice HO528.out; subst eo40; have p532 : 0 ≤ (x14_2 : Int) := of_decide_eq_true (by first | (with_reducible assumption) | assumption); have q532 : x14_2 < (t511.length : Int) := of_decide_eq_true (by first | (with_reducible assumption) | assumption); obtain ⟨ad532, e532, hx532_0⟩ := Kd.at_string (Kd.R_reads' HO_11.out).2.2 x14_2 p532 q532; obtain rfl : ad522 = ad532 := (by injection e532); have hn532_0 : ad522.block ≠ gb531 := Kd.own_blk (Kd.R_ne HO_11.out BK531.out (by decide)); have hn532_1 : ad522.block ≠ gb531 := Kd.own_blk (Kd.R_ne HO_11.out BK531.out (by decide)); have hn532_2 : ad522.block ≠ gb531 := Kd.own_blk (Kd.R_ne HO_11.out BK531.out (by decide)); have hn532_3 : ad522.block ≠ gb531 := Kd.own_blk (Kd.R_ne HO_11.out BK531.out (by decide)); have hn532_4 : ad522.block ≠ gb531 := Kd.own_blk (Kd.R_ne HO_11.out BK531.out (by decide)); replace hx532_0 := (cell_far (p := ⟨gb531, 0, none⟩) (by first | (rw [add_block]; exact hn532_0) | (show (Addr.add _ _).block ≠ _; rw [add_block]; exact hn532_0) | exact hn532_0) (.string t523)).trans hx532_0; replace hx532_0 := (cell_far (p := ⟨gb531, 1, none⟩) (by first | (rw [add_block]; exact hn532_1) | (show (Addr.add _ _).block ≠ _; rw [add_block]; exact hn532_1) | exact hn532_1) (.int .i64 t524)).trans hx532_0; replace hx532_0 := (cell_far (p := ⟨gb531, 2, none⟩) (by first | (rw [add_block]; exact hn532_2) | (show (Addr.add _ _).block ≠ _; rw [add_block]; exact hn532_2) | exact hn532_2) (.int .i64 t525)).trans hx532_0; replace hx532_0 := (cell_far (p := ⟨gb531, 3, none⟩) (by first | (rw [add_block]; exact hn532_3) | (show (Addr.add _ _).block ≠ _; rw [add_block]; exact hn532_3) | exact hn532_3) (.slice Ao40 t526.length co40)).trans hx532_0; replace hx532_0 := (cell_far (p := ⟨gb531, 4, none⟩) (by first | (rw [add_block]; exact hn532_4) | (show (Addr.add _ _).block ≠ _; rw [add_block]; exact hn532_4) | exact hn532_4) (.string t529)).trans hx532_0; clear hn532_0; clear hn532_1; clear hn532_2; clear hn532_3; clear hn532_4; replace p532 := eq_true p532; replace q532 := eq_true q532) | ((with_reducible refine gate_callee (f := 32) rfl ?_); refine goesL_ (some 85) rfl rfl Try.func32 (by kernel_rfl) rfl #[.slice Ao36 x13_2.length co36, .string (rdOf ByteArray.empty t511 x14_2)] rfl (by (try simp only [List.map_toArray, List.map_cons, List.map_nil]); first | done | rfl | (simp only [List.length_drop, List.length_take]; rfl)) ?_; (with_reducible refine (tree_Drop.calls k2 _ _ x13_2 (rdOf ByteArray.empty t511 x14_2) t533 t534 _ ?side1 ?side2 A24.out).mono ?_); (case side1 => refine (Kd.N_reads' (e := 31) (base := w.heap.size) (ok := fun k_ => (((some k_ ≠ (v513 : Value).ownBlock ∧ (some k_ ≠ (.slice (some ad522) t511.length co35 : Value).ownBlock ∧ some k_ ≠ (v517 : Value).ownBlock)) ∧ some k_ ≠ (.slice Ao40 t526.length co40 : Value).ownBlock) ∧ k_ ≠ gb531)) (n := x13_2.length) (c := co36) ?_).2.2; exact (by (with_reducible repeat (first | apply Kd.N_alloc | apply Kd.N_drewN | apply Kd.N_drew)); exact (Kd.N_mono (Kd.N_far (p := ⟨gb531, 4, none⟩) (Kd.N_far (p := ⟨gb531, 3, none⟩) (Kd.N_far (p := ⟨gb531, 2, none⟩) (Kd.N_far (p := ⟨gb531, 1, none⟩) (Kd.N_far (p := ⟨gb531, 0, none⟩) (Kd.N_mono HO_13.out (fun k_ hk => (⟨hk, hk.2⟩ : _ ∧ k_ ≠ gb531))) (fun _ hk => hk.2) (.string t523)) (fun _ hk => hk.2) (.int .i64 t524)) (fun _ hk => hk.2) (.int .i64 t525)) (fun _ hk => hk.2) (.slice Ao40 t526.length co40)) (fun _ hk => hk.2) (.string t529)) (fun _ h_ => h_.1)))); (case side2 => exact (Kd.N_reads' HO_13.out).2.1); rintro e w41 ⟨v535, rfl, ho0, hb⟩; refine ⟨_, rfl, ?_⟩; have n0_ := Aside0.mk (Kd.R_below (by (with_reducible repeat (first | apply Kd.R_alloc | apply Kd.R_drewN | apply Kd.R_drew)); exact (Kd.R_mono (Kd.R_far (p := ⟨gb531, 4, none⟩) (Kd.R_far (p := ⟨gb531, 3, none⟩) (Kd.R_far (p := ⟨gb531, 2, none⟩) (Kd.R_far (p := ⟨gb531, 1, none⟩) (Kd.R_far (p := ⟨gb531, 0, none⟩) (Kd.R_types HO_10.out BK531.out (by decide)) (fun _ hk => hk.2) (.string t523)) (fun _ hk => hk.2) (.int .i64 t524)) (fun _ hk => hk.2) (.int .i64 t525)) (fun _ hk => hk.2) (.slice Ao40 t526.length co40)) (fun _ hk => hk.2) (.string t529)) (fun _ h_ => h_.1))) hb); have n1_ := Aside0.mk (Kd.R_below (by (with_reducible repeat (first | apply Kd.R_alloc | apply Kd.R_drewN | apply Kd.R_drew)); exact (Kd.R_mono (Kd.R_far (p := ⟨gb531, 4, none⟩) (Kd.R_far (p := ⟨gb531, 3, none⟩) (Kd.R_far (p := ⟨gb531, 2, none⟩) (Kd.R_far (p := ⟨gb531, 1, none⟩) (Kd.R_far (p := ⟨gb531, 0, none⟩) (Kd.R_types HO_11.out BK531.out (by decide)) (fun _ hk => hk.2) (.string t523)) (fun _ hk => hk.2) (.int .i64 t524)) (fun _ hk => hk.2) (.int .i64 t525)) (fun _ hk => hk.2) (.slice Ao40 t526.length co40)) (fun _ hk => hk.2) (.string t529)) (fun _ h_ => h_.1))) hb); have n2_ := Aside0.mk (Kd.R_below (by (with_reducible repeat (first | apply Kd.R_alloc | apply Kd.R_drewN | apply Kd.R_drew)); exact (Kd.R_mono (Kd.R_far (p := ⟨gb531, 4, none⟩) (Kd.R_far (p := ⟨gb531, 3, none⟩) (Kd.R_far (p := ⟨gb531, 2, none⟩) (Kd.R_far (p := ⟨gb531, 1, none⟩) (Kd.R_far (p := ⟨gb531, 0, none⟩) (Kd.R_types HO_12.out BK531.out (by decide)) (fun _ hk => hk.2) (.string t523)) (fun _ hk => hk.2) (.int .i64 t524)) (fun _ hk => hk.2) (.int .i64 t525)) (fun _ hk => hk.2) (.slice Ao40 t526.length co40)) (fun _ hk => hk.2) (.string t529)) (fun _ h_ => h_.1))) hb); have n3_ := Aside0.mk (Kd.N_elder' (by (with_reducible repeat (first | apply Kd.N_alloc | apply Kd.N_drewN | apply Kd.N_drew)); exact (Kd.N_mono (Kd.N_far (p := ⟨gb531, 4, none⟩) (Kd.N_far (p := ⟨gb531, 3, none⟩) (Kd.N_far (p := ⟨gb531, 2, none⟩) (Kd.N_far (p := ⟨gb531, 1, none⟩) (Kd.N_far (p := ⟨gb531, 0, none⟩) (Kd.N_mono HO_13.out (fun k_ hk => (⟨hk, hk.2⟩ : _ ∧ k_ ≠ gb531))) (fun _ hk => hk.2) (.string t523)) (fun _ hk => hk.2) (.int .i64 t524)) (fun _ hk => hk.2) (.int .i64 t525)) (fun _ hk => hk.2) (.slice Ao40 t526.length co40)) (fun _ hk => hk.2) (.string t529)) (fun _ h_ => h_.1))) (by first | exact Kd.N_base ho0 | exact Kd.S_base ho0) hb); have n4_ := Aside0.mk (Kd.R_below (by (with_reducible repeat (first | apply Kd.R_alloc | apply Kd.R_drewN | apply Kd.R_drew)); exact (Kd.R_mono (Kd.R_far (p := ⟨gb531, 4, none⟩) (Kd.R_far (p := ⟨gb531, 3, none⟩) (Kd.R_far (p := ⟨gb531, 2, none⟩) (Kd.R_far (p := ⟨gb531, 1, none⟩) (Kd.R_far (p := ⟨gb531, 0, none⟩) (Kd.R_types HO528.out BK531.out (by decide)) (fun _ hk => hk.2) (.string t523)) (fun _ hk => hk.2) (.int .i64 t524)) (fun _ hk => hk.2) (.int .i64 t525)) (fun _ hk => hk.2) (.slice Ao40 t526.length co40)) (fun _ hk => hk.2) (.string t529)) (fun _ h_ => h_.1))) hb); have n5_ := Aside0.mk (Kd.N_lower (Kd.N_mono (ok' := fun k_ => some k_ ≠ (v513 : Value).ownBlock ∧ some k_ ≠ (.slice (some ad522) t511.length co35 : Value).ownBlock ∧ some k_ ≠ (v517 : Value).ownBlock ∧ some k_ ≠ (.slice Ao36 x13_2.length co36 : Value).ownBlock ∧ some k_ ≠ (.slice Ao40 t526.length co40 : Value).ownBlock ∧ k_ ≠ gb531) (Kd.S_N (Kd.S_bound ho0)) (fun k_ hk_ => ⟨(Kd.fresh' (Kd.R_lt (by (with_reducible repeat (first | apply Kd.R_alloc | apply Kd.R_drewN | apply Kd.R_drew)); exact (Kd.R_mono (Kd.R_far (p := ⟨gb531, 4, none⟩) (Kd.R_far (p := ⟨gb531, 3, none⟩) (Kd.R_far (p := ⟨gb531, 2, none⟩) (Kd.R_far (p := ⟨gb531, 1, none⟩) (Kd.R_far (p := ⟨gb531, 0, none⟩) (Kd.R_types HO_10.out BK531.out (by decide)) (fun _ hk => hk.2) (.string t523)) (fun _ hk => hk.2) (.int .i64 t524)) (fun _ hk => hk.2) (.int .i64 t525)) (fun _ hk => hk.2) (.slice Ao40 t526.length co40)) (fun _ hk => hk.2) (.string t529)) (fun _ h_ => h_.1)))) k_ hk_.2.1), (Kd.fresh' (Kd.R_lt (by (with_reducible repeat (first | apply Kd.R_alloc | apply Kd.R_drewN | apply Kd.R_drew)); exact (Kd.R_mono (Kd.R_far (p := ⟨gb531, 4, none⟩) (Kd.R_far (p := ⟨gb531, 3, none⟩) (Kd.R_far (p := ⟨gb531, 2, none⟩) (Kd.R_far (p := ⟨gb531, 1, none⟩) (Kd.R_far (p := ⟨gb531, 0, none⟩) (Kd.R_types HO_11.out BK531.out (by decide)) (fun _ hk => hk.2) (.string t523)) (fun _ hk => hk.2) (.int .i64 t524)) (fun _ hk => hk.2) (.int .i64 t525)) (fun _ hk => hk.2) (.slice Ao40 t526.length co40)) (fun _ hk => hk.2) (.string t529)) (fun _ h_ => h_.1)))) k_ hk_.2.1), (Kd.fresh' (Kd.R_lt (by (with_reducible repeat (first | apply Kd.R_alloc | apply Kd.R_drewN | apply Kd.R_drew)); exact (Kd.R_mono (Kd.R_far (p := ⟨gb531, 4, none⟩) (Kd.R_far (p := ⟨gb531, 3, none⟩) (Kd.R_far (p := ⟨gb531, 2, none⟩) (Kd.R_far (p := ⟨gb531, 1, none⟩) (Kd.R_far (p := ⟨gb531, 0, none⟩) (Kd.R_types HO_12.out BK531.out (by decide)) (fun _ hk => hk.2) (.string t523)) (fun _ hk => hk.2) (.int .i64 t524)) (fun _ hk => hk.2) (.int .i64 t525)) (fun _ hk => hk.2) (.slice Ao40 t526.length co40)) (fun _ hk => hk.2) (.string t529)) (fun _ h_ => h_.1)))) k_ hk_.2.1), (Kd.fresh' (Kd.N_lt (by (with_reducible repeat (first | apply Kd.N_alloc | apply Kd.N_drewN | apply Kd.N_drew)); exact (Kd.N_mono (Kd.N_far (p := ⟨gb531, 4, none⟩) (Kd.N_far (p := ⟨gb531, 3, none⟩) (Kd.N_far (p := ⟨gb531, 2, none⟩) (Kd.N_far (p := ⟨gb531, 1, none⟩) (Kd.N_far (p := ⟨gb531, 0, none⟩) (Kd.N_mono HO_13.out (fun k_ hk => (⟨hk, hk.2⟩ : _ ∧ k_ ≠ gb531))) (fun _ hk => hk.2) (.string t523)) (fun _ hk => hk.2) (.int .i64 t524)) (fun _ hk => hk.2) (.int .i64 t525)) (fun _ hk => hk.2) (.slice Ao40 t526.length co40)) (fun _ hk => hk.2) (.string t529)) (fun _ h_ => h_.1)))) k_ hk_.2.1), (Kd.fresh' (Kd.R_lt (by (with_reducible repeat (first | apply Kd.R_alloc | apply Kd.R_drewN | apply Kd.R_drew)); exact (Kd.R_mono (Kd.R_far (p := ⟨gb531, 4, none⟩) (Kd.R_far (p := ⟨gb531, 3, none⟩) (Kd.R_far (p := ⟨gb531, 2, none⟩) (Kd.R_far (p := ⟨gb531, 1, none⟩) (Kd.R_far (p := ⟨gb531, 0, none⟩) (Kd.R_types HO528.out BK531.out (by decide)) (fun _ hk => hk.2) (.string t523)) (fun _ hk => hk.2) (.int .i64 t524)) (fun _ hk => hk.2) (.int .i64 t525)) (fun _ hk => hk.2) (.slice Ao40 t526.length co40)) (fun _ hk => hk.2) (.string t529)) (fun _ h_ => h_.1)))) k_ hk_.2.1), (Kd.freshB (g := gb531) (o := .cells #[.string t523, .int .i64 t524, .int .i64 t525, .slice Ao40 t526.length co40, .string t529] 31 (0, 0)) (by (with_reducible repeat (first | refine blk_drewN ?_ _ | refine blk_drew ?_ | refine blk_alloc ?_ _)); refine blk_put (cs := #[.string t523, .int .i64 t524, .int .i64 t525, .slice Ao40 t526.length co40, .string (⟨#[]⟩ : ByteArray)]) ?_ 4 _ rfl; (with_reducible repeat (first | refine blk_drewN ?_ _ | refine blk_drew ?_ | refine blk_alloc ?_ _)); refine blk_put (cs := #[.string t523, .int .i64 t524, .int .i64 t525, .slice none 0 0, .string (⟨#[]⟩ : ByteArray)]) ?_ 3 _ rfl; (with_reducible repeat (first | refine blk_drewN ?_ _ | refine blk_drew ?_ | refine blk_alloc ?_ _)); refine blk_put (cs := #[.string t523, .int .i64 t524, .int .i64 0, .slice none 0 0, .string (⟨#[]⟩ : ByteArray)]) ?_ 2 _ rfl; (with_reducible repeat (first | refine blk_drewN ?_ _ | refine blk_drew ?_ | refine blk_alloc ?_ _)); refine blk_put (cs := #[.string t523, .int .i64 0, .int .i64 0, .slice none 0 0, .string (⟨#[]⟩ : ByteArray)]) ?_ 1 _ rfl; (with_reducible repeat (first | refine blk_drewN ?_ _ | refine blk_drew ?_ | refine blk_alloc ?_ _)); refine blk_put (cs := #[.string (⟨#[]⟩ : ByteArray), .int .i64 0, .int .i64 0, .slice none 0 0, .string (⟨#[]⟩ : ByteArray)]) ?_ 0 _ rfl; (with_reducible repeat (first | refine blk_drewN ?_ _ | refine blk_drew ?_ | refine blk_alloc ?_ _)); exact BK531.out) k_ hk_.2.1)⟩)) (below_size (by repeat (first | (with_reducible first | exact HB.out | apply below_alloc | apply pw_below_drewN | apply below_drew1 | refine below_set ?_ GE531.out) | exact HB.out)))); have n6_ := Aside0.mk (blk_below (g := gb531) (o := .cells #[.string t523, .int .i64 t524, .int .i64 t525, .slice Ao40 t526.length co40, .string t529] 31 (0, 0)) (by (with_reducible repeat (first | refine blk_drewN ?_ _ | refine blk_drew ?_ | refine blk_alloc ?_ _)); refine blk_put (cs := #[.string t523, .int .i64 t524, .int .i64 t525, .slice Ao40 t526.length co40, .string (⟨#[]⟩ : ByteArray)]) ?_ 4 _ rfl; (with_reducible repeat (first | refine blk_drewN ?_ _ | refine blk_drew ?_ | refine blk_alloc ?_ _)); refine blk_put (cs := #[.string t523, .int .i64 t524, .int .i64 t525, .slice none 0 0, .string (⟨#[]⟩ : ByteArray)]) ?_ 3 _ rfl; (with_reducible repeat (first | refine blk_drewN ?_ _ | refine blk_drew ?_ | refine blk_alloc ?_ _)); refine blk_put (cs := #[.string t523, .int .i64 t524, .int .i64 0, .slice none 0 0, .string (⟨#[]⟩ : ByteArray)]) ?_ 2 _ rfl; (with_reducible repeat (first | refine blk_drewN ?_ _ | refine blk_drew ?_ | refine blk_alloc ?_ _)); refine blk_put (cs := #[.string t523, .int .i64 0, .int .i64 0, .slice none 0 0, .string (⟨#[]⟩ : ByteArray)]) ?_ 1 _ rfl; (with_reducible repeat (first | refine blk_drewN ?_ _ | refine blk_drew ?_ | refine blk_alloc ?_ _)); refine blk_put (cs := #[.string (⟨#[]⟩ : ByteArray), .int .i64 0, .int .i64 0, .slice none 0 0, .string (⟨#[]⟩ : ByteArray)]) ?_ 0 _ rfl; (with_reducible repeat (first | refine blk_drewN ?_ _ | refine blk_drew ?_ | refine blk_alloc ?_ _)); exact BK531.out) hb); have n7_ := Aside0.mk (below_step (by repeat (first | (with_reducible first | exact HB.out | apply below_alloc | apply pw_below_drewN | apply below_drew1 | refine below_set ?_ GE531.out) | exact HB.out)) hb); clear HO_10; clear HO_11; clear HO_12; clear HO_13; clear HO528; clear BK531; clear HB; have HO_10 := n0_; have HO_11 := n1_; have HO_12 := n2_; have HO_13 := n3_; have HO528 := n4_; have HO536 := n5_; have BK531 := n6_; have HB := n7_; clear n0_ n1_ n2_ n3_ n4_ n5_ n6_ n7_; (try clear hb); (try clear hb2); (try clear hk); (try clear hi); (try clear ho0); obtain ⟨Ao42, co42, eo42⟩ := Kd.N_slice HO536.out; subst eo42))
           go_roundg k2
           case measure => have := HJ5.out; have := HK2.out; omega
           case rel => exact ⟨(t533), (wrap64 (x14_2 + 1)), (by first | rfl | (simp; done) | (simp [*]; done)), H', ⟨by have := HJ5.out; have := HK2.out; omega⟩, ⟨by (with_reducible repeat (first | apply Kd.R_alloc | apply Kd.R_drewN | apply Kd.R_drew)); exact HO_10.out⟩, ⟨by (with_reducible repeat (first | apply Kd.R_alloc | apply Kd.R_drewN | apply Kd.R_drew)); exact HO_11.out⟩, ⟨by (with_reducible repeat (first | apply Kd.R_alloc | apply Kd.R_drewN | apply Kd.R_drew)); exact HO_12.out⟩, ⟨by (with_reducible repeat (first | apply Kd.N_alloc | apply Kd.N_drewN | apply Kd.N_drew)); exact Kd.N_mono HO536.out (fun _ hk => ⟨hk.1, ⟨hk.2.1, hk.2.2.1⟩⟩)⟩, ⟨by repeat (first | (with_reducible first | exact HB.out | apply below_alloc | apply pw_below_drewN | apply below_drew1 | refine below_set ?_ GE531.out) | exact HB.out)⟩⟩
         ·rw [if_neg c25] at H
          have c25b0 : (t534 == 0) = false := beq_eq_false_iff_ne.mpr c25
          have c25b1 : (t534 != 0) = true := bne_iff_ne.mpr c25
          obtain rfl := Option.some.inj H
          obtain ⟨Ao43, co43, eo43⟩ := Kd.R_slice HO_11.out
          subst eo43
          have p522 : 0 ≤ (x14_2 : Int) := of_decide_eq_true (by first | (with_reducible assumption) | assumption)
          have q522 : x14_2 < (t511.length : Int) := of_decide_eq_true (by first | (with_reducible assumption) | assumption)
          obtain ⟨ad522, e522, hx522_0⟩ := Kd.at_string (Kd.R_reads' HO_11.out).2.2 x14_2 p522 q522
          cases e522
          replace p522 := eq_true p522
          replace q522 := eq_true q522
          obtain ⟨Ao44, co44, eo44⟩ := Kd.N_slice HO_13.out
          subst eo44
          go_wp2_with (first | ((with_reducible refine gate_callee (f := 14) rfl ?_); refine goesL_ (some 74) rfl rfl Try.func14 (by kernel_rfl) rfl #[.slice Ao44 x13_2.length co44, .string (rdOf ByteArray.empty t511 x14_2)] rfl (by (try simp only [List.map_toArray, List.map_cons, List.map_nil]); first | done | rfl | (simp only [List.length_drop, List.length_take]; rfl)) ?_; (with_reducible refine (tree_Find.calls k2 _ _ x13_2 (rdOf ByteArray.empty t511 x14_2) t523 t524 t525 t526 t529 true _ ?side1 ?side2 A22.out).mono ?_); (case side1 => repeat (first | exact (Kd.N_reads' HO_13.out).2.2 | (with_reducible refine Kd.C_alloc ?_ _) | (with_reducible refine Kd.C_drewN ?_ _) | (with_reducible refine Kd.C_drew ?_))); (case side2 => exact (Kd.N_reads' HO_13.out).2.1); rintro e w45 ⟨v527, rfl, ho0, hb⟩; refine ⟨_, rfl, ?_⟩; have n0_ := Aside0.mk (Kd.R_below (by (with_reducible repeat (first | apply Kd.R_alloc | apply Kd.R_drewN | apply Kd.R_drew)); exact HO_10.out) hb); have n1_ := Aside0.mk (Kd.R_below (by (with_reducible repeat (first | apply Kd.R_alloc | apply Kd.R_drewN | apply Kd.R_drew)); exact HO_11.out) hb); have n2_ := Aside0.mk (Kd.R_below (by (with_reducible repeat (first | apply Kd.R_alloc | apply Kd.R_drewN | apply Kd.R_drew)); exact HO_12.out) hb); have n3_ := Aside0.mk (Kd.N_elder' (by (with_reducible repeat (first | apply Kd.N_alloc | apply Kd.N_drewN | apply Kd.N_drew)); exact HO_13.out) (Kd.R_base ho0) hb); have n4_ := Aside0.mk (Kd.R_lower ho0 (below_size (by repeat (first | (with_reducible first | exact HB.out | apply below_alloc | apply pw_below_drewN | apply below_drew1) | exact HB.out)))); have n5_ := Aside0.mk (below_step (by repeat (first | (with_reducible first | exact HB.out | apply below_alloc | apply pw_below_drewN | apply below_drew1) | exact HB.out)) hb); clear HO_10; clear HO_11; clear HO_12; clear HO_13; clear HB; have HO_10 := n0_; have HO_11 := n1_; have HO_12 := n2_; have HO_13 := n3_; have HO528 := n4_; have HB := n5_; clear n0_ n1_ n2_ n3_ n4_ n5_; (try clear hb); (try clear hb2); (try clear hk); (try clear hi); (try clear ho0)) | ((with_reducible refine gate_dst (N := 15) rfl ?_); (try (refine gate_guard (by rfl) ?_; dsimp only)); refine box_event ?hg (N := 15) ?hd (cs := #[.string (⟨#[]⟩ : ByteArray), .int .i64 0, .int .i64 0, .slice none 0 0, .string (⟨#[]⟩ : ByteArray)]) (t := 31) ?hr ?_; (case hd => rfl); (case hg => rfl); (case hr => first | (go_simp; done) | (go_simp; rfl)); intro gb531 hg w46 hbox hb; have n0_ := Aside0.mk (Kd.R_below (by (with_reducible repeat (first | apply Kd.R_alloc | apply Kd.R_drewN | apply Kd.R_drew)); exact HO_10.out) hb); have n1_ := Aside0.mk (Kd.R_below (by (with_reducible repeat (first | apply Kd.R_alloc | apply Kd.R_drewN | apply Kd.R_drew)); exact HO_11.out) hb); have n2_ := Aside0.mk (Kd.R_below (by (with_reducible repeat (first | apply Kd.R_alloc | apply Kd.R_drewN | apply Kd.R_drew)); exact HO_12.out) hb); have n3_ := Aside0.mk (Kd.N_below (Kd.N_elderB (by (with_reducible repeat (first | apply Kd.N_alloc | apply Kd.N_drewN | apply Kd.N_drew)); exact HO_13.out) gb531 (Nat.le_of_eq hg.symm)) hb); have n4_ := Aside0.mk (Kd.R_below (by (with_reducible repeat (first | apply Kd.R_alloc | apply Kd.R_drewN | apply Kd.R_drew)); exact HO528.out) hb); have n5_ := Aside0.mk (below_step (by repeat (first | (with_reducible first | exact HB.out | apply below_alloc | apply pw_below_drewN | apply below_drew1) | exact HB.out)) hb); have n6_ := Aside0.mk (hbox); have n7_ := Aside0.mk ((by rw [hg]; exact (below_size (by repeat (first | (with_reducible first | exact HB.out | apply below_alloc | apply pw_below_drewN | apply below_drew1) | exact HB.out))) : w.heap.size ≤ gb531)); have n8_ := Aside0.mk ((by rw [hg]; exact (below_size (by repeat (first | (with_reducible first | exact HB.out | apply below_alloc | apply pw_below_drewN | apply below_drew1) | exact HB.out))) : w.heap.size ≤ gb531)); clear HO_10; clear HO_11; clear HO_12; clear HO_13; clear HO528; clear HB; have HO_10 := n0_; have HO_11 := n1_; have HO_12 := n2_; have HO_13 := n3_; have HO528 := n4_; have HB := n5_; have BK531 := n6_; have GW531 := n7_; have GE531 := n8_; clear n0_ n1_ n2_ n3_ n4_ n5_ n6_ n7_ n8_; clear hb hbox hg; have hcz47_0 : w46.cell? ⟨gb531, 0, none⟩ = some (.string (⟨#[]⟩ : ByteArray)) := (blk_cell BK531.out 0).trans rfl; have hcz47_1 : w46.cell? ⟨gb531, 1, none⟩ = some (.int .i64 0) := (blk_cell BK531.out 1).trans rfl; have hcz47_2 : w46.cell? ⟨gb531, 2, none⟩ = some (.int .i64 0) := (blk_cell BK531.out 2).trans rfl; have hcz47_3 : w46.cell? ⟨gb531, 3, none⟩ = some (.slice none 0 0) := (blk_cell BK531.out 3).trans rfl; have hcz47_4 : w46.cell? ⟨gb531, 4, none⟩ = some (.string (⟨#[]⟩ : ByteArray)) := (blk_cell BK531.out 4).trans rfl; have hfz47_0 := blk_frozen BK531.out 0; have hfz47_1 := blk_frozen BK531.out 1; have hfz47_2 := blk_frozen BK531.out 2; have hfz47_3 := blk_frozen BK531.out 3; have hfz47_4 := blk_frozen BK531.out 4; obtain ⟨Ao48, co48, eo48⟩ := Kd.R_slice HO528.out; subst eo48; have p532 : 0 ≤ (x14_2 : Int) := of_decide_eq_true (by first | (with_reducible assumption) | assumption); have q532 : x14_2 < (t511.length : Int) := of_decide_eq_true (by first | (with_reducible assumption) | assumption); obtain ⟨ad532, e532, hx532_0⟩ := Kd.at_string (Kd.R_reads' HO_11.out).2.2 x14_2 p532 q532; obtain rfl : ad522 = ad532 := (by injection e532); have hn532_0 : ad522.block ≠ gb531 := Kd.own_blk (Kd.R_ne HO_11.out BK531.out (by decide)); have hn532_1 : ad522.block ≠ gb531 := Kd.own_blk (Kd.R_ne HO_11.out BK531.out (by decide)); have hn532_2 : ad522.block ≠ gb531 := Kd.own_blk (Kd.R_ne HO_11.out BK531.out (by decide)); have hn532_3 : ad522.block ≠ gb531 := Kd.own_blk (Kd.R_ne HO_11.out BK531.out (by decide)); have hn532_4 : ad522.block ≠ gb531 := Kd.own_blk (Kd.R_ne HO_11.out BK531.out (by decide)); replace hx532_0 := (cell_far (p := ⟨gb531, 0, none⟩) (by first | (rw [add_block]; exact hn532_0) | (show (Addr.add _ _).block ≠ _; rw [add_block]; exact hn532_0) | exact hn532_0) (.string t523)).trans hx532_0; replace hx532_0 := (cell_far (p := ⟨gb531, 1, none⟩) (by first | (rw [add_block]; exact hn532_1) | (show (Addr.add _ _).block ≠ _; rw [add_block]; exact hn532_1) | exact hn532_1) (.int .i64 t524)).trans hx532_0; replace hx532_0 := (cell_far (p := ⟨gb531, 2, none⟩) (by first | (rw [add_block]; exact hn532_2) | (show (Addr.add _ _).block ≠ _; rw [add_block]; exact hn532_2) | exact hn532_2) (.int .i64 t525)).trans hx532_0; replace hx532_0 := (cell_far (p := ⟨gb531, 3, none⟩) (by first | (rw [add_block]; exact hn532_3) | (show (Addr.add _ _).block ≠ _; rw [add_block]; exact hn532_3) | exact hn532_3) (.slice Ao48 t526.length co48)).trans hx532_0; replace hx532_0 := (cell_far (p := ⟨gb531, 4, none⟩) (by first | (rw [add_block]; exact hn532_4) | (show (Addr.add _ _).block ≠ _; rw [add_block]; exact hn532_4) | exact hn532_4) (.string t529)).trans hx532_0; clear hn532_0; clear hn532_1; clear hn532_2; clear hn532_3; clear hn532_4; replace p532 := eq_true p532; replace q532 := eq_true q532) | ((with_reducible refine gate_callee (f := 32) rfl ?_); refine goesL_ (some 85) rfl rfl Try.func32 (by kernel_rfl) rfl #[.slice Ao44 x13_2.length co44, .string (rdOf ByteArray.empty t511 x14_2)] rfl (by (try simp only [List.map_toArray, List.map_cons, List.map_nil]); first | done | rfl | (simp only [List.length_drop, List.length_take]; rfl)) ?_; (with_reducible refine (tree_Drop.calls k2 _ _ x13_2 (rdOf ByteArray.empty t511 x14_2) t533 t534 _ ?side1 ?side2 A24.out).mono ?_); (case side1 => refine (Kd.N_reads' (e := 31) (base := w.heap.size) (ok := fun k_ => (((some k_ ≠ (v513 : Value).ownBlock ∧ (some k_ ≠ (.slice (some ad522) t511.length co43 : Value).ownBlock ∧ some k_ ≠ (v517 : Value).ownBlock)) ∧ some k_ ≠ (.slice Ao48 t526.length co48 : Value).ownBlock) ∧ k_ ≠ gb531)) (n := x13_2.length) (c := co44) ?_).2.2; exact (by (with_reducible repeat (first | apply Kd.N_alloc | apply Kd.N_drewN | apply Kd.N_drew)); exact (Kd.N_mono (Kd.N_far (p := ⟨gb531, 4, none⟩) (Kd.N_far (p := ⟨gb531, 3, none⟩) (Kd.N_far (p := ⟨gb531, 2, none⟩) (Kd.N_far (p := ⟨gb531, 1, none⟩) (Kd.N_far (p := ⟨gb531, 0, none⟩) (Kd.N_mono HO_13.out (fun k_ hk => (⟨hk, hk.2⟩ : _ ∧ k_ ≠ gb531))) (fun _ hk => hk.2) (.string t523)) (fun _ hk => hk.2) (.int .i64 t524)) (fun _ hk => hk.2) (.int .i64 t525)) (fun _ hk => hk.2) (.slice Ao48 t526.length co48)) (fun _ hk => hk.2) (.string t529)) (fun _ h_ => h_.1)))); (case side2 => exact (Kd.N_reads' HO_13.out).2.1); rintro e w49 ⟨v535, rfl, ho0, hb⟩; refine ⟨_, rfl, ?_⟩; have n0_ := Aside0.mk (Kd.R_below (by (with_reducible repeat (first | apply Kd.R_alloc | apply Kd.R_drewN | apply Kd.R_drew)); exact (Kd.R_mono (Kd.R_far (p := ⟨gb531, 4, none⟩) (Kd.R_far (p := ⟨gb531, 3, none⟩) (Kd.R_far (p := ⟨gb531, 2, none⟩) (Kd.R_far (p := ⟨gb531, 1, none⟩) (Kd.R_far (p := ⟨gb531, 0, none⟩) (Kd.R_types HO_10.out BK531.out (by decide)) (fun _ hk => hk.2) (.string t523)) (fun _ hk => hk.2) (.int .i64 t524)) (fun _ hk => hk.2) (.int .i64 t525)) (fun _ hk => hk.2) (.slice Ao48 t526.length co48)) (fun _ hk => hk.2) (.string t529)) (fun _ h_ => h_.1))) hb); have n1_ := Aside0.mk (Kd.R_below (by (with_reducible repeat (first | apply Kd.R_alloc | apply Kd.R_drewN | apply Kd.R_drew)); exact (Kd.R_mono (Kd.R_far (p := ⟨gb531, 4, none⟩) (Kd.R_far (p := ⟨gb531, 3, none⟩) (Kd.R_far (p := ⟨gb531, 2, none⟩) (Kd.R_far (p := ⟨gb531, 1, none⟩) (Kd.R_far (p := ⟨gb531, 0, none⟩) (Kd.R_types HO_11.out BK531.out (by decide)) (fun _ hk => hk.2) (.string t523)) (fun _ hk => hk.2) (.int .i64 t524)) (fun _ hk => hk.2) (.int .i64 t525)) (fun _ hk => hk.2) (.slice Ao48 t526.length co48)) (fun _ hk => hk.2) (.string t529)) (fun _ h_ => h_.1))) hb); have n2_ := Aside0.mk (Kd.R_below (by (with_reducible repeat (first | apply Kd.R_alloc | apply Kd.R_drewN | apply Kd.R_drew)); exact (Kd.R_mono (Kd.R_far (p := ⟨gb531, 4, none⟩) (Kd.R_far (p := ⟨gb531, 3, none⟩) (Kd.R_far (p := ⟨gb531, 2, none⟩) (Kd.R_far (p := ⟨gb531, 1, none⟩) (Kd.R_far (p := ⟨gb531, 0, none⟩) (Kd.R_types HO_12.out BK531.out (by decide)) (fun _ hk => hk.2) (.string t523)) (fun _ hk => hk.2) (.int .i64 t524)) (fun _ hk => hk.2) (.int .i64 t525)) (fun _ hk => hk.2) (.slice Ao48 t526.length co48)) (fun _ hk => hk.2) (.string t529)) (fun _ h_ => h_.1))) hb); have n3_ := Aside0.mk (Kd.N_elder' (by (with_reducible repeat (first | apply Kd.N_alloc | apply Kd.N_drewN | apply Kd.N_drew)); exact (Kd.N_mono (Kd.N_far (p := ⟨gb531, 4, none⟩) (Kd.N_far (p := ⟨gb531, 3, none⟩) (Kd.N_far (p := ⟨gb531, 2, none⟩) (Kd.N_far (p := ⟨gb531, 1, none⟩) (Kd.N_far (p := ⟨gb531, 0, none⟩) (Kd.N_mono HO_13.out (fun k_ hk => (⟨hk, hk.2⟩ : _ ∧ k_ ≠ gb531))) (fun _ hk => hk.2) (.string t523)) (fun _ hk => hk.2) (.int .i64 t524)) (fun _ hk => hk.2) (.int .i64 t525)) (fun _ hk => hk.2) (.slice Ao48 t526.length co48)) (fun _ hk => hk.2) (.string t529)) (fun _ h_ => h_.1))) (by first | exact Kd.N_base ho0 | exact Kd.S_base ho0) hb); have n4_ := Aside0.mk (Kd.R_below (by (with_reducible repeat (first | apply Kd.R_alloc | apply Kd.R_drewN | apply Kd.R_drew)); exact (Kd.R_mono (Kd.R_far (p := ⟨gb531, 4, none⟩) (Kd.R_far (p := ⟨gb531, 3, none⟩) (Kd.R_far (p := ⟨gb531, 2, none⟩) (Kd.R_far (p := ⟨gb531, 1, none⟩) (Kd.R_far (p := ⟨gb531, 0, none⟩) (Kd.R_types HO528.out BK531.out (by decide)) (fun _ hk => hk.2) (.string t523)) (fun _ hk => hk.2) (.int .i64 t524)) (fun _ hk => hk.2) (.int .i64 t525)) (fun _ hk => hk.2) (.slice Ao48 t526.length co48)) (fun _ hk => hk.2) (.string t529)) (fun _ h_ => h_.1))) hb); have n5_ := Aside0.mk (Kd.N_lower (Kd.N_mono (ok' := fun k_ => some k_ ≠ (v513 : Value).ownBlock ∧ some k_ ≠ (.slice (some ad522) t511.length co43 : Value).ownBlock ∧ some k_ ≠ (v517 : Value).ownBlock ∧ some k_ ≠ (.slice Ao44 x13_2.length co44 : Value).ownBlock ∧ some k_ ≠ (.slice Ao48 t526.length co48 : Value).ownBlock ∧ k_ ≠ gb531) (Kd.S_N (Kd.S_bound ho0)) (fun k_ hk_ => ⟨(Kd.fresh' (Kd.R_lt (by (with_reducible repeat (first | apply Kd.R_alloc | apply Kd.R_drewN | apply Kd.R_drew)); exact (Kd.R_mono (Kd.R_far (p := ⟨gb531, 4, none⟩) (Kd.R_far (p := ⟨gb531, 3, none⟩) (Kd.R_far (p := ⟨gb531, 2, none⟩) (Kd.R_far (p := ⟨gb531, 1, none⟩) (Kd.R_far (p := ⟨gb531, 0, none⟩) (Kd.R_types HO_10.out BK531.out (by decide)) (fun _ hk => hk.2) (.string t523)) (fun _ hk => hk.2) (.int .i64 t524)) (fun _ hk => hk.2) (.int .i64 t525)) (fun _ hk => hk.2) (.slice Ao48 t526.length co48)) (fun _ hk => hk.2) (.string t529)) (fun _ h_ => h_.1)))) k_ hk_.2.1), (Kd.fresh' (Kd.R_lt (by (with_reducible repeat (first | apply Kd.R_alloc | apply Kd.R_drewN | apply Kd.R_drew)); exact (Kd.R_mono (Kd.R_far (p := ⟨gb531, 4, none⟩) (Kd.R_far (p := ⟨gb531, 3, none⟩) (Kd.R_far (p := ⟨gb531, 2, none⟩) (Kd.R_far (p := ⟨gb531, 1, none⟩) (Kd.R_far (p := ⟨gb531, 0, none⟩) (Kd.R_types HO_11.out BK531.out (by decide)) (fun _ hk => hk.2) (.string t523)) (fun _ hk => hk.2) (.int .i64 t524)) (fun _ hk => hk.2) (.int .i64 t525)) (fun _ hk => hk.2) (.slice Ao48 t526.length co48)) (fun _ hk => hk.2) (.string t529)) (fun _ h_ => h_.1)))) k_ hk_.2.1), (Kd.fresh' (Kd.R_lt (by (with_reducible repeat (first | apply Kd.R_alloc | apply Kd.R_drewN | apply Kd.R_drew)); exact (Kd.R_mono (Kd.R_far (p := ⟨gb531, 4, none⟩) (Kd.R_far (p := ⟨gb531, 3, none⟩) (Kd.R_far (p := ⟨gb531, 2, none⟩) (Kd.R_far (p := ⟨gb531, 1, none⟩) (Kd.R_far (p := ⟨gb531, 0, none⟩) (Kd.R_types HO_12.out BK531.out (by decide)) (fun _ hk => hk.2) (.string t523)) (fun _ hk => hk.2) (.int .i64 t524)) (fun _ hk => hk.2) (.int .i64 t525)) (fun _ hk => hk.2) (.slice Ao48 t526.length co48)) (fun _ hk => hk.2) (.string t529)) (fun _ h_ => h_.1)))) k_ hk_.2.1), (Kd.fresh' (Kd.N_lt (by (with_reducible repeat (first | apply Kd.N_alloc | apply Kd.N_drewN | apply Kd.N_drew)); exact (Kd.N_mono (Kd.N_far (p := ⟨gb531, 4, none⟩) (Kd.N_far (p := ⟨gb531, 3, none⟩) (Kd.N_far (p := ⟨gb531, 2, none⟩) (Kd.N_far (p := ⟨gb531, 1, none⟩) (Kd.N_far (p := ⟨gb531, 0, none⟩) (Kd.N_mono HO_13.out (fun k_ hk => (⟨hk, hk.2⟩ : _ ∧ k_ ≠ gb531))) (fun _ hk => hk.2) (.string t523)) (fun _ hk => hk.2) (.int .i64 t524)) (fun _ hk => hk.2) (.int .i64 t525)) (fun _ hk => hk.2) (.slice Ao48 t526.length co48)) (fun _ hk => hk.2) (.string t529)) (fun _ h_ => h_.1)))) k_ hk_.2.1), (Kd.fresh' (Kd.R_lt (by (with_reducible repeat (first | apply Kd.R_alloc | apply Kd.R_drewN | apply Kd.R_drew)); exact (Kd.R_mono (Kd.R_far (p := ⟨gb531, 4, none⟩) (Kd.R_far (p := ⟨gb531, 3, none⟩) (Kd.R_far (p := ⟨gb531, 2, none⟩) (Kd.R_far (p := ⟨gb531, 1, none⟩) (Kd.R_far (p := ⟨gb531, 0, none⟩) (Kd.R_types HO528.out BK531.out (by decide)) (fun _ hk => hk.2) (.string t523)) (fun _ hk => hk.2) (.int .i64 t524)) (fun _ hk => hk.2) (.int .i64 t525)) (fun _ hk => hk.2) (.slice Ao48 t526.length co48)) (fun _ hk => hk.2) (.string t529)) (fun _ h_ => h_.1)))) k_ hk_.2.1), (Kd.freshB (g := gb531) (o := .cells #[.string t523, .int .i64 t524, .int .i64 t525, .slice Ao48 t526.length co48, .string t529] 31 (0, 0)) (by (with_reducible repeat (first | refine blk_drewN ?_ _ | refine blk_drew ?_ | refine blk_alloc ?_ _)); refine blk_put (cs := #[.string t523, .int .i64 t524, .int .i64 t525, .slice Ao48 t526.length co48, .string (⟨#[]⟩ : ByteArray)]) ?_ 4 _ rfl; (with_reducible repeat (first | refine blk_drewN ?_ _ | refine blk_drew ?_ | refine blk_alloc ?_ _)); refine blk_put (cs := #[.string t523, .int .i64 t524, .int .i64 t525, .slice none 0 0, .string (⟨#[]⟩ : ByteArray)]) ?_ 3 _ rfl; (with_reducible repeat (first | refine blk_drewN ?_ _ | refine blk_drew ?_ | refine blk_alloc ?_ _)); refine blk_put (cs := #[.string t523, .int .i64 t524, .int .i64 0, .slice none 0 0, .string (⟨#[]⟩ : ByteArray)]) ?_ 2 _ rfl; (with_reducible repeat (first | refine blk_drewN ?_ _ | refine blk_drew ?_ | refine blk_alloc ?_ _)); refine blk_put (cs := #[.string t523, .int .i64 0, .int .i64 0, .slice none 0 0, .string (⟨#[]⟩ : ByteArray)]) ?_ 1 _ rfl; (with_reducible repeat (first | refine blk_drewN ?_ _ | refine blk_drew ?_ | refine blk_alloc ?_ _)); refine blk_put (cs := #[.string (⟨#[]⟩ : ByteArray), .int .i64 0, .int .i64 0, .slice none 0 0, .string (⟨#[]⟩ : ByteArray)]) ?_ 0 _ rfl; (with_reducible repeat (first | refine blk_drewN ?_ _ | refine blk_drew ?_ | refine blk_alloc ?_ _)); exact BK531.out) k_ hk_.2.1)⟩)) (below_size (by repeat (first | (with_reducible first | exact HB.out | apply below_alloc | apply pw_below_drewN | apply below_drew1 | refine below_set ?_ GE531.out) | exact HB.out)))); have n6_ := Aside0.mk (blk_below (g := gb531) (o := .cells #[.string t523, .int .i64 t524, .int .i64 t525, .slice Ao48 t526.length co48, .string t529] 31 (0, 0)) (by (with_reducible repeat (first | refine blk_drewN ?_ _ | refine blk_drew ?_ | refine blk_alloc ?_ _)); refine blk_put (cs := #[.string t523, .int .i64 t524, .int .i64 t525, .slice Ao48 t526.length co48, .string (⟨#[]⟩ : ByteArray)]) ?_ 4 _ rfl; (with_reducible repeat (first | refine blk_drewN ?_ _ | refine blk_drew ?_ | refine blk_alloc ?_ _)); refine blk_put (cs := #[.string t523, .int .i64 t524, .int .i64 t525, .slice none 0 0, .string (⟨#[]⟩ : ByteArray)]) ?_ 3 _ rfl; (with_reducible repeat (first | refine blk_drewN ?_ _ | refine blk_drew ?_ | refine blk_alloc ?_ _)); refine blk_put (cs := #[.string t523, .int .i64 t524, .int .i64 0, .slice none 0 0, .string (⟨#[]⟩ : ByteArray)]) ?_ 2 _ rfl; (with_reducible repeat (first | refine blk_drewN ?_ _ | refine blk_drew ?_ | refine blk_alloc ?_ _)); refine blk_put (cs := #[.string t523, .int .i64 0, .int .i64 0, .slice none 0 0, .string (⟨#[]⟩ : ByteArray)]) ?_ 1 _ rfl; (with_reducible repeat (first | refine blk_drewN ?_ _ | refine blk_drew ?_ | refine blk_alloc ?_ _)); refine blk_put (cs := #[.string (⟨#[]⟩ : ByteArray), .int .i64 0, .int .i64 0, .slice none 0 0, .string (⟨#[]⟩ : ByteArray)]) ?_ 0 _ rfl; (with_reducible repeat (first | refine blk_drewN ?_ _ | refine blk_drew ?_ | refine blk_alloc ?_ _)); exact BK531.out) hb); have n7_ := Aside0.mk (below_step (by repeat (first | (with_reducible first | exact HB.out | apply below_alloc | apply pw_below_drewN | apply below_drew1 | refine below_set ?_ GE531.out) | exact HB.out)) hb); clear HO_10; clear HO_11; clear HO_12; clear HO_13; clear HO528; clear BK531; clear HB; have HO_10 := n0_; have HO_11 := n1_; have HO_12 := n2_; have HO_13 := n3_; have HO528 := n4_; have HO536 := n5_; have BK531 := n6_; have HB := n7_; clear n0_ n1_ n2_ n3_ n4_ n5_ n6_ n7_; (try clear hb); (try clear hb2); (try clear hk); (try clear hi); (try clear ho0)))
          go_ret
          exact ⟨by first | rfl | (simp [errW_none, errW_some] <;> rfl) | (simp [*, errW_none, errW_some] <;> rfl) | (simp [bt, *]; done) | (simp_all [bt]; done), by repeat (first | (with_reducible first | exact HB.out | apply below_alloc | apply pw_below_drewN | apply below_drew1 | refine below_set ?_ GE531.out) | exact HB.out)⟩
        ·replace c23 := Bool.eq_false_iff.mpr c23
         subst c23
         have H1 : (satchellaw08_TreeLeads.l0 k2 l0 l1 t503 t510 t511 t512 x13_2 (wrap64 (x14_2 + 1))) = some r := by rw [if_neg (show ¬ (false = true) by decide)] at H; exact H
         clear H
         have H := H1
         clear H1
         have H' := Aside0.mk H
         clear H
         obtain ⟨Ao50, co50, eo50⟩ := Kd.R_slice HO_11.out
         subst eo50
         have p522 : 0 ≤ (x14_2 : Int) := of_decide_eq_true (by first | (with_reducible assumption) | assumption)
         have q522 : x14_2 < (t511.length : Int) := of_decide_eq_true (by first | (with_reducible assumption) | assumption)
         obtain ⟨ad522, e522, hx522_0⟩ := Kd.at_string (Kd.R_reads' HO_11.out).2.2 x14_2 p522 q522
         cases e522
         replace p522 := eq_true p522
         replace q522 := eq_true q522
         obtain ⟨Ao51, co51, eo51⟩ := Kd.N_slice HO_13.out
         subst eo51
         go_wp2_with (first | ((with_reducible refine gate_callee (f := 14) rfl ?_); refine goesL_ (some 74) rfl rfl Try.func14 (by kernel_rfl) rfl #[.slice Ao51 x13_2.length co51, .string (rdOf ByteArray.empty t511 x14_2)] rfl (by (try simp only [List.map_toArray, List.map_cons, List.map_nil]); first | done | rfl | (simp only [List.length_drop, List.length_take]; rfl)) ?_; (with_reducible refine (tree_Find.calls k2 _ _ x13_2 (rdOf ByteArray.empty t511 x14_2) t523 t524 t525 t526 t529 false _ ?side1 ?side2 A22.out).mono ?_); (case side1 => repeat (first | exact (Kd.N_reads' HO_13.out).2.2 | (with_reducible refine Kd.C_alloc ?_ _) | (with_reducible refine Kd.C_drewN ?_ _) | (with_reducible refine Kd.C_drew ?_))); (case side2 => exact (Kd.N_reads' HO_13.out).2.1); rintro e w52 ⟨v527, rfl, ho0, hb⟩; refine ⟨_, rfl, ?_⟩; have n0_ := Aside0.mk (Kd.R_below (by (with_reducible repeat (first | apply Kd.R_alloc | apply Kd.R_drewN | apply Kd.R_drew)); exact HO_10.out) hb); have n1_ := Aside0.mk (Kd.R_below (by (with_reducible repeat (first | apply Kd.R_alloc | apply Kd.R_drewN | apply Kd.R_drew)); exact HO_11.out) hb); have n2_ := Aside0.mk (Kd.R_below (by (with_reducible repeat (first | apply Kd.R_alloc | apply Kd.R_drewN | apply Kd.R_drew)); exact HO_12.out) hb); have n3_ := Aside0.mk (Kd.N_elder' (by (with_reducible repeat (first | apply Kd.N_alloc | apply Kd.N_drewN | apply Kd.N_drew)); exact HO_13.out) (Kd.R_base ho0) hb); have n4_ := Aside0.mk (Kd.R_lower ho0 (below_size (by repeat (first | (with_reducible first | exact HB.out | apply below_alloc | apply pw_below_drewN | apply below_drew1) | exact HB.out)))); have n5_ := Aside0.mk (below_step (by repeat (first | (with_reducible first | exact HB.out | apply below_alloc | apply pw_below_drewN | apply below_drew1) | exact HB.out)) hb); clear HO_10; clear HO_11; clear HO_12; clear HO_13; clear HB; have HO_10 := n0_; have HO_11 := n1_; have HO_12 := n2_; have HO_13 := n3_; have HO528 := n4_; have HB := n5_; clear n0_ n1_ n2_ n3_ n4_ n5_; (try clear hb); (try clear hb2); (try clear hk); (try clear hi); (try clear ho0)) | ((with_reducible refine gate_dst (N := 15) rfl ?_); (try (refine gate_guard (by rfl) ?_; dsimp only)); refine box_event ?hg (N := 15) ?hd (cs := #[.string (⟨#[]⟩ : ByteArray), .int .i64 0, .int .i64 0, .slice none 0 0, .string (⟨#[]⟩ : ByteArray)]) (t := 31) ?hr ?_; (case hd => rfl); (case hg => rfl); (case hr => first | (go_simp; done) | (go_simp; rfl)); intro gb531 hg w53 hbox hb; have n0_ := Aside0.mk (Kd.R_below (by (with_reducible repeat (first | apply Kd.R_alloc | apply Kd.R_drewN | apply Kd.R_drew)); exact HO_10.out) hb); have n1_ := Aside0.mk (Kd.R_below (by (with_reducible repeat (first | apply Kd.R_alloc | apply Kd.R_drewN | apply Kd.R_drew)); exact HO_11.out) hb); have n2_ := Aside0.mk (Kd.R_below (by (with_reducible repeat (first | apply Kd.R_alloc | apply Kd.R_drewN | apply Kd.R_drew)); exact HO_12.out) hb); have n3_ := Aside0.mk (Kd.N_below (Kd.N_elderB (by (with_reducible repeat (first | apply Kd.N_alloc | apply Kd.N_drewN | apply Kd.N_drew)); exact HO_13.out) gb531 (Nat.le_of_eq hg.symm)) hb); have n4_ := Aside0.mk (Kd.R_below (by (with_reducible repeat (first | apply Kd.R_alloc | apply Kd.R_drewN | apply Kd.R_drew)); exact HO528.out) hb); have n5_ := Aside0.mk (below_step (by repeat (first | (with_reducible first | exact HB.out | apply below_alloc | apply pw_below_drewN | apply below_drew1) | exact HB.out)) hb); have n6_ := Aside0.mk (hbox); have n7_ := Aside0.mk ((by rw [hg]; exact (below_size (by repeat (first | (with_reducible first | exact HB.out | apply below_alloc | apply pw_below_drewN | apply below_drew1) | exact HB.out))) : w.heap.size ≤ gb531)); have n8_ := Aside0.mk ((by rw [hg]; exact (below_size (by repeat (first | (with_reducible first | exact HB.out | apply below_alloc | apply pw_below_drewN | apply below_drew1) | exact HB.out))) : w.heap.size ≤ gb531)); clear HO_10; clear HO_11; clear HO_12; clear HO_13; clear HO528; clear HB; have HO_10 := n0_; have HO_11 := n1_; have HO_12 := n2_; have HO_13 := n3_; have HO528 := n4_; have HB := n5_; have BK531 := n6_; have GW531 := n7_; have GE531 := n8_; clear n0_ n1_ n2_ n3_ n4_ n5_ n6_ n7_ n8_; clear hb hbox hg; have hcz54_0 : w53.cell? ⟨gb531, 0, none⟩ = some (.string (⟨#[]⟩ : ByteArray)) := (blk_cell BK531.out 0).trans rfl; have hcz54_1 : w53.cell? ⟨gb531, 1, none⟩ = some (.int .i64 0) := (blk_cell BK531.out 1).trans rfl; have hcz54_2 : w53.cell? ⟨gb531, 2, none⟩ = some (.int .i64 0) := (blk_cell BK531.out 2).trans rfl; have hcz54_3 : w53.cell? ⟨gb531, 3, none⟩ = some (.slice none 0 0) := (blk_cell BK531.out 3).trans rfl; have hcz54_4 : w53.cell? ⟨gb531, 4, none⟩ = some (.string (⟨#[]⟩ : ByteArray)) := (blk_cell BK531.out 4).trans rfl; have hfz54_0 := blk_frozen BK531.out 0; have hfz54_1 := blk_frozen BK531.out 1; have hfz54_2 := blk_frozen BK531.out 2; have hfz54_3 := blk_frozen BK531.out 3; have hfz54_4 := blk_frozen BK531.out 4; obtain ⟨Ao55, co55, eo55⟩ := Kd.R_slice HO528.out; subst eo55))
         go_roundg k2
         case measure => have := HJ5.out; have := HK2.out; omega
         case rel => exact ⟨(x13_2), (wrap64 (x14_2 + 1)), (by first | rfl | (simp; done) | (simp [*]; done)), H', ⟨by have := HJ5.out; have := HK2.out; omega⟩, ⟨by (with_reducible repeat (first | apply Kd.R_alloc | apply Kd.R_drewN | apply Kd.R_drew)); exact Kd.R_mono (Kd.R_far (p := ⟨gb531, 4, none⟩) (Kd.R_far (p := ⟨gb531, 3, none⟩) (Kd.R_far (p := ⟨gb531, 2, none⟩) (Kd.R_far (p := ⟨gb531, 1, none⟩) (Kd.R_far (p := ⟨gb531, 0, none⟩) (Kd.R_types HO_10.out BK531.out (by decide)) (fun _ hk => hk.2) (.string t523)) (fun _ hk => hk.2) (.int .i64 t524)) (fun _ hk => hk.2) (.int .i64 t525)) (fun _ hk => hk.2) (.slice Ao55 t526.length co55)) (fun _ hk => hk.2) (.string t529)) (fun _ hk => ⟨hk.1.1, hk.1.2⟩)⟩, ⟨by (with_reducible repeat (first | apply Kd.R_alloc | apply Kd.R_drewN | apply Kd.R_drew)); exact Kd.R_mono (Kd.R_far (p := ⟨gb531, 4, none⟩) (Kd.R_far (p := ⟨gb531, 3, none⟩) (Kd.R_far (p := ⟨gb531, 2, none⟩) (Kd.R_far (p := ⟨gb531, 1, none⟩) (Kd.R_far (p := ⟨gb531, 0, none⟩) (Kd.R_types HO_11.out BK531.out (by decide)) (fun _ hk => hk.2) (.string t523)) (fun _ hk => hk.2) (.int .i64 t524)) (fun _ hk => hk.2) (.int .i64 t525)) (fun _ hk => hk.2) (.slice Ao55 t526.length co55)) (fun _ hk => hk.2) (.string t529)) (fun _ hk => ⟨hk.1.1, hk.1.2⟩)⟩, ⟨by (with_reducible repeat (first | apply Kd.R_alloc | apply Kd.R_drewN | apply Kd.R_drew)); exact Kd.R_mono (Kd.R_far (p := ⟨gb531, 4, none⟩) (Kd.R_far (p := ⟨gb531, 3, none⟩) (Kd.R_far (p := ⟨gb531, 2, none⟩) (Kd.R_far (p := ⟨gb531, 1, none⟩) (Kd.R_far (p := ⟨gb531, 0, none⟩) (Kd.R_types HO_12.out BK531.out (by decide)) (fun _ hk => hk.2) (.string t523)) (fun _ hk => hk.2) (.int .i64 t524)) (fun _ hk => hk.2) (.int .i64 t525)) (fun _ hk => hk.2) (.slice Ao55 t526.length co55)) (fun _ hk => hk.2) (.string t529)) (fun _ hk => ⟨hk.1.1, hk.1.2⟩)⟩, ⟨by (with_reducible repeat (first | apply Kd.N_alloc | apply Kd.N_drewN | apply Kd.N_drew)); exact Kd.N_mono (Kd.N_far (p := ⟨gb531, 4, none⟩) (Kd.N_far (p := ⟨gb531, 3, none⟩) (Kd.N_far (p := ⟨gb531, 2, none⟩) (Kd.N_far (p := ⟨gb531, 1, none⟩) (Kd.N_far (p := ⟨gb531, 0, none⟩) (Kd.N_mono HO_13.out (fun k_ hk => (⟨hk, hk.2⟩ : _ ∧ k_ ≠ gb531))) (fun _ hk => hk.2) (.string t523)) (fun _ hk => hk.2) (.int .i64 t524)) (fun _ hk => hk.2) (.int .i64 t525)) (fun _ hk => hk.2) (.slice Ao55 t526.length co55)) (fun _ hk => hk.2) (.string t529)) (fun _ hk => ⟨hk.1.1.1.1, ⟨hk.1.1.1.2.1, hk.1.1.1.2.2⟩⟩)⟩, ⟨by repeat (first | (with_reducible first | exact HB.out | apply below_alloc | apply pw_below_drewN | apply below_drew1 | refine below_set ?_ GE531.out) | exact HB.out)⟩⟩
       ·rw [if_neg c21] at H
        exact absurd H (by simp)
      ·rw [if_neg c20] at H
       have c20b0 : decide (x14_2 < (t511.length : Int)) = false := decide_eq_false c20
       clear c20
       have H' := Aside0.mk H
       clear H
       obtain ⟨Ao56, co56, eo56⟩ := Kd.R_slice HO_11.out
       subst eo56
       go_wp2
       go_loopg [13, 19, 20] k2 (fun kq v13 v19 v20 w' => ∃ (x13_3 : List (S31)) (x19_3 : Int) (x20_3 : Int), v19 = .int .i64 x19_3 ∧ v20 = .int .i64 x20_3 ∧ Aside0 (satchellaw08_TreeLeads.l1 kq l0 l1 t503 t510 t511 t512 x13_3 x19_3 x20_3 = some r) ∧ Aside0 (kq ≤ k2) ∧ Aside0 (Kd.R Kd.string 9 w' w.heap.size (fun k_ => some k_ ≠ ((.slice Ao56 t511.length co56) : Value).ownBlock ∧ some k_ ≠ (v517 : Value).ownBlock) v513 t510) ∧ Aside0 (Kd.R Kd.string 9 w' w.heap.size (fun k_ => some k_ ≠ (v513 : Value).ownBlock ∧ some k_ ≠ (v517 : Value).ownBlock) (.slice Ao56 t511.length co56) t511) ∧ Aside0 (Kd.R Kd.string 9 w' w.heap.size (fun k_ => some k_ ≠ (v513 : Value).ownBlock ∧ some k_ ≠ ((.slice Ao56 t511.length co56) : Value).ownBlock) v517 t512) ∧ Aside0 (Kd.N k31 31 w' w.heap.size (fun k_ => some k_ ≠ (v513 : Value).ownBlock ∧ some k_ ≠ ((.slice Ao56 t511.length co56) : Value).ownBlock ∧ some k_ ≠ (v517 : Value).ownBlock) v13 x13_3) ∧ Aside0 (Below w.heap.size w w'))
       case atStart => exact ⟨(x13_2), (0), (0), (by first | rfl | (simp; done) | (simp [*]; done)), (by first | rfl | (simp; done) | (simp [*]; done)), H', ⟨Nat.le_refl _⟩, ⟨by (with_reducible repeat (first | apply Kd.R_alloc | apply Kd.R_drewN | apply Kd.R_drew)); exact HO_10.out⟩, ⟨by (with_reducible repeat (first | apply Kd.R_alloc | apply Kd.R_drewN | apply Kd.R_drew)); exact HO_11.out⟩, ⟨by (with_reducible repeat (first | apply Kd.R_alloc | apply Kd.R_drewN | apply Kd.R_drew)); exact HO_12.out⟩, ⟨by (with_reducible repeat (first | apply Kd.N_alloc | apply Kd.N_drewN | apply Kd.N_drew)); exact HO_13.out⟩, ⟨by repeat (first | (with_reducible first | exact HB.out | apply below_alloc | apply pw_below_drewN | apply below_drew1) | exact HB.out)⟩⟩
       case round =>
        clear H'
        try clear c1
        try clear c2
        try clear p2
        try clear c3
        try clear p5
        try clear q5
        try clear hx5
        try clear p6
        try clear c7
        try clear c9
        try clear c11
        try clear c12
        try clear c13
        try clear c14
        try clear c14b0
        try clear c14b1
        try clear c15
        try clear c18
        try clear c20
        try clear c20b0
        try clear c21
        try clear c21b0
        try clear c23
        try clear c25
        try clear c25b0
        try clear c25b1
        try clear c26
        try clear c26b0
        try clear c26b1
        try clear c32
        try clear p52
        try clear q52
        try clear hx52
        try clear p53
        try clear q53
        try clear hx53
        try clear hcz31_0
        try clear hcz31_1
        try clear hcz31_2
        try clear hcz31_3
        try clear hcz31_4
        try clear hcz39_0
        try clear hcz39_1
        try clear hcz39_2
        try clear hcz39_3
        try clear hcz39_4
        try clear hcz47_0
        try clear hcz47_1
        try clear hcz47_2
        try clear hcz47_3
        try clear hcz47_4
        try clear hcz54_0
        try clear hcz54_1
        try clear hcz54_2
        try clear hcz54_3
        try clear hcz54_4
        try clear hfz31_0
        try clear hfz31_1
        try clear hfz31_2
        try clear hfz31_3
        try clear hfz31_4
        try clear hfz39_0
        try clear hfz39_1
        try clear hfz39_2
        try clear hfz39_3
        try clear hfz39_4
        try clear hfz47_0
        try clear hfz47_1
        try clear hfz47_2
        try clear hfz47_3
        try clear hfz47_4
        try clear hfz54_0
        try clear hfz54_1
        try clear hfz54_2
        try clear hfz54_3
        try clear hfz54_4
        try clear hx522_0
        try clear hx532_0
        try clear p2
        try clear p522
        try clear p532
        try clear q522
        try clear q532
        obtain ⟨x13_3, x19_3, x20_3, rfl, rfl, HA, HK3, HO_10, HO_11, HO_12, HO_13, HB⟩ := hrel
        cases gk with
        | zero => exact absurd HA.out (by simp [satchellaw08_TreeLeads.l1])
        | succ k3 =>
         have H := HA.out
         clear HA
         simp only [satchellaw08_TreeLeads.l1] at H
         by_cases c57 : x20_3 < (l1.length : Int)
         ·rw [if_pos c57] at H
          have c57b0 : decide (x20_3 < (l1.length : Int)) = true := decide_eq_true c57
          clear c57
          by_cases c58 : 0 ≤ x20_3
          ·rw [if_pos c58] at H
           have c58b0 : decide (0 ≤ x20_3) = true := decide_eq_true c58
           clear c58
           have HC59 := Aside0.mk H
           clear H
           have p537 : 0 ≤ (x20_3 : Int) := of_decide_eq_true (by first | (with_reducible assumption) | assumption)
           have q537 : x20_3 < (l1.length : Int) := of_decide_eq_true (by first | (with_reducible assumption) | assumption)
           obtain ⟨ad537, A537_3, c537_3, e537, hx537_0, hx537_1, hx537_2, hx537_3, hx537_4, hl537_3, hi537_3⟩ := at_T31 HR1.out x20_3 p537 q537
           cases e537
           replace hx537_0 := (HB.out.cell (World.block_lt_of_cell? w _ hx537_0)).trans hx537_0
           replace hx537_1 := (HB.out.cell (World.block_lt_of_cell? w _ hx537_1)).trans hx537_1
           replace hx537_2 := (HB.out.cell (World.block_lt_of_cell? w _ hx537_2)).trans hx537_2
           replace hx537_3 := (HB.out.cell (World.block_lt_of_cell? w _ hx537_3)).trans hx537_3
           replace hx537_4 := (HB.out.cell (World.block_lt_of_cell? w _ hx537_4)).trans hx537_4
           have HR537_3 := Aside0.mk hi537_3
           have HC537_3 := Aside0.mk hl537_3
           clear hi537_3 hl537_3
           replace p537 := eq_true p537
           replace q537 := eq_true q537
           go_upto_region 22 with (fail)
           go_cut [118] (fun v118 wc => ∃ (kq : Nat) (x118_58 : Bool), v118 = .bool x118_58 ∧ Aside0 (satchellaw08_TreeLeads.j3 kq l0 l1 t503 t510 t511 t512 x13_3 x19_3 x20_3 x118_58 = some r) ∧ Aside0 (kq ≤ k3) ∧ Aside0 (Kd.R Kd.string 9 wc w.heap.size (fun k_ => some k_ ≠ ((.slice Ao56 t511.length co56) : Value).ownBlock ∧ some k_ ≠ (v517 : Value).ownBlock) v513 t510) ∧ Aside0 (Kd.R Kd.string 9 wc w.heap.size (fun k_ => some k_ ≠ (v513 : Value).ownBlock ∧ some k_ ≠ (v517 : Value).ownBlock) (.slice Ao56 t511.length co56) t511) ∧ Aside0 (Kd.R Kd.string 9 wc w.heap.size (fun k_ => some k_ ≠ (v513 : Value).ownBlock ∧ some k_ ≠ ((.slice Ao56 t511.length co56) : Value).ownBlock) v517 t512) ∧ Aside0 (Kd.N k31 31 wc w.heap.size (fun k_ => some k_ ≠ (v513 : Value).ownBlock ∧ some k_ ≠ ((.slice Ao56 t511.length co56) : Value).ownBlock ∧ some k_ ≠ (v517 : Value).ownBlock) u13 x13_3) ∧ Aside0 (Below w.heap.size w wc))
           case first =>
            have H := HC59.out
            clear HC59
            replace H := Option.bind_eq_some_iff.mp H
            obtain ⟨t538, A600, H⟩ := H
            replace H : (if t538 = true then (satchellaw08_TreeLeads.j3 k3 l0 l1 t503 t510 t511 t512 x13_3 x19_3 x20_3 false) else ((satchellaw08_among.f k3 t512 ((rd_T31 l1 x20_3).f0)).bind fun t539 => (satchellaw08_TreeLeads.j3 k3 l0 l1 t503 t510 t511 t512 x13_3 x19_3 x20_3 (!t539)))) = some r := H
            have A60 := Aside0.mk A600
            clear A600
            by_cases c61 : t538 = true
            ·subst c61
             have H1 : (satchellaw08_TreeLeads.j3 k3 l0 l1 t503 t510 t511 t512 x13_3 x19_3 x20_3 false) = some r := by rw [if_pos rfl] at H; exact H
             clear H
             have H := H1
             clear H1
             have H' := Aside0.mk H
             clear H
             obtain ⟨Ao62, co62, eo62⟩ := Kd.R_slice HO_10.out
             subst eo62
             go_wp2_with (first | ((with_reducible refine gate_callee (f := 38) rfl ?_); refine goesL_ (some 111) rfl rfl Try.func38 (by kernel_rfl) rfl #[.slice Ao62 t510.length co62, .string ((rd_T31 l1 x20_3).f0)] rfl (by (try simp only [List.map_toArray, List.map_cons, List.map_nil]); first | done | rfl | (simp only [List.length_drop, List.length_take]; rfl)) ?_; (with_reducible refine (satchellaw08_among.calls k3 _ _ t510 ((rd_T31 l1 x20_3).f0) true _ ?side1 ?side2 A60.out).mono ?_); (case side1 => repeat (first | exact (Kd.R_reads' HO_10.out).2.2 | (with_reducible refine Kd.C_alloc ?_ _) | (with_reducible refine Kd.C_drewN ?_ _) | (with_reducible refine Kd.C_drew ?_))); (case side2 => exact (Kd.R_reads' HO_10.out).2.1); rintro e w' ⟨rfl, ⟨nd, rfl⟩⟩; refine ⟨_, rfl, ?_⟩))
             go_meet
             case rel => exact ⟨_, (false), (by first | rfl | (simp; done) | (simp [*]; done)), H', ⟨by have := HJ5.out; have := HK2.out; have := HK3.out; first | omega | exact Nat.le_refl _⟩, ⟨by (with_reducible repeat (first | apply Kd.R_alloc | apply Kd.R_drewN | apply Kd.R_drew)); exact HO_10.out⟩, ⟨by (with_reducible repeat (first | apply Kd.R_alloc | apply Kd.R_drewN | apply Kd.R_drew)); exact HO_11.out⟩, ⟨by (with_reducible repeat (first | apply Kd.R_alloc | apply Kd.R_drewN | apply Kd.R_drew)); exact HO_12.out⟩, ⟨by (with_reducible repeat (first | apply Kd.N_alloc | apply Kd.N_drewN | apply Kd.N_drew)); exact HO_13.out⟩, ⟨by repeat (first | (with_reducible first | exact HB.out | apply below_alloc | apply pw_below_drewN | apply below_drew1) | exact HB.out)⟩⟩
            ·replace c61 := Bool.eq_false_iff.mpr c61
             subst c61
             have H1 : ((satchellaw08_among.f k3 t512 ((rd_T31 l1 x20_3).f0)).bind fun t539 => (satchellaw08_TreeLeads.j3 k3 l0 l1 t503 t510 t511 t512 x13_3 x19_3 x20_3 (!t539))) = some r := by rw [if_neg (show ¬ (false = true) by decide)] at H; exact H
             clear H
             have H := H1
             clear H1
             replace H := Option.bind_eq_some_iff.mp H
             obtain ⟨t539, A630, H⟩ := H
             replace H : (satchellaw08_TreeLeads.j3 k3 l0 l1 t503 t510 t511 t512 x13_3 x19_3 x20_3 (!t539)) = some r := H
             have A63 := Aside0.mk A630
             clear A630
             have H' := Aside0.mk H
             clear H
             obtain ⟨Ao64, co64, eo64⟩ := Kd.R_slice HO_10.out
             subst eo64
             go_wp2_with (first | ((with_reducible refine gate_callee (f := 38) rfl ?_); refine goesL_ (some 111) rfl rfl Try.func38 (by kernel_rfl) rfl #[.slice Ao64 t510.length co64, .string ((rd_T31 l1 x20_3).f0)] rfl (by (try simp only [List.map_toArray, List.map_cons, List.map_nil]); first | done | rfl | (simp only [List.length_drop, List.length_take]; rfl)) ?_; (with_reducible refine (satchellaw08_among.calls k3 _ _ t510 ((rd_T31 l1 x20_3).f0) false _ ?side1 ?side2 A60.out).mono ?_); (case side1 => repeat (first | exact (Kd.R_reads' HO_10.out).2.2 | (with_reducible refine Kd.C_alloc ?_ _) | (with_reducible refine Kd.C_drewN ?_ _) | (with_reducible refine Kd.C_drew ?_))); (case side2 => exact (Kd.R_reads' HO_10.out).2.1); rintro e w' ⟨rfl, ⟨nd, rfl⟩⟩; refine ⟨_, rfl, ?_⟩; obtain ⟨Ao65, co65, eo65⟩ := Kd.R_slice HO_12.out; subst eo65) | (go_at_call 38; (with_reducible refine (satchellaw08_among.calls k3 _ _ t512 ((rd_T31 l1 x20_3).f0) t539 _ ?side1 ?side2 A63.out).mono ?_); (case side1 => repeat (first | exact (Kd.R_reads' HO_12.out).2.2 | (with_reducible refine Kd.C_alloc ?_ _) | (with_reducible refine Kd.C_drewN ?_ _) | (with_reducible refine Kd.C_drew ?_))); (case side2 => exact (Kd.R_reads' HO_12.out).2.1); rintro e w' ⟨rfl, ⟨nd, rfl⟩⟩))
             go_meet
             case rel => exact ⟨_, (!t539), (by first | rfl | (simp; done) | (simp [*]; done)), H', ⟨by have := HJ5.out; have := HK2.out; have := HK3.out; first | omega | exact Nat.le_refl _⟩, ⟨by (with_reducible repeat (first | apply Kd.R_alloc | apply Kd.R_drewN | apply Kd.R_drew)); exact HO_10.out⟩, ⟨by (with_reducible repeat (first | apply Kd.R_alloc | apply Kd.R_drewN | apply Kd.R_drew)); exact HO_11.out⟩, ⟨by (with_reducible repeat (first | apply Kd.R_alloc | apply Kd.R_drewN | apply Kd.R_drew)); exact HO_12.out⟩, ⟨by (with_reducible repeat (first | apply Kd.N_alloc | apply Kd.N_drewN | apply Kd.N_drew)); exact HO_13.out⟩, ⟨by repeat (first | (with_reducible first | exact HB.out | apply below_alloc | apply pw_below_drewN | apply below_drew1) | exact HB.out)⟩⟩
           case rest =>
            clear HC59
            try clear c1
            try clear c2
            try clear p2
            try clear c3
            try clear c5
            try clear p5
            try clear q5
            try clear hx5
            try clear c6
            try clear p6
            try clear c7
            try clear c9
            try clear c11
            try clear c12
            try clear c13
            try clear c14
            try clear c14b0
            try clear c14b1
            try clear c15
            try clear c18
            try clear c20
            try clear c20b0
            try clear c21
            try clear c21b0
            try clear c23
            try clear c25
            try clear c25b0
            try clear c25b1
            try clear c26
            try clear c26b0
            try clear c26b1
            try clear c32
            try clear c38
            try clear p52
            try clear q52
            try clear hx52
            try clear c53
            try clear p53
            try clear q53
            try clear hx53
            try clear c57
            try clear c57b0
            try clear c58
            try clear c58b0
            try clear c61
            try clear p64
            try clear hcz31_0
            try clear hcz31_1
            try clear hcz31_2
            try clear hcz31_3
            try clear hcz31_4
            try clear hcz39_0
            try clear hcz39_1
            try clear hcz39_2
            try clear hcz39_3
            try clear hcz39_4
            try clear hcz47_0
            try clear hcz47_1
            try clear hcz47_2
            try clear hcz47_3
            try clear hcz47_4
            try clear hcz54_0
            try clear hcz54_1
            try clear hcz54_2
            try clear hcz54_3
            try clear hcz54_4
            try clear hfz31_0
            try clear hfz31_1
            try clear hfz31_2
            try clear hfz31_3
            try clear hfz31_4
            try clear hfz39_0
            try clear hfz39_1
            try clear hfz39_2
            try clear hfz39_3
            try clear hfz39_4
            try clear hfz47_0
            try clear hfz47_1
            try clear hfz47_2
            try clear hfz47_3
            try clear hfz47_4
            try clear hfz54_0
            try clear hfz54_1
            try clear hfz54_2
            try clear hfz54_3
            try clear hfz54_4
            try clear hx522_0
            try clear hx532_0
            try clear hx537_0
            try clear hx537_1
            try clear hx537_2
            try clear hx537_3
            try clear hx537_4
            try clear p2
            try clear p5
            try clear p52
            try clear p522
            try clear p53
            try clear p532
            try clear p537
            try clear p6
            try clear q5
            try clear q52
            try clear q522
            try clear q53
            try clear q532
            try clear q537
            obtain ⟨kq, x118_58, rfl, HA, HJ58, HO_10, HO_11, HO_12, HO_13, HB⟩ := hcut
            cases kq with
            | zero => exact absurd HA.out (by simp [satchellaw08_TreeLeads.j3])
            | succ kj58 =>
             have H := HA.out
             clear HA
             simp only [satchellaw08_TreeLeads.j3] at H
             by_cases c66 : x118_58 = true
             ·subst c66
              have H1 : (satchellaw08_TreeLeads.l1 kj58 l0 l1 t503 t510 t511 t512 x13_3 x19_3 (wrap64 (x20_3 + 1))) = some r := by rw [if_pos rfl] at H; exact H
              clear H
              have H := H1
              clear H1
              have H' := Aside0.mk H
              clear H
              go_wp2
              go_roundg kj58
              case measure => have := HJ5.out; have := HK2.out; have := HK3.out; have := HJ58.out; omega
              case rel => exact ⟨(x13_3), (x19_3), (wrap64 (x20_3 + 1)), (by first | rfl | (simp; done) | (simp [*]; done)), (by first | rfl | (simp; done) | (simp [*]; done)), H', ⟨by have := HJ5.out; have := HK2.out; have := HK3.out; have := HJ58.out; omega⟩, ⟨by (with_reducible repeat (first | apply Kd.R_alloc | apply Kd.R_drewN | apply Kd.R_drew)); exact HO_10.out⟩, ⟨by (with_reducible repeat (first | apply Kd.R_alloc | apply Kd.R_drewN | apply Kd.R_drew)); exact HO_11.out⟩, ⟨by (with_reducible repeat (first | apply Kd.R_alloc | apply Kd.R_drewN | apply Kd.R_drew)); exact HO_12.out⟩, ⟨by (with_reducible repeat (first | apply Kd.N_alloc | apply Kd.N_drewN | apply Kd.N_drew)); exact HO_13.out⟩, ⟨by repeat (first | (with_reducible first | exact HB.out | apply below_alloc | apply pw_below_drewN | apply below_drew1) | exact HB.out)⟩⟩
             ·replace c66 := Bool.eq_false_iff.mpr c66
              subst c66
              have H1 : (if 0 ≤ x20_3 then (if x20_3 < (l1.length : Int) then ((tree_Put.f kj58 x13_3 ((rd_T31 l1 x20_3).f0) ((rd_T31 l1 x20_3).f1) ((rd_T31 l1 x20_3).f2) ((rd_T31 l1 x20_3).f3) ((rd_T31 l1 x20_3).f4)).bind fun bt541 => (if bt541.2 = 0 then (satchellaw08_TreeLeads.l1 kj58 l0 l1 t503 t510 t511 t512 bt541.1 (wrap64 (x19_3 + 1)) (wrap64 (x20_3 + 1))) else (some false))) else (none)) else (none)) = some r := by rw [if_neg (show ¬ (false = true) by decide)] at H; exact H
              clear H
              have H := H1
              clear H1
              by_cases c67 : 0 ≤ x20_3
              ·rw [if_pos c67] at H
               have c67b0 : decide (0 ≤ x20_3) = true := decide_eq_true c67
               clear c67
               by_cases c68 : x20_3 < (l1.length : Int)
               ·rw [if_pos c68] at H
                have c68b0 : decide (x20_3 < (l1.length : Int)) = true := decide_eq_true c68
                clear c68
                replace H := Option.bind_eq_some_iff.mp H
                obtain ⟨⟨t541, t544⟩, A690, H⟩ := H
                replace H : (if t544 = 0 then (satchellaw08_TreeLeads.l1 kj58 l0 l1 t503 t510 t511 t512 t541 (wrap64 (x19_3 + 1)) (wrap64 (x20_3 + 1))) else (some false)) = some r := H
                have A69 := Aside0.mk A690
                clear A690
                by_cases c70 : t544 = 0
                ·rw [if_pos c70] at H
                 have c70b0 : (t544 == 0) = true := beq_iff_eq.mpr c70
                 have c70b1 : (t544 != 0) = false := bne_eq_false_iff_eq.mpr c70
                 clear c70
                 have H' := Aside0.mk H
                 clear H
                 have p540 : 0 ≤ (x20_3 : Int) := of_decide_eq_true (by first | (with_reducible assumption) | assumption)
                 have q540 : x20_3 < (l1.length : Int) := of_decide_eq_true (by first | (with_reducible assumption) | assumption)
                 obtain ⟨ad540, A540_3, c540_3, e540, hx540_0, hx540_1, hx540_2, hx540_3, hx540_4, hl540_3, hi540_3⟩ := at_T31 HR1.out x20_3 p540 q540
                 obtain rfl : ad537 = ad540 := (by injection e540)
                 replace hx540_0 := (HB.out.cell (World.block_lt_of_cell? w _ hx540_0)).trans hx540_0
                 replace hx540_1 := (HB.out.cell (World.block_lt_of_cell? w _ hx540_1)).trans hx540_1
                 replace hx540_2 := (HB.out.cell (World.block_lt_of_cell? w _ hx540_2)).trans hx540_2
                 replace hx540_3 := (HB.out.cell (World.block_lt_of_cell? w _ hx540_3)).trans hx540_3
                 replace hx540_4 := (HB.out.cell (World.block_lt_of_cell? w _ hx540_4)).trans hx540_4
                 have HR540_3 := Aside0.mk hi540_3
                 have HC540_3 := Aside0.mk hl540_3
                 clear hi540_3 hl540_3
                 replace p540 := eq_true p540
                 replace q540 := eq_true q540
                 obtain ⟨Ao71, co71, eo71⟩ := Kd.N_slice HO_13.out
                 subst eo71
                 go_wp2_with (first | ((with_reducible refine gate_callee (f := 30) rfl ?_); refine goesL_ (some 125) rfl rfl Try.func30 (by kernel_rfl) rfl #[.slice Ao71 x13_3.length co71, .agg #[.string ((rd_T31 l1 x20_3).f0), .int .i64 ((rd_T31 l1 x20_3).f1), .int .i64 ((rd_T31 l1 x20_3).f2), .slice A540_3 ((rd_T31 l1 x20_3).f3).length c540_3, .string ((rd_T31 l1 x20_3).f4)]] rfl (by (try simp only [List.map_toArray, List.map_cons, List.map_nil]); first | done | rfl | (simp only [List.length_drop, List.length_take]; rfl)) ?_; (with_reducible refine (tree_Put.calls kj58 _ _ x13_3 ((rd_T31 l1 x20_3).f0) ((rd_T31 l1 x20_3).f1) ((rd_T31 l1 x20_3).f2) _ _ ((rd_T31 l1 x20_3).f3) ((rd_T31 l1 x20_3).f4) t541 t544 _ ?side1 ?side2 ?side3 ?side4 A69.out).mono ?_); (case side1 => repeat (first | exact (Kd.N_reads' HO_13.out).2.2 | (with_reducible refine Kd.C_alloc ?_ _) | (with_reducible refine Kd.C_drewN ?_ _) | (with_reducible refine Kd.C_drew ?_))); (case side2 => exact (Kd.N_reads' HO_13.out).2.1); (case side3 => repeat (first | exact (Kd.C_below HR540_3.out HB.out) | (with_reducible refine Kd.C_alloc ?_ _) | (with_reducible refine Kd.C_drewN ?_ _) | (with_reducible refine Kd.C_drew ?_))); (case side4 => exact HC540_3.out); rintro e w72 ⟨v542, rfl, ho0, hb⟩; refine ⟨_, rfl, ?_⟩; have n0_ := Aside0.mk (Kd.R_below (by (with_reducible repeat (first | apply Kd.R_alloc | apply Kd.R_drewN | apply Kd.R_drew)); exact HO_10.out) hb); have n1_ := Aside0.mk (Kd.R_below (by (with_reducible repeat (first | apply Kd.R_alloc | apply Kd.R_drewN | apply Kd.R_drew)); exact HO_11.out) hb); have n2_ := Aside0.mk (Kd.R_below (by (with_reducible repeat (first | apply Kd.R_alloc | apply Kd.R_drewN | apply Kd.R_drew)); exact HO_12.out) hb); have n3_ := Aside0.mk (Kd.N_elder' (by (with_reducible repeat (first | apply Kd.N_alloc | apply Kd.N_drewN | apply Kd.N_drew)); exact HO_13.out) (by first | exact Kd.N_base ho0 | exact Kd.S_base ho0) hb); have n4_ := Aside0.mk (Kd.N_lower (Kd.N_mono (ok' := fun k_ => some k_ ≠ (v513 : Value).ownBlock ∧ some k_ ≠ (.slice Ao56 t511.length co56 : Value).ownBlock ∧ some k_ ≠ (v517 : Value).ownBlock ∧ some k_ ≠ (.slice Ao71 x13_3.length co71 : Value).ownBlock) (Kd.S_N (Kd.S_bound ho0)) (fun k_ hk_ => ⟨(Kd.fresh' (Kd.R_lt (by (with_reducible repeat (first | apply Kd.R_alloc | apply Kd.R_drewN | apply Kd.R_drew)); exact HO_10.out)) k_ hk_.2.1), (Kd.fresh' (Kd.R_lt (by (with_reducible repeat (first | apply Kd.R_alloc | apply Kd.R_drewN | apply Kd.R_drew)); exact HO_11.out)) k_ hk_.2.1), (Kd.fresh' (Kd.R_lt (by (with_reducible repeat (first | apply Kd.R_alloc | apply Kd.R_drewN | apply Kd.R_drew)); exact HO_12.out)) k_ hk_.2.1), (Kd.fresh' (Kd.N_lt (by (with_reducible repeat (first | apply Kd.N_alloc | apply Kd.N_drewN | apply Kd.N_drew)); exact HO_13.out)) k_ hk_.2.1)⟩)) (below_size (by repeat (first | (with_reducible first | exact HB.out | apply below_alloc | apply pw_below_drewN | apply below_drew1) | exact HB.out)))); have n5_ := Aside0.mk (below_step (by repeat (first | (with_reducible first | exact HB.out | apply below_alloc | apply pw_below_drewN | apply below_drew1) | exact HB.out)) hb); clear HO_10; clear HO_11; clear HO_12; clear HO_13; clear HB; have HO_10 := n0_; have HO_11 := n1_; have HO_12 := n2_; have HO_13 := n3_; have HO543 := n4_; have HB := n5_; clear n0_ n1_ n2_ n3_ n4_ n5_; (try clear hb); (try clear hb2); (try clear hk); (try clear hi); (try clear ho0)))
                 go_roundg kj58
                 case measure => have := HJ5.out; have := HK2.out; have := HK3.out; have := HJ58.out; omega
                 case rel => exact ⟨(t541), (wrap64 (x19_3 + 1)), (wrap64 (x20_3 + 1)), (by first | rfl | (simp; done) | (simp [*]; done)), (by first | rfl | (simp; done) | (simp [*]; done)), H', ⟨by have := HJ5.out; have := HK2.out; have := HK3.out; have := HJ58.out; omega⟩, ⟨by (with_reducible repeat (first | apply Kd.R_alloc | apply Kd.R_drewN | apply Kd.R_drew)); exact HO_10.out⟩, ⟨by (with_reducible repeat (first | apply Kd.R_alloc | apply Kd.R_drewN | apply Kd.R_drew)); exact HO_11.out⟩, ⟨by (with_reducible repeat (first | apply Kd.R_alloc | apply Kd.R_drewN | apply Kd.R_drew)); exact HO_12.out⟩, ⟨by (with_reducible repeat (first | apply Kd.N_alloc | apply Kd.N_drewN | apply Kd.N_drew)); exact Kd.N_mono HO543.out (fun _ hk => ⟨hk.1, ⟨hk.2.1, hk.2.2.1⟩⟩)⟩, ⟨by repeat (first | (with_reducible first | exact HB.out | apply below_alloc | apply pw_below_drewN | apply below_drew1) | exact HB.out)⟩⟩
                ·rw [if_neg c70] at H
                 have c70b0 : (t544 == 0) = false := beq_eq_false_iff_ne.mpr c70
                 have c70b1 : (t544 != 0) = true := bne_iff_ne.mpr c70
                 obtain rfl := Option.some.inj H
                 have p540 : 0 ≤ (x20_3 : Int) := of_decide_eq_true (by first | (with_reducible assumption) | assumption)
                 have q540 : x20_3 < (l1.length : Int) := of_decide_eq_true (by first | (with_reducible assumption) | assumption)
                 obtain ⟨ad540, A540_3, c540_3, e540, hx540_0, hx540_1, hx540_2, hx540_3, hx540_4, hl540_3, hi540_3⟩ := at_T31 HR1.out x20_3 p540 q540
                 obtain rfl : ad537 = ad540 := (by injection e540)
                 replace hx540_0 := (HB.out.cell (World.block_lt_of_cell? w _ hx540_0)).trans hx540_0
                 replace hx540_1 := (HB.out.cell (World.block_lt_of_cell? w _ hx540_1)).trans hx540_1
                 replace hx540_2 := (HB.out.cell (World.block_lt_of_cell? w _ hx540_2)).trans hx540_2
                 replace hx540_3 := (HB.out.cell (World.block_lt_of_cell? w _ hx540_3)).trans hx540_3
                 replace hx540_4 := (HB.out.cell (World.block_lt_of_cell? w _ hx540_4)).trans hx540_4
                 have HR540_3 := Aside0.mk hi540_3
                 have HC540_3 := Aside0.mk hl540_3
                 clear hi540_3 hl540_3
                 replace p540 := eq_true p540
                 replace q540 := eq_true q540
                 obtain ⟨Ao73, co73, eo73⟩ := Kd.N_slice HO_13.out
                 subst eo73
                 go_wp2_with (first | ((with_reducible refine gate_callee (f := 30) rfl ?_); refine goesL_ (some 125) rfl rfl Try.func30 (by kernel_rfl) rfl #[.slice Ao73 x13_3.length co73, .agg #[.string ((rd_T31 l1 x20_3).f0), .int .i64 ((rd_T31 l1 x20_3).f1), .int .i64 ((rd_T31 l1 x20_3).f2), .slice A540_3 ((rd_T31 l1 x20_3).f3).length c540_3, .string ((rd_T31 l1 x20_3).f4)]] rfl (by (try simp only [List.map_toArray, List.map_cons, List.map_nil]); first | done | rfl | (simp only [List.length_drop, List.length_take]; rfl)) ?_; (with_reducible refine (tree_Put.calls kj58 _ _ x13_3 ((rd_T31 l1 x20_3).f0) ((rd_T31 l1 x20_3).f1) ((rd_T31 l1 x20_3).f2) _ _ ((rd_T31 l1 x20_3).f3) ((rd_T31 l1 x20_3).f4) t541 t544 _ ?side1 ?side2 ?side3 ?side4 A69.out).mono ?_); (case side1 => repeat (first | exact (Kd.N_reads' HO_13.out).2.2 | (with_reducible refine Kd.C_alloc ?_ _) | (with_reducible refine Kd.C_drewN ?_ _) | (with_reducible refine Kd.C_drew ?_))); (case side2 => exact (Kd.N_reads' HO_13.out).2.1); (case side3 => repeat (first | exact (Kd.C_below HR540_3.out HB.out) | (with_reducible refine Kd.C_alloc ?_ _) | (with_reducible refine Kd.C_drewN ?_ _) | (with_reducible refine Kd.C_drew ?_))); (case side4 => exact HC540_3.out); rintro e w74 ⟨v542, rfl, ho0, hb⟩; refine ⟨_, rfl, ?_⟩; have n0_ := Aside0.mk (Kd.R_below (by (with_reducible repeat (first | apply Kd.R_alloc | apply Kd.R_drewN | apply Kd.R_drew)); exact HO_10.out) hb); have n1_ := Aside0.mk (Kd.R_below (by (with_reducible repeat (first | apply Kd.R_alloc | apply Kd.R_drewN | apply Kd.R_drew)); exact HO_11.out) hb); have n2_ := Aside0.mk (Kd.R_below (by (with_reducible repeat (first | apply Kd.R_alloc | apply Kd.R_drewN | apply Kd.R_drew)); exact HO_12.out) hb); have n3_ := Aside0.mk (Kd.N_elder' (by (with_reducible repeat (first | apply Kd.N_alloc | apply Kd.N_drewN | apply Kd.N_drew)); exact HO_13.out) (by first | exact Kd.N_base ho0 | exact Kd.S_base ho0) hb); have n4_ := Aside0.mk (Kd.N_lower (Kd.N_mono (ok' := fun k_ => some k_ ≠ (v513 : Value).ownBlock ∧ some k_ ≠ (.slice Ao56 t511.length co56 : Value).ownBlock ∧ some k_ ≠ (v517 : Value).ownBlock ∧ some k_ ≠ (.slice Ao73 x13_3.length co73 : Value).ownBlock) (Kd.S_N (Kd.S_bound ho0)) (fun k_ hk_ => ⟨(Kd.fresh' (Kd.R_lt (by (with_reducible repeat (first | apply Kd.R_alloc | apply Kd.R_drewN | apply Kd.R_drew)); exact HO_10.out)) k_ hk_.2.1), (Kd.fresh' (Kd.R_lt (by (with_reducible repeat (first | apply Kd.R_alloc | apply Kd.R_drewN | apply Kd.R_drew)); exact HO_11.out)) k_ hk_.2.1), (Kd.fresh' (Kd.R_lt (by (with_reducible repeat (first | apply Kd.R_alloc | apply Kd.R_drewN | apply Kd.R_drew)); exact HO_12.out)) k_ hk_.2.1), (Kd.fresh' (Kd.N_lt (by (with_reducible repeat (first | apply Kd.N_alloc | apply Kd.N_drewN | apply Kd.N_drew)); exact HO_13.out)) k_ hk_.2.1)⟩)) (below_size (by repeat (first | (with_reducible first | exact HB.out | apply below_alloc | apply pw_below_drewN | apply below_drew1) | exact HB.out)))); have n5_ := Aside0.mk (below_step (by repeat (first | (with_reducible first | exact HB.out | apply below_alloc | apply pw_below_drewN | apply below_drew1) | exact HB.out)) hb); clear HO_10; clear HO_11; clear HO_12; clear HO_13; clear HB; have HO_10 := n0_; have HO_11 := n1_; have HO_12 := n2_; have HO_13 := n3_; have HO543 := n4_; have HB := n5_; clear n0_ n1_ n2_ n3_ n4_ n5_; (try clear hb); (try clear hb2); (try clear hk); (try clear hi); (try clear ho0)))
                 go_ret
                 exact ⟨by first | rfl | (simp [errW_none, errW_some] <;> rfl) | (simp [*, errW_none, errW_some] <;> rfl) | (simp [bt, *]; done) | (simp_all [bt]; done), by repeat (first | (with_reducible first | exact HB.out | apply below_alloc | apply pw_below_drewN | apply below_drew1) | exact HB.out)⟩
               ·rw [if_neg c68] at H
                exact absurd H (by simp)
              ·rw [if_neg c67] at H
               exact absurd H (by simp)
          ·rw [if_neg c58] at H
           exact absurd H (by simp)
         ·rw [if_neg c57] at H
          have c57b0 : decide (x20_3 < (l1.length : Int)) = false := decide_eq_false c57
          clear c57
          replace H := Option.bind_eq_some_iff.mp H
          obtain ⟨⟨t545, t546, t547⟩, A750, H⟩ := H
          replace H : (if t503 = true then (if x19_3 = (wrap64 ((t510.length : Int) + (t512.length : Int))) then ((satchelkit_SameTree.f x13_3 l1).bind fun t554 => (if t554 = true then ((tree_Same.f x13_3 l1).bind fun t555 => (if t555 = true then (if (wrap64 ((wrap64 ((t545.length : Int) + (t546.length : Int))) + (t547.length : Int))) = 0 then ((tree_Same.f l0 l1).bind fun t556 => (some (t556 == ((wrap64 ((wrap64 ((t510.length : Int) + (t511.length : Int))) + (t512.length : Int))) == 0)))) else (some false)) else (some false))) else (some false))) else (some false)) else (some false)) = some r := H
          have A75 := Aside0.mk A750
          clear A750
          by_cases c76 : t503 = true
          ·subst c76
           have H1 : (if x19_3 = (wrap64 ((t510.length : Int) + (t512.length : Int))) then ((satchelkit_SameTree.f x13_3 l1).bind fun t554 => (if t554 = true then ((tree_Same.f x13_3 l1).bind fun t555 => (if t555 = true then (if (wrap64 ((wrap64 ((t545.length : Int) + (t546.length : Int))) + (t547.length : Int))) = 0 then ((tree_Same.f l0 l1).bind fun t556 => (some (t556 == ((wrap64 ((wrap64 ((t510.length : Int) + (t511.length : Int))) + (t512.length : Int))) == 0)))) else (some false)) else (some false))) else (some false))) else (some false)) = some r := by rw [if_pos rfl] at H; exact H
           clear H
           have H := H1
           clear H1
           by_cases c77 : x19_3 = (wrap64 ((t510.length : Int) + (t512.length : Int)))
           ·rw [if_pos c77] at H
            have c77b0 : (x19_3 == (wrap64 ((t510.length : Int) + (t512.length : Int)))) = true := beq_iff_eq.mpr c77
            have c77b1 : (x19_3 != (wrap64 ((t510.length : Int) + (t512.length : Int)))) = false := bne_eq_false_iff_eq.mpr c77
            clear c77
            replace H := Option.bind_eq_some_iff.mp H
            obtain ⟨t554, A780, H⟩ := H
            replace H : (if t554 = true then ((tree_Same.f x13_3 l1).bind fun t555 => (if t555 = true then (if (wrap64 ((wrap64 ((t545.length : Int) + (t546.length : Int))) + (t547.length : Int))) = 0 then ((tree_Same.f l0 l1).bind fun t556 => (some (t556 == ((wrap64 ((wrap64 ((t510.length : Int) + (t511.length : Int))) + (t512.length : Int))) == 0)))) else (some false)) else (some false))) else (some false)) = some r := H
            have A78 := Aside0.mk A780
            clear A780
            by_cases c79 : t554 = true
            ·subst c79
             have H1 : ((tree_Same.f x13_3 l1).bind fun t555 => (if t555 = true then (if (wrap64 ((wrap64 ((t545.length : Int) + (t546.length : Int))) + (t547.length : Int))) = 0 then ((tree_Same.f l0 l1).bind fun t556 => (some (t556 == ((wrap64 ((wrap64 ((t510.length : Int) + (t511.length : Int))) + (t512.length : Int))) == 0)))) else (some false)) else (some false))) = some r := by rw [if_pos rfl] at H; exact H
             clear H
             have H := H1
             clear H1
             replace H := Option.bind_eq_some_iff.mp H
             obtain ⟨t555, A800, H⟩ := H
             replace H : (if t555 = true then (if (wrap64 ((wrap64 ((t545.length : Int) + (t546.length : Int))) + (t547.length : Int))) = 0 then ((tree_Same.f l0 l1).bind fun t556 => (some (t556 == ((wrap64 ((wrap64 ((t510.length : Int) + (t511.length : Int))) + (t512.length : Int))) == 0)))) else (some false)) else (some false)) = some r := H
             have A80 := Aside0.mk A800
             clear A800
             by_cases c81 : t555 = true
             ·subst c81
              have H1 : (if (wrap64 ((wrap64 ((t545.length : Int) + (t546.length : Int))) + (t547.length : Int))) = 0 then ((tree_Same.f l0 l1).bind fun t556 => (some (t556 == ((wrap64 ((wrap64 ((t510.length : Int) + (t511.length : Int))) + (t512.length : Int))) == 0)))) else (some false)) = some r := by rw [if_pos rfl] at H; exact H
              clear H
              have H := H1
              clear H1
              by_cases c82 : (wrap64 ((wrap64 ((t545.length : Int) + (t546.length : Int))) + (t547.length : Int))) = 0
              ·rw [if_pos c82] at H
               have c82b0 : ((wrap64 ((wrap64 ((t545.length : Int) + (t546.length : Int))) + (t547.length : Int))) == 0) = true := beq_iff_eq.mpr c82
               have c82b1 : ((wrap64 ((wrap64 ((t545.length : Int) + (t546.length : Int))) + (t547.length : Int))) != 0) = false := bne_eq_false_iff_eq.mpr c82
               clear c82
               replace H := Option.bind_eq_some_iff.mp H
               obtain ⟨t556, A830, H⟩ := H
               replace H : (some (t556 == ((wrap64 ((wrap64 ((t510.length : Int) + (t511.length : Int))) + (t512.length : Int))) == 0))) = some r := H
               have A83 := Aside0.mk A830
               clear A830
               obtain rfl := Option.some.inj H
               go_wp2_with (first | ((with_reducible refine gate_callee (f := 25) rfl ?_); refine goesL_ (some 136) rfl rfl Try.func25 (by kernel_rfl) rfl #[.slice A1 l1.length c1, .slice A1 l1.length c1] rfl (by (try simp only [List.map_toArray, List.map_cons, List.map_nil]); first | done | rfl | (simp only [List.length_drop, List.length_take]; rfl)) ?_; (with_reducible refine (tree_Diff.calls k3 _ _ l1 _ _ l1 t545 t546 t547 _ ?side1 ?side2 ?side3 ?side4 A75.out).mono ?_); (case side1 => repeat (first | exact (Kd.C_below HR1.out HB.out) | (with_reducible refine Kd.C_alloc ?_ _) | (with_reducible refine Kd.C_drewN ?_ _) | (with_reducible refine Kd.C_drew ?_))); (case side2 => exact HC1.out); (case side3 => repeat (first | exact (Kd.C_below HR1.out HB.out) | (with_reducible refine Kd.C_alloc ?_ _) | (with_reducible refine Kd.C_drewN ?_ _) | (with_reducible refine Kd.C_drew ?_))); (case side4 => exact HC1.out); rintro e w84 ⟨v548, v550, v552, rfl, ho0, ho1, ho2, hb⟩; refine ⟨_, rfl, ?_⟩; have n0_ := Aside0.mk (Kd.R_mono (Kd.R_told (Kd.R_told (Kd.R_told (Kd.R_old (by (with_reducible repeat (first | apply Kd.R_alloc | apply Kd.R_drewN | apply Kd.R_drew)); exact HO_10.out) hb) (Kd.R_base ho0)) (Kd.R_base ho1)) (Kd.R_base ho2)) (fun _ h_ => h_.1)); have n1_ := Aside0.mk (Kd.R_mono (Kd.R_told (Kd.R_told (Kd.R_told (Kd.R_old (by (with_reducible repeat (first | apply Kd.R_alloc | apply Kd.R_drewN | apply Kd.R_drew)); exact HO_11.out) hb) (Kd.R_base ho0)) (Kd.R_base ho1)) (Kd.R_base ho2)) (fun _ h_ => h_.1)); have n2_ := Aside0.mk (Kd.R_mono (Kd.R_told (Kd.R_told (Kd.R_told (Kd.R_old (by (with_reducible repeat (first | apply Kd.R_alloc | apply Kd.R_drewN | apply Kd.R_drew)); exact HO_12.out) hb) (Kd.R_base ho0)) (Kd.R_base ho1)) (Kd.R_base ho2)) (fun _ h_ => h_.1)); have n3_ := Aside0.mk (Kd.N_mono (Kd.N_told (Kd.N_told (Kd.N_told (Kd.N_old (by (with_reducible repeat (first | apply Kd.N_alloc | apply Kd.N_drewN | apply Kd.N_drew)); exact HO_13.out) hb) (Kd.R_base ho0)) (Kd.R_base ho1)) (Kd.R_base ho2)) (fun _ h_ => h_.1)); have n4_ := Aside0.mk (Kd.R_lower (Kd.R_new' (Kd.R_new' (Kd.R_new' ho0 (Kd.R_lt (by (with_reducible repeat (first | apply Kd.R_alloc | apply Kd.R_drewN | apply Kd.R_drew)); exact HO_10.out))) (Kd.R_lt (by (with_reducible repeat (first | apply Kd.R_alloc | apply Kd.R_drewN | apply Kd.R_drew)); exact HO_11.out))) (Kd.R_lt (by (with_reducible repeat (first | apply Kd.R_alloc | apply Kd.R_drewN | apply Kd.R_drew)); exact HO_12.out))) (below_size (by repeat (first | (with_reducible first | exact HB.out | apply below_alloc | apply pw_below_drewN | apply below_drew1) | exact HB.out)))); have n5_ := Aside0.mk (Kd.R_lower (Kd.R_new' (Kd.R_new' (Kd.R_new' ho1 (Kd.R_lt (by (with_reducible repeat (first | apply Kd.R_alloc | apply Kd.R_drewN | apply Kd.R_drew)); exact HO_10.out))) (Kd.R_lt (by (with_reducible repeat (first | apply Kd.R_alloc | apply Kd.R_drewN | apply Kd.R_drew)); exact HO_11.out))) (Kd.R_lt (by (with_reducible repeat (first | apply Kd.R_alloc | apply Kd.R_drewN | apply Kd.R_drew)); exact HO_12.out))) (below_size (by repeat (first | (with_reducible first | exact HB.out | apply below_alloc | apply pw_below_drewN | apply below_drew1) | exact HB.out)))); have n6_ := Aside0.mk (Kd.R_lower (Kd.R_new' (Kd.R_new' (Kd.R_new' ho2 (Kd.R_lt (by (with_reducible repeat (first | apply Kd.R_alloc | apply Kd.R_drewN | apply Kd.R_drew)); exact HO_10.out))) (Kd.R_lt (by (with_reducible repeat (first | apply Kd.R_alloc | apply Kd.R_drewN | apply Kd.R_drew)); exact HO_11.out))) (Kd.R_lt (by (with_reducible repeat (first | apply Kd.R_alloc | apply Kd.R_drewN | apply Kd.R_drew)); exact HO_12.out))) (below_size (by repeat (first | (with_reducible first | exact HB.out | apply below_alloc | apply pw_below_drewN | apply below_drew1) | exact HB.out)))); have n7_ := Aside0.mk (below_step (by repeat (first | (with_reducible first | exact HB.out | apply below_alloc | apply pw_below_drewN | apply below_drew1) | exact HB.out)) hb); clear HO_10; clear HO_11; clear HO_12; clear HO_13; clear HB; have HO_10 := n0_; have HO_11 := n1_; have HO_12 := n2_; have HO_13 := n3_; have HO549 := n4_; have HO551 := n5_; have HO553 := n6_; have HB := n7_; clear n0_ n1_ n2_ n3_ n4_ n5_ n6_ n7_; (try clear hb); (try clear hb2); (try clear hk); (try clear hi); (try clear ho0); (try clear ho1); (try clear ho2); obtain ⟨Ao85, co85, eo85⟩ := Kd.R_slice HO_10.out; subst eo85; obtain ⟨Ao86, co86, eo86⟩ := Kd.R_slice HO_12.out; subst eo86; obtain ⟨Ao87, co87, eo87⟩ := Kd.N_slice HO_13.out; subst eo87) | (go_at_call 16; (with_reducible refine (satchelkit_SameTree.calls _ _ x13_3 _ _ l1 true _ ?side1 ?side2 ?side3 ?side4 A78.out).mono ?_); (case side1 => repeat (first | exact (Kd.N_reads' HO_13.out).2.2 | (with_reducible refine Kd.C_alloc ?_ _) | (with_reducible refine Kd.C_drewN ?_ _) | (with_reducible refine Kd.C_drew ?_))); (case side2 => exact (Kd.N_reads' HO_13.out).2.1); (case side3 => repeat (first | exact (Kd.C_below HR1.out HB.out) | (with_reducible refine Kd.C_alloc ?_ _) | (with_reducible refine Kd.C_drewN ?_ _) | (with_reducible refine Kd.C_drew ?_))); (case side4 => exact HC1.out); rintro e w' ⟨rfl, ⟨nd, rfl⟩⟩) | (go_at_call 28; (with_reducible refine (tree_Same.calls _ _ x13_3 _ _ l1 true _ ?side1 ?side2 ?side3 ?side4 A80.out).mono ?_); (case side1 => repeat (first | exact (Kd.N_reads' HO_13.out).2.2 | (with_reducible refine Kd.C_alloc ?_ _) | (with_reducible refine Kd.C_drewN ?_ _) | (with_reducible refine Kd.C_drew ?_))); (case side2 => exact (Kd.N_reads' HO_13.out).2.1); (case side3 => repeat (first | exact (Kd.C_below HR1.out (by repeat (first | (with_reducible first | exact HB.out | apply below_alloc | apply pw_below_drewN | apply below_drew1) | exact HB.out))) | (with_reducible refine Kd.C_alloc ?_ _) | (with_reducible refine Kd.C_drewN ?_ _) | (with_reducible refine Kd.C_drew ?_))); (case side4 => exact HC1.out); rintro e w88 ⟨rfl, hb⟩; have n0_ := Aside0.mk (Kd.R_below (by (with_reducible repeat (first | apply Kd.R_alloc | apply Kd.R_drewN | apply Kd.R_drew)); exact HO_10.out) hb); have n1_ := Aside0.mk (Kd.R_below (by (with_reducible repeat (first | apply Kd.R_alloc | apply Kd.R_drewN | apply Kd.R_drew)); exact HO_11.out) hb); have n2_ := Aside0.mk (Kd.R_below (by (with_reducible repeat (first | apply Kd.R_alloc | apply Kd.R_drewN | apply Kd.R_drew)); exact HO_12.out) hb); have n3_ := Aside0.mk (Kd.N_below (by (with_reducible repeat (first | apply Kd.N_alloc | apply Kd.N_drewN | apply Kd.N_drew)); exact HO_13.out) hb); have n4_ := Aside0.mk (Kd.R_below (by (with_reducible repeat (first | apply Kd.R_alloc | apply Kd.R_drewN | apply Kd.R_drew)); exact HO549.out) hb); have n5_ := Aside0.mk (Kd.R_below (by (with_reducible repeat (first | apply Kd.R_alloc | apply Kd.R_drewN | apply Kd.R_drew)); exact HO551.out) hb); have n6_ := Aside0.mk (Kd.R_below (by (with_reducible repeat (first | apply Kd.R_alloc | apply Kd.R_drewN | apply Kd.R_drew)); exact HO553.out) hb); have n7_ := Aside0.mk (below_step (by repeat (first | (with_reducible first | exact HB.out | apply below_alloc | apply pw_below_drewN | apply below_drew1) | exact HB.out)) hb); clear HO_10; clear HO_11; clear HO_12; clear HO_13; clear HO549; clear HO551; clear HO553; clear HB; have HO_10 := n0_; have HO_11 := n1_; have HO_12 := n2_; have HO_13 := n3_; have HO549 := n4_; have HO551 := n5_; have HO553 := n6_; have HB := n7_; clear n0_ n1_ n2_ n3_ n4_ n5_ n6_ n7_; (try clear hb); (try clear hb2); (try clear hk); (try clear hi); obtain ⟨Ao89, co89, eo89⟩ := Kd.R_slice HO549.out; subst eo89; obtain ⟨Ao90, co90, eo90⟩ := Kd.R_slice HO551.out; subst eo90; obtain ⟨Ao91, co91, eo91⟩ := Kd.R_slice HO553.out; subst eo91) | (go_at_call 28; (with_reducible refine (tree_Same.calls _ _ l0 _ _ l1 t556 _ ?side1 ?side2 ?side3 ?side4 A83.out).mono ?_); (case side1 => repeat (first | exact (Kd.C_below HR0.out HB.out) | (with_reducible refine Kd.C_alloc ?_ _) | (with_reducible refine Kd.C_drewN ?_ _) | (with_reducible refine Kd.C_drew ?_))); (case side2 => exact HC0.out); (case side3 => repeat (first | exact (Kd.C_below HR1.out HB.out) | (with_reducible refine Kd.C_alloc ?_ _) | (with_reducible refine Kd.C_drewN ?_ _) | (with_reducible refine Kd.C_drew ?_))); (case side4 => exact HC1.out); rintro e w92 ⟨rfl, hb⟩; have n0_ := Aside0.mk (Kd.R_below (by (with_reducible repeat (first | apply Kd.R_alloc | apply Kd.R_drewN | apply Kd.R_drew)); exact HO_10.out) hb); have n1_ := Aside0.mk (Kd.R_below (by (with_reducible repeat (first | apply Kd.R_alloc | apply Kd.R_drewN | apply Kd.R_drew)); exact HO_11.out) hb); have n2_ := Aside0.mk (Kd.R_below (by (with_reducible repeat (first | apply Kd.R_alloc | apply Kd.R_drewN | apply Kd.R_drew)); exact HO_12.out) hb); have n3_ := Aside0.mk (Kd.N_below (by (with_reducible repeat (first | apply Kd.N_alloc | apply Kd.N_drewN | apply Kd.N_drew)); exact HO_13.out) hb); have n4_ := Aside0.mk (Kd.R_below (by (with_reducible repeat (first | apply Kd.R_alloc | apply Kd.R_drewN | apply Kd.R_drew)); exact HO549.out) hb); have n5_ := Aside0.mk (Kd.R_below (by (with_reducible repeat (first | apply Kd.R_alloc | apply Kd.R_drewN | apply Kd.R_drew)); exact HO551.out) hb); have n6_ := Aside0.mk (Kd.R_below (by (with_reducible repeat (first | apply Kd.R_alloc | apply Kd.R_drewN | apply Kd.R_drew)); exact HO553.out) hb); have n7_ := Aside0.mk (below_step (by repeat (first | (with_reducible first | exact HB.out | apply below_alloc | apply pw_below_drewN | apply below_drew1) | exact HB.out)) hb); clear HO_10; clear HO_11; clear HO_12; clear HO_13; clear HO549; clear HO551; clear HO553; clear HB; have HO_10 := n0_; have HO_11 := n1_; have HO_12 := n2_; have HO_13 := n3_; have HO549 := n4_; have HO551 := n5_; have HO553 := n6_; have HB := n7_; clear n0_ n1_ n2_ n3_ n4_ n5_ n6_ n7_; (try clear hb); (try clear hb2); (try clear hk); (try clear hi)))
               go_ret
               exact ⟨by first | rfl | (simp [errW_none, errW_some] <;> rfl) | (simp [*, errW_none, errW_some] <;> rfl) | (simp [bt, *]; done) | (simp_all [bt]; done), by repeat (first | (with_reducible first | exact HB.out | apply below_alloc | apply pw_below_drewN | apply below_drew1) | exact HB.out)⟩
              ·rw [if_neg c82] at H
               have c82b0 : ((wrap64 ((wrap64 ((t545.length : Int) + (t546.length : Int))) + (t547.length : Int))) == 0) = false := beq_eq_false_iff_ne.mpr c82
               have c82b1 : ((wrap64 ((wrap64 ((t545.length : Int) + (t546.length : Int))) + (t547.length : Int))) != 0) = true := bne_iff_ne.mpr c82
               obtain rfl := Option.some.inj H
               go_wp2_with (first | ((with_reducible refine gate_callee (f := 25) rfl ?_); refine goesL_ (some 136) rfl rfl Try.func25 (by kernel_rfl) rfl #[.slice A1 l1.length c1, .slice A1 l1.length c1] rfl (by (try simp only [List.map_toArray, List.map_cons, List.map_nil]); first | done | rfl | (simp only [List.length_drop, List.length_take]; rfl)) ?_; (with_reducible refine (tree_Diff.calls k3 _ _ l1 _ _ l1 t545 t546 t547 _ ?side1 ?side2 ?side3 ?side4 A75.out).mono ?_); (case side1 => repeat (first | exact (Kd.C_below HR1.out HB.out) | (with_reducible refine Kd.C_alloc ?_ _) | (with_reducible refine Kd.C_drewN ?_ _) | (with_reducible refine Kd.C_drew ?_))); (case side2 => exact HC1.out); (case side3 => repeat (first | exact (Kd.C_below HR1.out HB.out) | (with_reducible refine Kd.C_alloc ?_ _) | (with_reducible refine Kd.C_drewN ?_ _) | (with_reducible refine Kd.C_drew ?_))); (case side4 => exact HC1.out); rintro e w93 ⟨v548, v550, v552, rfl, ho0, ho1, ho2, hb⟩; refine ⟨_, rfl, ?_⟩; have n0_ := Aside0.mk (Kd.R_mono (Kd.R_told (Kd.R_told (Kd.R_told (Kd.R_old (by (with_reducible repeat (first | apply Kd.R_alloc | apply Kd.R_drewN | apply Kd.R_drew)); exact HO_10.out) hb) (Kd.R_base ho0)) (Kd.R_base ho1)) (Kd.R_base ho2)) (fun _ h_ => h_.1)); have n1_ := Aside0.mk (Kd.R_mono (Kd.R_told (Kd.R_told (Kd.R_told (Kd.R_old (by (with_reducible repeat (first | apply Kd.R_alloc | apply Kd.R_drewN | apply Kd.R_drew)); exact HO_11.out) hb) (Kd.R_base ho0)) (Kd.R_base ho1)) (Kd.R_base ho2)) (fun _ h_ => h_.1)); have n2_ := Aside0.mk (Kd.R_mono (Kd.R_told (Kd.R_told (Kd.R_told (Kd.R_old (by (with_reducible repeat (first | apply Kd.R_alloc | apply Kd.R_drewN | apply Kd.R_drew)); exact HO_12.out) hb) (Kd.R_base ho0)) (Kd.R_base ho1)) (Kd.R_base ho2)) (fun _ h_ => h_.1)); have n3_ := Aside0.mk (Kd.N_mono (Kd.N_told (Kd.N_told (Kd.N_told (Kd.N_old (by (with_reducible repeat (first | apply Kd.N_alloc | apply Kd.N_drewN | apply Kd.N_drew)); exact HO_13.out) hb) (Kd.R_base ho0)) (Kd.R_base ho1)) (Kd.R_base ho2)) (fun _ h_ => h_.1)); have n4_ := Aside0.mk (Kd.R_lower (Kd.R_new' (Kd.R_new' (Kd.R_new' ho0 (Kd.R_lt (by (with_reducible repeat (first | apply Kd.R_alloc | apply Kd.R_drewN | apply Kd.R_drew)); exact HO_10.out))) (Kd.R_lt (by (with_reducible repeat (first | apply Kd.R_alloc | apply Kd.R_drewN | apply Kd.R_drew)); exact HO_11.out))) (Kd.R_lt (by (with_reducible repeat (first | apply Kd.R_alloc | apply Kd.R_drewN | apply Kd.R_drew)); exact HO_12.out))) (below_size (by repeat (first | (with_reducible first | exact HB.out | apply below_alloc | apply pw_below_drewN | apply below_drew1) | exact HB.out)))); have n5_ := Aside0.mk (Kd.R_lower (Kd.R_new' (Kd.R_new' (Kd.R_new' ho1 (Kd.R_lt (by (with_reducible repeat (first | apply Kd.R_alloc | apply Kd.R_drewN | apply Kd.R_drew)); exact HO_10.out))) (Kd.R_lt (by (with_reducible repeat (first | apply Kd.R_alloc | apply Kd.R_drewN | apply Kd.R_drew)); exact HO_11.out))) (Kd.R_lt (by (with_reducible repeat (first | apply Kd.R_alloc | apply Kd.R_drewN | apply Kd.R_drew)); exact HO_12.out))) (below_size (by repeat (first | (with_reducible first | exact HB.out | apply below_alloc | apply pw_below_drewN | apply below_drew1) | exact HB.out)))); have n6_ := Aside0.mk (Kd.R_lower (Kd.R_new' (Kd.R_new' (Kd.R_new' ho2 (Kd.R_lt (by (with_reducible repeat (first | apply Kd.R_alloc | apply Kd.R_drewN | apply Kd.R_drew)); exact HO_10.out))) (Kd.R_lt (by (with_reducible repeat (first | apply Kd.R_alloc | apply Kd.R_drewN | apply Kd.R_drew)); exact HO_11.out))) (Kd.R_lt (by (with_reducible repeat (first | apply Kd.R_alloc | apply Kd.R_drewN | apply Kd.R_drew)); exact HO_12.out))) (below_size (by repeat (first | (with_reducible first | exact HB.out | apply below_alloc | apply pw_below_drewN | apply below_drew1) | exact HB.out)))); have n7_ := Aside0.mk (below_step (by repeat (first | (with_reducible first | exact HB.out | apply below_alloc | apply pw_below_drewN | apply below_drew1) | exact HB.out)) hb); clear HO_10; clear HO_11; clear HO_12; clear HO_13; clear HB; have HO_10 := n0_; have HO_11 := n1_; have HO_12 := n2_; have HO_13 := n3_; have HO549 := n4_; have HO551 := n5_; have HO553 := n6_; have HB := n7_; clear n0_ n1_ n2_ n3_ n4_ n5_ n6_ n7_; (try clear hb); (try clear hb2); (try clear hk); (try clear hi); (try clear ho0); (try clear ho1); (try clear ho2); obtain ⟨Ao94, co94, eo94⟩ := Kd.R_slice HO_10.out; subst eo94; obtain ⟨Ao95, co95, eo95⟩ := Kd.R_slice HO_12.out; subst eo95; obtain ⟨Ao96, co96, eo96⟩ := Kd.N_slice HO_13.out; subst eo96) | (go_at_call 16; (with_reducible refine (satchelkit_SameTree.calls _ _ x13_3 _ _ l1 true _ ?side1 ?side2 ?side3 ?side4 A78.out).mono ?_); (case side1 => repeat (first | exact (Kd.N_reads' HO_13.out).2.2 | (with_reducible refine Kd.C_alloc ?_ _) | (with_reducible refine Kd.C_drewN ?_ _) | (with_reducible refine Kd.C_drew ?_))); (case side2 => exact (Kd.N_reads' HO_13.out).2.1); (case side3 => repeat (first | exact (Kd.C_below HR1.out HB.out) | (with_reducible refine Kd.C_alloc ?_ _) | (with_reducible refine Kd.C_drewN ?_ _) | (with_reducible refine Kd.C_drew ?_))); (case side4 => exact HC1.out); rintro e w' ⟨rfl, ⟨nd, rfl⟩⟩) | (go_at_call 28; (with_reducible refine (tree_Same.calls _ _ x13_3 _ _ l1 true _ ?side1 ?side2 ?side3 ?side4 A80.out).mono ?_); (case side1 => repeat (first | exact (Kd.N_reads' HO_13.out).2.2 | (with_reducible refine Kd.C_alloc ?_ _) | (with_reducible refine Kd.C_drewN ?_ _) | (with_reducible refine Kd.C_drew ?_))); (case side2 => exact (Kd.N_reads' HO_13.out).2.1); (case side3 => repeat (first | exact (Kd.C_below HR1.out (by repeat (first | (with_reducible first | exact HB.out | apply below_alloc | apply pw_below_drewN | apply below_drew1) | exact HB.out))) | (with_reducible refine Kd.C_alloc ?_ _) | (with_reducible refine Kd.C_drewN ?_ _) | (with_reducible refine Kd.C_drew ?_))); (case side4 => exact HC1.out); rintro e w97 ⟨rfl, hb⟩; have n0_ := Aside0.mk (Kd.R_below (by (with_reducible repeat (first | apply Kd.R_alloc | apply Kd.R_drewN | apply Kd.R_drew)); exact HO_10.out) hb); have n1_ := Aside0.mk (Kd.R_below (by (with_reducible repeat (first | apply Kd.R_alloc | apply Kd.R_drewN | apply Kd.R_drew)); exact HO_11.out) hb); have n2_ := Aside0.mk (Kd.R_below (by (with_reducible repeat (first | apply Kd.R_alloc | apply Kd.R_drewN | apply Kd.R_drew)); exact HO_12.out) hb); have n3_ := Aside0.mk (Kd.N_below (by (with_reducible repeat (first | apply Kd.N_alloc | apply Kd.N_drewN | apply Kd.N_drew)); exact HO_13.out) hb); have n4_ := Aside0.mk (Kd.R_below (by (with_reducible repeat (first | apply Kd.R_alloc | apply Kd.R_drewN | apply Kd.R_drew)); exact HO549.out) hb); have n5_ := Aside0.mk (Kd.R_below (by (with_reducible repeat (first | apply Kd.R_alloc | apply Kd.R_drewN | apply Kd.R_drew)); exact HO551.out) hb); have n6_ := Aside0.mk (Kd.R_below (by (with_reducible repeat (first | apply Kd.R_alloc | apply Kd.R_drewN | apply Kd.R_drew)); exact HO553.out) hb); have n7_ := Aside0.mk (below_step (by repeat (first | (with_reducible first | exact HB.out | apply below_alloc | apply pw_below_drewN | apply below_drew1) | exact HB.out)) hb); clear HO_10; clear HO_11; clear HO_12; clear HO_13; clear HO549; clear HO551; clear HO553; clear HB; have HO_10 := n0_; have HO_11 := n1_; have HO_12 := n2_; have HO_13 := n3_; have HO549 := n4_; have HO551 := n5_; have HO553 := n6_; have HB := n7_; clear n0_ n1_ n2_ n3_ n4_ n5_ n6_ n7_; (try clear hb); (try clear hb2); (try clear hk); (try clear hi); obtain ⟨Ao98, co98, eo98⟩ := Kd.R_slice HO549.out; subst eo98; obtain ⟨Ao99, co99, eo99⟩ := Kd.R_slice HO551.out; subst eo99; obtain ⟨Ao100, co100, eo100⟩ := Kd.R_slice HO553.out; subst eo100))
               go_ret
               exact ⟨by first | rfl | (simp [errW_none, errW_some] <;> rfl) | (simp [*, errW_none, errW_some] <;> rfl) | (simp [bt, *]; done) | (simp_all [bt]; done), by repeat (first | (with_reducible first | exact HB.out | apply below_alloc | apply pw_below_drewN | apply below_drew1) | exact HB.out)⟩
             ·replace c81 := Bool.eq_false_iff.mpr c81
              subst c81
              have H1 : (some false) = some r := by rw [if_neg (show ¬ (false = true) by decide)] at H; exact H
              clear H
              have H := H1
              clear H1
              obtain rfl := Option.some.inj H
              go_wp2_with (first | ((with_reducible refine gate_callee (f := 25) rfl ?_); refine goesL_ (some 136) rfl rfl Try.func25 (by kernel_rfl) rfl #[.slice A1 l1.length c1, .slice A1 l1.length c1] rfl (by (try simp only [List.map_toArray, List.map_cons, List.map_nil]); first | done | rfl | (simp only [List.length_drop, List.length_take]; rfl)) ?_; (with_reducible refine (tree_Diff.calls k3 _ _ l1 _ _ l1 t545 t546 t547 _ ?side1 ?side2 ?side3 ?side4 A75.out).mono ?_); (case side1 => repeat (first | exact (Kd.C_below HR1.out HB.out) | (with_reducible refine Kd.C_alloc ?_ _) | (with_reducible refine Kd.C_drewN ?_ _) | (with_reducible refine Kd.C_drew ?_))); (case side2 => exact HC1.out); (case side3 => repeat (first | exact (Kd.C_below HR1.out HB.out) | (with_reducible refine Kd.C_alloc ?_ _) | (with_reducible refine Kd.C_drewN ?_ _) | (with_reducible refine Kd.C_drew ?_))); (case side4 => exact HC1.out); rintro e w101 ⟨v548, v550, v552, rfl, ho0, ho1, ho2, hb⟩; refine ⟨_, rfl, ?_⟩; have n0_ := Aside0.mk (Kd.R_mono (Kd.R_told (Kd.R_told (Kd.R_told (Kd.R_old (by (with_reducible repeat (first | apply Kd.R_alloc | apply Kd.R_drewN | apply Kd.R_drew)); exact HO_10.out) hb) (Kd.R_base ho0)) (Kd.R_base ho1)) (Kd.R_base ho2)) (fun _ h_ => h_.1)); have n1_ := Aside0.mk (Kd.R_mono (Kd.R_told (Kd.R_told (Kd.R_told (Kd.R_old (by (with_reducible repeat (first | apply Kd.R_alloc | apply Kd.R_drewN | apply Kd.R_drew)); exact HO_11.out) hb) (Kd.R_base ho0)) (Kd.R_base ho1)) (Kd.R_base ho2)) (fun _ h_ => h_.1)); have n2_ := Aside0.mk (Kd.R_mono (Kd.R_told (Kd.R_told (Kd.R_told (Kd.R_old (by (with_reducible repeat (first | apply Kd.R_alloc | apply Kd.R_drewN | apply Kd.R_drew)); exact HO_12.out) hb) (Kd.R_base ho0)) (Kd.R_base ho1)) (Kd.R_base ho2)) (fun _ h_ => h_.1)); have n3_ := Aside0.mk (Kd.N_mono (Kd.N_told (Kd.N_told (Kd.N_told (Kd.N_old (by (with_reducible repeat (first | apply Kd.N_alloc | apply Kd.N_drewN | apply Kd.N_drew)); exact HO_13.out) hb) (Kd.R_base ho0)) (Kd.R_base ho1)) (Kd.R_base ho2)) (fun _ h_ => h_.1)); have n4_ := Aside0.mk (Kd.R_lower (Kd.R_new' (Kd.R_new' (Kd.R_new' ho0 (Kd.R_lt (by (with_reducible repeat (first | apply Kd.R_alloc | apply Kd.R_drewN | apply Kd.R_drew)); exact HO_10.out))) (Kd.R_lt (by (with_reducible repeat (first | apply Kd.R_alloc | apply Kd.R_drewN | apply Kd.R_drew)); exact HO_11.out))) (Kd.R_lt (by (with_reducible repeat (first | apply Kd.R_alloc | apply Kd.R_drewN | apply Kd.R_drew)); exact HO_12.out))) (below_size (by repeat (first | (with_reducible first | exact HB.out | apply below_alloc | apply pw_below_drewN | apply below_drew1) | exact HB.out)))); have n5_ := Aside0.mk (Kd.R_lower (Kd.R_new' (Kd.R_new' (Kd.R_new' ho1 (Kd.R_lt (by (with_reducible repeat (first | apply Kd.R_alloc | apply Kd.R_drewN | apply Kd.R_drew)); exact HO_10.out))) (Kd.R_lt (by (with_reducible repeat (first | apply Kd.R_alloc | apply Kd.R_drewN | apply Kd.R_drew)); exact HO_11.out))) (Kd.R_lt (by (with_reducible repeat (first | apply Kd.R_alloc | apply Kd.R_drewN | apply Kd.R_drew)); exact HO_12.out))) (below_size (by repeat (first | (with_reducible first | exact HB.out | apply below_alloc | apply pw_below_drewN | apply below_drew1) | exact HB.out)))); have n6_ := Aside0.mk (Kd.R_lower (Kd.R_new' (Kd.R_new' (Kd.R_new' ho2 (Kd.R_lt (by (with_reducible repeat (first | apply Kd.R_alloc | apply Kd.R_drewN | apply Kd.R_drew)); exact HO_10.out))) (Kd.R_lt (by (with_reducible repeat (first | apply Kd.R_alloc | apply Kd.R_drewN | apply Kd.R_drew)); exact HO_11.out))) (Kd.R_lt (by (with_reducible repeat (first | apply Kd.R_alloc | apply Kd.R_drewN | apply Kd.R_drew)); exact HO_12.out))) (below_size (by repeat (first | (with_reducible first | exact HB.out | apply below_alloc | apply pw_below_drewN | apply below_drew1) | exact HB.out)))); have n7_ := Aside0.mk (below_step (by repeat (first | (with_reducible first | exact HB.out | apply below_alloc | apply pw_below_drewN | apply below_drew1) | exact HB.out)) hb); clear HO_10; clear HO_11; clear HO_12; clear HO_13; clear HB; have HO_10 := n0_; have HO_11 := n1_; have HO_12 := n2_; have HO_13 := n3_; have HO549 := n4_; have HO551 := n5_; have HO553 := n6_; have HB := n7_; clear n0_ n1_ n2_ n3_ n4_ n5_ n6_ n7_; (try clear hb); (try clear hb2); (try clear hk); (try clear hi); (try clear ho0); (try clear ho1); (try clear ho2); obtain ⟨Ao102, co102, eo102⟩ := Kd.R_slice HO_10.out; subst eo102; obtain ⟨Ao103, co103, eo103⟩ := Kd.R_slice HO_12.out; subst eo103; obtain ⟨Ao104, co104, eo104⟩ := Kd.N_slice HO_13.out; subst eo104) | (go_at_call 16; (with_reducible refine (satchelkit_SameTree.calls _ _ x13_3 _ _ l1 true _ ?side1 ?side2 ?side3 ?side4 A78.out).mono ?_); (case side1 => repeat (first | exact (Kd.N_reads' HO_13.out).2.2 | (with_reducible refine Kd.C_alloc ?_ _) | (with_reducible refine Kd.C_drewN ?_ _) | (with_reducible refine Kd.C_drew ?_))); (case side2 => exact (Kd.N_reads' HO_13.out).2.1); (case side3 => repeat (first | exact (Kd.C_below HR1.out HB.out) | (with_reducible refine Kd.C_alloc ?_ _) | (with_reducible refine Kd.C_drewN ?_ _) | (with_reducible refine Kd.C_drew ?_))); (case side4 => exact HC1.out); rintro e w' ⟨rfl, ⟨nd, rfl⟩⟩) | (go_at_call 28; (with_reducible refine (tree_Same.calls _ _ x13_3 _ _ l1 false _ ?side1 ?side2 ?side3 ?side4 A80.out).mono ?_); (case side1 => repeat (first | exact (Kd.N_reads' HO_13.out).2.2 | (with_reducible refine Kd.C_alloc ?_ _) | (with_reducible refine Kd.C_drewN ?_ _) | (with_reducible refine Kd.C_drew ?_))); (case side2 => exact (Kd.N_reads' HO_13.out).2.1); (case side3 => repeat (first | exact (Kd.C_below HR1.out (by repeat (first | (with_reducible first | exact HB.out | apply below_alloc | apply pw_below_drewN | apply below_drew1) | exact HB.out))) | (with_reducible refine Kd.C_alloc ?_ _) | (with_reducible refine Kd.C_drewN ?_ _) | (with_reducible refine Kd.C_drew ?_))); (case side4 => exact HC1.out); rintro e w105 ⟨rfl, hb⟩; have n0_ := Aside0.mk (Kd.R_below (by (with_reducible repeat (first | apply Kd.R_alloc | apply Kd.R_drewN | apply Kd.R_drew)); exact HO_10.out) hb); have n1_ := Aside0.mk (Kd.R_below (by (with_reducible repeat (first | apply Kd.R_alloc | apply Kd.R_drewN | apply Kd.R_drew)); exact HO_11.out) hb); have n2_ := Aside0.mk (Kd.R_below (by (with_reducible repeat (first | apply Kd.R_alloc | apply Kd.R_drewN | apply Kd.R_drew)); exact HO_12.out) hb); have n3_ := Aside0.mk (Kd.N_below (by (with_reducible repeat (first | apply Kd.N_alloc | apply Kd.N_drewN | apply Kd.N_drew)); exact HO_13.out) hb); have n4_ := Aside0.mk (Kd.R_below (by (with_reducible repeat (first | apply Kd.R_alloc | apply Kd.R_drewN | apply Kd.R_drew)); exact HO549.out) hb); have n5_ := Aside0.mk (Kd.R_below (by (with_reducible repeat (first | apply Kd.R_alloc | apply Kd.R_drewN | apply Kd.R_drew)); exact HO551.out) hb); have n6_ := Aside0.mk (Kd.R_below (by (with_reducible repeat (first | apply Kd.R_alloc | apply Kd.R_drewN | apply Kd.R_drew)); exact HO553.out) hb); have n7_ := Aside0.mk (below_step (by repeat (first | (with_reducible first | exact HB.out | apply below_alloc | apply pw_below_drewN | apply below_drew1) | exact HB.out)) hb); clear HO_10; clear HO_11; clear HO_12; clear HO_13; clear HO549; clear HO551; clear HO553; clear HB; have HO_10 := n0_; have HO_11 := n1_; have HO_12 := n2_; have HO_13 := n3_; have HO549 := n4_; have HO551 := n5_; have HO553 := n6_; have HB := n7_; clear n0_ n1_ n2_ n3_ n4_ n5_ n6_ n7_; (try clear hb); (try clear hb2); (try clear hk); (try clear hi)))
              go_ret
              exact ⟨by first | rfl | (simp [errW_none, errW_some] <;> rfl) | (simp [*, errW_none, errW_some] <;> rfl) | (simp [bt, *]; done) | (simp_all [bt]; done), by repeat (first | (with_reducible first | exact HB.out | apply below_alloc | apply pw_below_drewN | apply below_drew1) | exact HB.out)⟩
            ·replace c79 := Bool.eq_false_iff.mpr c79
             subst c79
             have H1 : (some false) = some r := by rw [if_neg (show ¬ (false = true) by decide)] at H; exact H
             clear H
             have H := H1
             clear H1
             obtain rfl := Option.some.inj H
             go_wp2_with (first | ((with_reducible refine gate_callee (f := 25) rfl ?_); refine goesL_ (some 136) rfl rfl Try.func25 (by kernel_rfl) rfl #[.slice A1 l1.length c1, .slice A1 l1.length c1] rfl (by (try simp only [List.map_toArray, List.map_cons, List.map_nil]); first | done | rfl | (simp only [List.length_drop, List.length_take]; rfl)) ?_; (with_reducible refine (tree_Diff.calls k3 _ _ l1 _ _ l1 t545 t546 t547 _ ?side1 ?side2 ?side3 ?side4 A75.out).mono ?_); (case side1 => repeat (first | exact (Kd.C_below HR1.out HB.out) | (with_reducible refine Kd.C_alloc ?_ _) | (with_reducible refine Kd.C_drewN ?_ _) | (with_reducible refine Kd.C_drew ?_))); (case side2 => exact HC1.out); (case side3 => repeat (first | exact (Kd.C_below HR1.out HB.out) | (with_reducible refine Kd.C_alloc ?_ _) | (with_reducible refine Kd.C_drewN ?_ _) | (with_reducible refine Kd.C_drew ?_))); (case side4 => exact HC1.out); rintro e w106 ⟨v548, v550, v552, rfl, ho0, ho1, ho2, hb⟩; refine ⟨_, rfl, ?_⟩; have n0_ := Aside0.mk (Kd.R_mono (Kd.R_told (Kd.R_told (Kd.R_told (Kd.R_old (by (with_reducible repeat (first | apply Kd.R_alloc | apply Kd.R_drewN | apply Kd.R_drew)); exact HO_10.out) hb) (Kd.R_base ho0)) (Kd.R_base ho1)) (Kd.R_base ho2)) (fun _ h_ => h_.1)); have n1_ := Aside0.mk (Kd.R_mono (Kd.R_told (Kd.R_told (Kd.R_told (Kd.R_old (by (with_reducible repeat (first | apply Kd.R_alloc | apply Kd.R_drewN | apply Kd.R_drew)); exact HO_11.out) hb) (Kd.R_base ho0)) (Kd.R_base ho1)) (Kd.R_base ho2)) (fun _ h_ => h_.1)); have n2_ := Aside0.mk (Kd.R_mono (Kd.R_told (Kd.R_told (Kd.R_told (Kd.R_old (by (with_reducible repeat (first | apply Kd.R_alloc | apply Kd.R_drewN | apply Kd.R_drew)); exact HO_12.out) hb) (Kd.R_base ho0)) (Kd.R_base ho1)) (Kd.R_base ho2)) (fun _ h_ => h_.1)); have n3_ := Aside0.mk (Kd.N_mono (Kd.N_told (Kd.N_told (Kd.N_told (Kd.N_old (by (with_reducible repeat (first | apply Kd.N_alloc | apply Kd.N_drewN | apply Kd.N_drew)); exact HO_13.out) hb) (Kd.R_base ho0)) (Kd.R_base ho1)) (Kd.R_base ho2)) (fun _ h_ => h_.1)); have n4_ := Aside0.mk (Kd.R_lower (Kd.R_new' (Kd.R_new' (Kd.R_new' ho0 (Kd.R_lt (by (with_reducible repeat (first | apply Kd.R_alloc | apply Kd.R_drewN | apply Kd.R_drew)); exact HO_10.out))) (Kd.R_lt (by (with_reducible repeat (first | apply Kd.R_alloc | apply Kd.R_drewN | apply Kd.R_drew)); exact HO_11.out))) (Kd.R_lt (by (with_reducible repeat (first | apply Kd.R_alloc | apply Kd.R_drewN | apply Kd.R_drew)); exact HO_12.out))) (below_size (by repeat (first | (with_reducible first | exact HB.out | apply below_alloc | apply pw_below_drewN | apply below_drew1) | exact HB.out)))); have n5_ := Aside0.mk (Kd.R_lower (Kd.R_new' (Kd.R_new' (Kd.R_new' ho1 (Kd.R_lt (by (with_reducible repeat (first | apply Kd.R_alloc | apply Kd.R_drewN | apply Kd.R_drew)); exact HO_10.out))) (Kd.R_lt (by (with_reducible repeat (first | apply Kd.R_alloc | apply Kd.R_drewN | apply Kd.R_drew)); exact HO_11.out))) (Kd.R_lt (by (with_reducible repeat (first | apply Kd.R_alloc | apply Kd.R_drewN | apply Kd.R_drew)); exact HO_12.out))) (below_size (by repeat (first | (with_reducible first | exact HB.out | apply below_alloc | apply pw_below_drewN | apply below_drew1) | exact HB.out)))); have n6_ := Aside0.mk (Kd.R_lower (Kd.R_new' (Kd.R_new' (Kd.R_new' ho2 (Kd.R_lt (by (with_reducible repeat (first | apply Kd.R_alloc | apply Kd.R_drewN | apply Kd.R_drew)); exact HO_10.out))) (Kd.R_lt (by (with_reducible repeat (first | apply Kd.R_alloc | apply Kd.R_drewN | apply Kd.R_drew)); exact HO_11.out))) (Kd.R_lt (by (with_reducible repeat (first | apply Kd.R_alloc | apply Kd.R_drewN | apply Kd.R_drew)); exact HO_12.out))) (below_size (by repeat (first | (with_reducible first | exact HB.out | apply below_alloc | apply pw_below_drewN | apply below_drew1) | exact HB.out)))); have n7_ := Aside0.mk (below_step (by repeat (first | (with_reducible first | exact HB.out | apply below_alloc | apply pw_below_drewN | apply below_drew1) | exact HB.out)) hb); clear HO_10; clear HO_11; clear HO_12; clear HO_13; clear HB; have HO_10 := n0_; have HO_11 := n1_; have HO_12 := n2_; have HO_13 := n3_; have HO549 := n4_; have HO551 := n5_; have HO553 := n6_; have HB := n7_; clear n0_ n1_ n2_ n3_ n4_ n5_ n6_ n7_; (try clear hb); (try clear hb2); (try clear hk); (try clear hi); (try clear ho0); (try clear ho1); (try clear ho2); obtain ⟨Ao107, co107, eo107⟩ := Kd.R_slice HO_10.out; subst eo107; obtain ⟨Ao108, co108, eo108⟩ := Kd.R_slice HO_12.out; subst eo108; obtain ⟨Ao109, co109, eo109⟩ := Kd.N_slice HO_13.out; subst eo109) | (go_at_call 16; (with_reducible refine (satchelkit_SameTree.calls _ _ x13_3 _ _ l1 false _ ?side1 ?side2 ?side3 ?side4 A78.out).mono ?_); (case side1 => repeat (first | exact (Kd.N_reads' HO_13.out).2.2 | (with_reducible refine Kd.C_alloc ?_ _) | (with_reducible refine Kd.C_drewN ?_ _) | (with_reducible refine Kd.C_drew ?_))); (case side2 => exact (Kd.N_reads' HO_13.out).2.1); (case side3 => repeat (first | exact (Kd.C_below HR1.out HB.out) | (with_reducible refine Kd.C_alloc ?_ _) | (with_reducible refine Kd.C_drewN ?_ _) | (with_reducible refine Kd.C_drew ?_))); (case side4 => exact HC1.out); rintro e w' ⟨rfl, ⟨nd, rfl⟩⟩))
             go_ret
             exact ⟨by first | rfl | (simp [errW_none, errW_some] <;> rfl) | (simp [*, errW_none, errW_some] <;> rfl) | (simp [bt, *]; done) | (simp_all [bt]; done), by repeat (first | (with_reducible first | exact HB.out | apply below_alloc | apply pw_below_drewN | apply below_drew1) | exact HB.out)⟩
           ·rw [if_neg c77] at H
            have c77b0 : (x19_3 == (wrap64 ((t510.length : Int) + (t512.length : Int)))) = false := beq_eq_false_iff_ne.mpr c77
            have c77b1 : (x19_3 != (wrap64 ((t510.length : Int) + (t512.length : Int)))) = true := bne_iff_ne.mpr c77
            obtain rfl := Option.some.inj H
            go_wp2_with (first | ((with_reducible refine gate_callee (f := 25) rfl ?_); refine goesL_ (some 136) rfl rfl Try.func25 (by kernel_rfl) rfl #[.slice A1 l1.length c1, .slice A1 l1.length c1] rfl (by (try simp only [List.map_toArray, List.map_cons, List.map_nil]); first | done | rfl | (simp only [List.length_drop, List.length_take]; rfl)) ?_; (with_reducible refine (tree_Diff.calls k3 _ _ l1 _ _ l1 t545 t546 t547 _ ?side1 ?side2 ?side3 ?side4 A75.out).mono ?_); (case side1 => repeat (first | exact (Kd.C_below HR1.out HB.out) | (with_reducible refine Kd.C_alloc ?_ _) | (with_reducible refine Kd.C_drewN ?_ _) | (with_reducible refine Kd.C_drew ?_))); (case side2 => exact HC1.out); (case side3 => repeat (first | exact (Kd.C_below HR1.out HB.out) | (with_reducible refine Kd.C_alloc ?_ _) | (with_reducible refine Kd.C_drewN ?_ _) | (with_reducible refine Kd.C_drew ?_))); (case side4 => exact HC1.out); rintro e w110 ⟨v548, v550, v552, rfl, ho0, ho1, ho2, hb⟩; refine ⟨_, rfl, ?_⟩; have n0_ := Aside0.mk (Kd.R_mono (Kd.R_told (Kd.R_told (Kd.R_told (Kd.R_old (by (with_reducible repeat (first | apply Kd.R_alloc | apply Kd.R_drewN | apply Kd.R_drew)); exact HO_10.out) hb) (Kd.R_base ho0)) (Kd.R_base ho1)) (Kd.R_base ho2)) (fun _ h_ => h_.1)); have n1_ := Aside0.mk (Kd.R_mono (Kd.R_told (Kd.R_told (Kd.R_told (Kd.R_old (by (with_reducible repeat (first | apply Kd.R_alloc | apply Kd.R_drewN | apply Kd.R_drew)); exact HO_11.out) hb) (Kd.R_base ho0)) (Kd.R_base ho1)) (Kd.R_base ho2)) (fun _ h_ => h_.1)); have n2_ := Aside0.mk (Kd.R_mono (Kd.R_told (Kd.R_told (Kd.R_told (Kd.R_old (by (with_reducible repeat (first | apply Kd.R_alloc | apply Kd.R_drewN | apply Kd.R_drew)); exact HO_12.out) hb) (Kd.R_base ho0)) (Kd.R_base ho1)) (Kd.R_base ho2)) (fun _ h_ => h_.1)); have n3_ := Aside0.mk (Kd.N_mono (Kd.N_told (Kd.N_told (Kd.N_told (Kd.N_old (by (with_reducible repeat (first | apply Kd.N_alloc | apply Kd.N_drewN | apply Kd.N_drew)); exact HO_13.out) hb) (Kd.R_base ho0)) (Kd.R_base ho1)) (Kd.R_base ho2)) (fun _ h_ => h_.1)); have n4_ := Aside0.mk (Kd.R_lower (Kd.R_new' (Kd.R_new' (Kd.R_new' ho0 (Kd.R_lt (by (with_reducible repeat (first | apply Kd.R_alloc | apply Kd.R_drewN | apply Kd.R_drew)); exact HO_10.out))) (Kd.R_lt (by (with_reducible repeat (first | apply Kd.R_alloc | apply Kd.R_drewN | apply Kd.R_drew)); exact HO_11.out))) (Kd.R_lt (by (with_reducible repeat (first | apply Kd.R_alloc | apply Kd.R_drewN | apply Kd.R_drew)); exact HO_12.out))) (below_size (by repeat (first | (with_reducible first | exact HB.out | apply below_alloc | apply pw_below_drewN | apply below_drew1) | exact HB.out)))); have n5_ := Aside0.mk (Kd.R_lower (Kd.R_new' (Kd.R_new' (Kd.R_new' ho1 (Kd.R_lt (by (with_reducible repeat (first | apply Kd.R_alloc | apply Kd.R_drewN | apply Kd.R_drew)); exact HO_10.out))) (Kd.R_lt (by (with_reducible repeat (first | apply Kd.R_alloc | apply Kd.R_drewN | apply Kd.R_drew)); exact HO_11.out))) (Kd.R_lt (by (with_reducible repeat (first | apply Kd.R_alloc | apply Kd.R_drewN | apply Kd.R_drew)); exact HO_12.out))) (below_size (by repeat (first | (with_reducible first | exact HB.out | apply below_alloc | apply pw_below_drewN | apply below_drew1) | exact HB.out)))); have n6_ := Aside0.mk (Kd.R_lower (Kd.R_new' (Kd.R_new' (Kd.R_new' ho2 (Kd.R_lt (by (with_reducible repeat (first | apply Kd.R_alloc | apply Kd.R_drewN | apply Kd.R_drew)); exact HO_10.out))) (Kd.R_lt (by (with_reducible repeat (first | apply Kd.R_alloc | apply Kd.R_drewN | apply Kd.R_drew)); exact HO_11.out))) (Kd.R_lt (by (with_reducible repeat (first | apply Kd.R_alloc | apply Kd.R_drewN | apply Kd.R_drew)); exact HO_12.out))) (below_size (by repeat (first | (with_reducible first | exact HB.out | apply below_alloc | apply pw_below_drewN | apply below_drew1) | exact HB.out)))); have n7_ := Aside0.mk (below_step (by repeat (first | (with_reducible first | exact HB.out | apply below_alloc | apply pw_below_drewN | apply below_drew1) | exact HB.out)) hb); clear HO_10; clear HO_11; clear HO_12; clear HO_13; clear HB; have HO_10 := n0_; have HO_11 := n1_; have HO_12 := n2_; have HO_13 := n3_; have HO549 := n4_; have HO551 := n5_; have HO553 := n6_; have HB := n7_; clear n0_ n1_ n2_ n3_ n4_ n5_ n6_ n7_; (try clear hb); (try clear hb2); (try clear hk); (try clear hi); (try clear ho0); (try clear ho1); (try clear ho2); obtain ⟨Ao111, co111, eo111⟩ := Kd.R_slice HO_10.out; subst eo111; obtain ⟨Ao112, co112, eo112⟩ := Kd.R_slice HO_12.out; subst eo112))
            go_ret
            exact ⟨by first | rfl | (simp [errW_none, errW_some] <;> rfl) | (simp [*, errW_none, errW_some] <;> rfl) | (simp [bt, *]; done) | (simp_all [bt]; done), by repeat (first | (with_reducible first | exact HB.out | apply below_alloc | apply pw_below_drewN | apply below_drew1) | exact HB.out)⟩
          ·replace c76 := Bool.eq_false_iff.mpr c76
           subst c76
           have H1 : (some false) = some r := by rw [if_neg (show ¬ (false = true) by decide)] at H; exact H
           clear H
           have H := H1
           clear H1
           obtain rfl := Option.some.inj H
           go_wp2_with (first | ((with_reducible refine gate_callee (f := 25) rfl ?_); refine goesL_ (some 136) rfl rfl Try.func25 (by kernel_rfl) rfl #[.slice A1 l1.length c1, .slice A1 l1.length c1] rfl (by (try simp only [List.map_toArray, List.map_cons, List.map_nil]); first | done | rfl | (simp only [List.length_drop, List.length_take]; rfl)) ?_; (with_reducible refine (tree_Diff.calls k3 _ _ l1 _ _ l1 t545 t546 t547 _ ?side1 ?side2 ?side3 ?side4 A75.out).mono ?_); (case side1 => repeat (first | exact (Kd.C_below HR1.out HB.out) | (with_reducible refine Kd.C_alloc ?_ _) | (with_reducible refine Kd.C_drewN ?_ _) | (with_reducible refine Kd.C_drew ?_))); (case side2 => exact HC1.out); (case side3 => repeat (first | exact (Kd.C_below HR1.out HB.out) | (with_reducible refine Kd.C_alloc ?_ _) | (with_reducible refine Kd.C_drewN ?_ _) | (with_reducible refine Kd.C_drew ?_))); (case side4 => exact HC1.out); rintro e w113 ⟨v548, v550, v552, rfl, ho0, ho1, ho2, hb⟩; refine ⟨_, rfl, ?_⟩; have n0_ := Aside0.mk (Kd.R_mono (Kd.R_told (Kd.R_told (Kd.R_told (Kd.R_old (by (with_reducible repeat (first | apply Kd.R_alloc | apply Kd.R_drewN | apply Kd.R_drew)); exact HO_10.out) hb) (Kd.R_base ho0)) (Kd.R_base ho1)) (Kd.R_base ho2)) (fun _ h_ => h_.1)); have n1_ := Aside0.mk (Kd.R_mono (Kd.R_told (Kd.R_told (Kd.R_told (Kd.R_old (by (with_reducible repeat (first | apply Kd.R_alloc | apply Kd.R_drewN | apply Kd.R_drew)); exact HO_11.out) hb) (Kd.R_base ho0)) (Kd.R_base ho1)) (Kd.R_base ho2)) (fun _ h_ => h_.1)); have n2_ := Aside0.mk (Kd.R_mono (Kd.R_told (Kd.R_told (Kd.R_told (Kd.R_old (by (with_reducible repeat (first | apply Kd.R_alloc | apply Kd.R_drewN | apply Kd.R_drew)); exact HO_12.out) hb) (Kd.R_base ho0)) (Kd.R_base ho1)) (Kd.R_base ho2)) (fun _ h_ => h_.1)); have n3_ := Aside0.mk (Kd.N_mono (Kd.N_told (Kd.N_told (Kd.N_told (Kd.N_old (by (with_reducible repeat (first | apply Kd.N_alloc | apply Kd.N_drewN | apply Kd.N_drew)); exact HO_13.out) hb) (Kd.R_base ho0)) (Kd.R_base ho1)) (Kd.R_base ho2)) (fun _ h_ => h_.1)); have n4_ := Aside0.mk (Kd.R_lower (Kd.R_new' (Kd.R_new' (Kd.R_new' ho0 (Kd.R_lt (by (with_reducible repeat (first | apply Kd.R_alloc | apply Kd.R_drewN | apply Kd.R_drew)); exact HO_10.out))) (Kd.R_lt (by (with_reducible repeat (first | apply Kd.R_alloc | apply Kd.R_drewN | apply Kd.R_drew)); exact HO_11.out))) (Kd.R_lt (by (with_reducible repeat (first | apply Kd.R_alloc | apply Kd.R_drewN | apply Kd.R_drew)); exact HO_12.out))) (below_size (by repeat (first | (with_reducible first | exact HB.out | apply below_alloc | apply pw_below_drewN | apply below_drew1) | exact HB.out)))); have n5_ := Aside0.mk (Kd.R_lower (Kd.R_new' (Kd.R_new' (Kd.R_new' ho1 (Kd.R_lt (by (with_reducible repeat (first | apply Kd.R_alloc | apply Kd.R_drewN | apply Kd.R_drew)); exact HO_10.out))) (Kd.R_lt (by (with_reducible repeat (first | apply Kd.R_alloc | apply Kd.R_drewN | apply Kd.R_drew)); exact HO_11.out))) (Kd.R_lt (by (with_reducible repeat (first | apply Kd.R_alloc | apply Kd.R_drewN | apply Kd.R_drew)); exact HO_12.out))) (below_size (by repeat (first | (with_reducible first | exact HB.out | apply below_alloc | apply pw_below_drewN | apply below_drew1) | exact HB.out)))); have n6_ := Aside0.mk (Kd.R_lower (Kd.R_new' (Kd.R_new' (Kd.R_new' ho2 (Kd.R_lt (by (with_reducible repeat (first | apply Kd.R_alloc | apply Kd.R_drewN | apply Kd.R_drew)); exact HO_10.out))) (Kd.R_lt (by (with_reducible repeat (first | apply Kd.R_alloc | apply Kd.R_drewN | apply Kd.R_drew)); exact HO_11.out))) (Kd.R_lt (by (with_reducible repeat (first | apply Kd.R_alloc | apply Kd.R_drewN | apply Kd.R_drew)); exact HO_12.out))) (below_size (by repeat (first | (with_reducible first | exact HB.out | apply below_alloc | apply pw_below_drewN | apply below_drew1) | exact HB.out)))); have n7_ := Aside0.mk (below_step (by repeat (first | (with_reducible first | exact HB.out | apply below_alloc | apply pw_below_drewN | apply below_drew1) | exact HB.out)) hb); clear HO_10; clear HO_11; clear HO_12; clear HO_13; clear HB; have HO_10 := n0_; have HO_11 := n1_; have HO_12 := n2_; have HO_13 := n3_; have HO549 := n4_; have HO551 := n5_; have HO553 := n6_; have HB := n7_; clear n0_ n1_ n2_ n3_ n4_ n5_ n6_ n7_; (try clear hb); (try clear hb2); (try clear hk); (try clear hi); (try clear ho0); (try clear ho1); (try clear ho2)))
           go_ret
           exact ⟨by first | rfl | (simp [errW_none, errW_some] <;> rfl) | (simp [*, errW_none, errW_some] <;> rfl) | (simp [bt, *]; done) | (simp_all [bt]; done), by repeat (first | (with_reducible first | exact HB.out | apply below_alloc | apply pw_below_drewN | apply below_drew1) | exact HB.out)⟩

end Go.Proofs.Ytopkmchkfcjjmaa.X
end
