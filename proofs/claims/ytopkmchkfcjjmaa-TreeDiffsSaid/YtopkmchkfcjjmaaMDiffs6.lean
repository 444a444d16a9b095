/- Functions, one behind the other: a plain Lean function for each, and the proof that the call comes to its answer, whatever the world (conditions: what the arguments read as); and plain laws of them. -/
import Derived.Test.YtopkmchkfcjjmaaMDiffs4
import Derived.Test.YtopkmchkfcjjmaaMDiffs5
import Derived.Test.YtopkmchkfcjjmaaMDiffs3
import Derived.Test.YtopkmchkfcjjmaaMDiffs2
/-! ## PureG -/
section
namespace Go.Proofs.Ytopkmchkfcjjmaa.X
open Go.RowKit Go.Proofs.YtopkmchkfcjjmaaW.PrintWords Go.Proofs.YtopkmchkfcjjmaaW.PrintLast Go.Proofs.YtopkmchkfcjjmaaW.PrintMore
set_option linter.unusedVariables false
set_option linter.unusedSimpArgs false
theorem awake_ev : Ev (fun k => satchellaw08_awake.f k) true := Ev.of_mono satchellaw08_awake.mono (K := 30) (by kernel_rfl)
theorem alikeE_is (x y : S31) : alikeE x y = some (sameEntry x y) := by
 unfold alikeE tree_alike.f sameEntry bytes_Equal.f sameBytes
 cases h0 : (x.f0.toList == y.f0.toList) <;> cases h1 : (x.f1 == y.f1) <;> cases h2 : (x.f2 == y.f2) <;> cases h4 : (x.f4.toList == y.f4.toList) <;> simp
theorem likeE_is (x y : S31) : likeE x y = some (sameEntry x y) := by
 unfold likeE satchelref08_Like.f sameEntry sameBytes
 by_cases h0 : x.f0.toList = y.f0.toList
 ·rw [if_pos h0]
  by_cases h1 : x.f1 = y.f1
  ·rw [if_pos h1]
   by_cases h2 : x.f2 = y.f2
   ·rw [if_pos h2]
    by_cases h3 : (strOfNums x.f3).toList = (strOfNums y.f3).toList
    ·rw [if_pos h3]; simp [h0, h1, h2, h3]
    ·rw [if_neg h3]; simp [h3]
   ·rw [if_neg h2]; simp [h2]
  ·rw [if_neg h1]; simp [h1]
 ·rw [if_neg h0]; simp [h0]
theorem sameEntry_path {x y : S31} (h : sameEntry x y = true) : x.f0 = y.f0 := by
 unfold sameEntry at h
 simp only [Bool.and_eq_true, beq_iff_eq] at h
 exact bytes_ext h.1
/-! ### Rising lists of entries -/
def Up (l : List (S31)) : Prop := l.Pairwise fun x y => cmpV x.f0 y.f0 < 0
theorem Rising.up {l : List (S31)} (h : Rising l) : Up l := by
 refine List.pairwise_iff_getElem.2 fun i j hi hj hij => ?_
 have := h i j hij hj
 rw [rd_at l i hi, rd_at l j hj] at this
 exact this
theorem Good.Up {l : List (S31)} (h : Good l) : Up l := h.rising.up
def hasP (a : List (S31)) (s : ByteArray) : Bool := a.any fun x => decide (x.f0 = s)
def addedV (a b : List (S31)) : List ByteArray := (b.filter fun y => !hasP a y.f0).map fun y => y.f0
def turnedE (a : List (S31)) (y : S31) : Bool := a.any fun x => decide (x.f0 = y.f0) && !sameEntry x y
def changedV (a b : List (S31)) : List ByteArray := (b.filter (turnedE a)).map fun y => y.f0
theorem hasP_cons (x : S31) (a : List (S31)) (s : ByteArray) : hasP (x :: a) s = (decide (x.f0 = s) || hasP a s) := rfl
theorem turnedE_cons (x : S31) (a : List (S31)) (y : S31) : turnedE (x :: a) y = ((decide (x.f0 = y.f0) && !sameEntry x y) || turnedE a y) := rfl
theorem turnedE_none {a : List (S31)} {y : S31} (h : hasP a y.f0 = false) : turnedE a y = false := by
 induction a with
 | nil => rfl
 | cons x a ih =>
  rw [hasP_cons, Bool.or_eq_false_iff] at h
  rw [turnedE_cons, h.1, ih h.2]
  rfl
theorem addedV_cons (a : List (S31)) (y : S31) (b : List (S31)) : addedV a (y :: b) = if hasP a y.f0 = true then addedV a b else y.f0 :: addedV a b := by
 unfold addedV
 rw [List.filter_cons]
 cases hasP a y.f0 <;> simp
theorem changedV_cons (a : List (S31)) (y : S31) (b : List (S31)) : changedV a (y :: b) = if turnedE a y = true then y.f0 :: changedV a b else changedV a b := by
 unfold changedV
 rw [List.filter_cons]
 cases turnedE a y <;> simp
/-- A path that is met in none of them turns nothing. -/
theorem addedV_skip {x : S31} {a b : List (S31)} (h : ∀ y ∈ b, x.f0 ≠ y.f0) : addedV (x :: a) b = addedV a b := by
 unfold addedV
 congr 1
 refine List.filter_congr fun y hy => ?_
 rw [hasP_cons, decide_eq_false (h y hy), Bool.false_or]
theorem changedV_skip {x : S31} {a b : List (S31)} (h : ∀ y ∈ b, x.f0 ≠ y.f0) : changedV (x :: a) b = changedV a b := by
 unfold changedV
 congr 1
 refine List.filter_congr fun y hy => ?_
 rw [turnedE_cons, decide_eq_false (h y hy), Bool.false_and, Bool.false_or]
theorem hasP_none {a : List (S31)} {s : ByteArray} (h : ∀ x ∈ a, x.f0 ≠ s) : hasP a s = false := by
 unfold hasP
 rw [List.any_eq_false]
 intro x hx
 simpa using h x hx
theorem cmpV_ne {a b : ByteArray} (h : cmpV a b < 0) : a ≠ b := fun e => by rw [e, cmpV_self] at h; omega
/-- What stands ahead of a rising list's head is met in none of it. -/
theorem Up.ahead {x : S31} {b : List (S31)} {y : S31} (hb : Up (y :: b)) (h : cmpV x.f0 y.f0 < 0) : ∀ q ∈ y :: b, x.f0 ≠ q.f0 := by
 intro q hq
 refine cmpV_ne ?_
 rcases List.mem_cons.1 hq with rfl | h1
 ·exact h
 ·exact cmpV_trans h (List.rel_of_pairwise_cons hb h1)
theorem Up.tail {y : S31} {b : List (S31)} (hb : Up (y :: b)) : Up b := (List.pairwise_cons.1 hb).2
theorem Up.head {y : S31} {b : List (S31)} (hb : Up (y :: b)) : ∀ q ∈ b, y.f0 ≠ q.f0 := fun q hq => cmpV_ne (List.rel_of_pairwise_cons hb hq)
theorem addedV_nil (b : List (S31)) : addedV [] b = b.map fun y => y.f0 := by unfold addedV; congr 1; exact List.filter_eq_self.2 (fun y _ => rfl)
theorem changedV_nil (b : List (S31)) : changedV [] b = [] := by unfold changedV; rw [List.filter_eq_nil_iff.2 (fun y _ => by simp [turnedE])]; rfl
theorem rd0 (x : S31) (a : List (S31)) : rd_T31 (x :: a) 0 = x := rfl
theorem diff_l0 : ∀ (n : Nat) (a b : List (S31)) (x y z : List ByteArray), a.length + b.length ≤ n → Up a → Up b → x.length + n ≤ 1000000 → y.length + n ≤ 1000000 → z.length + n ≤ 1000000 →
  Ev (fun k => tree_Diff.l0 k a b x y z) (x ++ addedV a b, y ++ addedV b a, z ++ changedV a b) := by
 intro n
 induction n with
 | zero =>
  intro a b x y z hn _ _ hx hy hz
  obtain rfl : a = [] := List.length_eq_zero_iff.1 (by omega)
  obtain rfl : b = [] := List.length_eq_zero_iff.1 (by omega)
  refine Ev.shift ?_
  simp only [tree_Diff.l0]
  refine Ev.ifp (by omega) (Ev.ifp rfl (Ev.ifp rfl ?_))
  simp only [addedV_nil, changedV_nil, List.map_nil, List.append_nil]
  exact Ev.const _
 | succ n ih =>
  intro a b x y z hn ha hb hx hy hz
  refine Ev.shift ?_
  simp only [tree_Diff.l0, alikeE_is, Option.bind_some]
  refine Ev.ifp (by omega) ?_
  cases a with
  | nil =>
   refine Ev.ifp rfl ?_
   cases b with
   | nil =>
    refine Ev.ifp rfl ?_
    simp only [addedV_nil, changedV_nil, List.map_nil, List.append_nil]
    exact Ev.const _
   | cons v b =>
    refine Ev.ifn (by simp) ?_
    have h := ih [] b (x ++ [v.f0]) y z (by simp at hn ⊢; omega) ha hb.tail (by simp; omega) (by omega) (by omega)
    refine h.to_eq ?_
    simp [addedV_nil, changedV_nil, show ∀ l, addedV l [] = [] from fun _ => rfl]
  | cons u a =>
   refine Ev.ifn (by simp) ?_
   cases b with
   | nil =>
    refine Ev.ifp rfl ?_
    have h := ih a [] x (y ++ [u.f0]) z (by simp at hn ⊢; omega) ha.tail hb (by omega) (by simp; omega) (by omega)
    refine h.to_eq ?_
    simp [addedV_nil, show ∀ l, addedV l [] = [] from fun _ => rfl, show ∀ l, changedV l [] = [] from fun _ => rfl]
   | cons v b =>
    refine Ev.ifn (by simp) (Ev.bind (compare_ev _ _) ?_)
    rw [rd0, rd0]
    show Ev (fun k => if 0 < cmpV u.f0 v.f0 then tree_Diff.l0 k (u :: a) b (x ++ [v.f0]) y z else if cmpV u.f0 v.f0 < 0 then tree_Diff.l0 k a (v :: b) x (y ++ [u.f0]) z else tree_Diff.l0 k a b x y (if sameEntry u v = true then z else z ++ [u.f0])) _
    have hs := cmpV_swap u.f0 v.f0
    by_cases h1 : 0 < cmpV u.f0 v.f0
    ·refine Ev.ifp h1 ?_
     have hne := ha.ahead (x := v) (by omega)
     have h := ih (u :: a) b (x ++ [v.f0]) y z (by simp at hn ⊢; omega) ha hb.tail (by simp; omega) (by omega) (by omega)
     refine h.to_eq ?_
     have h2 : hasP (u :: a) v.f0 = false := hasP_none (fun q hq => (hne q hq).symm)
     rw [addedV_cons (u :: a) v b, changedV_cons (u :: a) v b, turnedE_none h2, h2, addedV_skip hne]
     simp
    ·refine Ev.ifn h1 ?_
     by_cases h2 : cmpV u.f0 v.f0 < 0
     ·refine Ev.ifp h2 ?_
      have hne := hb.ahead (x := u) h2
      have h := ih a (v :: b) x (y ++ [u.f0]) z (by simp at hn ⊢; omega) ha.tail hb (by omega) (by simp; omega) (by omega)
      refine h.to_eq ?_
      have h3 : hasP (v :: b) u.f0 = false := hasP_none (fun q hq => (hne q hq).symm)
      rw [addedV_cons (v :: b) u a, h3, addedV_skip hne, changedV_skip hne]
      simp
     ·refine Ev.ifn h2 ?_
      have he : u.f0 = v.f0 := cmpV_zero (by omega)
      have h := ih a b x y (if sameEntry u v = true then z else z ++ [u.f0]) (by simp at hn ⊢; omega) ha.tail hb.tail (by omega) (by omega) (by split <;> (try simp) <;> omega)
      refine h.to_eq ?_
      have hu := ha.head
      have hv := hb.head
      have p1 : hasP (u :: a) v.f0 = true := by rw [hasP_cons, decide_eq_true he, Bool.true_or]
      have p2 : hasP (v :: b) u.f0 = true := by rw [hasP_cons, decide_eq_true he.symm, Bool.true_or]
      have p3 : turnedE (u :: a) v = !sameEntry u v := by
       rw [turnedE_cons, decide_eq_true he, turnedE_none (hasP_none fun q hq e => hu q hq (he.trans e.symm))]
       simp
      rw [addedV_cons (u :: a) v b, p1, addedV_cons (v :: b) u a, p2, changedV_cons (u :: a) v b, p3, addedV_skip (fun q hq => he ▸ hv q hq), addedV_skip (fun q hq => he ▸ hu q hq), changedV_skip (fun q hq => he ▸ hv q hq)]
      cases sameEntry u v <;> simp [he]
/-! ### The document's way -/
theorem at_l0 (a : List (S31)) (hl : a.length ≤ 1000000) (s : ByteArray) : ∀ (m i : Nat), i + m = a.length → (∀ j : Nat, j < i → (rd_T31 a (j : Int)).f0 ≠ s) → ∃ r : Int, Ev (fun k => satchelref08_at.l0 k a s (i : Int)) r ∧ ((r = -1 ∧ ∀ j : Nat, j < a.length → (rd_T31 a (j : Int)).f0 ≠ s) ∨ ∃ q : Nat, r = (q : Int) ∧ q < a.length ∧ (rd_T31 a (q : Int)).f0 = s)
 | 0, i, h, hb => by
  refine ⟨-1, Ev.shift ?_, .inl ⟨rfl, fun j hj => hb j (by omega)⟩⟩
  simp only [satchelref08_at.l0]
  exact Ev.ifn (by omega) (Ev.const _)
 | m + 1, i, h, hb => by
  have ew : wrap64 ((i : Int) + 1) = ((i + 1 : Nat) : Int) := by rw [wrap_id _ (by omega)]; omega
  by_cases h1 : (rd_T31 a (i : Int)).f0 = s
  ·refine ⟨(i : Int), Ev.shift ?_, .inr ⟨i, rfl, by omega, h1⟩⟩
   simp only [satchelref08_at.l0]
   exact Ev.ifp (by omega) (Ev.ifp (by omega) (Ev.ifp (by rw [h1]) (Ev.const _)))
  ·obtain ⟨r, hr, hr2⟩ := at_l0 a hl s m (i + 1) (by omega) (fun j hj => by
    by_cases e : j = i
    ·rw [e]; exact h1
    ·exact hb j (by omega))
   refine ⟨r, Ev.shift ?_, hr2⟩
   simp only [satchelref08_at.l0, ew]
   exact Ev.ifp (by omega) (Ev.ifp (by omega) (Ev.ifn (fun c => h1 (bytes_ext c)) hr))
theorem at_ev (a : List (S31)) (hl : a.length ≤ 1000000) (s : ByteArray) : ∃ r : Int, Ev (fun k => satchelref08_at.f k a s) r ∧ ((r = -1 ∧ ∀ j : Nat, j < a.length → (rd_T31 a (j : Int)).f0 ≠ s) ∨ ∃ q : Nat, r = (q : Int) ∧ q < a.length ∧ (rd_T31 a (q : Int)).f0 = s) := by
 simp only [satchelref08_at.f]
 exact at_l0 a hl s a.length 0 (by omega) (fun j hj => by omega)
theorem hasP_of (a : List (S31)) (s : ByteArray) : (∀ j : Nat, j < a.length → (rd_T31 a (j : Int)).f0 ≠ s) → hasP a s = false := fun h => hasP_none fun x hx => by
 obtain ⟨j, hj, rfl⟩ := List.mem_iff_getElem.1 hx
 rw [← rd_at a j hj]
 exact h j hj
theorem hasP_at {a : List (S31)} {s : ByteArray} {q : Nat} (hq : q < a.length) (h : (rd_T31 a (q : Int)).f0 = s) : hasP a s = true := by
 unfold hasP
 refine List.any_eq_true.2 ⟨a[q], List.getElem_mem hq, ?_⟩
 rw [← rd_at a q hq]
 exact decide_eq_true h
theorem turned_at {a : List (S31)} (ha : Up a) {y : S31} {q : Nat} (hq : q < a.length) (h : (rd_T31 a (q : Int)).f0 = y.f0) : turnedE a y = !sameEntry (rd_T31 a (q : Int)) y := by
 have huniq : ∀ j : Nat, ∀ hj : j < a.length, a[j].f0 = y.f0 → j = q := by
  intro j hj hj2
  rw [rd_at a q hq] at h
  rcases Nat.lt_trichotomy j q with h3 | h3 | h3
  ·have := cmpV_ne (List.pairwise_iff_getElem.1 ha j q hj hq h3)
   exact absurd (hj2.trans h.symm) this
  ·exact h3
  ·have := cmpV_ne (List.pairwise_iff_getElem.1 ha q j hq hj h3)
   exact absurd (h.trans hj2.symm) this
 unfold turnedE
 rw [Bool.eq_iff_iff]
 rw [List.any_eq_true]
 constructor
 ·rintro ⟨x, hx, hx2⟩
  obtain ⟨j, hj, rfl⟩ := List.mem_iff_getElem.1 hx
  rw [Bool.and_eq_true] at hx2
  have := huniq j hj (of_decide_eq_true hx2.1)
  subst this
  rw [rd_at a j hj]
  exact hx2.2
 ·intro h1
  refine ⟨a[q], List.getElem_mem hq, ?_⟩
  rw [rd_at a q hq] at h h1
  rw [h1, decide_eq_true h]
  rfl
theorem rdiff_l0 (a b : List (S31)) (ha : Up a) (hla : a.length ≤ 1000) : ∀ (m i : Nat) (x z : List ByteArray), i + m = b.length → x.length + m ≤ 1000000 → z.length + m ≤ 1000000 → Ev (fun k => satchelref08_Diff.l0 k a b x z i) (x ++ addedV a (b.drop i), z ++ changedV a (b.drop i))
 | 0, i, x, z, h, hx, hz => by
  refine Ev.shift ?_
  simp only [satchelref08_Diff.l0]
  refine Ev.ifn (by omega) ?_
  rw [List.drop_eq_nil_of_le (by omega)]
  show Ev (fun _ => some (x, z)) (x ++ [], z ++ [])
  rw [List.append_nil, List.append_nil]
  exact Ev.const _
 | m + 1, i, x, z, h, hx, hz => by
  have hi : i < b.length := by omega
  refine Ev.shift ?_
  simp only [satchelref08_Diff.l0, likeE_is, Option.bind_some]
  refine Ev.ifp hi ?_
  rw [List.drop_eq_getElem_cons hi, ← rd_at b i hi]
  obtain ⟨r, hr, h2⟩ := at_ev a (by omega) (rd_T31 b (i : Int)).f0
  refine Ev.bind hr (Ev.ifp (by omega) ?_)
  rw [addedV_cons, changedV_cons]
  rcases h2 with ⟨rfl, h3⟩ | ⟨q, rfl, h3, h4⟩
  ·have h5 := hasP_of a _ h3
   refine Ev.ifp (by omega) ?_
   have ih := rdiff_l0 a b ha hla m (i + 1) (x ++ [(rd_T31 b (i : Int)).f0]) z (by omega) (by simp; omega) (by omega)
   refine ih.to_eq ?_
   rw [h5, turnedE_none h5]
   simp
  ·refine Ev.ifn (by omega) (Ev.ifp (by omega) ?_)
   have ih := rdiff_l0 a b ha hla m (i + 1) x (if sameEntry (rd_T31 a (q : Int)) (rd_T31 b (i : Int)) = true then z else z ++ [(rd_T31 b (i : Int)).f0]) (by omega) (by omega) (by split <;> (try simp) <;> omega)
   refine ih.to_eq ?_
   rw [hasP_at h3 h4, turned_at ha h3 h4]
   cases sameEntry (rd_T31 a (q : Int)) (rd_T31 b (i : Int)) <;> simp
theorem rdiff_l1 (a b : List (S31)) (hlb : b.length ≤ 1000) : ∀ (m i : Nat) (y : List ByteArray), i + m = a.length → y.length + m ≤ 1000000 → Ev (fun k => satchelref08_Diff.l1 k a b y i) (y ++ addedV b (a.drop i))
 | 0, i, y, h, hy => by
  refine Ev.shift ?_
  simp only [satchelref08_Diff.l1]
  refine Ev.ifn (by omega) ?_
  rw [List.drop_eq_nil_of_le (by omega)]
  show Ev (fun _ => some y) (y ++ [])
  rw [List.append_nil]
  exact Ev.const _
 | m + 1, i, y, h, hy => by
  have hi : i < a.length := by omega
  refine Ev.shift ?_
  simp only [satchelref08_Diff.l1]
  refine Ev.ifp hi ?_
  rw [List.drop_eq_getElem_cons hi, ← rd_at a i hi]
  obtain ⟨r, hr, h2⟩ := at_ev b (by omega) (rd_T31 a (i : Int)).f0
  refine Ev.bind hr (Ev.ifp (by omega) ?_)
  rw [addedV_cons]
  rcases h2 with ⟨rfl, h3⟩ | ⟨q, rfl, h3, h4⟩
  ·have h5 := hasP_of b _ h3
   refine Ev.ifp (by omega) ?_
   have ih := rdiff_l1 a b hlb m (i + 1) (y ++ [(rd_T31 a (i : Int)).f0]) (by omega) (by simp; omega)
   refine ih.to_eq ?_
   rw [h5]
   simp
  ·refine Ev.ifn (by omega) ?_
   have ih := rdiff_l1 a b hlb m (i + 1) y (by omega) (by omega)
   refine ih.to_eq ?_
   rw [hasP_at h3 h4]
   simp
def diffV (a b : List (S31)) : List ByteArray × List ByteArray × List ByteArray := if (treeV a).1 = 0 ∧ (treeV b).1 = 0 then (addedV a b, addedV b a, changedV a b) else ([], [], [])
theorem diff_ev (a b : List (S31)) (ha : a.length ≤ 1000) (hb : b.length ≤ 1000) : Ev (fun k => tree_Diff.f k a b) (diffV a b) := by
 simp only [tree_Diff.f]
 refine Ev.ifp (by omega) (Ev.bind (tree_ev a) (Ev.bind (tree_ev b) ?_))
 unfold diffV
 by_cases h : (treeV a).1 = 0 ∧ (treeV b).1 = 0
 ·rw [if_pos h]
  refine Ev.ifp h ?_
  exact diff_l0 (a.length + b.length) a b [] [] [] (Nat.le_refl _) (good_of h.1).Up (good_of h.2).Up (by simp; omega) (by simp; omega) (by simp; omega)
 ·rw [if_neg h]
  exact Ev.ifn h (Ev.const _)
theorem rdiff_ev (a b : List (S31)) (ha : a.length ≤ 1000) (hb : b.length ≤ 1000) : Ev (fun k => satchelref08_Diff.f k a b) (diffV a b) := by
 simp only [satchelref08_Diff.f]
 refine Ev.ifp (by omega) (Ev.bind (check8_ev a) (Ev.bind (check8_ev b) ?_))
 unfold diffV
 by_cases h : (treeV a).1 = 0 ∧ (treeV b).1 = 0
 ·rw [if_pos h]
  refine Ev.ifp h (Ev.bind (rdiff_l0 a b (good_of h.1).Up ha b.length 0 [] [] (by omega) (by simp; omega) (by simp; omega)) (Ev.bind (rdiff_l1 a b hb a.length 0 [] (by omega) (by simp; omega)) ?_))
  exact Ev.const _
 ·rw [if_neg h]
  exact Ev.ifn h (Ev.const _)
/-! ### The same -/
def sameV (a b : List (S31)) : Bool := decide (a.length = b.length) && (a.zip b).all fun p => sameEntry p.1 p.2
theorem sameTree_f (a b : List (S31)) : satchelkit_SameTree.f a b = some (sameV a b) := rfl
theorem eqAll_is : ∀ l : List (S31 × S31), eqAll l = some (l.all fun p => sameEntry p.1 p.2)
 | [] => rfl
 | p :: t => by
  unfold eqAll
  rw [alikeE_is, Option.bind_some, eqAll_is t, List.all_cons]
  cases sameEntry p.1 p.2 <;> simp
theorem same_f (a b : List (S31)) (ha : a.length ≤ 1000) : tree_Same.f a b = some (sameV a b) := by
 unfold tree_Same.f sameV
 rw [if_pos (by omega), eqAll_is]
 by_cases h : a.length = b.length
 ·rw [if_pos h, decide_eq_true h]; rfl
 ·rw [if_neg h, decide_eq_false h]; rfl
theorem same8_l0 (a b : List (S31)) (hl : a.length = b.length) (ha : a.length ≤ 1000) : ∀ (m i : Nat), i + m = a.length → Ev (fun k => satchelref08_Same.l0 k a b (i : Int)) (((a.drop i).zip (b.drop i)).all fun p => sameEntry p.1 p.2)
 | 0, i, h => by
  refine Ev.shift ?_
  simp only [satchelref08_Same.l0]
  rw [List.drop_eq_nil_of_le (by omega : a.length ≤ i)]
  exact Ev.ifn (by omega) (Ev.const _)
 | m + 1, i, h => by
  have hi : i < a.length := by omega
  have hi' : i < b.length := by omega
  have ew : wrap64 ((i : Int) + 1) = ((i + 1 : Nat) : Int) := by rw [wrap_id _ (by omega)]; omega
  refine Ev.shift ?_
  simp only [satchelref08_Same.l0]
  refine Ev.ifp (by omega) (Ev.ifp (by omega) (Ev.ifp (by omega) ?_))
  have h1 := likeE_is (rd_T31 a (i : Int)) (rd_T31 b (i : Int))
  unfold likeE at h1
  simp only [h1, Option.bind_some, ew]
  rw [List.drop_eq_getElem_cons hi, List.drop_eq_getElem_cons hi', List.zip_cons_cons, List.all_cons, rd_at a i hi, rd_at b i hi']
  by_cases h2 : sameEntry a[i] b[i] = true
  ·rw [h2, Bool.true_and]
   exact Ev.ifp rfl (same8_l0 a b hl ha m (i + 1) (by omega))
  ·rw [show sameEntry a[i] b[i] = false by simpa using h2, Bool.false_and]
   exact Ev.ifn (by simp) (Ev.const _)
theorem same8_ev (a b : List (S31)) (ha : a.length ≤ 1000) : Ev (fun k => satchelref08_Same.f k a b) (sameV a b) := by
 simp only [satchelref08_Same.f]
 unfold sameV
 by_cases h : a.length = b.length
 ·rw [decide_eq_true h]
  exact Ev.ifp (by omega) (same8_l0 a b h ha a.length 0 (by omega))
 ·rw [decide_eq_false h]
  exact Ev.ifn (by omega) (Ev.const _)
/-! ### Texts, copies -/
theorem texts_l0 (l : List ByteArray) (hl : l.length ≤ 1000000) : ∀ (m i : Nat), i + m = l.length → Ev (fun k => satchelkit_SameTexts.l0 k l l (i : Int)) true
 | 0, i, h => by
  refine Ev.shift ?_
  simp only [satchelkit_SameTexts.l0]
  exact Ev.ifn (by omega) (Ev.const _)
 | m + 1, i, h => by
  have ew : wrap64 ((i : Int) + 1) = ((i + 1 : Nat) : Int) := by rw [wrap_id _ (by omega)]; omega
  refine Ev.shift ?_
  simp only [satchelkit_SameTexts.l0, ew]
  exact Ev.ifp (by omega) (Ev.ifp (by omega) (Ev.ifp (by omega) (Ev.ifp (by trivial) (texts_l0 l hl m (i + 1) (by omega)))))
theorem texts_ev (l : List ByteArray) (hl : l.length ≤ 1000000) : Ev (fun k => satchelkit_SameTexts.f k l l) true := by
 simp only [satchelkit_SameTexts.f]
 exact Ev.ifp (by trivial) (texts_l0 l hl l.length 0 (by omega))
/-- Entries whose bytes are no longer than a machine's. -/
def Fits (l : List (S31)) : Prop := ∀ e ∈ l, e.f3.length < 140737488355328
theorem Fits.at {l : List (S31)} (h : Fits l) {i : Nat} (hi : i < l.length) : (rd_T31 l (i : Int)).f3.length < 140737488355328 := by rw [rd_at l i hi]; exact h _ (List.getElem_mem hi)
theorem copy_l0 (l : List (S31)) (hl : l.length ≤ 1000000) (hf : Fits l) : ∀ (m i : Nat), i + m = l.length → Ev (fun k => satchelkit_CopyTree.l0 k l (i : Int)) l
 | 0, i, h => by
  refine Ev.shift ?_
  simp only [satchelkit_CopyTree.l0]
  exact Ev.ifn (by omega) (Ev.const _)
 | m + 1, i, h => by
  have hi : i < l.length := by omega
  have ew : wrap64 ((i : Int) + 1) = ((i + 1 : Nat) : Int) := by rw [wrap_id _ (by omega)]; omega
  have e1 : satchelkit_CopyBytes.f (rd_T31 l (i : Int)).f3 = some (rd_T31 l (i : Int)).f3 := by
   unfold satchelkit_CopyBytes.f
   rw [Option.bind_some, if_pos (by have := hf.at hi; simpa using this)]
   rfl
  have e2 : l.set ((i : Int)).toNat (⟨(rd_T31 l (i : Int)).f0, (rd_T31 l (i : Int)).f1, (rd_T31 l (i : Int)).f2, (rd_T31 l (i : Int)).f3, (rd_T31 l (i : Int)).f4⟩ : S31) = l := by
   rw [Int.toNat_natCast]
   show l.set i (rd_T31 l (i : Int)) = l
   rw [rd_at l i hi]
   exact List.set_getElem_self _
  refine Ev.shift ?_
  simp only [satchelkit_CopyTree.l0]
  refine Ev.ifp (by omega) (Ev.ifp (by omega) ?_)
  rw [e1]
  simp only [Option.bind_some]
  rw [e2, ew]
  exact copy_l0 l hl hf m (i + 1) (by omega)
theorem copy_ev (l : List (S31)) (hl : l.length ≤ 1000000) (hf : Fits l) : Ev (fun k => satchelkit_CopyTree.f k l) l := by
 simp only [satchelkit_CopyTree.f, Option.bind_some]
 refine Ev.ifp (by simp; omega) ?_
 exact copy_l0 l hl hf l.length 0 (by omega)
theorem sameV_refl (l : List (S31)) : sameV l l = true := by
 have := same_refl l
 rw [sameTree_f] at this
 exact Option.some.inj this
theorem addedV_len (a b : List (S31)) : (addedV a b).length ≤ b.length := by unfold addedV; rw [List.length_map]; exact List.length_filter_le _ _
theorem changedV_len (a b : List (S31)) : (changedV a b).length ≤ b.length := by unfold changedV; rw [List.length_map]; exact List.length_filter_le _ _
theorem diffV_len (a b : List (S31)) : (diffV a b).1.length ≤ b.length ∧ (diffV a b).2.1.length ≤ a.length ∧ (diffV a b).2.2.length ≤ b.length := by
 unfold diffV
 split
 ·exact ⟨addedV_len a b, addedV_len b a, changedV_len a b⟩
 ·simp
end Go.Proofs.Ytopkmchkfcjjmaa.X
end

/-! ## Satchellaw08TreeDiffs -/
section
namespace Go.Proofs.Ytopkmchkfcjjmaa.X
open Go.RowKit Go.Proofs.YtopkmchkfcjjmaaW.PrintWords Go.Proofs.YtopkmchkfcjjmaaW.PrintLast Go.Proofs.YtopkmchkfcjjmaaW.PrintMore
attribute [local go_sem] max2_int min2_int max_two min_two max_three min_three max_four min_four   -- for this text's walks alone
set_option linter.unusedVariables false
set_option linter.unusedSimpArgs false

attribute [local go_sem] str_gtr fld_fault0 fld_fault1
/-! ### satchellaw08_TreeDiffs: function 5 -/
mutual
def satchellaw08_TreeDiffs.j0 : Nat → List (S31) → List (S31) → Bool → Option (Bool)
 | 0, _, _, _ => none
 | k + 1, x0, x1, x19 => if x19 = true then ((satchellaw08_awake.f k).bind fun t387 => (some t387)) else ((satchelkit_CopyTree.f k x0).bind fun t388 => ((satchelkit_CopyTree.f k x1).bind fun t391 => ((tree_Diff.f k t388 t391).bind fun bt394 => ((satchelref08_Diff.f k x0 x1).bind fun bt403 => ((satchelkit_SameTexts.f k bt394.1 bt403.1).bind fun t412 => (if t412 = true then ((satchelkit_SameTexts.f k bt394.2.1 bt403.2.1).bind fun t413 => (if t413 = true then ((satchelkit_SameTexts.f k bt394.2.2 bt403.2.2).bind fun t414 => (satchellaw08_TreeDiffs.j1 k x0 x1 t388 t391 t414)) else (satchellaw08_TreeDiffs.j1 k x0 x1 t388 t391 false))) else (satchellaw08_TreeDiffs.j1 k x0 x1 t388 t391 false)))))))
def satchellaw08_TreeDiffs.j1 : Nat → List (S31) → List (S31) → List (S31) → List (S31) → Bool → Option (Bool)
 | 0, _, _, _, _, _ => none
 | k + 1, x0, x1, x5, x6, x13 => if x13 = true then ((tree_Same.f x5 x6).bind fun t415 => ((satchelref08_Same.f k x0 x1).bind fun t416 => (if (t415 == t416) = true then ((satchelkit_SameTree.f x5 x0).bind fun t417 => (if t417 = true then ((satchelkit_SameTree.f x6 x1).bind fun t418 => (if t418 = true then ((satchellaw08_awake.f k).bind fun t419 => (some t419)) else (some false))) else (some false))) else (some false)))) else (some false)
end
def satchellaw08_TreeDiffs.f (k : Nat) (l0 : List (S31)) (l1 : List (S31)) : Option (Bool) := (satchelkit_BigTree.f k l0 100 6000).bind fun t385 => (if t385 = true then (satchellaw08_TreeDiffs.j0 k l0 l1 true) else ((satchelkit_BigTree.f k l1 100 6000).bind fun t386 => (satchellaw08_TreeDiffs.j0 k l0 l1 t386)))
theorem satchellaw08_TreeDiffs.mono_l : ∀ k, (∀ y0 y1 y2, LeO (satchellaw08_TreeDiffs.j0 k y0 y1 y2) (satchellaw08_TreeDiffs.j0 (k + 1) y0 y1 y2)) ∧ (∀ y0 y1 y2 y3 y4, LeO (satchellaw08_TreeDiffs.j1 k y0 y1 y2 y3 y4) (satchellaw08_TreeDiffs.j1 (k + 1) y0 y1 y2 y3 y4))
 | 0 => ⟨fun _ _ _ r h => by simp [satchellaw08_TreeDiffs.j0] at h, fun _ _ _ _ _ r h => by simp [satchellaw08_TreeDiffs.j1] at h⟩
 | k + 1 => by
  obtain ⟨ih0, ih1⟩ := satchellaw08_TreeDiffs.mono_l k
  refine ⟨?_, ?_⟩
  ·intro y0 y1 y2
   unfold satchellaw08_TreeDiffs.j0
   repeat' first
   | (with_reducible exact ih0 _ _ _)
   | (with_reducible exact ih1 _ _ _ _ _)
   | (with_reducible exact satchelkit_BigTree.mono _ _ _ _)
   | (with_reducible exact satchelkit_CopyTree.mono _ _)
   | (with_reducible exact satchelkit_SameTexts.mono _ _ _)
   | (with_reducible exact satchellaw08_awake.mono _)
   | (with_reducible exact satchelref08_Diff.mono _ _ _)
   | (with_reducible exact satchelref08_Same.mono _ _ _)
   | (with_reducible exact tree_Diff.mono _ _ _)
   | (with_reducible exact LeO.refl _)
   | (with_reducible exact LeO.none _)
   | (with_reducible refine LeO.ite ?_ ?_)
   | (with_reducible refine LeO.bind ?_ (fun _ => ?_))
   | exact ih0 _ _ _
   | exact ih1 _ _ _ _ _
   | exact satchelkit_BigTree.mono _ _ _ _
   | exact satchelkit_CopyTree.mono _ _
   | exact satchelkit_SameTexts.mono _ _ _
   | exact satchellaw08_awake.mono _
   | exact satchelref08_Diff.mono _ _ _
   | exact satchelref08_Same.mono _ _ _
   | exact tree_Diff.mono _ _ _
   | exact LeO.none _
   | refine LeO.ite ?_ ?_
   | refine LeO.bind ?_ (fun _ => ?_)
  ·intro y0 y1 y2 y3 y4
   unfold satchellaw08_TreeDiffs.j1
   repeat' first
   | (with_reducible exact ih0 _ _ _)
   | (with_reducible exact ih1 _ _ _ _ _)
   | (with_reducible exact satchelkit_BigTree.mono _ _ _ _)
   | (with_reducible exact satchelkit_CopyTree.mono _ _)
   | (with_reducible exact satchelkit_SameTexts.mono _ _ _)
   | (with_reducible exact satchellaw08_awake.mono _)
   | (with_reducible exact satchelref08_Diff.mono _ _ _)
   | (with_reducible exact satchelref08_Same.mono _ _ _)
   | (with_reducible exact tree_Diff.mono _ _ _)
   | (with_reducible exact LeO.refl _)
   | (with_reducible exact LeO.none _)
   | (with_reducible refine LeO.ite ?_ ?_)
   | (with_reducible refine LeO.bind ?_ (fun _ => ?_))
   | exact ih0 _ _ _
   | exact ih1 _ _ _ _ _
   | exact satchelkit_BigTree.mono _ _ _ _
   | exact satchelkit_CopyTree.mono _ _
   | exact satchelkit_SameTexts.mono _ _ _
   | exact satchellaw08_awake.mono _
   | exact satchelref08_Diff.mono _ _ _
   | exact satchelref08_Same.mono _ _ _
   | exact tree_Diff.mono _ _ _
   | exact LeO.none _
   | refine LeO.ite ?_ ?_
   | refine LeO.bind ?_ (fun _ => ?_)
theorem satchellaw08_TreeDiffs.mono : ∀ a0 a1 k, LeO (satchellaw08_TreeDiffs.f k a0 a1) (satchellaw08_TreeDiffs.f (k + 1) a0 a1) := by
 intro a0 a1 k
 obtain ⟨ih0, ih1⟩ := satchellaw08_TreeDiffs.mono_l k
 unfold satchellaw08_TreeDiffs.f
 repeat' first
   | (with_reducible exact ih0 _ _ _)
   | (with_reducible exact ih1 _ _ _ _ _)
   | (with_reducible exact satchelkit_BigTree.mono _ _ _ _)
   | (with_reducible exact satchelkit_CopyTree.mono _ _)
   | (with_reducible exact satchelkit_SameTexts.mono _ _ _)
   | (with_reducible exact satchellaw08_awake.mono _)
   | (with_reducible exact satchelref08_Diff.mono _ _ _)
   | (with_reducible exact satchelref08_Same.mono _ _ _)
   | (with_reducible exact tree_Diff.mono _ _ _)
   | (with_reducible exact LeO.refl _)
   | (with_reducible exact LeO.none _)
   | (with_reducible refine LeO.ite ?_ ?_)
   | (with_reducible refine LeO.bind ?_ (fun _ => ?_))
   | exact ih0 _ _ _
   | exact ih1 _ _ _ _ _
   | exact satchelkit_BigTree.mono _ _ _ _
   | exact satchelkit_CopyTree.mono _ _
   | exact satchelkit_SameTexts.mono _ _ _
   | exact satchellaw08_awake.mono _
   | exact satchelref08_Diff.mono _ _ _
   | exact satchelref08_Same.mono _ _ _
   | exact tree_Diff.mono _ _ _
   | exact LeO.none _
   | refine LeO.ite ?_ ?_
   | refine LeO.bind ?_ (fun _ => ?_)
set_option maxHeartbeats 8000000 in
set_option maxRecDepth 100000 in
theorem satchellaw08_TreeDiffs.calls (k : Nat) (A0 : Option Addr) (c0 : Nat) (l0 : List (S31)) (A1 : Option Addr) (c1 : Nat) (l1 : List (S31)) (r : Bool) (w : World) (hr0 : Kd.C k31 w A0 l0.length l0) (hc0 : l0.length ≤ c0) (hr1 : Kd.C k31 w A1 l1.length l1) (hc1 : l1.length ≤ c1) (h : satchellaw08_TreeDiffs.f k l0 l1 = some r) :
  Calls Try.prog 5 #[.slice A0 l0.length c0, .slice A1 l1.length c1] w fun e w' => e = .returned (.bool r) ∧ Below w.heap.size w w' := by
 have HR0 := Aside0.mk hr0
 have HC0 := Aside0.mk hc0
 clear hr0 hc0
 have HR1 := Aside0.mk hr1
 have HC1 := Aside0.mk hc1
 clear hr1 hc1
 have HB := Aside0.mk (Below.refl w.heap.size w)
 have H : ((satchelkit_BigTree.f k l0 100 6000).bind fun t385 => (if t385 = true then (satchellaw08_TreeDiffs.j0 k l0 l1 true) else ((satchelkit_BigTree.f k l1 100 6000).bind fun t386 => (satchellaw08_TreeDiffs.j0 k l0 l1 t386)))) = some r := h
 clear h
 have HC3 := Aside0.mk H
 clear H
 go_enter Try.func5, Try.ntmps5
 go_upto_region 1 with (fail)
 go_cut [19] (fun v19 wc => ∃ (kq : Nat) (x19_2 : Bool), v19 = .bool x19_2 ∧ Aside0 (satchellaw08_TreeDiffs.j0 kq l0 l1 x19_2 = some r) ∧ Aside0 (kq ≤ k) ∧ Aside0 (Below w.heap.size w wc))
 case first =>
  have H := HC3.out
  clear HC3
  replace H := Option.bind_eq_some_iff.mp H
  obtain ⟨t385, A40, H⟩ := H
  replace H : (if t385 = true then (satchellaw08_TreeDiffs.j0 k l0 l1 true) else ((satchelkit_BigTree.f k l1 100 6000).bind fun t386 => (satchellaw08_TreeDiffs.j0 k l0 l1 t386))) = some r := H
  have A4 := Aside0.mk A40
  clear A40
  by_cases c5 : t385 = true
  ·subst c5
   have H1 : (satchellaw08_TreeDiffs.j0 k l0 l1 true) = some r := by rw [if_pos rfl] at H; exact H
   clear H
   have H := H1
   clear H1
   have H' := Aside0.mk H
   clear H
   go_wp2_with (first | ((with_reducible refine gate_callee (f := 12) rfl ?_); refine goesL_ (some 15) rfl rfl Try.func12 (by kernel_rfl) rfl #[.slice A0 l0.length c0, .int .i64 100, .int .i64 6000] rfl (by (try simp only [List.map_toArray, List.map_cons, List.map_nil]); first | done | rfl | (simp only [List.length_drop, List.length_take]; rfl)) ?_; (with_reducible refine (satchelkit_BigTree.calls k _ _ l0 100 6000 true _ ?side1 ?side2 A4.out).mono ?_); (case side1 => repeat (first | exact (Kd.C_below HR0.out HB.out) | (with_reducible refine Kd.C_alloc ?_ _) | (with_reducible refine Kd.C_drewN ?_ _) | (with_reducible refine Kd.C_drew ?_))); (case side2 => exact HC0.out); rintro e w' ⟨rfl, ⟨nd, rfl⟩⟩; refine ⟨_, rfl, ?_⟩))
   go_meet
   case rel => exact ⟨_, (true), (by first | rfl | (simp; done) | (simp [*]; done)), H', ⟨by first | omega | exact Nat.le_refl _⟩, ⟨by repeat (first | (with_reducible first | exact HB.out | apply below_alloc | apply pw_below_drewN | apply below_drew1) | exact HB.out)⟩⟩
  ·replace c5 := Bool.eq_false_iff.mpr c5
   subst c5
   have H1 : ((satchelkit_BigTree.f k l1 100 6000).bind fun t386 => (satchellaw08_TreeDiffs.j0 k l0 l1 t386)) = some r := by rw [if_neg (show ¬ (false = true) by decide)] at H; exact H
   clear H
   have H := H1
   clear H1
   replace H := Option.bind_eq_some_iff.mp H
   obtain ⟨t386, A60, H⟩ := H
   replace H : (satchellaw08_TreeDiffs.j0 k l0 l1 t386) = some r := H
   have A6 := Aside0.mk A60
   clear A60
   have H' := Aside0.mk H
   clear H
   go_wp2_with (first | ((with_reducible refine gate_callee (f := 12) rfl ?_); refine goesL_ (some 15) rfl rfl Try.func12 (by kernel_rfl) rfl #[.slice A0 l0.length c0, .int .i64 100, .int .i64 6000] rfl (by (try simp only [List.map_toArray, List.map_cons, List.map_nil]); first | done | rfl | (simp only [List.length_drop, List.length_take]; rfl)) ?_; (with_reducible refine (satchelkit_BigTree.calls k _ _ l0 100 6000 false _ ?side1 ?side2 A4.out).mono ?_); (case side1 => repeat (first | exact (Kd.C_below HR0.out HB.out) | (with_reducible refine Kd.C_alloc ?_ _) | (with_reducible refine Kd.C_drewN ?_ _) | (with_reducible refine Kd.C_drew ?_))); (case side2 => exact HC0.out); rintro e w' ⟨rfl, ⟨nd, rfl⟩⟩; refine ⟨_, rfl, ?_⟩) | (go_at_call 12; (with_reducible refine (satchelkit_BigTree.calls k _ _ l1 100 6000 t386 _ ?side1 ?side2 A6.out).mono ?_); (case side1 => repeat (first | exact (Kd.C_below HR1.out (by repeat (first | (with_reducible first | exact HB.out | apply below_alloc | apply pw_below_drewN | apply below_drew1) | exact HB.out))) | (with_reducible refine Kd.C_alloc ?_ _) | (with_reducible refine Kd.C_drewN ?_ _) | (with_reducible refine Kd.C_drew ?_))); (case side2 => exact HC1.out); rintro e w' ⟨rfl, ⟨nd, rfl⟩⟩))
   go_meet
   case rel => exact ⟨_, (t386), (by first | rfl | (simp; done) | (simp [*]; done)), H', ⟨by first | omega | exact Nat.le_refl _⟩, ⟨by repeat (first | (with_reducible first | exact HB.out | apply below_alloc | apply pw_below_drewN | apply below_drew1) | exact HB.out)⟩⟩
 case rest =>
  clear HC3
  try clear c1
  try clear p2
  try clear c5
  obtain ⟨kq, x19_2, rfl, HA, HJ2, HB⟩ := hcut
  cases kq with
  | zero => exact absurd HA.out (by simp [satchellaw08_TreeDiffs.j0])
  | succ kj2 =>
   have H := HA.out
   clear HA
   simp only [satchellaw08_TreeDiffs.j0] at H
   by_cases c7 : x19_2 = true
   ·subst c7
    have H1 : ((satchellaw08_awake.f kj2).bind fun t387 => (some t387)) = some r := by rw [if_pos rfl] at H; exact H
    clear H
    have H := H1
    clear H1
    replace H := Option.bind_eq_some_iff.mp H
    obtain ⟨t387, A80, H⟩ := H
    replace H : (some t387) = some r := H
    have A8 := Aside0.mk A80
    clear A80
    obtain rfl := Option.some.inj H
    go_wp2_with (first | ((with_reducible refine gate_callee (f := 10) rfl ?_); refine goesL_ (some 20) rfl rfl Try.func10 (by kernel_rfl) rfl #[] rfl (by (try simp only [List.map_toArray, List.map_cons, List.map_nil]); first | done | rfl | (simp only [List.length_drop, List.length_take]; rfl)) ?_; (with_reducible refine (satchellaw08_awake.calls kj2  t387 _ A8.out).mono ?_); rintro e w9 ⟨rfl, hb⟩; refine ⟨_, rfl, ?_⟩; have n0_ := Aside0.mk (below_step (by repeat (first | (with_reducible first | exact HB.out | apply below_alloc | apply pw_below_drewN | apply below_drew1) | exact HB.out)) hb); clear HB; have HB := n0_; clear n0_; (try clear hb); (try clear hb2); (try clear hk); (try clear hi)))
    go_ret
    exact ⟨by first | rfl | (simp [errW_none, errW_some] <;> rfl) | (simp [*, errW_none, errW_some] <;> rfl) | (simp [bt, *]; done) | (simp_all [bt]; done), by repeat (first | (with_reducible first | exact HB.out | apply below_alloc | apply pw_below_drewN | apply below_drew1) | exact HB.out)⟩
   ·replace c7 := Bool.eq_false_iff.mpr c7
    subst c7
    have H1 : ((satchelkit_CopyTree.f kj2 l0).bind fun t388 => ((satchelkit_CopyTree.f kj2 l1).bind fun t391 => ((tree_Diff.f kj2 t388 t391).bind fun bt394 => ((satchelref08_Diff.f kj2 l0 l1).bind fun bt403 => ((satchelkit_SameTexts.f kj2 bt394.1 bt403.1).bind fun t412 => (if t412 = true then ((satchelkit_SameTexts.f kj2 bt394.2.1 bt403.2.1).bind fun t413 => (if t413 = true then ((satchelkit_SameTexts.f kj2 bt394.2.2 bt403.2.2).bind fun t414 => (satchellaw08_TreeDiffs.j1 kj2 l0 l1 t388 t391 t414)) else (satchellaw08_TreeDiffs.j1 kj2 l0 l1 t388 t391 false))) else (satchellaw08_TreeDiffs.j1 kj2 l0 l1 t388 t391 false))))))) = some r := by rw [if_neg (show ¬ (false = true) by decide)] at H; exact H
    clear H
    have H := H1
    clear H1
    replace H := Option.bind_eq_some_iff.mp H
    obtain ⟨t388, A100, H⟩ := H
    replace H : ((satchelkit_CopyTree.f kj2 l1).bind fun t391 => ((tree_Diff.f kj2 t388 t391).bind fun bt394 => ((satchelref08_Diff.f kj2 l0 l1).bind fun bt403 => ((satchelkit_SameTexts.f kj2 bt394.1 bt403.1).bind fun t412 => (if t412 = true then ((satchelkit_SameTexts.f kj2 bt394.2.1 bt403.2.1).bind fun t413 => (if t413 = true then ((satchelkit_SameTexts.f kj2 bt394.2.2 bt403.2.2).bind fun t414 => (satchellaw08_TreeDiffs.j1 kj2 l0 l1 t388 t391 t414)) else (satchellaw08_TreeDiffs.j1 kj2 l0 l1 t388 t391 false))) else (satchellaw08_TreeDiffs.j1 kj2 l0 l1 t388 t391 false)))))) = some r := H
    have A10 := Aside0.mk A100
    clear A100
    replace H := Option.bind_eq_some_iff.mp H
    obtain ⟨t391, A110, H⟩ := H
    replace H : ((tree_Diff.f kj2 t388 t391).bind fun bt394 => ((satchelref08_Diff.f kj2 l0 l1).bind fun bt403 => ((satchelkit_SameTexts.f kj2 bt394.1 bt403.1).bind fun t412 => (if t412 = true then ((satchelkit_SameTexts.f kj2 bt394.2.1 bt403.2.1).bind fun t413 => (if t413 = true then ((satchelkit_SameTexts.f kj2 bt394.2.2 bt403.2.2).bind fun t414 => (satchellaw08_TreeDiffs.j1 kj2 l0 l1 t388 t391 t414)) else (satchellaw08_TreeDiffs.j1 kj2 l0 l1 t388 t391 false))) else (satchellaw08_TreeDiffs.j1 kj2 l0 l1 t388 t391 false))))) = some r := H
    have A11 := Aside0.mk A110
    clear A110
    replace H := Option.bind_eq_some_iff.mp H
    obtain ⟨⟨t394, t395, t396⟩, A120, H⟩ := H
    replace H : ((satchelref08_Diff.f kj2 l0 l1).bind fun bt403 => ((satchelkit_SameTexts.f kj2 t394 bt403.1).bind fun t412 => (if t412 = true then ((satchelkit_SameTexts.f kj2 t395 bt403.2.1).bind fun t413 => (if t413 = true then ((satchelkit_SameTexts.f kj2 t396 bt403.2.2).bind fun t414 => (satchellaw08_TreeDiffs.j1 kj2 l0 l1 t388 t391 t414)) else (satchellaw08_TreeDiffs.j1 kj2 l0 l1 t388 t391 false))) else (satchellaw08_TreeDiffs.j1 kj2 l0 l1 t388 t391 false)))) = some r := H
    have A12 := Aside0.mk A120
    clear A120
    replace H := Option.bind_eq_some_iff.mp H
    obtain ⟨⟨t403, t404, t405⟩, A130, H⟩ := H
    replace H : ((satchelkit_SameTexts.f kj2 t394 t403).bind fun t412 => (if t412 = true then ((satchelkit_SameTexts.f kj2 t395 t404).bind fun t413 => (if t413 = true then ((satchelkit_SameTexts.f kj2 t396 t405).bind fun t414 => (satchellaw08_TreeDiffs.j1 kj2 l0 l1 t388 t391 t414)) else (satchellaw08_TreeDiffs.j1 kj2 l0 l1 t388 t391 false))) else (satchellaw08_TreeDiffs.j1 kj2 l0 l1 t388 t391 false))) = some r := H
    have A13 := Aside0.mk A130
    clear A130
    have HC14 := Aside0.mk H
    clear H
    go_upto_region 6 with (first | ((with_reducible refine gate_callee (f := 18) rfl ?_); refine goesL_ (some 22) rfl rfl Try.func18 (by kernel_rfl) rfl #[.slice A0 l0.length c0] rfl (by (try simp only [List.map_toArray, List.map_cons, List.map_nil]); first | done | rfl | (simp only [List.length_drop, List.length_take]; rfl)) ?_; (with_reducible refine (satchelkit_CopyTree.calls kj2 (fun k_ => k_ < w.heap.size) _ _ l0 t388 _ ?side1 A10.out).mono ?_); (case side1 => exact Kd.V_mk HC0.out (Kd.F_below (Kd.C_F k31_heap HR0.out) (by repeat (first | (with_reducible first | exact HB.out | apply below_alloc | apply pw_below_drewN | apply below_drew1) | exact HB.out)))); rintro e w15 ⟨v389, rfl, ho0, hb⟩; refine ⟨_, rfl, ?_⟩; have n0_ := Aside0.mk (Kd.N_lower (Kd.N_mono (ok' := fun k_ => True) ho0 (fun k_ hk_ => trivial)) (below_size (by repeat (first | (with_reducible first | exact HB.out | apply below_alloc | apply pw_below_drewN | apply below_drew1) | exact HB.out)))); have n1_ := Aside0.mk (below_step (by repeat (first | (with_reducible first | exact HB.out | apply below_alloc | apply pw_below_drewN | apply below_drew1) | exact HB.out)) hb); clear HB; have HO390 := n0_; have HB := n1_; clear n0_ n1_; (try clear hb); (try clear hb2); (try clear hk); (try clear hi); (try clear ho0)) | ((with_reducible refine gate_callee (f := 18) rfl ?_); refine goesL_ (some 24) rfl rfl Try.func18 (by kernel_rfl) rfl #[.slice A1 l1.length c1] rfl (by (try simp only [List.map_toArray, List.map_cons, List.map_nil]); first | done | rfl | (simp only [List.length_drop, List.length_take]; rfl)) ?_; (with_reducible refine (satchelkit_CopyTree.calls kj2 (fun k_ => k_ < w.heap.size) _ _ l1 t391 _ ?side1 A11.out).mono ?_); (case side1 => exact Kd.V_mk HC1.out (Kd.F_below (Kd.C_F k31_heap HR1.out) (by repeat (first | (with_reducible first | exact HB.out | apply below_alloc | apply pw_below_drewN | apply below_drew1) | exact HB.out)))); rintro e w16 ⟨v392, rfl, ho0, hb⟩; refine ⟨_, rfl, ?_⟩; have n0_ := Aside0.mk (Kd.N_elder' (by (with_reducible repeat (first | apply Kd.N_alloc | apply Kd.N_drewN | apply Kd.N_drew)); exact HO390.out) (Kd.N_base ho0) hb); have n1_ := Aside0.mk (Kd.N_lower (Kd.N_mono (ok' := fun k_ => some k_ ≠ (v389 : Value).ownBlock) ho0 (fun k_ hk_ => Or.elim hk_ (fun hs_ => fun e_ => Nat.not_le.2 hs_ (Kd.N_base HO390.out k_ e_.symm)) (fun hn_ => (Kd.fresh' (Kd.N_lt (by (with_reducible repeat (first | apply Kd.N_alloc | apply Kd.N_drewN | apply Kd.N_drew)); exact HO390.out)) k_ hn_)))) (below_size (by repeat (first | (with_reducible first | exact HB.out | apply below_alloc | apply pw_below_drewN | apply below_drew1) | exact HB.out)))); have n2_ := Aside0.mk (below_step (by repeat (first | (with_reducible first | exact HB.out | apply below_alloc | apply pw_below_drewN | apply below_drew1) | exact HB.out)) hb); clear HO390; clear HB; have HO390 := n0_; have HO393 := n1_; have HB := n2_; clear n0_ n1_ n2_; (try clear hb); (try clear hb2); (try clear hk); (try clear hi); (try clear ho0); obtain ⟨Ao17, co17, eo17⟩ := Kd.N_slice HO390.out; subst eo17; obtain ⟨Ao18, co18, eo18⟩ := Kd.N_slice HO393.out; subst eo18) | ((with_reducible refine gate_callee (f := 25) rfl ?_); refine goesL_ (some 28) rfl rfl Try.func25 (by kernel_rfl) rfl #[.slice Ao17 t388.length co17, .slice Ao18 t391.length co18] rfl (by (try simp only [List.map_toArray, List.map_cons, List.map_nil]); first | done | rfl | (simp only [List.length_drop, List.length_take]; rfl)) ?_; (with_reducible refine (tree_Diff.calls kj2 _ _ t388 _ _ t391 t394 t395 t396 _ ?side1 ?side2 ?side3 ?side4 A12.out).mono ?_); (case side1 => repeat (first | exact (Kd.N_reads' HO390.out).2.2 | (with_reducible refine Kd.C_alloc ?_ _) | (with_reducible refine Kd.C_drewN ?_ _) | (with_reducible refine Kd.C_drew ?_))); (case side2 => exact (Kd.N_reads' HO390.out).2.1); (case side3 => repeat (first | exact (Kd.N_reads' HO393.out).2.2 | (with_reducible refine Kd.C_alloc ?_ _) | (with_reducible refine Kd.C_drewN ?_ _) | (with_reducible refine Kd.C_drew ?_))); (case side4 => exact (Kd.N_reads' HO393.out).2.1); rintro e w19 ⟨v397, v399, v401, rfl, ho0, ho1, ho2, hb⟩; refine ⟨_, rfl, ?_⟩; have n0_ := Aside0.mk (Kd.N_mono (Kd.N_told (Kd.N_told (Kd.N_told (Kd.N_old (by (with_reducible repeat (first | apply Kd.N_alloc | apply Kd.N_drewN | apply Kd.N_drew)); exact HO390.out) hb) (Kd.R_base ho0)) (Kd.R_base ho1)) (Kd.R_base ho2)) (fun _ h_ => h_.1)); have n1_ := Aside0.mk (Kd.N_mono (Kd.N_told (Kd.N_told (Kd.N_told (Kd.N_old (by (with_reducible repeat (first | apply Kd.N_alloc | apply Kd.N_drewN | apply Kd.N_drew)); exact HO393.out) hb) (Kd.R_base ho0)) (Kd.R_base ho1)) (Kd.R_base ho2)) (fun _ h_ => h_.1)); have n2_ := Aside0.mk (Kd.R_lower ho0 (below_size (by repeat (first | (with_reducible first | exact HB.out | apply below_alloc | apply pw_below_drewN | apply below_drew1) | exact HB.out)))); have n3_ := Aside0.mk (Kd.R_lower ho1 (below_size (by repeat (first | (with_reducible first | exact HB.out | apply below_alloc | apply pw_below_drewN | apply below_drew1) | exact HB.out)))); have n4_ := Aside0.mk (Kd.R_lower ho2 (below_size (by repeat (first | (with_reducible first | exact HB.out | apply below_alloc | apply pw_below_drewN | apply below_drew1) | exact HB.out)))); have n5_ := Aside0.mk (below_step (by repeat (first | (with_reducible first | exact HB.out | apply below_alloc | apply pw_below_drewN | apply below_drew1) | exact HB.out)) hb); clear HO390; clear HO393; clear HB; have HO390 := n0_; have HO393 := n1_; have HO398 := n2_; have HO400 := n3_; have HO402 := n4_; have HB := n5_; clear n0_ n1_ n2_ n3_ n4_ n5_; (try clear hb); (try clear hb2); (try clear hk); (try clear hi); (try clear ho0); (try clear ho1); (try clear ho2)) | ((with_reducible refine gate_callee (f := 26) rfl ?_); refine goesL_ (some 35) rfl rfl Try.func26 (by kernel_rfl) rfl #[.slice A0 l0.length c0, .slice A1 l1.length c1] rfl (by (try simp only [List.map_toArray, List.map_cons, List.map_nil]); first | done | rfl | (simp only [List.length_drop, List.length_take]; rfl)) ?_; (with_reducible refine (satchelref08_Diff.calls kj2 _ _ l0 _ _ l1 t403 t404 t405 _ ?side1 ?side2 ?side3 ?side4 A13.out).mono ?_); (case side1 => repeat (first | exact (Kd.C_below HR0.out HB.out) | (with_reducible refine Kd.C_alloc ?_ _) | (with_reducible refine Kd.C_drewN ?_ _) | (with_reducible refine Kd.C_drew ?_))); (case side2 => exact HC0.out); (case side3 => repeat (first | exact (Kd.C_below HR1.out HB.out) | (with_reducible refine Kd.C_alloc ?_ _) | (with_reducible refine Kd.C_drewN ?_ _) | (with_reducible refine Kd.C_drew ?_))); (case side4 => exact HC1.out); rintro e w20 ⟨v406, v408, v410, rfl, ho0, ho1, ho2, hb⟩; refine ⟨_, rfl, ?_⟩; have n0_ := Aside0.mk (Kd.N_mono (Kd.N_told (Kd.N_told (Kd.N_told (Kd.N_old (by (with_reducible repeat (first | apply Kd.N_alloc | apply Kd.N_drewN | apply Kd.N_drew)); exact HO390.out) hb) (Kd.R_base ho0)) (Kd.R_base ho1)) (Kd.R_base ho2)) (fun _ h_ => h_.1)); have n1_ := Aside0.mk (Kd.N_mono (Kd.N_told (Kd.N_told (Kd.N_told (Kd.N_old (by (with_reducible repeat (first | apply Kd.N_alloc | apply Kd.N_drewN | apply Kd.N_drew)); exact HO393.out) hb) (Kd.R_base ho0)) (Kd.R_base ho1)) (Kd.R_base ho2)) (fun _ h_ => h_.1)); have n2_ := Aside0.mk (Kd.R_mono (Kd.R_told (Kd.R_told (Kd.R_told (Kd.R_old (by (with_reducible repeat (first | apply Kd.R_alloc | apply Kd.R_drewN | apply Kd.R_drew)); exact HO398.out) hb) (Kd.R_base ho0)) (Kd.R_base ho1)) (Kd.R_base ho2)) (fun _ h_ => h_.1)); have n3_ := Aside0.mk (Kd.R_mono (Kd.R_told (Kd.R_told (Kd.R_told (Kd.R_old (by (with_reducible repeat (first | apply Kd.R_alloc | apply Kd.R_drewN | apply Kd.R_drew)); exact HO400.out) hb) (Kd.R_base ho0)) (Kd.R_base ho1)) (Kd.R_base ho2)) (fun _ h_ => h_.1)); have n4_ := Aside0.mk (Kd.R_mono (Kd.R_told (Kd.R_told (Kd.R_told (Kd.R_old (by (with_reducible repeat (first | apply Kd.R_alloc | apply Kd.R_drewN | apply Kd.R_drew)); exact HO402.out) hb) (Kd.R_base ho0)) (Kd.R_base ho1)) (Kd.R_base ho2)) (fun _ h_ => h_.1)); have n5_ := Aside0.mk (Kd.R_lower (Kd.R_new' (Kd.R_new' (Kd.R_new' ho0 (Kd.R_lt (by (with_reducible repeat (first | apply Kd.R_alloc | apply Kd.R_drewN | apply Kd.R_drew)); exact HO398.out))) (Kd.R_lt (by (with_reducible repeat (first | apply Kd.R_alloc | apply Kd.R_drewN | apply Kd.R_drew)); exact HO400.out))) (Kd.R_lt (by (with_reducible repeat (first | apply Kd.R_alloc | apply Kd.R_drewN | apply Kd.R_drew)); exact HO402.out))) (below_size (by repeat (first | (with_reducible first | exact HB.out | apply below_alloc | apply pw_below_drewN | apply below_drew1) | exact HB.out)))); have n6_ := Aside0.mk (Kd.R_lower (Kd.R_new' (Kd.R_new' (Kd.R_new' ho1 (Kd.R_lt (by (with_reducible repeat (first | apply Kd.R_alloc | apply Kd.R_drewN | apply Kd.R_drew)); exact HO398.out))) (Kd.R_lt (by (with_reducible repeat (first | apply Kd.R_alloc | apply Kd.R_drewN | apply Kd.R_drew)); exact HO400.out))) (Kd.R_lt (by (with_reducible repeat (first | apply Kd.R_alloc | apply Kd.R_drewN | apply Kd.R_drew)); exact HO402.out))) (below_size (by repeat (first | (with_reducible first | exact HB.out | apply below_alloc | apply pw_below_drewN | apply below_drew1) | exact HB.out)))); have n7_ := Aside0.mk (Kd.R_lower (Kd.R_new' (Kd.R_new' (Kd.R_new' ho2 (Kd.R_lt (by (with_reducible repeat (first | apply Kd.R_alloc | apply Kd.R_drewN | apply Kd.R_drew)); exact HO398.out))) (Kd.R_lt (by (with_reducible repeat (first | apply Kd.R_alloc | apply Kd.R_drewN | apply Kd.R_drew)); exact HO400.out))) (Kd.R_lt (by (with_reducible repeat (first | apply Kd.R_alloc | apply Kd.R_drewN | apply Kd.R_drew)); exact HO402.out))) (below_size (by repeat (first | (with_reducible first | exact HB.out | apply below_alloc | apply pw_below_drewN | apply below_drew1) | exact HB.out)))); have n8_ := Aside0.mk (below_step (by repeat (first | (with_reducible first | exact HB.out | apply below_alloc | apply pw_below_drewN | apply below_drew1) | exact HB.out)) hb); clear HO390; clear HO393; clear HO398; clear HO400; clear HO402; clear HB; have HO390 := n0_; have HO393 := n1_; have HO398 := n2_; have HO400 := n3_; have HO402 := n4_; have HO407 := n5_; have HO409 := n6_; have HO411 := n7_; have HB := n8_; clear n0_ n1_ n2_ n3_ n4_ n5_ n6_ n7_ n8_; (try clear hb); (try clear hb2); (try clear hk); (try clear hi); (try clear ho0); (try clear ho1); (try clear ho2)))
    (try simp only [Act.put, List.setIfInBounds_toArray, List.set_cons_zero, List.set_cons_succ])
    go_cut [13] (fun v13 wc => ∃ (kq : Nat) (x13_13 : Bool), v13 = .bool x13_13 ∧ Aside0 (satchellaw08_TreeDiffs.j1 kq l0 l1 t388 t391 x13_13 = some r) ∧ Aside0 (kq ≤ kj2) ∧ Aside0 (Kd.N k31 31 wc w.heap.size (fun k_ => some k_ ≠ ((.slice Ao18 t391.length co18) : Value).ownBlock) (.slice Ao17 t388.length co17) t388) ∧ Aside0 (Kd.N k31 31 wc w.heap.size (fun k_ => some k_ ≠ ((.slice Ao17 t388.length co17) : Value).ownBlock) (.slice Ao18 t391.length co18) t391) ∧ Aside0 (Below w.heap.size w wc))
    case first =>
     have H := HC14.out
     clear HC14
     replace H := Option.bind_eq_some_iff.mp H
     obtain ⟨t412, A210, H⟩ := H
     replace H : (if t412 = true then ((satchelkit_SameTexts.f kj2 t395 t404).bind fun t413 => (if t413 = true then ((satchelkit_SameTexts.f kj2 t396 t405).bind fun t414 => (satchellaw08_TreeDiffs.j1 kj2 l0 l1 t388 t391 t414)) else (satchellaw08_TreeDiffs.j1 kj2 l0 l1 t388 t391 false))) else (satchellaw08_TreeDiffs.j1 kj2 l0 l1 t388 t391 false)) = some r := H
     have A21 := Aside0.mk A210
     clear A210
     by_cases c22 : t412 = true
     ·subst c22
      have H1 : ((satchelkit_SameTexts.f kj2 t395 t404).bind fun t413 => (if t413 = true then ((satchelkit_SameTexts.f kj2 t396 t405).bind fun t414 => (satchellaw08_TreeDiffs.j1 kj2 l0 l1 t388 t391 t414)) else (satchellaw08_TreeDiffs.j1 kj2 l0 l1 t388 t391 false))) = some r := by rw [if_pos rfl] at H; exact H
      clear H
      have H := H1
      clear H1
      replace H := Option.bind_eq_some_iff.mp H
      obtain ⟨t413, A230, H⟩ := H
      replace H : (if t413 = true then ((satchelkit_SameTexts.f kj2 t396 t405).bind fun t414 => (satchellaw08_TreeDiffs.j1 kj2 l0 l1 t388 t391 t414)) else (satchellaw08_TreeDiffs.j1 kj2 l0 l1 t388 t391 false)) = some r := H
      have A23 := Aside0.mk A230
      clear A230
      by_cases c24 : t413 = true
      ·subst c24
       have H1 : ((satchelkit_SameTexts.f kj2 t396 t405).bind fun t414 => (satchellaw08_TreeDiffs.j1 kj2 l0 l1 t388 t391 t414)) = some r := by rw [if_pos rfl] at H; exact H
       clear H
       have H := H1
       clear H1
       replace H := Option.bind_eq_some_iff.mp H
       obtain ⟨t414, A250, H⟩ := H
       replace H : (satchellaw08_TreeDiffs.j1 kj2 l0 l1 t388 t391 t414) = some r := H
       have A25 := Aside0.mk A250
       clear A250
       have H' := Aside0.mk H
       clear H
       obtain ⟨Ao26, co26, eo26⟩ := Kd.R_slice HO398.out
       subst eo26
       obtain ⟨Ao27, co27, eo27⟩ := Kd.R_slice HO407.out
       subst eo27
       go_wp2_with (first | ((with_reducible refine gate_callee (f := 27) rfl ?_); refine goesL_ (some 41) rfl rfl Try.func27 (by kernel_rfl) rfl #[.slice Ao26 t394.length co26, .slice Ao27 t403.length co27] rfl (by (try simp only [List.map_toArray, List.map_cons, List.map_nil]); first | done | rfl | (simp only [List.length_drop, List.length_take]; rfl)) ?_; (with_reducible refine (satchelkit_SameTexts.calls kj2 _ _ t394 _ _ t403 true _ ?side1 ?side2 ?side3 ?side4 A21.out).mono ?_); (case side1 => repeat (first | exact (Kd.R_reads' HO398.out).2.2 | (with_reducible refine Kd.C_alloc ?_ _) | (with_reducible refine Kd.C_drewN ?_ _) | (with_reducible refine Kd.C_drew ?_))); (case side2 => exact (Kd.R_reads' HO398.out).2.1); (case side3 => repeat (first | exact (Kd.R_reads' HO407.out).2.2 | (with_reducible refine Kd.C_alloc ?_ _) | (with_reducible refine Kd.C_drewN ?_ _) | (with_reducible refine Kd.C_drew ?_))); (case side4 => exact (Kd.R_reads' HO407.out).2.1); rintro e w' ⟨rfl, ⟨nd, rfl⟩⟩; refine ⟨_, rfl, ?_⟩; obtain ⟨Ao28, co28, eo28⟩ := Kd.R_slice HO400.out; subst eo28; obtain ⟨Ao29, co29, eo29⟩ := Kd.R_slice HO409.out; subst eo29) | (go_at_call 27; (with_reducible refine (satchelkit_SameTexts.calls kj2 _ _ t395 _ _ t404 true _ ?side1 ?side2 ?side3 ?side4 A23.out).mono ?_); (case side1 => repeat (first | exact (Kd.R_reads' HO400.out).2.2 | (with_reducible refine Kd.C_alloc ?_ _) | (with_reducible refine Kd.C_drewN ?_ _) | (with_reducible refine Kd.C_drew ?_))); (case side2 => exact (Kd.R_reads' HO400.out).2.1); (case side3 => repeat (first | exact (Kd.R_reads' HO409.out).2.2 | (with_reducible refine Kd.C_alloc ?_ _) | (with_reducible refine Kd.C_drewN ?_ _) | (with_reducible refine Kd.C_drew ?_))); (case side4 => exact (Kd.R_reads' HO409.out).2.1); rintro e w' ⟨rfl, ⟨nd, rfl⟩⟩; obtain ⟨Ao30, co30, eo30⟩ := Kd.R_slice HO402.out; subst eo30; obtain ⟨Ao31, co31, eo31⟩ := Kd.R_slice HO411.out; subst eo31) | (go_at_call 27; (with_reducible refine (satchelkit_SameTexts.calls kj2 _ _ t396 _ _ t405 t414 _ ?side1 ?side2 ?side3 ?side4 A25.out).mono ?_); (case side1 => repeat (first | exact (Kd.R_reads' HO402.out).2.2 | (with_reducible refine Kd.C_alloc ?_ _) | (with_reducible refine Kd.C_drewN ?_ _) | (with_reducible refine Kd.C_drew ?_))); (case side2 => exact (Kd.R_reads' HO402.out).2.1); (case side3 => repeat (first | exact (Kd.R_reads' HO411.out).2.2 | (with_reducible refine Kd.C_alloc ?_ _) | (with_reducible refine Kd.C_drewN ?_ _) | (with_reducible refine Kd.C_drew ?_))); (case side4 => exact (Kd.R_reads' HO411.out).2.1); rintro e w' ⟨rfl, ⟨nd, rfl⟩⟩))
       go_meet
       case rel => exact ⟨_, (t414), (by first | rfl | (simp; done) | (simp [*]; done)), H', ⟨by have := HJ2.out; first | omega | exact Nat.le_refl _⟩, ⟨by (with_reducible repeat (first | apply Kd.N_alloc | apply Kd.N_drewN | apply Kd.N_drew)); exact Kd.N_mono HO390.out (fun _ hk => hk.1.1.1.1.1.1.2)⟩, ⟨by (with_reducible repeat (first | apply Kd.N_alloc | apply Kd.N_drewN | apply Kd.N_drew)); exact Kd.N_mono HO393.out (fun _ hk => hk.1.1.1.1.1.1)⟩, ⟨by repeat (first | (with_reducible first | exact HB.out | apply below_alloc | apply pw_below_drewN | apply below_drew1) | exact HB.out)⟩⟩
      ·replace c24 := Bool.eq_false_iff.mpr c24
       subst c24
       have H1 : (satchellaw08_TreeDiffs.j1 kj2 l0 l1 t388 t391 false) = some r := by rw [if_neg (show ¬ (false = true) by decide)] at H; exact H
       clear H
       have H := H1
       clear H1
       have H' := Aside0.mk H
       clear H
       obtain ⟨Ao32, co32, eo32⟩ := Kd.R_slice HO398.out
       subst eo32
       obtain ⟨Ao33, co33, eo33⟩ := Kd.R_slice HO407.out
       subst eo33
       go_wp2_with (first | ((with_reducible refine gate_callee (f := 27) rfl ?_); refine goesL_ (some 41) rfl rfl Try.func27 (by kernel_rfl) rfl #[.slice Ao32 t394.length co32, .slice Ao33 t403.length co33] rfl (by (try simp only [List.map_toArray, List.map_cons, List.map_nil]); first | done | rfl | (simp only [List.length_drop, List.length_take]; rfl)) ?_; (with_reducible refine (satchelkit_SameTexts.calls kj2 _ _ t394 _ _ t403 true _ ?side1 ?side2 ?side3 ?side4 A21.out).mono ?_); (case side1 => repeat (first | exact (Kd.R_reads' HO398.out).2.2 | (with_reducible refine Kd.C_alloc ?_ _) | (with_reducible refine Kd.C_drewN ?_ _) | (with_reducible refine Kd.C_drew ?_))); (case side2 => exact (Kd.R_reads' HO398.out).2.1); (case side3 => repeat (first | exact (Kd.R_reads' HO407.out).2.2 | (with_reducible refine Kd.C_alloc ?_ _) | (with_reducible refine Kd.C_drewN ?_ _) | (with_reducible refine Kd.C_drew ?_))); (case side4 => exact (Kd.R_reads' HO407.out).2.1); rintro e w' ⟨rfl, ⟨nd, rfl⟩⟩; refine ⟨_, rfl, ?_⟩; obtain ⟨Ao34, co34, eo34⟩ := Kd.R_slice HO400.out; subst eo34; obtain ⟨Ao35, co35, eo35⟩ := Kd.R_slice HO409.out; subst eo35) | (go_at_call 27; (with_reducible refine (satchelkit_SameTexts.calls kj2 _ _ t395 _ _ t404 false _ ?side1 ?side2 ?side3 ?side4 A23.out).mono ?_); (case side1 => repeat (first | exact (Kd.R_reads' HO400.out).2.2 | (with_reducible refine Kd.C_alloc ?_ _) | (with_reducible refine Kd.C_drewN ?_ _) | (with_reducible refine Kd.C_drew ?_))); (case side2 => exact (Kd.R_reads' HO400.out).2.1); (case side3 => repeat (first | exact (Kd.R_reads' HO409.out).2.2 | (with_reducible refine Kd.C_alloc ?_ _) | (with_reducible refine Kd.C_drewN ?_ _) | (with_reducible refine Kd.C_drew ?_))); (case side4 => exact (Kd.R_reads' HO409.out).2.1); rintro e w' ⟨rfl, ⟨nd, rfl⟩⟩))
       go_meet
       case rel => exact ⟨_, (false), (by first | rfl | (simp; done) | (simp [*]; done)), H', ⟨by have := HJ2.out; first | omega | exact Nat.le_refl _⟩, ⟨by (with_reducible repeat (first | apply Kd.N_alloc | apply Kd.N_drewN | apply Kd.N_drew)); exact Kd.N_mono HO390.out (fun _ hk => hk.1.1.1.1.1.1.2)⟩, ⟨by (with_reducible repeat (first | apply Kd.N_alloc | apply Kd.N_drewN | apply Kd.N_drew)); exact Kd.N_mono HO393.out (fun _ hk => hk.1.1.1.1.1.1)⟩, ⟨by repeat (first | (with_reducible first | exact HB.out | apply below_alloc | apply pw_below_drewN | apply below_drew1) | exact HB.out)⟩⟩
     ·replace c22 := Bool.eq_false_iff.mpr c22
      subst c22
      have H1 : (satchellaw08_TreeDiffs.j1 kj2 l0 l1 t388 t391 false) = some r := by rw [if_neg (show ¬ (false = true) by decide)] at H; exact H
      clear H
      have H := H1
      clear H1
      have H' := Aside0.mk H
      clear H
      obtain ⟨Ao36, co36, eo36⟩ := Kd.R_slice HO398.out
      subst eo36
      obtain ⟨Ao37, co37, eo37⟩ := Kd.R_slice HO407.out
      subst eo37
      go_wp2_with (first | ((with_reducible refine gate_callee (f := 27) rfl ?_); refine goesL_ (some 41) rfl rfl Try.func27 (by kernel_rfl) rfl #[.slice Ao36 t394.length co36, .slice Ao37 t403.length co37] rfl (by (try simp only [List.map_toArray, List.map_cons, List.map_nil]); first | done | rfl | (simp only [List.length_drop, List.length_take]; rfl)) ?_; (with_reducible refine (satchelkit_SameTexts.calls kj2 _ _ t394 _ _ t403 false _ ?side1 ?side2 ?side3 ?side4 A21.out).mono ?_); (case side1 => repeat (first | exact (Kd.R_reads' HO398.out).2.2 | (with_reducible refine Kd.C_alloc ?_ _) | (with_reducible refine Kd.C_drewN ?_ _) | (with_reducible refine Kd.C_drew ?_))); (case side2 => exact (Kd.R_reads' HO398.out).2.1); (case side3 => repeat (first | exact (Kd.R_reads' HO407.out).2.2 | (with_reducible refine Kd.C_alloc ?_ _) | (with_reducible refine Kd.C_drewN ?_ _) | (with_reducible refine Kd.C_drew ?_))); (case side4 => exact (Kd.R_reads' HO407.out).2.1); rintro e w' ⟨rfl, ⟨nd, rfl⟩⟩; refine ⟨_, rfl, ?_⟩))
      go_meet
      case rel => exact ⟨_, (false), (by first | rfl | (simp; done) | (simp [*]; done)), H', ⟨by have := HJ2.out; first | omega | exact Nat.le_refl _⟩, ⟨by (with_reducible repeat (first | apply Kd.N_alloc | apply Kd.N_drewN | apply Kd.N_drew)); exact Kd.N_mono HO390.out (fun _ hk => hk.1.1.1.1.1.1.2)⟩, ⟨by (with_reducible repeat (first | apply Kd.N_alloc | apply Kd.N_drewN | apply Kd.N_drew)); exact Kd.N_mono HO393.out (fun _ hk => hk.1.1.1.1.1.1)⟩, ⟨by repeat (first | (with_reducible first | exact HB.out | apply below_alloc | apply pw_below_drewN | apply below_drew1) | exact HB.out)⟩⟩
    case rest =>
     clear HC14
     try clear c1
     try clear c2
     try clear p2
     try clear c5
     try clear c7
     try clear c10
     try clear c12
     try clear c18
     try clear c22
     try clear c24
     try clear c25
     try clear c26
     try clear c27
     try clear p2
     obtain ⟨kq, x13_13, rfl, HA, HJ13, HO_5, HO_6, HB⟩ := hcut
     cases kq with
     | zero => exact absurd HA.out (by simp [satchellaw08_TreeDiffs.j1])
     | succ kj13 =>
      have H := HA.out
      clear HA
      simp only [satchellaw08_TreeDiffs.j1] at H
      by_cases c38 : x13_13 = true
      ·subst c38
       have H1 : ((tree_Same.f t388 t391).bind fun t415 => ((satchelref08_Same.f kj13 l0 l1).bind fun t416 => (if (t415 == t416) = true then ((satchelkit_SameTree.f t388 l0).bind fun t417 => (if t417 = true then ((satchelkit_SameTree.f t391 l1).bind fun t418 => (if t418 = true then ((satchellaw08_awake.f kj13).bind fun t419 => (some t419)) else (some false))) else (some false))) else (some false)))) = some r := by rw [if_pos rfl] at H; exact H
       clear H
       have H := H1
       clear H1
       replace H := Option.bind_eq_some_iff.mp H
       obtain ⟨t415, A390, H⟩ := H
       replace H : ((satchelref08_Same.f kj13 l0 l1).bind fun t416 => (if (t415 == t416) = true then ((satchelkit_SameTree.f t388 l0).bind fun t417 => (if t417 = true then ((satchelkit_SameTree.f t391 l1).bind fun t418 => (if t418 = true then ((satchellaw08_awake.f kj13).bind fun t419 => (some t419)) else (some false))) else (some false))) else (some false))) = some r := H
       have A39 := Aside0.mk A390
       clear A390
       replace H := Option.bind_eq_some_iff.mp H
       obtain ⟨t416, A400, H⟩ := H
       replace H : (if (t415 == t416) = true then ((satchelkit_SameTree.f t388 l0).bind fun t417 => (if t417 = true then ((satchelkit_SameTree.f t391 l1).bind fun t418 => (if t418 = true then ((satchellaw08_awake.f kj13).bind fun t419 => (some t419)) else (some false))) else (some false))) else (some false)) = some r := H
       have A40 := Aside0.mk A400
       clear A400
       by_cases c41 : (t415 == t416) = true
       ·rw [if_pos c41] at H
        have c41b0 : (t415 == t416) = true := c41
        (try (have c41b1 : decide (t415 = t416) = true := by simpa using c41))
        (try (have c41b2 : (t415 == t416) = true := by simpa using c41))
        clear c41
        replace H := Option.bind_eq_some_iff.mp H
        obtain ⟨t417, A420, H⟩ := H
        replace H : (if t417 = true then ((satchelkit_SameTree.f t391 l1).bind fun t418 => (if t418 = true then ((satchellaw08_awake.f kj13).bind fun t419 => (some t419)) else (some false))) else (some false)) = some r := H
        have A42 := Aside0.mk A420
        clear A420
        by_cases c43 : t417 = true
        ·subst c43
         have H1 : ((satchelkit_SameTree.f t391 l1).bind fun t418 => (if t418 = true then ((satchellaw08_awake.f kj13).bind fun t419 => (some t419)) else (some false))) = some r := by rw [if_pos rfl] at H; exact H
         clear H
         have H := H1
         clear H1
         replace H := Option.bind_eq_some_iff.mp H
         obtain ⟨t418, A440, H⟩ := H
         replace H : (if t418 = true then ((satchellaw08_awake.f kj13).bind fun t419 => (some t419)) else (some false)) = some r := H
         have A44 := Aside0.mk A440
         clear A440
         by_cases c45 : t418 = true
         ·subst c45
          have H1 : ((satchellaw08_awake.f kj13).bind fun t419 => (some t419)) = some r := by rw [if_pos rfl] at H; exact H
          clear H
          have H := H1
          clear H1
          replace H := Option.bind_eq_some_iff.mp H
          obtain ⟨t419, A460, H⟩ := H
          replace H : (some t419) = some r := H
          have A46 := Aside0.mk A460
          clear A460
          obtain rfl := Option.some.inj H
          go_wp2_with (first | (go_at_call 28; (with_reducible refine (tree_Same.calls _ _ t388 _ _ t391 t415 _ ?side1 ?side2 ?side3 ?side4 A39.out).mono ?_); (case side1 => repeat (first | exact (Kd.N_reads' HO_5.out).2.2 | (with_reducible refine Kd.C_alloc ?_ _) | (with_reducible refine Kd.C_drewN ?_ _) | (with_reducible refine Kd.C_drew ?_))); (case side2 => exact (Kd.N_reads' HO_5.out).2.1); (case side3 => repeat (first | exact (Kd.N_reads' HO_6.out).2.2 | (with_reducible refine Kd.C_alloc ?_ _) | (with_reducible refine Kd.C_drewN ?_ _) | (with_reducible refine Kd.C_drew ?_))); (case side4 => exact (Kd.N_reads' HO_6.out).2.1); rintro e w47 ⟨rfl, hb⟩; have n0_ := Aside0.mk (Kd.N_below (by (with_reducible repeat (first | apply Kd.N_alloc | apply Kd.N_drewN | apply Kd.N_drew)); exact HO_5.out) hb); have n1_ := Aside0.mk (Kd.N_below (by (with_reducible repeat (first | apply Kd.N_alloc | apply Kd.N_drewN | apply Kd.N_drew)); exact HO_6.out) hb); have n2_ := Aside0.mk (below_step (by repeat (first | (with_reducible first | exact HB.out | apply below_alloc | apply pw_below_drewN | apply below_drew1) | exact HB.out)) hb); clear HO_5; clear HO_6; clear HB; have HO_5 := n0_; have HO_6 := n1_; have HB := n2_; clear n0_ n1_ n2_; (try clear hb); (try clear hb2); (try clear hk); (try clear hi)) | (go_at_call 29; (with_reducible refine (satchelref08_Same.calls kj13 _ _ l0 _ _ l1 t416 _ ?side1 ?side2 ?side3 ?side4 A40.out).mono ?_); (case side1 => repeat (first | exact (Kd.C_below HR0.out HB.out) | (with_reducible refine Kd.C_alloc ?_ _) | (with_reducible refine Kd.C_drewN ?_ _) | (with_reducible refine Kd.C_drew ?_))); (case side2 => exact HC0.out); (case side3 => repeat (first | exact (Kd.C_below HR1.out HB.out) | (with_reducible refine Kd.C_alloc ?_ _) | (with_reducible refine Kd.C_drewN ?_ _) | (with_reducible refine Kd.C_drew ?_))); (case side4 => exact HC1.out); rintro e w48 ⟨rfl, hb⟩; have n0_ := Aside0.mk (Kd.N_below (by (with_reducible repeat (first | apply Kd.N_alloc | apply Kd.N_drewN | apply Kd.N_drew)); exact HO_5.out) hb); have n1_ := Aside0.mk (Kd.N_below (by (with_reducible repeat (first | apply Kd.N_alloc | apply Kd.N_drewN | apply Kd.N_drew)); exact HO_6.out) hb); have n2_ := Aside0.mk (below_step (by repeat (first | (with_reducible first | exact HB.out | apply below_alloc | apply pw_below_drewN | apply below_drew1) | exact HB.out)) hb); clear HO_5; clear HO_6; clear HB; have HO_5 := n0_; have HO_6 := n1_; have HB := n2_; clear n0_ n1_ n2_; (try clear hb); (try clear hb2); (try clear hk); (try clear hi)) | (go_at_call 16; (with_reducible refine (satchelkit_SameTree.calls _ _ t388 _ _ l0 true _ ?side1 ?side2 ?side3 ?side4 A42.out).mono ?_); (case side1 => repeat (first | exact (Kd.N_reads' HO_5.out).2.2 | (with_reducible refine Kd.C_alloc ?_ _) | (with_reducible refine Kd.C_drewN ?_ _) | (with_reducible refine Kd.C_drew ?_))); (case side2 => exact (Kd.N_reads' HO_5.out).2.1); (case side3 => repeat (first | exact (Kd.C_below HR0.out HB.out) | (with_reducible refine Kd.C_alloc ?_ _) | (with_reducible refine Kd.C_drewN ?_ _) | (with_reducible refine Kd.C_drew ?_))); (case side4 => exact HC0.out); rintro e w' ⟨rfl, ⟨nd, rfl⟩⟩) | (go_at_call 16; (with_reducible refine (satchelkit_SameTree.calls _ _ t391 _ _ l1 true _ ?side1 ?side2 ?side3 ?side4 A44.out).mono ?_); (case side1 => repeat (first | exact (Kd.N_reads' HO_6.out).2.2 | (with_reducible refine Kd.C_alloc ?_ _) | (with_reducible refine Kd.C_drewN ?_ _) | (with_reducible refine Kd.C_drew ?_))); (case side2 => exact (Kd.N_reads' HO_6.out).2.1); (case side3 => repeat (first | exact (Kd.C_below HR1.out (by repeat (first | (with_reducible first | exact HB.out | apply below_alloc | apply pw_below_drewN | apply below_drew1) | exact HB.out))) | (with_reducible refine Kd.C_alloc ?_ _) | (with_reducible refine Kd.C_drewN ?_ _) | (with_reducible refine Kd.C_drew ?_))); (case side4 => exact HC1.out); rintro e w' ⟨rfl, ⟨nd, rfl⟩⟩) | (go_at_call 10; (with_reducible refine (satchellaw08_awake.calls kj13  t419 _ A46.out).mono ?_); rintro e w49 ⟨rfl, hb⟩; have n0_ := Aside0.mk (Kd.N_below (by (with_reducible repeat (first | apply Kd.N_alloc | apply Kd.N_drewN | apply Kd.N_drew)); exact HO_5.out) hb); have n1_ := Aside0.mk (Kd.N_below (by (with_reducible repeat (first | apply Kd.N_alloc | apply Kd.N_drewN | apply Kd.N_drew)); exact HO_6.out) hb); have n2_ := Aside0.mk (below_step (by repeat (first | (with_reducible first | exact HB.out | apply below_alloc | apply pw_below_drewN | apply below_drew1) | exact HB.out)) hb); clear HO_5; clear HO_6; clear HB; have HO_5 := n0_; have HO_6 := n1_; have HB := n2_; clear n0_ n1_ n2_; (try clear hb); (try clear hb2); (try clear hk); (try clear hi)))
          go_ret
          exact ⟨by first | rfl | (simp [errW_none, errW_some] <;> rfl) | (simp [*, errW_none, errW_some] <;> rfl) | (simp [bt, *]; done) | (simp_all [bt]; done), by repeat (first | (with_reducible first | exact HB.out | apply below_alloc | apply pw_below_drewN | apply below_drew1) | exact HB.out)⟩
         ·replace c45 := Bool.eq_false_iff.mpr c45
          subst c45
          have H1 : (some false) = some r := by rw [if_neg (show ¬ (false = true) by decide)] at H; exact H
          clear H
          have H := H1
          clear H1
          obtain rfl := Option.some.inj H
          go_wp2_with (first | (go_at_call 28; (with_reducible refine (tree_Same.calls _ _ t388 _ _ t391 t415 _ ?side1 ?side2 ?side3 ?side4 A39.out).mono ?_); (case side1 => repeat (first | exact (Kd.N_reads' HO_5.out).2.2 | (with_reducible refine Kd.C_alloc ?_ _) | (with_reducible refine Kd.C_drewN ?_ _) | (with_reducible refine Kd.C_drew ?_))); (case side2 => exact (Kd.N_reads' HO_5.out).2.1); (case side3 => repeat (first | exact (Kd.N_reads' HO_6.out).2.2 | (with_reducible refine Kd.C_alloc ?_ _) | (with_reducible refine Kd.C_drewN ?_ _) | (with_reducible refine Kd.C_drew ?_))); (case side4 => exact (Kd.N_reads' HO_6.out).2.1); rintro e w50 ⟨rfl, hb⟩; have n0_ := Aside0.mk (Kd.N_below (by (with_reducible repeat (first | apply Kd.N_alloc | apply Kd.N_drewN | apply Kd.N_drew)); exact HO_5.out) hb); have n1_ := Aside0.mk (Kd.N_below (by (with_reducible repeat (first | apply Kd.N_alloc | apply Kd.N_drewN | apply Kd.N_drew)); exact HO_6.out) hb); have n2_ := Aside0.mk (below_step (by repeat (first | (with_reducible first | exact HB.out | apply below_alloc | apply pw_below_drewN | apply below_drew1) | exact HB.out)) hb); clear HO_5; clear HO_6; clear HB; have HO_5 := n0_; have HO_6 := n1_; have HB := n2_; clear n0_ n1_ n2_; (try clear hb); (try clear hb2); (try clear hk); (try clear hi)) | (go_at_call 29; (with_reducible refine (satchelref08_Same.calls kj13 _ _ l0 _ _ l1 t416 _ ?side1 ?side2 ?side3 ?side4 A40.out).mono ?_); (case side1 => repeat (first | exact (Kd.C_below HR0.out HB.out) | (with_reducible refine Kd.C_alloc ?_ _) | (with_reducible refine Kd.C_drewN ?_ _) | (with_reducible refine Kd.C_drew ?_))); (case side2 => exact HC0.out); (case side3 => repeat (first | exact (Kd.C_below HR1.out HB.out) | (with_reducible refine Kd.C_alloc ?_ _) | (with_reducible refine Kd.C_drewN ?_ _) | (with_reducible refine Kd.C_drew ?_))); (case side4 => exact HC1.out); rintro e w51 ⟨rfl, hb⟩; have n0_ := Aside0.mk (Kd.N_below (by (with_reducible repeat (first | apply Kd.N_alloc | apply Kd.N_drewN | apply Kd.N_drew)); exact HO_5.out) hb); have n1_ := Aside0.mk (Kd.N_below (by (with_reducible repeat (first | apply Kd.N_alloc | apply Kd.N_drewN | apply Kd.N_drew)); exact HO_6.out) hb); have n2_ := Aside0.mk (below_step (by repeat (first | (with_reducible first | exact HB.out | apply below_alloc | apply pw_below_drewN | apply below_drew1) | exact HB.out)) hb); clear HO_5; clear HO_6; clear HB; have HO_5 := n0_; have HO_6 := n1_; have HB := n2_; clear n0_ n1_ n2_; (try clear hb); (try clear hb2); (try clear hk); (try clear hi)) | (go_at_call 16; (with_reducible refine (satchelkit_SameTree.calls _ _ t388 _ _ l0 true _ ?side1 ?side2 ?side3 ?side4 A42.out).mono ?_); (case side1 => repeat (first | exact (Kd.N_reads' HO_5.out).2.2 | (with_reducible refine Kd.C_alloc ?_ _) | (with_reducible refine Kd.C_drewN ?_ _) | (with_reducible refine Kd.C_drew ?_))); (case side2 => exact (Kd.N_reads' HO_5.out).2.1); (case side3 => repeat (first | exact (Kd.C_below HR0.out HB.out) | (with_reducible refine Kd.C_alloc ?_ _) | (with_reducible refine Kd.C_drewN ?_ _) | (with_reducible refine Kd.C_drew ?_))); (case side4 => exact HC0.out); rintro e w' ⟨rfl, ⟨nd, rfl⟩⟩) | (go_at_call 16; (with_reducible refine (satchelkit_SameTree.calls _ _ t391 _ _ l1 false _ ?side1 ?side2 ?side3 ?side4 A44.out).mono ?_); (case side1 => repeat (first | exact (Kd.N_reads' HO_6.out).2.2 | (with_reducible refine Kd.C_alloc ?_ _) | (with_reducible refine Kd.C_drewN ?_ _) | (with_reducible refine Kd.C_drew ?_))); (case side2 => exact (Kd.N_reads' HO_6.out).2.1); (case side3 => repeat (first | exact (Kd.C_below HR1.out (by repeat (first | (with_reducible first | exact HB.out | apply below_alloc | apply pw_below_drewN | apply below_drew1) | exact HB.out))) | (with_reducible refine Kd.C_alloc ?_ _) | (with_reducible refine Kd.C_drewN ?_ _) | (with_reducible refine Kd.C_drew ?_))); (case side4 => exact HC1.out); rintro e w' ⟨rfl, ⟨nd, rfl⟩⟩))
          go_ret
          exact ⟨by first | rfl | (simp [errW_none, errW_some] <;> rfl) | (simp [*, errW_none, errW_some] <;> rfl) | (simp [bt, *]; done) | (simp_all [bt]; done), by repeat (first | (with_reducible first | exact HB.out | apply below_alloc | apply pw_below_drewN | apply below_drew1) | exact HB.out)⟩
        ·replace c43 := Bool.eq_false_iff.mpr c43
         subst c43
         have H1 : (some false) = some r := by rw [if_neg (show ¬ (false = true) by decide)] at H; exact H
         clear H
         have H := H1
         clear H1
         obtain rfl := Option.some.inj H
         go_wp2_with (first | (go_at_call 28; (with_reducible refine (tree_Same.calls _ _ t388 _ _ t391 t415 _ ?side1 ?side2 ?side3 ?side4 A39.out).mono ?_); (case side1 => repeat (first | exact (Kd.N_reads' HO_5.out).2.2 | (with_reducible refine Kd.C_alloc ?_ _) | (with_reducible refine Kd.C_drewN ?_ _) | (with_reducible refine Kd.C_drew ?_))); (case side2 => exact (Kd.N_reads' HO_5.out).2.1); (case side3 => repeat (first | exact (Kd.N_reads' HO_6.out).2.2 | (with_reducible refine Kd.C_alloc ?_ _) | (with_reducible refine Kd.C_drewN ?_ _) | (with_reducible refine Kd.C_drew ?_))); (case side4 => exact (Kd.N_reads' HO_6.out).2.1); rintro e w52 ⟨rfl, hb⟩; have n0_ := Aside0.mk (Kd.N_below (by (with_reducible repeat (first | apply Kd.N_alloc | apply Kd.N_drewN | apply Kd.N_drew)); exact HO_5.out) hb); have n1_ := Aside0.mk (Kd.N_below (by (with_reducible repeat (first | apply Kd.N_alloc | apply Kd.N_drewN | apply Kd.N_drew)); exact HO_6.out) hb); have n2_ := Aside0.mk (below_step (by repeat (first | (with_reducible first | exact HB.out | apply below_alloc | apply pw_below_drewN | apply below_drew1) | exact HB.out)) hb); clear HO_5; clear HO_6; clear HB; have HO_5 := n0_; have HO_6 := n1_; have HB := n2_; clear n0_ n1_ n2_; (try clear hb); (try clear hb2); (try clear hk); (try clear hi)) | (go_at_call 29; (with_reducible refine (satchelref08_Same.calls kj13 _ _ l0 _ _ l1 t416 _ ?side1 ?side2 ?side3 ?side4 A40.out).mono ?_); (case side1 => repeat (first | exact (Kd.C_below HR0.out HB.out) | (with_reducible refine Kd.C_alloc ?_ _) | (with_reducible refine Kd.C_drewN ?_ _) | (with_reducible refine Kd.C_drew ?_))); (case side2 => exact HC0.out); (case side3 => repeat (first | exact (Kd.C_below HR1.out HB.out) | (with_reducible refine Kd.C_alloc ?_ _) | (with_reducible refine Kd.C_drewN ?_ _) | (with_reducible refine Kd.C_drew ?_))); (case side4 => exact HC1.out); rintro e w53 ⟨rfl, hb⟩; have n0_ := Aside0.mk (Kd.N_below (by (with_reducible repeat (first | apply Kd.N_alloc | apply Kd.N_drewN | apply Kd.N_drew)); exact HO_5.out) hb); have n1_ := Aside0.mk (Kd.N_below (by (with_reducible repeat (first | apply Kd.N_alloc | apply Kd.N_drewN | apply Kd.N_drew)); exact HO_6.out) hb); have n2_ := Aside0.mk (below_step (by repeat (first | (with_reducible first | exact HB.out | apply below_alloc | apply pw_below_drewN | apply below_drew1) | exact HB.out)) hb); clear HO_5; clear HO_6; clear HB; have HO_5 := n0_; have HO_6 := n1_; have HB := n2_; clear n0_ n1_ n2_; (try clear hb); (try clear hb2); (try clear hk); (try clear hi)) | (go_at_call 16; (with_reducible refine (satchelkit_SameTree.calls _ _ t388 _ _ l0 false _ ?side1 ?side2 ?side3 ?side4 A42.out).mono ?_); (case side1 => repeat (first | exact (Kd.N_reads' HO_5.out).2.2 | (with_reducible refine Kd.C_alloc ?_ _) | (with_reducible refine Kd.C_drewN ?_ _) | (with_reducible refine Kd.C_drew ?_))); (case side2 => exact (Kd.N_reads' HO_5.out).2.1); (case side3 => repeat (first | exact (Kd.C_below HR0.out HB.out) | (with_reducible refine Kd.C_alloc ?_ _) | (with_reducible refine Kd.C_drewN ?_ _) | (with_reducible refine Kd.C_drew ?_))); (case side4 => exact HC0.out); rintro e w' ⟨rfl, ⟨nd, rfl⟩⟩))
         go_ret
         exact ⟨by first | rfl | (simp [errW_none, errW_some] <;> rfl) | (simp [*, errW_none, errW_some] <;> rfl) | (simp [bt, *]; done) | (simp_all [bt]; done), by repeat (first | (with_reducible first | exact HB.out | apply below_alloc | apply pw_below_drewN | apply below_drew1) | exact HB.out)⟩
       ·rw [if_neg c41] at H
        have c41b0 : (t415 == t416) = false := by simpa using c41
        (try (have c41b1 : decide (t415 = t416) = false := by simpa using c41))
        (try (have c41b2 : (t415 == t416) = false := by simpa using c41))
        (try (have c41b3 : ¬ (t415 = t416) := by simpa using c41))
        clear c41
        obtain rfl := Option.some.inj H
        go_wp2_with (first | (go_at_call 28; (with_reducible refine (tree_Same.calls _ _ t388 _ _ t391 t415 _ ?side1 ?side2 ?side3 ?side4 A39.out).mono ?_); (case side1 => repeat (first | exact (Kd.N_reads' HO_5.out).2.2 | (with_reducible refine Kd.C_alloc ?_ _) | (with_reducible refine Kd.C_drewN ?_ _) | (with_reducible refine Kd.C_drew ?_))); (case side2 => exact (Kd.N_reads' HO_5.out).2.1); (case side3 => repeat (first | exact (Kd.N_reads' HO_6.out).2.2 | (with_reducible refine Kd.C_alloc ?_ _) | (with_reducible refine Kd.C_drewN ?_ _) | (with_reducible refine Kd.C_drew ?_))); (case side4 => exact (Kd.N_reads' HO_6.out).2.1); rintro e w54 ⟨rfl, hb⟩; have n0_ := Aside0.mk (Kd.N_below (by (with_reducible repeat (first | apply Kd.N_alloc | apply Kd.N_drewN | apply Kd.N_drew)); exact HO_5.out) hb); have n1_ := Aside0.mk (Kd.N_below (by (with_reducible repeat (first | apply Kd.N_alloc | apply Kd.N_drewN | apply Kd.N_drew)); exact HO_6.out) hb); have n2_ := Aside0.mk (below_step (by repeat (first | (with_reducible first | exact HB.out | apply below_alloc | apply pw_below_drewN | apply below_drew1) | exact HB.out)) hb); clear HO_5; clear HO_6; clear HB; have HO_5 := n0_; have HO_6 := n1_; have HB := n2_; clear n0_ n1_ n2_; (try clear hb); (try clear hb2); (try clear hk); (try clear hi)) | (go_at_call 29; (with_reducible refine (satchelref08_Same.calls kj13 _ _ l0 _ _ l1 t416 _ ?side1 ?side2 ?side3 ?side4 A40.out).mono ?_); (case side1 => repeat (first | exact (Kd.C_below HR0.out HB.out) | (with_reducible refine Kd.C_alloc ?_ _) | (with_reducible refine Kd.C_drewN ?_ _) | (with_reducible refine Kd.C_drew ?_))); (case side2 => exact HC0.out); (case side3 => repeat (first | exact (Kd.C_below HR1.out HB.out) | (with_reducible refine Kd.C_alloc ?_ _) | (with_reducible refine Kd.C_drewN ?_ _) | (with_reducible refine Kd.C_drew ?_))); (case side4 => exact HC1.out); rintro e w55 ⟨rfl, hb⟩; have n0_ := Aside0.mk (Kd.N_below (by (with_reducible repeat (first | apply Kd.N_alloc | apply Kd.N_drewN | apply Kd.N_drew)); exact HO_5.out) hb); have n1_ := Aside0.mk (Kd.N_below (by (with_reducible repeat (first | apply Kd.N_alloc | apply Kd.N_drewN | apply Kd.N_drew)); exact HO_6.out) hb); have n2_ := Aside0.mk (below_step (by repeat (first | (with_reducible first | exact HB.out | apply below_alloc | apply pw_below_drewN | apply below_drew1) | exact HB.out)) hb); clear HO_5; clear HO_6; clear HB; have HO_5 := n0_; have HO_6 := n1_; have HB := n2_; clear n0_ n1_ n2_; (try clear hb); (try clear hb2); (try clear hk); (try clear hi)))
        go_ret
        exact ⟨by first | rfl | (simp [errW_none, errW_some] <;> rfl) | (simp [*, errW_none, errW_some] <;> rfl) | (simp [bt, *]; done) | (simp_all [bt]; done), by repeat (first | (with_reducible first | exact HB.out | apply below_alloc | apply pw_below_drewN | apply below_drew1) | exact HB.out)⟩
      ·replace c38 := Bool.eq_false_iff.mpr c38
       subst c38
       have H1 : (some false) = some r := by rw [if_neg (show ¬ (false = true) by decide)] at H; exact H
       clear H
       have H := H1
       clear H1
       obtain rfl := Option.some.inj H
       go_wp2
       go_ret
       exact ⟨by first | rfl | (simp [errW_none, errW_some] <;> rfl) | (simp [*, errW_none, errW_some] <;> rfl) | (simp [bt, *]; done) | (simp_all [bt]; done), by repeat (first | (with_reducible first | exact HB.out | apply below_alloc | apply pw_below_drewN | apply below_drew1) | exact HB.out)⟩

end Go.Proofs.Ytopkmchkfcjjmaa.X
end

/-! ## PureDiffs -/
section
namespace Go.Proofs.Ytopkmchkfcjjmaa.X
open Go.RowKit Go.Proofs.YtopkmchkfcjjmaaW.PrintWords Go.Proofs.YtopkmchkfcjjmaaW.PrintLast Go.Proofs.YtopkmchkfcjjmaaW.PrintMore
set_option linter.unusedVariables false
set_option linter.unusedSimpArgs false
theorem diffs_j0 (a b : List (S31)) (ha : a.length ≤ 100) (fa : Fits a) (fb : Fits b) (x : Bool) (hx : x = false → b.length ≤ 100) : Ev (fun k => satchellaw08_TreeDiffs.j0 k a b x) true := by
 refine Ev.shift ?_
 simp only [satchellaw08_TreeDiffs.j0]
 cases x with
 | true => exact Ev.ifp rfl (Ev.bind awake_ev (Ev.const _))
 | false =>
  have hb := hx rfl
  obtain ⟨l1, l2, l3⟩ := diffV_len a b
  refine Ev.ifn (by simp) (Ev.bind (copy_ev a (by omega) fa) (Ev.bind (copy_ev b (by omega) fb) (Ev.bind (diff_ev a b (by omega) (by omega)) (Ev.bind (rdiff_ev a b (by omega) (by omega)) ?_))))
  refine Ev.bind (texts_ev _ (by omega)) (Ev.ifp rfl (Ev.bind (texts_ev _ (by omega)) (Ev.ifp rfl (Ev.bind (texts_ev _ (by omega)) (Ev.shift ?_)))))
  simp only [satchellaw08_TreeDiffs.j1, same_f a b (by omega : a.length ≤ 1000), sameTree_f, sameV_refl, Option.bind_some]
  exact Ev.ifp (by trivial) (Ev.bind (same8_ev a b (by omega)) (Ev.ifp (by simp) (Ev.ifp (by trivial) (Ev.ifp (by trivial) (Ev.bind awake_ev (Ev.const _))))))
theorem diffs_ev (a b : List (S31)) (fa : Fits a) (fb : Fits b) : Ev (fun k => satchellaw08_TreeDiffs.f k a b) true := by
 simp only [satchellaw08_TreeDiffs.f]
 obtain ⟨x, hx, ha⟩ := big_ev a 100 6000 (by decide)
 refine Ev.bind hx ?_
 by_cases h1 : x = true
 ·refine Ev.ifp h1 (Ev.shift ?_)
  simp only [satchellaw08_TreeDiffs.j0]
  exact Ev.ifp (by trivial) (Ev.bind awake_ev (Ev.const _))
 ·refine Ev.ifn h1 ?_
  obtain ⟨y, hy, hb⟩ := big_ev b 100 6000 (by decide)
  exact Ev.bind hy (diffs_j0 a b (ha (by simpa using h1)) fa fb y hb)
end Go.Proofs.Ytopkmchkfcjjmaa.X
end
