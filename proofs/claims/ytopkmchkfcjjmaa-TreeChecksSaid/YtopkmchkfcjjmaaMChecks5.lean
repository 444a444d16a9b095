/- Functions, one behind the other: a plain Lean function for each, and the proof that the call comes to its answer, whatever the world (conditions: what the arguments read as); and plain laws of them. -/
import Derived.Test.YtopkmchkfcjjmaaMChecks4
import Derived.Test.YtopkmchkfcjjmaaMChecks3
import Derived.Test.YtopkmchkfcjjmaaMChecks2
import Derived.Deep.RegionWith
import Derived.StillTailTactics
import Derived.Laws.Entries
import Derived.Lib.LazyBuf
/-! ## PureF -/
section
namespace Go.Proofs.Ytopkmchkfcjjmaa.X
open Go.RowKit Go.Proofs.YtopkmchkfcjjmaaW.PrintWords Go.Proofs.YtopkmchkfcjjmaaW.PrintLast Go.Proofs.YtopkmchkfcjjmaaW.PrintMore
set_option linter.unusedVariables false
set_option linter.unusedSimpArgs false
theorem Ev.to_eq {α : Type} {g : Nat → Option α} {r r' : α} (h : Ev g r) (e : r = r') : Ev g r' := e ▸ h
theorem one8_j2 (b : Bool) (e : S31) : Ev (fun k => satchelref08_one.j2 k b e.f0 e.f1 e.f2 e.f3 e.f4) (if b = true then 2 else if 1048576 < e.f3.length then 3 else 0) := by
 refine Ev.shift ?_
 simp only [satchelref08_one.j2]
 cases b with
 | true => exact Ev.ifp rfl (Ev.const _)
 | false =>
  simp only [Bool.false_eq_true, if_false]
  by_cases h : 1048576 < e.f3.length
  ·rw [if_pos h]; exact Ev.ifp (by omega) (Ev.const _)
  ·rw [if_neg h]; exact Ev.ifn (by omega) (Ev.const _)
/-- Is an entry's data, or its link, not so? -/
def oddB (x3 : Bool) (e : S31) : Bool := decide (0 < e.f3.length ∧ e.f1 ≠ 2) || decide (0 < e.f4.size ∧ e.f1 ≠ 3) || (decide (e.f1 = 3) && !x3)
theorem one8_j1 (x3 : Bool) (e : S31) : Ev (fun k => satchelref08_one.j1 k x3 e.f0 e.f1 e.f2 e.f3 e.f4) (if oddB x3 e = true then 2 else if 1048576 < e.f3.length then 3 else 0) := by
 refine Ev.shift ?_
 simp only [satchelref08_one.j1]
 have fin : ∀ b : Bool, b = oddB x3 e → Ev (fun k => satchelref08_one.j2 k b e.f0 e.f1 e.f2 e.f3 e.f4) (if oddB x3 e = true then 2 else if 1048576 < e.f3.length then 3 else 0) := by
  rintro b rfl
  exact one8_j2 _ e
 have rest : (¬ (0 < e.f3.length ∧ e.f1 ≠ 2)) → Ev (fun k => if (e.f4.size : Int) > 0 then (if e.f1 = 3 then (satchelref08_one.j2 k (!x3) e.f0 e.f1 e.f2 e.f3 e.f4) else (satchelref08_one.j2 k true e.f0 e.f1 e.f2 e.f3 e.f4)) else (if e.f1 = 3 then (satchelref08_one.j2 k (!x3) e.f0 e.f1 e.f2 e.f3 e.f4) else (satchelref08_one.j2 k false e.f0 e.f1 e.f2 e.f3 e.f4))) (if oddB x3 e = true then 2 else if 1048576 < e.f3.length then 3 else 0) := by
  intro h
  by_cases h1 : 0 < e.f4.size
  ·refine Ev.ifp (by omega) ?_
   by_cases h2 : e.f1 = 3
   ·exact Ev.ifp h2 (fin _ (by unfold oddB; rw [decide_eq_false h, decide_eq_false (fun c => c.2 h2), decide_eq_true h2]; simp))
   ·exact Ev.ifn h2 (fin _ (by unfold oddB; rw [decide_eq_false h, decide_eq_true (show 0 < e.f4.size ∧ e.f1 ≠ 3 from ⟨h1, h2⟩)]; simp))
  ·refine Ev.ifn (by omega) ?_
   by_cases h2 : e.f1 = 3
   ·exact Ev.ifp h2 (fin _ (by unfold oddB; rw [decide_eq_false h, decide_eq_false (fun c => c.2 h2), decide_eq_true h2]; simp))
   ·exact Ev.ifn h2 (fin _ (by unfold oddB; rw [decide_eq_false h, decide_eq_false (fun c => h1 c.1), decide_eq_false h2]; simp))
 by_cases h0 : 0 < e.f3.length
 ·refine Ev.ifp (by omega) ?_
  by_cases h1 : e.f1 = 2
  ·exact Ev.ifp h1 (rest (fun c => c.2 h1))
  ·exact Ev.ifn h1 (fin _ (by unfold oddB; rw [decide_eq_true (show 0 < e.f3.length ∧ e.f1 ≠ 2 from ⟨h0, h1⟩)]; simp))
 ·exact Ev.ifn (by omega) (rest (fun c => h0 c.1))
theorem size_ne {s : ByteArray} : (s.toList != []) = decide (0 < s.size) := by
 rw [← toList_len]
 cases s.toList <;> simp
theorem one8_j0 (b : Bool) (e : S31) : Ev (fun k => satchelref08_one.j0 k b e.f0 e.f1 e.f2 e.f3 e.f4) (if b = true then 2 else if oddB (decide (1 ≤ e.f4.size ∧ e.f4.size ≤ 200)) e = true then 2 else if 1048576 < e.f3.length then 3 else 0) := by
 refine Ev.shift ?_
 simp only [satchelref08_one.j0]
 cases b with
 | true => exact Ev.ifp rfl (Ev.const _)
 | false =>
  refine Ev.ifn (by simp) ?_
  rw [if_neg (by simp)]
  have fin : ∀ x : Bool, oddB x e = oddB (decide (1 ≤ e.f4.size ∧ e.f4.size ≤ 200)) e → Ev (fun k => satchelref08_one.j1 k x e.f0 e.f1 e.f2 e.f3 e.f4) (if oddB (decide (1 ≤ e.f4.size ∧ e.f4.size ≤ 200)) e = true then 2 else if 1048576 < e.f3.length then 3 else 0) := by
   intro x hx
   rw [← hx]
   exact one8_j1 x e
  by_cases h1 : e.f1 = 3
  ·refine Ev.ifp h1 ?_
   by_cases h2 : 1 ≤ e.f4.size
   ·exact Ev.ifp (by omega) (fin _ (by rw [show decide ((e.f4.size : Int) ≤ 200) = decide (1 ≤ e.f4.size ∧ e.f4.size ≤ 200) from by by_cases h3 : e.f4.size ≤ 200 <;> simp [h2, h3] <;> omega]))
   ·exact Ev.ifn (by omega) (fin _ (by rw [decide_eq_false (fun c => h2 c.1)]))
  ·exact Ev.ifn h1 (fin _ (by unfold oddB; rw [decide_eq_false h1]; simp))
theorem one8_ev (e : S31) : Ev (fun k => satchelref08_one.f k e.f0 e.f1 e.f2 e.f3 e.f4) (oneV e) := by
 simp only [satchelref08_one.f]
 refine Ev.bind (valid7_ev e.f0) ?_
 unfold oneV oneOf
 by_cases h0 : (checkV e.f0).1 = 0
 ·have hv : validV e.f0 = true := by unfold validV; rw [h0]; rfl
  rw [if_pos h0]
  refine Ev.ifp hv ?_
  have bad : ∀ {r : Int}, r = 2 → Ev (fun k => satchelref08_one.j0 k true e.f0 e.f1 e.f2 e.f3 e.f4) r := by
   rintro r rfl
   exact one8_j0 true e
  by_cases h1 : e.f1 < 1
  ·rw [if_pos h1]; exact Ev.ifp h1 (bad rfl)
  ·rw [if_neg h1]
   refine Ev.ifn h1 ?_
   by_cases h2 : 3 < e.f1
   ·rw [if_pos h2]; exact Ev.ifp h2 (bad rfl)
   ·rw [if_neg h2]
    refine Ev.ifn h2 ?_
    by_cases h3 : e.f2 < 0
    ·rw [if_pos h3]; exact Ev.ifp h3 (bad rfl)
    ·rw [if_neg h3]
     refine Ev.ifn h3 ?_
     by_cases h4 : 511 < e.f2
     ·rw [if_pos h4, decide_eq_true (show e.f2 > 511 from h4)]; exact bad rfl
     ·rw [if_neg h4, decide_eq_false (show ¬ e.f2 > 511 from h4)]
      have h := one8_j0 false e
      rw [if_neg (by simp)] at h
      refine h.to_eq ?_
      rw [size_ne]
      unfold oddB
      by_cases g1 : 0 < e.f3.length ∧ e.f1 ≠ 2
      ·rw [if_pos g1, decide_eq_true g1]; simp
      ·rw [if_neg g1, decide_eq_false g1]
       by_cases g2 : e.f1 = 3
       ·have b2 : (e.f1 == 3) = true := beq_iff_eq.2 g2
        rw [b2]
        by_cases g3 : 0 < e.f4.size
        ·by_cases g4 : 200 < e.f4.size
         ·simp [g2, g3, g4, show ¬ e.f4.size ≤ 200 by omega]
         ·simp [g2, g3, g4, show e.f4.size ≤ 200 by omega, show 1 ≤ e.f4.size by omega]
        ·simp [g2, g3, show ¬ 1 ≤ e.f4.size by omega]
       ·have b2 : (e.f1 == 3) = false := beq_eq_false_iff_ne.2 g2
        rw [b2]
        by_cases g3 : 0 < e.f4.size
        ·simp [g2, g3]
        ·simp [g2, g3, show ¬ 200 < e.f4.size by omega]
 ·have hv : ¬ validV e.f0 = true := by
   unfold validV
   simpa using h0
  rw [if_neg h0]
  exact Ev.ifn hv (Ev.const _)
/-! ### Is the directory ahead? -/
def heldAt (up : ByteArray) (x : S31) : Bool := decide (x.f0 = up ∧ x.f1 = 1)
def heldV (l : List (S31)) (e : S31) : Bool := if (parentV e.f0).2 = true then l.any (heldAt (parentV e.f0).1) else true
theorem held8_l0 (l : List (S31)) (hl : l.length ≤ 1000000) (up : ByteArray) : ∀ (m i : Nat), i + m = l.length → Ev (fun k => satchelref08_held.l0 k l up (i : Int)) ((l.drop i).any (heldAt up))
 | 0, i, h => by
  refine Ev.shift ?_
  simp only [satchelref08_held.l0]
  rw [List.drop_eq_nil_of_le (by omega)]
  exact Ev.ifn (by omega) (Ev.const _)
 | m + 1, i, h => by
  refine Ev.shift ?_
  simp only [satchelref08_held.l0]
  have hi : i < l.length := by omega
  have ew : wrap64 ((i : Int) + 1) = ((i + 1 : Nat) : Int) := by rw [wrap_id _ (by omega)]; omega
  rw [ew, List.drop_eq_getElem_cons hi, List.any_cons, rd_at l i hi]
  have next := held8_l0 l hl up m (i + 1) (by omega)
  refine Ev.ifp (by omega) (Ev.ifp (by omega) ?_)
  by_cases h1 : l[i].f0 = up
  ·refine Ev.ifp (by rw [h1]) ?_
   by_cases h2 : l[i].f1 = 1
   ·rw [show heldAt up l[i] = true from decide_eq_true ⟨h1, h2⟩, Bool.true_or]
    exact Ev.ifp h2 (Ev.const _)
   ·rw [show heldAt up l[i] = false from decide_eq_false (fun c => h2 c.2), Bool.false_or]
    exact Ev.ifn h2 next
  ·rw [show heldAt up l[i] = false from decide_eq_false (fun c => h1 c.1), Bool.false_or]
   exact Ev.ifn (fun c => h1 (bytes_ext c)) next
theorem held8_ev (l : List (S31)) (hl : l.length ≤ 1000000) (e : S31) : Ev (fun k => satchelref08_held.f k l e.f0 e.f1 e.f2 e.f3 e.f4) (heldV l e) := by
 simp only [satchelref08_held.f]
 refine Ev.bind (parent7_ev e.f0) ?_
 unfold heldV
 by_cases h : (parentV e.f0).2 = true
 ·rw [if_pos h]
  exact Ev.ifp h (held8_l0 l hl _ l.length 0 (by omega))
 ·rw [if_neg h]
  exact Ev.ifn h (Ev.const _)
theorem good_ahead {l : List (S31)} {i : Nat} (hl : l.length ≤ 200) (hi : i ≤ l.length) (h : ∀ j : Nat, j < i → badAt l j = none) : Good (l.take i) := by
 refine ⟨by rw [List.length_take]; omega, fun j hj => ?_⟩
 rw [List.length_take] at hj
 rw [badAt_take l i j (by omega) (by omega)]
 exact h j (by omega)
/-- The search finds just what is held. -/
theorem held_place {l : List (S31)} {i : Nat} (hi : i < l.length) (hg : Good (l.take i)) (up : ByteArray) : ((placeV (l.take i) up).2 = true ∧ (rd_T31 l (placeV (l.take i) up).1).f1 = 1) ↔ (l.take i).any (heldAt up) = true := by
 obtain ⟨n, h2, h3, h4, h5 | h5⟩ := place_spec hg.rising up
 ·obtain ⟨h6, h7, h8⟩ := h5
  have h7' := h7
  rw [List.length_take] at h7'
  rw [h6]
  constructor
  ·rintro ⟨_, h9⟩
   refine List.any_eq_true.2 ⟨(l.take i)[n], List.getElem_mem h7, ?_⟩
   rw [← rd_at _ n h7]
   refine decide_eq_true ⟨h8, ?_⟩
   rw [rd_take l i n (by omega)]
   exact h9
  ·intro h
   refine ⟨rfl, ?_⟩
   obtain ⟨x, hx, hx2⟩ := List.any_eq_true.1 h
   obtain ⟨a, ha, rfl⟩ := List.mem_iff_getElem.1 hx
   rw [← rd_at _ a ha] at hx2
   obtain ⟨q1, q2⟩ := of_decide_eq_true hx2
   have hna : n = a := by
    rcases Nat.lt_trichotomy n a with h9 | h9 | h9
    ·have := hg.rising n a h9 ha
     rw [h8, q1, cmpV_self] at this
     omega
    ·exact h9
    ·have := hg.rising a n h9 h7
     rw [h8, q1, cmpV_self] at this
     omega
   subst hna
   rw [rd_take l i n (by omega)] at q2
   exact q2
 ·rw [h5.1]
  constructor
  ·rintro ⟨h9, _⟩; cases h9
  ·intro h
   obtain ⟨x, hx, hx2⟩ := List.any_eq_true.1 h
   obtain ⟨a, ha, rfl⟩ := List.mem_iff_getElem.1 hx
   rw [← rd_at _ a ha] at hx2
   exact absurd (of_decide_eq_true hx2).1 (h5.2 a ha)
theorem check8_l0 (l : List (S31)) (hl : l.length ≤ 200) : ∀ (m i : Nat), i + m = l.length → (∀ j : Nat, j < i → badAt l j = none) → Ev (fun k => satchelref08_Check.l0 k l (i : Int)) (chkTree l m i)
 | 0, i, h, _ => by
  refine Ev.shift ?_
  simp only [satchelref08_Check.l0]
  exact Ev.ifn (by omega) (Ev.const _)
 | m + 1, i, h, hb => by
  have hi : i < l.length := by omega
  have hg := good_ahead hl (by omega) hb
  have ew : wrap64 ((i : Int) + 1) = ((i + 1 : Nat) : Int) := by rw [wrap_id _ (by omega)]; omega
  have ew1 : 0 < i → wrap64 ((i : Int) - 1) = (i : Int) - 1 := fun h0 => wrap_id _ (by omega)
  have bad : ∀ {e : Int}, badAt l i = some e → chkTree l (m + 1) i = (e, (i : Int)) := fun he => by unfold chkTree; rw [he]
  have ok : badAt l i = none → chkTree l (m + 1) i = chkTree l m (i + 1) := fun he => by
   show (match badAt l i with | some e => (e, (i : Int)) | none => chkTree l m (i + 1)) = _
   rw [he]
  have next : badAt l i = none → Ev (fun k => satchelref08_Check.l0 k l ((i + 1 : Nat) : Int)) (chkTree l (m + 1) i) := fun he => by
   rw [ok he]
   refine check8_l0 l hl m (i + 1) (by omega) (fun j hj => ?_)
   by_cases e : j = i
   ·rw [e]; exact he
   ·exact hb j (by omega)
  -- the last step: a fault is told
  have tell : ∀ e : Int, e ≠ 0 → badAt l i = some e → Ev (fun k => satchelref08_Check.j3 k l (i : Int) e false) (chkTree l (m + 1) i) := fun e he hbad => by
   rw [bad hbad]
   refine Ev.shift ?_
   simp only [satchelref08_Check.j3]
   exact Ev.ifn (by simp) (Ev.ifn he (Ev.const _))
  have tell2 : ∀ e : Int, e ≠ 0 → badAt l i = some e → Ev (fun k => satchelref08_Check.j2 k l (i : Int) e) (chkTree l (m + 1) i) := fun e he hbad => by
   refine Ev.shift ?_
   simp only [satchelref08_Check.j2]
   exact Ev.ifn he (tell e he hbad)
  refine Ev.shift ?_
  simp only [satchelref08_Check.l0]
  refine Ev.ifp (by omega) (Ev.ifp (by omega) (Ev.bind (one8_ev _) ?_))
  by_cases h1 : oneV (rd_T31 l (i : Int)) = 0
  ·rw [h1]
   refine Ev.ifp rfl ?_
   -- behind the order
   have tail : ∀ b : Bool, b = decide (0 < i ∧ 0 ≤ cmpV (rd_T31 l ((i : Int) - 1)).f0 (rd_T31 l (i : Int)).f0) → Ev (fun k => satchelref08_Check.j1 k l (i : Int) 0 b) (chkTree l (m + 1) i) := by
    intro b hbb
    refine Ev.shift ?_
    simp only [satchelref08_Check.j1]
    by_cases h2 : 0 < i ∧ 0 ≤ cmpV (rd_T31 l ((i : Int) - 1)).f0 (rd_T31 l (i : Int)).f0
    ·rw [hbb, decide_eq_true h2]
     exact Ev.ifp rfl (tell2 7 (by decide) (by unfold badAt; rw [if_pos h1, if_pos h2]))
    ·rw [hbb, decide_eq_false h2]
     refine Ev.ifn (by simp) (Ev.shift ?_)
     simp only [satchelref08_Check.j2, Int.toNat_natCast]
     refine Ev.ifp (by trivial) (Ev.ifp (by omega) (Ev.ifp (by omega) (Ev.ifp (by omega) (Ev.bind (held8_ev _ (by rw [List.length_take]; omega) _) (Ev.shift ?_)))))
     simp only [satchelref08_Check.j3, ew]
     have hp := held_place hi hg (parentV (rd_T31 l (i : Int)).f0).1
     by_cases h3 : heldV (l.take i) (rd_T31 l (i : Int)) = true
     ·rw [h3]
      refine Ev.ifn (by simp) (Ev.ifp (by trivial) (next ?_))
      unfold badAt
      rw [if_pos h1, if_neg h2]
      by_cases h4 : (parentV (rd_T31 l (i : Int)).f0).2 = true
      ·unfold heldV at h3
       rw [if_pos h4] at h3
       rw [if_pos h4, if_pos (hp.2 h3)]
      ·rw [if_neg h4]
     ·refine Ev.ifp (by simpa using h3) (Ev.ifn (by decide) ?_)
      have h4 : (parentV (rd_T31 l (i : Int)).f0).2 = true := by
       unfold heldV at h3
       split at h3
       ·assumption
       ·exact absurd rfl h3
      have h5 : badAt l i = some 6 := by
       unfold badAt
       unfold heldV at h3
       rw [if_pos h4] at h3
       rw [if_pos h1, if_neg h2, if_pos h4, if_neg (fun c => h3 (hp.1 c))]
      rw [bad h5]
      exact Ev.const _
   by_cases h0 : 0 < i
   ·refine Ev.ifp (by omega) ?_
    rw [ew1 h0]
    refine Ev.ifp (by omega) (Ev.ifp (by omega) (Ev.bind (compare7_ev _ _) ?_))
    exact tail _ (by simp [h0])
   ·refine Ev.ifn (by omega) ?_
    exact tail _ (by simp [h0])
  ·have hbad : badAt l i = some (oneV (rd_T31 l (i : Int))) := by unfold badAt; rw [if_neg h1]
   refine Ev.ifn h1 (Ev.shift ?_)
   simp only [satchelref08_Check.j1]
   exact Ev.ifn (by simp) (tell2 _ h1 hbad)
theorem check8_ev (l : List (S31)) : Ev (fun k => satchelref08_Check.f k l) (treeV l) := by
 unfold treeV
 simp only [satchelref08_Check.f]
 by_cases h : 200 < l.length
 ·rw [if_pos h]; exact Ev.ifp (by omega) (Ev.const _)
 ·rw [if_neg h]; exact Ev.ifn (by omega) (check8_l0 l (by omega) l.length 0 (by omega) (fun j hj => by omega))
end Go.Proofs.Ytopkmchkfcjjmaa.X
end

/-! ## Eq81 -/
section
namespace Go.Proofs.Ytopkmchkfcjjmaa.X
open Go.RowKit Go.Proofs.YtopkmchkfcjjmaaW.PrintWords Go.Proofs.YtopkmchkfcjjmaaW.PrintLast Go.Proofs.YtopkmchkfcjjmaaW.PrintMore
attribute [local go_sem] max2_int min2_int max_two min_two max_three min_three max_four min_four   -- for this text's walks alone
set_option linter.unusedVariables false
set_option linter.unusedSimpArgs false

attribute [local go_sem] str_gtr fld_fault0 fld_fault1
theorem eqA81 (d : Nat) (w : World) (x0 y0 : ByteArray) (x1 y1 : Int) (x2 y2 : Int) (x3 y3 : ByteArray) :
  (Op.equalIn (d + 2) 81 (.agg #[.string x0, .int .i64 x1, .int .i64 x2, .string x3]) (.agg #[.string y0, .int .i64 y1, .int .i64 y2, .string y3])).run Try.prog w = .ok (x0.toList == y0.toList && (x1 == y1 && (x2 == y2 && (x3.toList == y3.toList)))) w := by
 refine eqA_of Try.underlying81 (by kernel_rfl) ?_
 refine eqf_cons (by rfl) (by go_simp; rfl) (by go_simp; rfl) (by go_simp) ?_
 refine eqf_cons (by rfl) (by go_simp; rfl) (by go_simp; rfl) (by go_simp) ?_
 refine eqf_cons (by rfl) (by go_simp; rfl) (by go_simp; rfl) (by go_simp) ?_
 exact eqf_last (by rfl) (by go_simp; rfl) (by go_simp; rfl) (by go_simp)
end Go.Proofs.Ytopkmchkfcjjmaa.X
end

/-! ## BytesEqual -/
section
namespace Go.Proofs.Ytopkmchkfcjjmaa.X
open Go.RowKit Go.Proofs.YtopkmchkfcjjmaaW.PrintWords Go.Proofs.YtopkmchkfcjjmaaW.PrintLast Go.Proofs.YtopkmchkfcjjmaaW.PrintMore
attribute [local go_sem] max2_int min2_int max_two min_two max_three min_three max_four min_four   -- for this text's walks alone
set_option linter.unusedVariables false
set_option linter.unusedSimpArgs false

attribute [local go_sem] str_gtr fld_fault0 fld_fault1
/-! ### bytes_Equal: function 72 -/
def bytes_Equal.f (l0 : List Int) (l1 : List Int) : Option (Bool) := some ((strOfNums l0).toList == (strOfNums l1).toList)
set_option maxHeartbeats 8000000 in
set_option maxRecDepth 100000 in
theorem bytes_Equal.calls (A0 : Option Addr) (c0 : Nat) (l0 : List Int) (A1 : Option Addr) (c1 : Nat) (l1 : List Int) (r : Bool) (w : World) (hr0 : Kd.C (Kd.int .u8) w A0 l0.length l0) (hc0 : l0.length ≤ c0) (hr1 : Kd.C (Kd.int .u8) w A1 l1.length l1) (hc1 : l1.length ≤ c1) (h : bytes_Equal.f l0 l1 = some r) :
  Calls Try.prog 72 #[.slice A0 l0.length c0, .slice A1 l1.length c1] w fun e w' => e = .returned (.bool r) ∧ Drawn0 w w' := by
 have HR0 := Aside0.mk hr0
 have HC0 := Aside0.mk hc0
 clear hr0 hc0
 have HR1 := Aside0.mk hr1
 have HC1 := Aside0.mk hc1
 clear hr1 hc1
 have H : (some ((strOfNums l0).toList == (strOfNums l1).toList)) = some r := h
 clear h
 obtain rfl := Option.some.inj H
 have hcv3 := Kd.C_string (P := Try.prog) (A := A0) (c := c0) Try.underlying29 Try.underlying5 Try.underlying9 HR0.out
 have hcv4 := Kd.C_string (P := Try.prog) (A := A1) (c := c1) Try.underlying29 Try.underlying5 Try.underlying9 HR1.out
 go_enter Try.func72, Try.ntmps72
 go_wp2
 go_ret
 exact ⟨by first | rfl | (simp; done) | (simp [*]; done), by repeat (first | exact Drawn0.refl _ | apply Drawn0.step)⟩

end Go.Proofs.Ytopkmchkfcjjmaa.X
end

/-! ## TreeAlike -/
section
namespace Go.Proofs.Ytopkmchkfcjjmaa.X
open Go.RowKit Go.Proofs.YtopkmchkfcjjmaaW.PrintWords Go.Proofs.YtopkmchkfcjjmaaW.PrintLast Go.Proofs.YtopkmchkfcjjmaaW.PrintMore
attribute [local go_sem] max2_int min2_int max_two min_two max_three min_three max_four min_four   -- for this text's walks alone
set_option linter.unusedVariables false
set_option linter.unusedSimpArgs false

attribute [local go_sem] str_gtr fld_fault0 fld_fault1
attribute [local go_sem high] eqA81
/-! ### tree_alike: function 53 -/
def tree_alike.f (a0_0 : ByteArray) (a0_1 : Int) (a0_2 : Int) (l0_3 : List Int) (a0_4 : ByteArray) (a1_0 : ByteArray) (a1_1 : Int) (a1_2 : Int) (l1_3 : List Int) (a1_4 : ByteArray) : Option (Bool) := if (a0_0.toList == a1_0.toList && (a0_1 == a1_1 && (a0_2 == a1_2 && (a0_4.toList == a1_4.toList)))) = true then ((bytes_Equal.f l0_3 l1_3).bind fun t370 => (some t370)) else (some false)
set_option maxHeartbeats 8000000 in
set_option maxRecDepth 100000 in
theorem tree_alike.calls (a0_0 : ByteArray) (a0_1 : Int) (a0_2 : Int) (A0_3 : Option Addr) (c0_3 : Nat) (l0_3 : List Int) (a0_4 : ByteArray) (a1_0 : ByteArray) (a1_1 : Int) (a1_2 : Int) (A1_3 : Option Addr) (c1_3 : Nat) (l1_3 : List Int) (a1_4 : ByteArray) (r : Bool) (w : World) (hr0_3 : Kd.C (Kd.int .u8) w A0_3 l0_3.length l0_3) (hc0_3 : l0_3.length ≤ c0_3) (hr1_3 : Kd.C (Kd.int .u8) w A1_3 l1_3.length l1_3) (hc1_3 : l1_3.length ≤ c1_3) (h : tree_alike.f a0_0 a0_1 a0_2 l0_3 a0_4 a1_0 a1_1 a1_2 l1_3 a1_4 = some r) :
  Calls Try.prog 53 #[.agg #[.string a0_0, .int .i64 a0_1, .int .i64 a0_2, .slice A0_3 l0_3.length c0_3, .string a0_4], .agg #[.string a1_0, .int .i64 a1_1, .int .i64 a1_2, .slice A1_3 l1_3.length c1_3, .string a1_4]] w fun e w' => e = .returned (.bool r) ∧ Below w.heap.size w w' := by
 have hu31 := Try.underlying31
 have hu81 := Try.underlying81
 have HR0_3 := Aside0.mk hr0_3
 have HC0_3 := Aside0.mk hc0_3
 clear hr0_3 hc0_3
 have HR1_3 := Aside0.mk hr1_3
 have HC1_3 := Aside0.mk hc1_3
 clear hr1_3 hc1_3
 have HB := Aside0.mk (Below.refl w.heap.size w)
 have H : (if (a0_0.toList == a1_0.toList && (a0_1 == a1_1 && (a0_2 == a1_2 && (a0_4.toList == a1_4.toList)))) = true then ((bytes_Equal.f l0_3 l1_3).bind fun t370 => (some t370)) else (some false)) = some r := h
 clear h
 by_cases c3 : (a0_0.toList == a1_0.toList && (a0_1 == a1_1 && (a0_2 == a1_2 && (a0_4.toList == a1_4.toList)))) = true
 ·rw [if_pos c3] at H
  have c3b0 : (a0_0.toList == a1_0.toList && (a0_1 == a1_1 && (a0_2 == a1_2 && (a0_4.toList == a1_4.toList)))) = true := c3
  (try (have c3b1 : decide (a0_0.toList = a1_0.toList && (a0_1 == a1_1 && (a0_2 == a1_2 && (a0_4.toList == a1_4.toList)))) = true := by simpa using c3))
  (try (have c3b2 : (a0_0.toList == a1_0.toList && (a0_1 == a1_1 && (a0_2 == a1_2 && (a0_4.toList == a1_4.toList)))) = true := by simpa using c3))
  clear c3
  replace H := Option.bind_eq_some_iff.mp H
  obtain ⟨t370, A40, H⟩ := H
  replace H : (some t370) = some r := H
  have A4 := Aside0.mk A40
  clear A40
  obtain rfl := Option.some.inj H
  go_enter Try.func53, Try.ntmps53
  go_wp2_with (first | ((with_reducible refine gate_dst (N := 2) rfl ?_); refine box_event ?hg (N := 2) ?hd (cs := #[.string a0_0, .int .i64 a0_1, .int .i64 a0_2, .slice A0_3 l0_3.length c0_3, .string a0_4]) (t := 31) ?hr ?_; (case hd => rfl); (case hg => rfl); (case hr => first | (go_simp; done) | (go_simp; rfl)); intro gb368 hg w5 hbox hb; have n0_ := Aside0.mk (below_step (by repeat (first | (with_reducible first | exact HB.out | apply below_alloc | apply pw_below_drewN | apply below_drew1) | exact HB.out)) hb); have n1_ := Aside0.mk (hbox); have n2_ := Aside0.mk ((by rw [hg]; exact (below_size (by repeat (first | (with_reducible first | exact HB.out | apply below_alloc | apply pw_below_drewN | apply below_drew1) | exact HB.out))) : w.heap.size ≤ gb368)); have n3_ := Aside0.mk ((by rw [hg]; exact (below_size (by repeat (first | (with_reducible first | exact HB.out | apply below_alloc | apply pw_below_drewN | apply below_drew1) | exact HB.out))) : w.heap.size ≤ gb368)); clear HB; have HB := n0_; have BK368 := n1_; have GW368 := n2_; have GE368 := n3_; clear n0_ n1_ n2_ n3_; clear hb hbox hg) | ((with_reducible refine gate_dst (N := 3) rfl ?_); refine box_event ?hg (N := 3) ?hd (cs := #[.string a1_0, .int .i64 a1_1, .int .i64 a1_2, .slice A1_3 l1_3.length c1_3, .string a1_4]) (t := 31) ?hr ?_; (case hd => rfl); (case hg => rfl); (case hr => first | (go_simp; done) | (go_simp; rfl)); intro gb369 hg w6 hbox hb; have n0_ := Aside0.mk (blk_below (g := gb368) (o := .cells #[.string a0_0, .int .i64 a0_1, .int .i64 a0_2, .slice A0_3 l0_3.length c0_3, .string a0_4] 31 (0, 0)) (by (with_reducible repeat (first | refine blk_drewN ?_ _ | refine blk_drew ?_ | refine blk_alloc ?_ _)); exact BK368.out) hb); have n1_ := Aside0.mk (below_step (by repeat (first | (with_reducible first | exact HB.out | apply below_alloc | apply pw_below_drewN | apply below_drew1 | refine below_set ?_ GE368.out) | exact HB.out)) hb); have n2_ := Aside0.mk (hbox); have n3_ := Aside0.mk ((by rw [hg]; exact (below_size (by repeat (first | (with_reducible first | exact HB.out | apply below_alloc | apply pw_below_drewN | apply below_drew1 | refine below_set ?_ GE368.out) | exact HB.out))) : w.heap.size ≤ gb369)); have n4_ := Aside0.mk ((by rw [hg]; exact (below_size (by repeat (first | (with_reducible first | exact HB.out | apply below_alloc | apply pw_below_drewN | apply below_drew1 | refine below_set ?_ GE368.out) | exact HB.out))) : w.heap.size ≤ gb369)); have n5_ := Aside0.mk ((by rw [hg]; exact Nat.ne_of_lt (blk_lt (g := gb368) (o := .cells #[.string a0_0, .int .i64 a0_1, .int .i64 a0_2, .slice A0_3 l0_3.length c0_3, .string a0_4] 31 (0, 0)) (by (with_reducible repeat (first | refine blk_drewN ?_ _ | refine blk_drew ?_ | refine blk_alloc ?_ _)); exact BK368.out)) : gb368 ≠ gb369)); have n6_ := Aside0.mk ((by rw [hg]; exact Nat.ne_of_gt (blk_lt (g := gb368) (o := .cells #[.string a0_0, .int .i64 a0_1, .int .i64 a0_2, .slice A0_3 l0_3.length c0_3, .string a0_4] 31 (0, 0)) (by (with_reducible repeat (first | refine blk_drewN ?_ _ | refine blk_drew ?_ | refine blk_alloc ?_ _)); exact BK368.out)) : gb369 ≠ gb368)); clear BK368; clear HB; have BK368 := n0_; have HB := n1_; have BK369 := n2_; have GW369 := n3_; have GE369 := n4_; have NB368_369 := n5_; have NB369_368 := n6_; clear n0_ n1_ n2_ n3_ n4_ n5_ n6_; clear hb hbox hg; have hnb7 := NB368_369.out; have hnc7 := NB369_368.out; have hcz8_0 : w6.cell? ⟨gb368, 0, none⟩ = some (.string a0_0) := (blk_cell BK368.out 0).trans rfl; have hcz8_1 : w6.cell? ⟨gb368, 1, none⟩ = some (.int .i64 a0_1) := (blk_cell BK368.out 1).trans rfl; have hcz8_2 : w6.cell? ⟨gb368, 2, none⟩ = some (.int .i64 a0_2) := (blk_cell BK368.out 2).trans rfl; have hcz8_3 : w6.cell? ⟨gb368, 3, none⟩ = some (.slice A0_3 l0_3.length c0_3) := (blk_cell BK368.out 3).trans rfl; have hcz8_4 : w6.cell? ⟨gb368, 4, none⟩ = some (.string a0_4) := (blk_cell BK368.out 4).trans rfl; have hfz8_0 := blk_frozen BK368.out 0; have hfz8_1 := blk_frozen BK368.out 1; have hfz8_2 := blk_frozen BK368.out 2; have hfz8_3 := blk_frozen BK368.out 3; have hfz8_4 := blk_frozen BK368.out 4; have hcz9_0 : w6.cell? ⟨gb369, 0, none⟩ = some (.string a1_0) := (blk_cell BK369.out 0).trans rfl; have hcz9_1 : w6.cell? ⟨gb369, 1, none⟩ = some (.int .i64 a1_1) := (blk_cell BK369.out 1).trans rfl; have hcz9_2 : w6.cell? ⟨gb369, 2, none⟩ = some (.int .i64 a1_2) := (blk_cell BK369.out 2).trans rfl; have hcz9_3 : w6.cell? ⟨gb369, 3, none⟩ = some (.slice A1_3 l1_3.length c1_3) := (blk_cell BK369.out 3).trans rfl; have hcz9_4 : w6.cell? ⟨gb369, 4, none⟩ = some (.string a1_4) := (blk_cell BK369.out 4).trans rfl; have hfz9_0 := blk_frozen BK369.out 0; have hfz9_1 := blk_frozen BK369.out 1; have hfz9_2 := blk_frozen BK369.out 2; have hfz9_3 := blk_frozen BK369.out 3; have hfz9_4 := blk_frozen BK369.out 4) | (go_at_call 72; (with_reducible refine (bytes_Equal.calls _ _ l0_3 _ _ l1_3 t370 _ ?side1 ?side2 ?side3 ?side4 A4.out).mono ?_); (case side1 => repeat (first | exact (Kd.C_below HR0_3.out HB.out) | (with_reducible refine Kd.C_alloc ?_ _) | (with_reducible refine Kd.C_drewN ?_ _) | (with_reducible refine Kd.C_drew ?_))); (case side2 => exact HC0_3.out); (case side3 => repeat (first | exact (Kd.C_below HR1_3.out HB.out) | (with_reducible refine Kd.C_alloc ?_ _) | (with_reducible refine Kd.C_drewN ?_ _) | (with_reducible refine Kd.C_drew ?_))); (case side4 => exact HC1_3.out); rintro e w' ⟨rfl, ⟨nd, rfl⟩⟩))
  go_ret
  exact ⟨by first | rfl | (simp [errW_none, errW_some] <;> rfl) | (simp [*, errW_none, errW_some] <;> rfl) | (simp [bt, *]; done) | (simp_all [bt]; done), by repeat (first | (with_reducible first | exact HB.out | apply below_alloc | apply pw_below_drewN | apply below_drew1 | refine below_set ?_ GE368.out | refine below_set ?_ GE369.out) | exact HB.out)⟩
 ·rw [if_neg c3] at H
  have c3b0 : (a0_0.toList == a1_0.toList && (a0_1 == a1_1 && (a0_2 == a1_2 && (a0_4.toList == a1_4.toList)))) = false := by simpa using c3
  (try (have c3b1 : decide (a0_0.toList = a1_0.toList && (a0_1 == a1_1 && (a0_2 == a1_2 && (a0_4.toList == a1_4.toList)))) = false := by simpa using c3))
  (try (have c3b2 : (a0_0.toList == a1_0.toList && (a0_1 == a1_1 && (a0_2 == a1_2 && (a0_4.toList == a1_4.toList)))) = false := by simpa using c3))
  (try (have c3b3 : ¬ (a0_0.toList = a1_0.toList && (a0_1 == a1_1 && (a0_2 == a1_2 && (a0_4.toList == a1_4.toList)))) := by simpa using c3))
  clear c3
  obtain rfl := Option.some.inj H
  go_enter Try.func53, Try.ntmps53
  go_wp2_with (first | ((with_reducible refine gate_dst (N := 2) rfl ?_); refine box_event ?hg (N := 2) ?hd (cs := #[.string a0_0, .int .i64 a0_1, .int .i64 a0_2, .slice A0_3 l0_3.length c0_3, .string a0_4]) (t := 31) ?hr ?_; (case hd => rfl); (case hg => rfl); (case hr => first | (go_simp; done) | (go_simp; rfl)); intro gb368 hg w10 hbox hb; have n0_ := Aside0.mk (below_step (by repeat (first | (with_reducible first | exact HB.out | apply below_alloc | apply pw_below_drewN | apply below_drew1) | exact HB.out)) hb); have n1_ := Aside0.mk (hbox); have n2_ := Aside0.mk ((by rw [hg]; exact (below_size (by repeat (first | (with_reducible first | exact HB.out | apply below_alloc | apply pw_below_drewN | apply below_drew1) | exact HB.out))) : w.heap.size ≤ gb368)); have n3_ := Aside0.mk ((by rw [hg]; exact (below_size (by repeat (first | (with_reducible first | exact HB.out | apply below_alloc | apply pw_below_drewN | apply below_drew1) | exact HB.out))) : w.heap.size ≤ gb368)); clear HB; have HB := n0_; have BK368 := n1_; have GW368 := n2_; have GE368 := n3_; clear n0_ n1_ n2_ n3_; clear hb hbox hg) | ((with_reducible refine gate_dst (N := 3) rfl ?_); refine box_event ?hg (N := 3) ?hd (cs := #[.string a1_0, .int .i64 a1_1, .int .i64 a1_2, .slice A1_3 l1_3.length c1_3, .string a1_4]) (t := 31) ?hr ?_; (case hd => rfl); (case hg => rfl); (case hr => first | (go_simp; done) | (go_simp; rfl)); intro gb369 hg w11 hbox hb; have n0_ := Aside0.mk (blk_below (g := gb368) (o := .cells #[.string a0_0, .int .i64 a0_1, .int .i64 a0_2, .slice A0_3 l0_3.length c0_3, .string a0_4] 31 (0, 0)) (by (with_reducible repeat (first | refine blk_drewN ?_ _ | refine blk_drew ?_ | refine blk_alloc ?_ _)); exact BK368.out) hb); have n1_ := Aside0.mk (below_step (by repeat (first | (with_reducible first | exact HB.out | apply below_alloc | apply pw_below_drewN | apply below_drew1 | refine below_set ?_ GE368.out) | exact HB.out)) hb); have n2_ := Aside0.mk (hbox); have n3_ := Aside0.mk ((by rw [hg]; exact (below_size (by repeat (first | (with_reducible first | exact HB.out | apply below_alloc | apply pw_below_drewN | apply below_drew1 | refine below_set ?_ GE368.out) | exact HB.out))) : w.heap.size ≤ gb369)); have n4_ := Aside0.mk ((by rw [hg]; exact (below_size (by repeat (first | (with_reducible first | exact HB.out | apply below_alloc | apply pw_below_drewN | apply below_drew1 | refine below_set ?_ GE368.out) | exact HB.out))) : w.heap.size ≤ gb369)); have n5_ := Aside0.mk ((by rw [hg]; exact Nat.ne_of_lt (blk_lt (g := gb368) (o := .cells #[.string a0_0, .int .i64 a0_1, .int .i64 a0_2, .slice A0_3 l0_3.length c0_3, .string a0_4] 31 (0, 0)) (by (with_reducible repeat (first | refine blk_drewN ?_ _ | refine blk_drew ?_ | refine blk_alloc ?_ _)); exact BK368.out)) : gb368 ≠ gb369)); have n6_ := Aside0.mk ((by rw [hg]; exact Nat.ne_of_gt (blk_lt (g := gb368) (o := .cells #[.string a0_0, .int .i64 a0_1, .int .i64 a0_2, .slice A0_3 l0_3.length c0_3, .string a0_4] 31 (0, 0)) (by (with_reducible repeat (first | refine blk_drewN ?_ _ | refine blk_drew ?_ | refine blk_alloc ?_ _)); exact BK368.out)) : gb369 ≠ gb368)); clear BK368; clear HB; have BK368 := n0_; have HB := n1_; have BK369 := n2_; have GW369 := n3_; have GE369 := n4_; have NB368_369 := n5_; have NB369_368 := n6_; clear n0_ n1_ n2_ n3_ n4_ n5_ n6_; clear hb hbox hg; have hnb12 := NB368_369.out; have hnc12 := NB369_368.out; have hcz13_0 : w11.cell? ⟨gb368, 0, none⟩ = some (.string a0_0) := (blk_cell BK368.out 0).trans rfl; have hcz13_1 : w11.cell? ⟨gb368, 1, none⟩ = some (.int .i64 a0_1) := (blk_cell BK368.out 1).trans rfl; have hcz13_2 : w11.cell? ⟨gb368, 2, none⟩ = some (.int .i64 a0_2) := (blk_cell BK368.out 2).trans rfl; have hcz13_3 : w11.cell? ⟨gb368, 3, none⟩ = some (.slice A0_3 l0_3.length c0_3) := (blk_cell BK368.out 3).trans rfl; have hcz13_4 : w11.cell? ⟨gb368, 4, none⟩ = some (.string a0_4) := (blk_cell BK368.out 4).trans rfl; have hfz13_0 := blk_frozen BK368.out 0; have hfz13_1 := blk_frozen BK368.out 1; have hfz13_2 := blk_frozen BK368.out 2; have hfz13_3 := blk_frozen BK368.out 3; have hfz13_4 := blk_frozen BK368.out 4; have hcz14_0 : w11.cell? ⟨gb369, 0, none⟩ = some (.string a1_0) := (blk_cell BK369.out 0).trans rfl; have hcz14_1 : w11.cell? ⟨gb369, 1, none⟩ = some (.int .i64 a1_1) := (blk_cell BK369.out 1).trans rfl; have hcz14_2 : w11.cell? ⟨gb369, 2, none⟩ = some (.int .i64 a1_2) := (blk_cell BK369.out 2).trans rfl; have hcz14_3 : w11.cell? ⟨gb369, 3, none⟩ = some (.slice A1_3 l1_3.length c1_3) := (blk_cell BK369.out 3).trans rfl; have hcz14_4 : w11.cell? ⟨gb369, 4, none⟩ = some (.string a1_4) := (blk_cell BK369.out 4).trans rfl; have hfz14_0 := blk_frozen BK369.out 0; have hfz14_1 := blk_frozen BK369.out 1; have hfz14_2 := blk_frozen BK369.out 2; have hfz14_3 := blk_frozen BK369.out 3; have hfz14_4 := blk_frozen BK369.out 4))
  go_ret
  exact ⟨by first | rfl | (simp [errW_none, errW_some] <;> rfl) | (simp [*, errW_none, errW_some] <;> rfl) | (simp [bt, *]; done) | (simp_all [bt]; done), by repeat (first | (with_reducible first | exact HB.out | apply below_alloc | apply pw_below_drewN | apply below_drew1 | refine below_set ?_ GE368.out | refine below_set ?_ GE369.out) | exact HB.out)⟩

end Go.Proofs.Ytopkmchkfcjjmaa.X
end

/-! ## TreeSame -/
section
namespace Go.Proofs.Ytopkmchkfcjjmaa.X
open Go.RowKit Go.Proofs.YtopkmchkfcjjmaaW.PrintWords Go.Proofs.YtopkmchkfcjjmaaW.PrintLast Go.Proofs.YtopkmchkfcjjmaaW.PrintMore
attribute [local go_sem] max2_int min2_int max_two min_two max_three min_three max_four min_four   -- for this text's walks alone
set_option linter.unusedVariables false
set_option linter.unusedSimpArgs false

attribute [local go_sem] str_gtr fld_fault0 fld_fault1
/-! ### tree_Same: function 28 -/
def alikeE (x y : S31) : Option Bool := tree_alike.f x.f0 x.f1 x.f2 x.f3 x.f4 y.f0 y.f1 y.f2 y.f3 y.f4
def eqAll : List (S31 × S31) → Option Bool
 | [] => some true
 | p :: t => (alikeE p.1 p.2).bind fun b => if b = true then eqAll t else some false
def tree_Same.f (l0 : List (S31)) (l1 : List (S31)) : Option (Bool) := if l0.length < 1152921504606846976 then (if l0.length = l1.length then eqAll (l0.zip l1) else some false) else none
theorem eqAll_drop {l0 l1 : List (S31)} (i : Nat) (h0 : i < l0.length) (h1 : i < l1.length) : eqAll ((l0.drop i).zip (l1.drop i)) = (alikeE (rd_T31 l0 (i : Int)) (rd_T31 l1 (i : Int))).bind fun b => if b = true then eqAll ((l0.drop (i + 1)).zip (l1.drop (i + 1))) else some false := by
 rw [List.drop_eq_getElem_cons h0, List.drop_eq_getElem_cons h1, List.zip_cons_cons, eqAll]
 have e : ∀ (l : List (S31)) (h : i < l.length), rd_T31 l (i : Int) = l[i] := by
  intro l h
  unfold rd_T31
  rw [Int.toNat_natCast, List.getD_eq_getElem?_getD, List.getElem?_eq_getElem h]
  rfl
 rw [e l0 h0, e l1 h1]
set_option maxHeartbeats 8000000 in
set_option maxRecDepth 100000 in
theorem slices_EqualFunc.calls (A0 : Option Addr) (c0 : Nat) (l0 : List (S31)) (A1 : Option Addr) (c1 : Nat) (l1 : List (S31)) (r : Bool) (w : World) (hr0 : Kd.C k31 w A0 l0.length l0) (hc0 : l0.length ≤ c0) (hr1 : Kd.C k31 w A1 l1.length l1) (hc1 : l1.length ≤ c1) (h : tree_Same.f l0 l1 = some r) :
  Calls Try.prog 54 #[.slice A0 l0.length c0, .slice A1 l1.length c1, .func (.func 53) #[] #[]] w fun e w' => e = .returned (.bool r) ∧ Below w.heap.size w w' := by
 unfold tree_Same.f at h
 by_cases c1_ : l0.length < 1152921504606846976
 ·rw [if_pos c1_] at h
  by_cases c2 : l0.length = l1.length
  ·rw [if_pos c2] at h
   have H0 := Aside0.mk (show eqAll ((l0.drop 0).zip (l1.drop 0)) = some r from h)
   have HR0 := Aside0.mk hr0
   have HR1 := Aside0.mk hr1
   have HLEN := Aside0.mk c1_
   have HEQ := Aside0.mk c2
   have d2 : ((l0.length : Int) != (l1.length : Int)) = false := bne_eq_false_iff_eq.mpr (by omega)
   have d3 : (l0.length != l1.length) = false := bne_eq_false_iff_eq.mpr c2
   clear h hr0 hr1 c1_ c2
   go_enter Try.func54, Try.ntmps54
   go_wp2
   go_loopw [17] (fun v17 wr => ∃ (i : Nat), v17 = .int .i64 (i : Int) ∧ i ≤ l0.length ∧ Aside0 (eqAll ((l0.drop i).zip (l1.drop i)) = some r) ∧ Aside0 (Below w.heap.size w wr)) (fun v17 _ => l0.length - (intOf v17).toNat)
   case atStart => exact ⟨0, rfl, by omega, H0, ⟨Below.refl _ _⟩⟩
   case round =>
    clear H0
    obtain ⟨i, rfl, hil, HI, HB⟩ := hrel
    have hlen := HLEN.out
    by_cases c1 : i < l0.length
    ·have d1 : decide (i < l0.length) = true := decide_eq_true c1
     have c3 : i < l1.length := by rw [← HEQ.out]; exact c1
     have d4 : decide (i < l1.length) = true := decide_eq_true c3
     have hi2 := HI.out
     rw [eqAll_drop i c1 c3] at hi2
     obtain ⟨b, hb0, hi2⟩ := Option.bind_eq_some_iff.mp hi2
     have HA := Aside0.mk (show tree_alike.f (rd_T31 l0 (i : Int)).f0 (rd_T31 l0 (i : Int)).f1 (rd_T31 l0 (i : Int)).f2 (rd_T31 l0 (i : Int)).f3 (rd_T31 l0 (i : Int)).f4 (rd_T31 l1 (i : Int)).f0 (rd_T31 l1 (i : Int)).f1 (rd_T31 l1 (i : Int)).f2 (rd_T31 l1 (i : Int)).f3 (rd_T31 l1 (i : Int)).f4 = some b from hb0)
     have H2 := Aside0.mk hi2
     clear HI hi2 hb0
     have p : (0 : Int) ≤ (i : Int) := Int.natCast_nonneg i
     have q : (i : Int) < (l0.length : Int) := Int.ofNat_lt.2 c1
     have q1 : (i : Int) < (l1.length : Int) := Int.ofNat_lt.2 c3
     obtain ⟨ad, A3, c3_, e, hx0, hx1, hx2, hx3, hx4, hl3, hi3⟩ := at_T31 (Kd.C_below HR0.out HB.out) _ p q
     cases e
     obtain ⟨ad1, A4, c4_, e, hy0, hy1, hy2, hy3, hy4, hl4, hi4⟩ := at_T31 (Kd.C_below HR1.out HB.out) _ p q1
     cases e
     rw [Int.toNat_natCast] at hx0 hx1 hx2 hx3 hx4 hy0 hy1 hy2 hy3 hy4
     have HI3 := Aside0.mk hi3
     have HI4 := Aside0.mk hi4
     have HL3 := Aside0.mk hl3
     have HL4 := Aside0.mk hl4
     clear hi3 hi4 hl3 hl4
     cases b with
     | true =>
      go_wp2_with (first | ((with_reducible refine gate_dst (N := 8) rfl ?_); refine box_event ?hg (N := 8) ?hd (cs := #[.string (⟨#[]⟩ : ByteArray), .int .i64 0, .int .i64 0, .slice none 0 0, .string (⟨#[]⟩ : ByteArray)]) (t := 31) ?hr ?_; (case hd => rfl); (case hg => rfl); (case hr => first | (go_simp; done) | (go_simp; rfl)); intro gb hg w9 hbox hb; have HBr := Aside0.mk hb; have BK := Aside0.mk hbox; have GE := Aside0.mk (show wr.heap.size ≤ gb by rw [hg]; exact Nat.le_refl _); clear hb hbox hg; have hczgb0 : w9.cell? ⟨gb, 0, none⟩ = some (.string (⟨#[]⟩ : ByteArray)) := (blk_cell BK.out 0).trans rfl; have hfzgb0 := blk_frozen BK.out 0; have hczgb1 : w9.cell? ⟨gb, 1, none⟩ = some (.int .i64 0) := (blk_cell BK.out 1).trans rfl; have hfzgb1 := blk_frozen BK.out 1; have hczgb2 : w9.cell? ⟨gb, 2, none⟩ = some (.int .i64 0) := (blk_cell BK.out 2).trans rfl; have hfzgb2 := blk_frozen BK.out 2; have hczgb3 : w9.cell? ⟨gb, 3, none⟩ = some (.slice none 0 0) := (blk_cell BK.out 3).trans rfl; have hfzgb3 := blk_frozen BK.out 3; have hczgb4 : w9.cell? ⟨gb, 4, none⟩ = some (.string (⟨#[]⟩ : ByteArray)) := (blk_cell BK.out 4).trans rfl; have hfzgb4 := blk_frozen BK.out 4; have HC1 := Aside0.mk (show Below wr.heap.size wr (((((w9.setCell ⟨gb, 0, none⟩ (.string (rd_T31 l0 (i : Int)).f0)).setCell ⟨gb, 1, none⟩ (.int .i64 (rd_T31 l0 (i : Int)).f1)).setCell ⟨gb, 2, none⟩ (.int .i64 (rd_T31 l0 (i : Int)).f2)).setCell ⟨gb, 3, none⟩ (.slice A3 (rd_T31 l0 (i : Int)).f3.length c3_)).setCell ⟨gb, 4, none⟩ (.string (rd_T31 l0 (i : Int)).f4)) from by repeat (with_reducible first | exact HBr.out | refine below_set ?_ GE.out)); have BK1 := Aside0.mk (show (((((w9.setCell ⟨gb, 0, none⟩ (.string (rd_T31 l0 (i : Int)).f0)).setCell ⟨gb, 1, none⟩ (.int .i64 (rd_T31 l0 (i : Int)).f1)).setCell ⟨gb, 2, none⟩ (.int .i64 (rd_T31 l0 (i : Int)).f2)).setCell ⟨gb, 3, none⟩ (.slice A3 (rd_T31 l0 (i : Int)).f3.length c3_)).setCell ⟨gb, 4, none⟩ (.string (rd_T31 l0 (i : Int)).f4)).heap[gb]? = some (.cells #[.string (rd_T31 l0 (i : Int)).f0, .int .i64 (rd_T31 l0 (i : Int)).f1, .int .i64 (rd_T31 l0 (i : Int)).f2, .slice A3 (rd_T31 l0 (i : Int)).f3.length c3_, .string (rd_T31 l0 (i : Int)).f4] 31 (0, 0)) from by refine blk_put (cs := #[.string (rd_T31 l0 (i : Int)).f0, .int .i64 (rd_T31 l0 (i : Int)).f1, .int .i64 (rd_T31 l0 (i : Int)).f2, .slice A3 (rd_T31 l0 (i : Int)).f3.length c3_, .string (⟨#[]⟩ : ByteArray)]) ?_ 4 _ rfl; refine blk_put (cs := #[.string (rd_T31 l0 (i : Int)).f0, .int .i64 (rd_T31 l0 (i : Int)).f1, .int .i64 (rd_T31 l0 (i : Int)).f2, .slice none 0 0, .string (⟨#[]⟩ : ByteArray)]) ?_ 3 _ rfl; refine blk_put (cs := #[.string (rd_T31 l0 (i : Int)).f0, .int .i64 (rd_T31 l0 (i : Int)).f1, .int .i64 0, .slice none 0 0, .string (⟨#[]⟩ : ByteArray)]) ?_ 2 _ rfl; refine blk_put (cs := #[.string (rd_T31 l0 (i : Int)).f0, .int .i64 0, .int .i64 0, .slice none 0 0, .string (⟨#[]⟩ : ByteArray)]) ?_ 1 _ rfl; refine blk_put (cs := #[.string (⟨#[]⟩ : ByteArray), .int .i64 0, .int .i64 0, .slice none 0 0, .string (⟨#[]⟩ : ByteArray)]) ?_ 0 _ rfl; with_reducible exact BK.out); have hz0 : (((((w9.setCell ⟨gb, 0, none⟩ (.string (rd_T31 l0 (i : Int)).f0)).setCell ⟨gb, 1, none⟩ (.int .i64 (rd_T31 l0 (i : Int)).f1)).setCell ⟨gb, 2, none⟩ (.int .i64 (rd_T31 l0 (i : Int)).f2)).setCell ⟨gb, 3, none⟩ (.slice A3 (rd_T31 l0 (i : Int)).f3.length c3_)).setCell ⟨gb, 4, none⟩ (.string (rd_T31 l0 (i : Int)).f4)).cell? (ad1.add (i * 5)) = some (.string (rd_T31 l1 (i : Int)).f0) := (HC1.out.cell (World.block_lt_of_cell? wr _ hy0)).trans hy0; have hz1 : (((((w9.setCell ⟨gb, 0, none⟩ (.string (rd_T31 l0 (i : Int)).f0)).setCell ⟨gb, 1, none⟩ (.int .i64 (rd_T31 l0 (i : Int)).f1)).setCell ⟨gb, 2, none⟩ (.int .i64 (rd_T31 l0 (i : Int)).f2)).setCell ⟨gb, 3, none⟩ (.slice A3 (rd_T31 l0 (i : Int)).f3.length c3_)).setCell ⟨gb, 4, none⟩ (.string (rd_T31 l0 (i : Int)).f4)).cell? ⟨(ad1.add (i * 5)).block, (ad1.add (i * 5)).off + 1, none⟩ = some (.int .i64 (rd_T31 l1 (i : Int)).f1) := (HC1.out.cell (World.block_lt_of_cell? wr _ hy1)).trans hy1; have hz2 : (((((w9.setCell ⟨gb, 0, none⟩ (.string (rd_T31 l0 (i : Int)).f0)).setCell ⟨gb, 1, none⟩ (.int .i64 (rd_T31 l0 (i : Int)).f1)).setCell ⟨gb, 2, none⟩ (.int .i64 (rd_T31 l0 (i : Int)).f2)).setCell ⟨gb, 3, none⟩ (.slice A3 (rd_T31 l0 (i : Int)).f3.length c3_)).setCell ⟨gb, 4, none⟩ (.string (rd_T31 l0 (i : Int)).f4)).cell? ⟨(ad1.add (i * 5)).block, (ad1.add (i * 5)).off + 2, none⟩ = some (.int .i64 (rd_T31 l1 (i : Int)).f2) := (HC1.out.cell (World.block_lt_of_cell? wr _ hy2)).trans hy2; have hz3 : (((((w9.setCell ⟨gb, 0, none⟩ (.string (rd_T31 l0 (i : Int)).f0)).setCell ⟨gb, 1, none⟩ (.int .i64 (rd_T31 l0 (i : Int)).f1)).setCell ⟨gb, 2, none⟩ (.int .i64 (rd_T31 l0 (i : Int)).f2)).setCell ⟨gb, 3, none⟩ (.slice A3 (rd_T31 l0 (i : Int)).f3.length c3_)).setCell ⟨gb, 4, none⟩ (.string (rd_T31 l0 (i : Int)).f4)).cell? ⟨(ad1.add (i * 5)).block, (ad1.add (i * 5)).off + 3, none⟩ = some (.slice A4 (rd_T31 l1 (i : Int)).f3.length c4_) := (HC1.out.cell (World.block_lt_of_cell? wr _ hy3)).trans hy3; have hz4 : (((((w9.setCell ⟨gb, 0, none⟩ (.string (rd_T31 l0 (i : Int)).f0)).setCell ⟨gb, 1, none⟩ (.int .i64 (rd_T31 l0 (i : Int)).f1)).setCell ⟨gb, 2, none⟩ (.int .i64 (rd_T31 l0 (i : Int)).f2)).setCell ⟨gb, 3, none⟩ (.slice A3 (rd_T31 l0 (i : Int)).f3.length c3_)).setCell ⟨gb, 4, none⟩ (.string (rd_T31 l0 (i : Int)).f4)).cell? ⟨(ad1.add (i * 5)).block, (ad1.add (i * 5)).off + 4, none⟩ = some (.string (rd_T31 l1 (i : Int)).f4) := (HC1.out.cell (World.block_lt_of_cell? wr _ hy4)).trans hy4) | ((with_reducible refine gate_dst (N := 9) rfl ?_); refine box_event ?hg (N := 9) ?hd (cs := #[.string (⟨#[]⟩ : ByteArray), .int .i64 0, .int .i64 0, .slice none 0 0, .string (⟨#[]⟩ : ByteArray)]) (t := 31) ?hr ?_; (case hd => rfl); (case hg => rfl); (case hr => first | (go_simp; done) | (go_simp; rfl)); intro gc hg w10 hbox hb; have HBr2 := Aside0.mk (below_step HC1.out hb); have BKc := Aside0.mk hbox; have GE2 := Aside0.mk (show wr.heap.size ≤ gc by rw [hg]; exact HC1.out.size); have HNE := Aside0.mk (show gb ≠ gc by have := blk_lt BK1.out; rw [hg]; omega); have BK2 := Aside0.mk (blk_below BK1.out hb); clear hb hbox hg; have hczgc0 : w10.cell? ⟨gc, 0, none⟩ = some (.string (⟨#[]⟩ : ByteArray)) := (blk_cell BKc.out 0).trans rfl; have hfzgc0 := blk_frozen BKc.out 0; have hczgc1 : w10.cell? ⟨gc, 1, none⟩ = some (.int .i64 0) := (blk_cell BKc.out 1).trans rfl; have hfzgc1 := blk_frozen BKc.out 1; have hczgc2 : w10.cell? ⟨gc, 2, none⟩ = some (.int .i64 0) := (blk_cell BKc.out 2).trans rfl; have hfzgc2 := blk_frozen BKc.out 2; have hczgc3 : w10.cell? ⟨gc, 3, none⟩ = some (.slice none 0 0) := (blk_cell BKc.out 3).trans rfl; have hfzgc3 := blk_frozen BKc.out 3; have hczgc4 : w10.cell? ⟨gc, 4, none⟩ = some (.string (⟨#[]⟩ : ByteArray)) := (blk_cell BKc.out 4).trans rfl; have hfzgc4 := blk_frozen BKc.out 4; have HC2 := Aside0.mk (show Below wr.heap.size wr (((((w10.setCell ⟨gc, 0, none⟩ (.string (rd_T31 l1 (i : Int)).f0)).setCell ⟨gc, 1, none⟩ (.int .i64 (rd_T31 l1 (i : Int)).f1)).setCell ⟨gc, 2, none⟩ (.int .i64 (rd_T31 l1 (i : Int)).f2)).setCell ⟨gc, 3, none⟩ (.slice A4 (rd_T31 l1 (i : Int)).f3.length c4_)).setCell ⟨gc, 4, none⟩ (.string (rd_T31 l1 (i : Int)).f4)) from by repeat (with_reducible first | exact HBr2.out | refine below_set ?_ GE2.out)); have BK3 := Aside0.mk (show (((((w10.setCell ⟨gc, 0, none⟩ (.string (rd_T31 l1 (i : Int)).f0)).setCell ⟨gc, 1, none⟩ (.int .i64 (rd_T31 l1 (i : Int)).f1)).setCell ⟨gc, 2, none⟩ (.int .i64 (rd_T31 l1 (i : Int)).f2)).setCell ⟨gc, 3, none⟩ (.slice A4 (rd_T31 l1 (i : Int)).f3.length c4_)).setCell ⟨gc, 4, none⟩ (.string (rd_T31 l1 (i : Int)).f4)).heap[gb]? = some (.cells #[.string (rd_T31 l0 (i : Int)).f0, .int .i64 (rd_T31 l0 (i : Int)).f1, .int .i64 (rd_T31 l0 (i : Int)).f2, .slice A3 (rd_T31 l0 (i : Int)).f3.length c3_, .string (rd_T31 l0 (i : Int)).f4] 31 (0, 0)) from by repeat (with_reducible first | exact BK2.out | refine blk_far ?_ HNE.out _)); have hq0 : (((((w10.setCell ⟨gc, 0, none⟩ (.string (rd_T31 l1 (i : Int)).f0)).setCell ⟨gc, 1, none⟩ (.int .i64 (rd_T31 l1 (i : Int)).f1)).setCell ⟨gc, 2, none⟩ (.int .i64 (rd_T31 l1 (i : Int)).f2)).setCell ⟨gc, 3, none⟩ (.slice A4 (rd_T31 l1 (i : Int)).f3.length c4_)).setCell ⟨gc, 4, none⟩ (.string (rd_T31 l1 (i : Int)).f4)).cell? ⟨gb, 0, none⟩ = some (.string (rd_T31 l0 (i : Int)).f0) := (blk_cell BK3.out 0).trans rfl; have hq1 : (((((w10.setCell ⟨gc, 0, none⟩ (.string (rd_T31 l1 (i : Int)).f0)).setCell ⟨gc, 1, none⟩ (.int .i64 (rd_T31 l1 (i : Int)).f1)).setCell ⟨gc, 2, none⟩ (.int .i64 (rd_T31 l1 (i : Int)).f2)).setCell ⟨gc, 3, none⟩ (.slice A4 (rd_T31 l1 (i : Int)).f3.length c4_)).setCell ⟨gc, 4, none⟩ (.string (rd_T31 l1 (i : Int)).f4)).cell? ⟨gb, 1, none⟩ = some (.int .i64 (rd_T31 l0 (i : Int)).f1) := (blk_cell BK3.out 1).trans rfl; have hq2 : (((((w10.setCell ⟨gc, 0, none⟩ (.string (rd_T31 l1 (i : Int)).f0)).setCell ⟨gc, 1, none⟩ (.int .i64 (rd_T31 l1 (i : Int)).f1)).setCell ⟨gc, 2, none⟩ (.int .i64 (rd_T31 l1 (i : Int)).f2)).setCell ⟨gc, 3, none⟩ (.slice A4 (rd_T31 l1 (i : Int)).f3.length c4_)).setCell ⟨gc, 4, none⟩ (.string (rd_T31 l1 (i : Int)).f4)).cell? ⟨gb, 2, none⟩ = some (.int .i64 (rd_T31 l0 (i : Int)).f2) := (blk_cell BK3.out 2).trans rfl; have hq3 : (((((w10.setCell ⟨gc, 0, none⟩ (.string (rd_T31 l1 (i : Int)).f0)).setCell ⟨gc, 1, none⟩ (.int .i64 (rd_T31 l1 (i : Int)).f1)).setCell ⟨gc, 2, none⟩ (.int .i64 (rd_T31 l1 (i : Int)).f2)).setCell ⟨gc, 3, none⟩ (.slice A4 (rd_T31 l1 (i : Int)).f3.length c4_)).setCell ⟨gc, 4, none⟩ (.string (rd_T31 l1 (i : Int)).f4)).cell? ⟨gb, 3, none⟩ = some (.slice A3 (rd_T31 l0 (i : Int)).f3.length c3_) := (blk_cell BK3.out 3).trans rfl; have hq4 : (((((w10.setCell ⟨gc, 0, none⟩ (.string (rd_T31 l1 (i : Int)).f0)).setCell ⟨gc, 1, none⟩ (.int .i64 (rd_T31 l1 (i : Int)).f1)).setCell ⟨gc, 2, none⟩ (.int .i64 (rd_T31 l1 (i : Int)).f2)).setCell ⟨gc, 3, none⟩ (.slice A4 (rd_T31 l1 (i : Int)).f3.length c4_)).setCell ⟨gc, 4, none⟩ (.string (rd_T31 l1 (i : Int)).f4)).cell? ⟨gb, 4, none⟩ = some (.string (rd_T31 l0 (i : Int)).f4) := (blk_cell BK3.out 4).trans rfl) | (go_at_call 53; refine (tree_alike.calls (rd_T31 l0 (i : Int)).f0 (rd_T31 l0 (i : Int)).f1 (rd_T31 l0 (i : Int)).f2 _ _ (rd_T31 l0 (i : Int)).f3 (rd_T31 l0 (i : Int)).f4 (rd_T31 l1 (i : Int)).f0 (rd_T31 l1 (i : Int)).f1 (rd_T31 l1 (i : Int)).f2 _ _ (rd_T31 l1 (i : Int)).f3 (rd_T31 l1 (i : Int)).f4 true _ (Kd.C_below HI3.out HC2.out) HL3.out (Kd.C_below HI4.out HC2.out) HL4.out HA.out).mono ?_; rintro e w2 ⟨rfl, hb⟩; have HB2 := Aside0.mk (below_then HB.out HB.out.size (below_step HC2.out hb)); clear hb))
      go_roundw
      case rel => exact ⟨i + 1, by congr 1, by omega, H2, HB2⟩
      case measure => simp [intOf]; omega
     | false =>
      obtain rfl := Option.some.inj H2.out
      go_wp2_with (first | ((with_reducible refine gate_dst (N := 8) rfl ?_); refine box_event ?hg (N := 8) ?hd (cs := #[.string (⟨#[]⟩ : ByteArray), .int .i64 0, .int .i64 0, .slice none 0 0, .string (⟨#[]⟩ : ByteArray)]) (t := 31) ?hr ?_; (case hd => rfl); (case hg => rfl); (case hr => first | (go_simp; done) | (go_simp; rfl)); intro gb hg w9 hbox hb; have HBr := Aside0.mk hb; have BK := Aside0.mk hbox; have GE := Aside0.mk (show wr.heap.size ≤ gb by rw [hg]; exact Nat.le_refl _); clear hb hbox hg; have hczgb0 : w9.cell? ⟨gb, 0, none⟩ = some (.string (⟨#[]⟩ : ByteArray)) := (blk_cell BK.out 0).trans rfl; have hfzgb0 := blk_frozen BK.out 0; have hczgb1 : w9.cell? ⟨gb, 1, none⟩ = some (.int .i64 0) := (blk_cell BK.out 1).trans rfl; have hfzgb1 := blk_frozen BK.out 1; have hczgb2 : w9.cell? ⟨gb, 2, none⟩ = some (.int .i64 0) := (blk_cell BK.out 2).trans rfl; have hfzgb2 := blk_frozen BK.out 2; have hczgb3 : w9.cell? ⟨gb, 3, none⟩ = some (.slice none 0 0) := (blk_cell BK.out 3).trans rfl; have hfzgb3 := blk_frozen BK.out 3; have hczgb4 : w9.cell? ⟨gb, 4, none⟩ = some (.string (⟨#[]⟩ : ByteArray)) := (blk_cell BK.out 4).trans rfl; have hfzgb4 := blk_frozen BK.out 4; have HC1 := Aside0.mk (show Below wr.heap.size wr (((((w9.setCell ⟨gb, 0, none⟩ (.string (rd_T31 l0 (i : Int)).f0)).setCell ⟨gb, 1, none⟩ (.int .i64 (rd_T31 l0 (i : Int)).f1)).setCell ⟨gb, 2, none⟩ (.int .i64 (rd_T31 l0 (i : Int)).f2)).setCell ⟨gb, 3, none⟩ (.slice A3 (rd_T31 l0 (i : Int)).f3.length c3_)).setCell ⟨gb, 4, none⟩ (.string (rd_T31 l0 (i : Int)).f4)) from by repeat (with_reducible first | exact HBr.out | refine below_set ?_ GE.out)); have BK1 := Aside0.mk (show (((((w9.setCell ⟨gb, 0, none⟩ (.string (rd_T31 l0 (i : Int)).f0)).setCell ⟨gb, 1, none⟩ (.int .i64 (rd_T31 l0 (i : Int)).f1)).setCell ⟨gb, 2, none⟩ (.int .i64 (rd_T31 l0 (i : Int)).f2)).setCell ⟨gb, 3, none⟩ (.slice A3 (rd_T31 l0 (i : Int)).f3.length c3_)).setCell ⟨gb, 4, none⟩ (.string (rd_T31 l0 (i : Int)).f4)).heap[gb]? = some (.cells #[.string (rd_T31 l0 (i : Int)).f0, .int .i64 (rd_T31 l0 (i : Int)).f1, .int .i64 (rd_T31 l0 (i : Int)).f2, .slice A3 (rd_T31 l0 (i : Int)).f3.length c3_, .string (rd_T31 l0 (i : Int)).f4] 31 (0, 0)) from by refine blk_put (cs := #[.string (rd_T31 l0 (i : Int)).f0, .int .i64 (rd_T31 l0 (i : Int)).f1, .int .i64 (rd_T31 l0 (i : Int)).f2, .slice A3 (rd_T31 l0 (i : Int)).f3.length c3_, .string (⟨#[]⟩ : ByteArray)]) ?_ 4 _ rfl; refine blk_put (cs := #[.string (rd_T31 l0 (i : Int)).f0, .int .i64 (rd_T31 l0 (i : Int)).f1, .int .i64 (rd_T31 l0 (i : Int)).f2, .slice none 0 0, .string (⟨#[]⟩ : ByteArray)]) ?_ 3 _ rfl; refine blk_put (cs := #[.string (rd_T31 l0 (i : Int)).f0, .int .i64 (rd_T31 l0 (i : Int)).f1, .int .i64 0, .slice none 0 0, .string (⟨#[]⟩ : ByteArray)]) ?_ 2 _ rfl; refine blk_put (cs := #[.string (rd_T31 l0 (i : Int)).f0, .int .i64 0, .int .i64 0, .slice none 0 0, .string (⟨#[]⟩ : ByteArray)]) ?_ 1 _ rfl; refine blk_put (cs := #[.string (⟨#[]⟩ : ByteArray), .int .i64 0, .int .i64 0, .slice none 0 0, .string (⟨#[]⟩ : ByteArray)]) ?_ 0 _ rfl; with_reducible exact BK.out); have hz0 : (((((w9.setCell ⟨gb, 0, none⟩ (.string (rd_T31 l0 (i : Int)).f0)).setCell ⟨gb, 1, none⟩ (.int .i64 (rd_T31 l0 (i : Int)).f1)).setCell ⟨gb, 2, none⟩ (.int .i64 (rd_T31 l0 (i : Int)).f2)).setCell ⟨gb, 3, none⟩ (.slice A3 (rd_T31 l0 (i : Int)).f3.length c3_)).setCell ⟨gb, 4, none⟩ (.string (rd_T31 l0 (i : Int)).f4)).cell? (ad1.add (i * 5)) = some (.string (rd_T31 l1 (i : Int)).f0) := (HC1.out.cell (World.block_lt_of_cell? wr _ hy0)).trans hy0; have hz1 : (((((w9.setCell ⟨gb, 0, none⟩ (.string (rd_T31 l0 (i : Int)).f0)).setCell ⟨gb, 1, none⟩ (.int .i64 (rd_T31 l0 (i : Int)).f1)).setCell ⟨gb, 2, none⟩ (.int .i64 (rd_T31 l0 (i : Int)).f2)).setCell ⟨gb, 3, none⟩ (.slice A3 (rd_T31 l0 (i : Int)).f3.length c3_)).setCell ⟨gb, 4, none⟩ (.string (rd_T31 l0 (i : Int)).f4)).cell? ⟨(ad1.add (i * 5)).block, (ad1.add (i * 5)).off + 1, none⟩ = some (.int .i64 (rd_T31 l1 (i : Int)).f1) := (HC1.out.cell (World.block_lt_of_cell? wr _ hy1)).trans hy1; have hz2 : (((((w9.setCell ⟨gb, 0, none⟩ (.string (rd_T31 l0 (i : Int)).f0)).setCell ⟨gb, 1, none⟩ (.int .i64 (rd_T31 l0 (i : Int)).f1)).setCell ⟨gb, 2, none⟩ (.int .i64 (rd_T31 l0 (i : Int)).f2)).setCell ⟨gb, 3, none⟩ (.slice A3 (rd_T31 l0 (i : Int)).f3.length c3_)).setCell ⟨gb, 4, none⟩ (.string (rd_T31 l0 (i : Int)).f4)).cell? ⟨(ad1.add (i * 5)).block, (ad1.add (i * 5)).off + 2, none⟩ = some (.int .i64 (rd_T31 l1 (i : Int)).f2) := (HC1.out.cell (World.block_lt_of_cell? wr _ hy2)).trans hy2; have hz3 : (((((w9.setCell ⟨gb, 0, none⟩ (.string (rd_T31 l0 (i : Int)).f0)).setCell ⟨gb, 1, none⟩ (.int .i64 (rd_T31 l0 (i : Int)).f1)).setCell ⟨gb, 2, none⟩ (.int .i64 (rd_T31 l0 (i : Int)).f2)).setCell ⟨gb, 3, none⟩ (.slice A3 (rd_T31 l0 (i : Int)).f3.length c3_)).setCell ⟨gb, 4, none⟩ (.string (rd_T31 l0 (i : Int)).f4)).cell? ⟨(ad1.add (i * 5)).block, (ad1.add (i * 5)).off + 3, none⟩ = some (.slice A4 (rd_T31 l1 (i : Int)).f3.length c4_) := (HC1.out.cell (World.block_lt_of_cell? wr _ hy3)).trans hy3; have hz4 : (((((w9.setCell ⟨gb, 0, none⟩ (.string (rd_T31 l0 (i : Int)).f0)).setCell ⟨gb, 1, none⟩ (.int .i64 (rd_T31 l0 (i : Int)).f1)).setCell ⟨gb, 2, none⟩ (.int .i64 (rd_T31 l0 (i : Int)).f2)).setCell ⟨gb, 3, none⟩ (.slice A3 (rd_T31 l0 (i : Int)).f3.length c3_)).setCell ⟨gb, 4, none⟩ (.string (rd_T31 l0 (i : Int)).f4)).cell? ⟨(ad1.add (i * 5)).block, (ad1.add (i * 5)).off + 4, none⟩ = some (.string (rd_T31 l1 (i : Int)).f4) := (HC1.out.cell (World.block_lt_of_cell? wr _ hy4)).trans hy4) | ((with_reducible refine gate_dst (N := 9) rfl ?_); refine box_event ?hg (N := 9) ?hd (cs := #[.string (⟨#[]⟩ : ByteArray), .int .i64 0, .int .i64 0, .slice none 0 0, .string (⟨#[]⟩ : ByteArray)]) (t := 31) ?hr ?_; (case hd => rfl); (case hg => rfl); (case hr => first | (go_simp; done) | (go_simp; rfl)); intro gc hg w10 hbox hb; have HBr2 := Aside0.mk (below_step HC1.out hb); have BKc := Aside0.mk hbox; have GE2 := Aside0.mk (show wr.heap.size ≤ gc by rw [hg]; exact HC1.out.size); have HNE := Aside0.mk (show gb ≠ gc by have := blk_lt BK1.out; rw [hg]; omega); have BK2 := Aside0.mk (blk_below BK1.out hb); clear hb hbox hg; have hczgc0 : w10.cell? ⟨gc, 0, none⟩ = some (.string (⟨#[]⟩ : ByteArray)) := (blk_cell BKc.out 0).trans rfl; have hfzgc0 := blk_frozen BKc.out 0; have hczgc1 : w10.cell? ⟨gc, 1, none⟩ = some (.int .i64 0) := (blk_cell BKc.out 1).trans rfl; have hfzgc1 := blk_frozen BKc.out 1; have hczgc2 : w10.cell? ⟨gc, 2, none⟩ = some (.int .i64 0) := (blk_cell BKc.out 2).trans rfl; have hfzgc2 := blk_frozen BKc.out 2; have hczgc3 : w10.cell? ⟨gc, 3, none⟩ = some (.slice none 0 0) := (blk_cell BKc.out 3).trans rfl; have hfzgc3 := blk_frozen BKc.out 3; have hczgc4 : w10.cell? ⟨gc, 4, none⟩ = some (.string (⟨#[]⟩ : ByteArray)) := (blk_cell BKc.out 4).trans rfl; have hfzgc4 := blk_frozen BKc.out 4; have HC2 := Aside0.mk (show Below wr.heap.size wr (((((w10.setCell ⟨gc, 0, none⟩ (.string (rd_T31 l1 (i : Int)).f0)).setCell ⟨gc, 1, none⟩ (.int .i64 (rd_T31 l1 (i : Int)).f1)).setCell ⟨gc, 2, none⟩ (.int .i64 (rd_T31 l1 (i : Int)).f2)).setCell ⟨gc, 3, none⟩ (.slice A4 (rd_T31 l1 (i : Int)).f3.length c4_)).setCell ⟨gc, 4, none⟩ (.string (rd_T31 l1 (i : Int)).f4)) from by repeat (with_reducible first | exact HBr2.out | refine below_set ?_ GE2.out)); have BK3 := Aside0.mk (show (((((w10.setCell ⟨gc, 0, none⟩ (.string (rd_T31 l1 (i : Int)).f0)).setCell ⟨gc, 1, none⟩ (.int .i64 (rd_T31 l1 (i : Int)).f1)).setCell ⟨gc, 2, none⟩ (.int .i64 (rd_T31 l1 (i : Int)).f2)).setCell ⟨gc, 3, none⟩ (.slice A4 (rd_T31 l1 (i : Int)).f3.length c4_)).setCell ⟨gc, 4, none⟩ (.string (rd_T31 l1 (i : Int)).f4)).heap[gb]? = some (.cells #[.string (rd_T31 l0 (i : Int)).f0, .int .i64 (rd_T31 l0 (i : Int)).f1, .int .i64 (rd_T31 l0 (i : Int)).f2, .slice A3 (rd_T31 l0 (i : Int)).f3.length c3_, .string (rd_T31 l0 (i : Int)).f4] 31 (0, 0)) from by repeat (with_reducible first | exact BK2.out | refine blk_far ?_ HNE.out _)); have hq0 : (((((w10.setCell ⟨gc, 0, none⟩ (.string (rd_T31 l1 (i : Int)).f0)).setCell ⟨gc, 1, none⟩ (.int .i64 (rd_T31 l1 (i : Int)).f1)).setCell ⟨gc, 2, none⟩ (.int .i64 (rd_T31 l1 (i : Int)).f2)).setCell ⟨gc, 3, none⟩ (.slice A4 (rd_T31 l1 (i : Int)).f3.length c4_)).setCell ⟨gc, 4, none⟩ (.string (rd_T31 l1 (i : Int)).f4)).cell? ⟨gb, 0, none⟩ = some (.string (rd_T31 l0 (i : Int)).f0) := (blk_cell BK3.out 0).trans rfl; have hq1 : (((((w10.setCell ⟨gc, 0, none⟩ (.string (rd_T31 l1 (i : Int)).f0)).setCell ⟨gc, 1, none⟩ (.int .i64 (rd_T31 l1 (i : Int)).f1)).setCell ⟨gc, 2, none⟩ (.int .i64 (rd_T31 l1 (i : Int)).f2)).setCell ⟨gc, 3, none⟩ (.slice A4 (rd_T31 l1 (i : Int)).f3.length c4_)).setCell ⟨gc, 4, none⟩ (.string (rd_T31 l1 (i : Int)).f4)).cell? ⟨gb, 1, none⟩ = some (.int .i64 (rd_T31 l0 (i : Int)).f1) := (blk_cell BK3.out 1).trans rfl; have hq2 : (((((w10.setCell ⟨gc, 0, none⟩ (.string (rd_T31 l1 (i : Int)).f0)).setCell ⟨gc, 1, none⟩ (.int .i64 (rd_T31 l1 (i : Int)).f1)).setCell ⟨gc, 2, none⟩ (.int .i64 (rd_T31 l1 (i : Int)).f2)).setCell ⟨gc, 3, none⟩ (.slice A4 (rd_T31 l1 (i : Int)).f3.length c4_)).setCell ⟨gc, 4, none⟩ (.string (rd_T31 l1 (i : Int)).f4)).cell? ⟨gb, 2, none⟩ = some (.int .i64 (rd_T31 l0 (i : Int)).f2) := (blk_cell BK3.out 2).trans rfl; have hq3 : (((((w10.setCell ⟨gc, 0, none⟩ (.string (rd_T31 l1 (i : Int)).f0)).setCell ⟨gc, 1, none⟩ (.int .i64 (rd_T31 l1 (i : Int)).f1)).setCell ⟨gc, 2, none⟩ (.int .i64 (rd_T31 l1 (i : Int)).f2)).setCell ⟨gc, 3, none⟩ (.slice A4 (rd_T31 l1 (i : Int)).f3.length c4_)).setCell ⟨gc, 4, none⟩ (.string (rd_T31 l1 (i : Int)).f4)).cell? ⟨gb, 3, none⟩ = some (.slice A3 (rd_T31 l0 (i : Int)).f3.length c3_) := (blk_cell BK3.out 3).trans rfl; have hq4 : (((((w10.setCell ⟨gc, 0, none⟩ (.string (rd_T31 l1 (i : Int)).f0)).setCell ⟨gc, 1, none⟩ (.int .i64 (rd_T31 l1 (i : Int)).f1)).setCell ⟨gc, 2, none⟩ (.int .i64 (rd_T31 l1 (i : Int)).f2)).setCell ⟨gc, 3, none⟩ (.slice A4 (rd_T31 l1 (i : Int)).f3.length c4_)).setCell ⟨gc, 4, none⟩ (.string (rd_T31 l1 (i : Int)).f4)).cell? ⟨gb, 4, none⟩ = some (.string (rd_T31 l0 (i : Int)).f4) := (blk_cell BK3.out 4).trans rfl) | (go_at_call 53; refine (tree_alike.calls (rd_T31 l0 (i : Int)).f0 (rd_T31 l0 (i : Int)).f1 (rd_T31 l0 (i : Int)).f2 _ _ (rd_T31 l0 (i : Int)).f3 (rd_T31 l0 (i : Int)).f4 (rd_T31 l1 (i : Int)).f0 (rd_T31 l1 (i : Int)).f1 (rd_T31 l1 (i : Int)).f2 _ _ (rd_T31 l1 (i : Int)).f3 (rd_T31 l1 (i : Int)).f4 false _ (Kd.C_below HI3.out HC2.out) HL3.out (Kd.C_below HI4.out HC2.out) HL4.out HA.out).mono ?_; rintro e w2 ⟨rfl, hb⟩; have HB2 := Aside0.mk (below_then HB.out HB.out.size (below_step HC2.out hb)); clear hb))
      go_ret
      exact ⟨rfl, HB2.out⟩
    ·have d1 : decide (i < l0.length) = false := decide_eq_false c1
     have hr : r = true := by
      have h2 := HI.out
      rw [List.drop_eq_nil_of_le (by omega)] at h2
      exact (Option.some.inj h2).symm
     subst hr
     go_wp2
     go_ret
     exact ⟨rfl, HB.out⟩
  ·rw [if_neg c2] at h
   obtain rfl := Option.some.inj h
   have d2 : ((l0.length : Int) != (l1.length : Int)) = true := bne_iff_ne.mpr (by omega)
   have d3 : (l0.length != l1.length) = true := bne_iff_ne.mpr c2
   clear h
   go_enter Try.func54, Try.ntmps54
   go_wp2
   go_ret
   exact ⟨rfl, Below.refl _ _⟩
 ·rw [if_neg c1_] at h
  cases h
set_option maxHeartbeats 1000000 in
set_option maxRecDepth 100000 in
theorem tree_Same.calls (A0 : Option Addr) (c0 : Nat) (l0 : List (S31)) (A1 : Option Addr) (c1 : Nat) (l1 : List (S31)) (r : Bool) (w : World) (hr0 : Kd.C k31 w A0 l0.length l0) (hc0 : l0.length ≤ c0) (hr1 : Kd.C k31 w A1 l1.length l1) (hc1 : l1.length ≤ c1) (h : tree_Same.f l0 l1 = some r) :
  Calls Try.prog 28 #[.slice A0 l0.length c0, .slice A1 l1.length c1] w fun e w' => e = .returned (.bool r) ∧ Below w.heap.size w w' := by
 have HC := Aside0.mk (slices_EqualFunc.calls A0 c0 l0 A1 c1 l1 r w hr0 hc0 hr1 hc1 h)
 clear hr0 hr1 h
 go_enter Try.func28, Try.ntmps28
 go_wp2_with (go_at_call 54; refine HC.out.mono ?_; rintro e w1 ⟨rfl, hb⟩)
 go_ret
 exact ⟨rfl, hb⟩

end Go.Proofs.Ytopkmchkfcjjmaa.X
end

/-! ## TreeDiff -/
section
namespace Go.Proofs.Ytopkmchkfcjjmaa.X
open Go.RowKit Go.Proofs.YtopkmchkfcjjmaaW.PrintWords Go.Proofs.YtopkmchkfcjjmaaW.PrintLast Go.Proofs.YtopkmchkfcjjmaaW.PrintMore
attribute [local go_sem] max2_int min2_int max_two min_two max_three min_three max_four min_four   -- for this text's walks alone
set_option linter.unusedVariables false
set_option linter.unusedSimpArgs false

attribute [local go_sem] str_gtr fld_fault0 fld_fault1
/-! ### tree_Diff: function 25 -/
/-- What is added, gone, changed, of what is left of both. -/
def tree_Diff.l0 : Nat → List (S31) → List (S31) → List ByteArray → List ByteArray → List ByteArray → Option (List ByteArray × List ByteArray × List ByteArray)
 | 0, _, _, _, _, _ => none
 | k + 1, a, b, x, y, z => if x.length < 8796093022208 ∧ y.length < 8796093022208 ∧ z.length < 8796093022208 then
   (if a.length = 0 then (if b.length = 0 then some (x, y, z) else tree_Diff.l0 k a (b.drop 1) (x ++ [(rd_T31 b 0).f0]) y z)
   else if b.length = 0 then tree_Diff.l0 k (a.drop 1) b x (y ++ [(rd_T31 a 0).f0]) z
   else (path_Compare.f k (rd_T31 a 0).f0 (rd_T31 b 0).f0).bind fun q =>
    if 0 < q then tree_Diff.l0 k a (b.drop 1) (x ++ [(rd_T31 b 0).f0]) y z
    else if q < 0 then tree_Diff.l0 k (a.drop 1) b x (y ++ [(rd_T31 a 0).f0]) z
    else (alikeE (rd_T31 a 0) (rd_T31 b 0)).bind fun t => tree_Diff.l0 k (a.drop 1) (b.drop 1) x y (if t = true then z else z ++ [(rd_T31 a 0).f0])) else none
def tree_Diff.f (k : Nat) (l0 : List (S31)) (l1 : List (S31)) : Option (List ByteArray × List ByteArray × List ByteArray) :=
 if l0.length < 1152921504606846976 ∧ l1.length < 1152921504606846976 then ((tree_Check.f k l0).bind fun e => (tree_Check.f k l1).bind fun g => if e.1 = 0 ∧ g.1 = 0 then tree_Diff.l0 k l0 l1 [] [] [] else some ([], [], [])) else none
theorem tree_Diff.mono_l0 : ∀ k a b x y z, LeO (tree_Diff.l0 k a b x y z) (tree_Diff.l0 (k + 1) a b x y z)
 | 0, _, _, _, _, _ => LeO.none _
 | k + 1, a, b, x, y, z => by
  unfold tree_Diff.l0
  exact LeO.ite (LeO.ite (LeO.ite (LeO.refl _) (tree_Diff.mono_l0 k _ _ _ _ _)) (LeO.ite (tree_Diff.mono_l0 k _ _ _ _ _) (LeO.bind (path_Compare.mono _ _ _) fun q => LeO.ite (tree_Diff.mono_l0 k _ _ _ _ _) (LeO.ite (tree_Diff.mono_l0 k _ _ _ _ _) (LeO.bind (LeO.refl _) fun t => tree_Diff.mono_l0 k _ _ _ _ _))))) (LeO.refl _)
theorem tree_Diff.mono : ∀ l0 l1 k, LeO (tree_Diff.f k l0 l1) (tree_Diff.f (k + 1) l0 l1) := by
 intro l0 l1 k
 unfold tree_Diff.f
 exact LeO.ite (LeO.bind (tree_Check.mono _ _) fun _ => LeO.bind (tree_Check.mono _ _) fun _ => LeO.ite (tree_Diff.mono_l0 _ _ _ _ _ _) (LeO.refl _)) (LeO.refl _)
/-- One entry less. -/
theorem tail_of {w : World} {A : Option Addr} {a : List (S31)} {n c : Nat} (h : Kd.C k31 w A n a) (hn : 0 < n) (hc : n ≤ c) :
  (∀ W : World, (Instr.slice 22 (.slice A n c) (some (.int .i64 1)) none none).run Try.prog W = .ok (.slice (if c = 1 then A else A.map (·.add (1 * 5))) (n - 1) (c - 1)) W) ∧ Kd.C k31 w (if c = 1 then A else A.map (·.add (1 * 5))) (n - 1) (a.drop 1) := by
 have hl := Kd.C_len h
 subst hl
 obtain ⟨i0, hi0, _, hsz, _⟩ := info_parts info31
 refine ⟨cut_from (P := Try.prog) 22 31 .i64 Try.underlying22 hi0 5 hsz A a.length c 1 (by omega) (by omega), ?_⟩
 have h2 := Kd.C_drop (m := 1) (c := c) h (by omega) hc
 rw [List.length_drop] at h2
 exact h2
def lenOf : Value → Nat | .slice _ n _ => n | _ => 0
set_option maxHeartbeats 8000000 in
set_option maxRecDepth 100000 in
theorem tree_Diff.calls (k : Nat) (A0 : Option Addr) (c0 : Nat) (l0 : List (S31)) (A1 : Option Addr) (c1 : Nat) (l1 : List (S31)) (r1 : List ByteArray) (r2 : List ByteArray) (r3 : List ByteArray) (w : World) (hr0 : Kd.C k31 w A0 l0.length l0) (hc0 : l0.length ≤ c0) (hr1 : Kd.C k31 w A1 l1.length l1) (hc1 : l1.length ≤ c1) (h : tree_Diff.f k l0 l1 = some (r1, r2, r3)) :
  Calls Try.prog 25 #[.slice A0 l0.length c0, .slice A1 l1.length c1] w fun e w' => ∃ v0_ v1_ v2_ : Value, e = .returned (.tuple #[v0_, v1_, v2_]) ∧ Kd.R Kd.string 9 w' w.heap.size (fun k_ => some k_ ≠ (v1_ : Value).ownBlock ∧ some k_ ≠ (v2_ : Value).ownBlock) v0_ r1 ∧ Kd.R Kd.string 9 w' w.heap.size (fun k_ => some k_ ≠ (v0_ : Value).ownBlock ∧ some k_ ≠ (v2_ : Value).ownBlock) v1_ r2 ∧ Kd.R Kd.string 9 w' w.heap.size (fun k_ => some k_ ≠ (v0_ : Value).ownBlock ∧ some k_ ≠ (v1_ : Value).ownBlock) v2_ r3 ∧ Below w.heap.size w w' := by
 unfold tree_Diff.f at h
 by_cases c00 : l0.length < 1152921504606846976 ∧ l1.length < 1152921504606846976
 ·rw [if_pos c00] at h
  obtain ⟨⟨e1, e2⟩, he, h1⟩ := Option.bind_eq_some_iff.mp h
  clear h
  obtain ⟨⟨g1, g2⟩, hg, h⟩ := Option.bind_eq_some_iff.mp h1
  clear h1
  have HLEN := Aside0.mk c00
  have HE := Aside0.mk he
  have HG := Aside0.mk hg
  have HR0 := Aside0.mk hr0
  have HR1 := Aside0.mk hr1
  clear c00 he hg hr0 hr1
  by_cases c3 : e1 = 0 ∧ g1 = 0
  ·rw [if_pos c3] at h
   have HL := Aside0.mk h
   clear h
   obtain ⟨rfl, rfl⟩ := c3
   go_enter Try.func25, Try.ntmps25
   go_wp2_with (first
    | (go_at_call_of 11 (Value.slice A0 l0.length c0); refine (tree_Check.calls k A0 c0 l0 0 e2 _ HR0.out hc0 HE.out).mono ?_; rintro e w2 ⟨rfl, hb⟩; have HB2 := Aside0.mk hb; clear hb)
    | (go_at_call_of 11 (Value.slice A1 l1.length c1); refine (tree_Check.calls k A1 c1 l1 0 g2 _ (Kd.C_below HR1.out HB2.out) hc1 HG.out).mono ?_; rintro e w3 ⟨rfl, hb⟩; have HB3 := Aside0.mk (below_step HB2.out hb); clear hb))
   have HT3 := Aside0.mk (Three.nil w3 w.heap.size)
   go_loopw [0, 1, 4, 5, 6] (fun v0 v1 v4 v5 v6 wr => ∃ (kk na nb ca cb : Nat) (A B : Option Addr) (a b : List (S31)) (x y z : List ByteArray), v0 = .slice A na ca ∧ v1 = .slice B nb cb ∧ na ≤ ca ∧ nb ≤ cb ∧ na ≤ l0.length ∧ nb ≤ l1.length ∧ Aside0 (Kd.C k31 w A na a) ∧ Aside0 (Kd.C k31 w B nb b) ∧ Aside0 (tree_Diff.l0 kk a b x y z = some (r1, r2, r3)) ∧ Aside0 (Three wr w.heap.size v4 v5 v6 x y z) ∧ Aside0 (Below w.heap.size w wr)) (fun v0 v1 _ _ _ _ => lenOf v0 + lenOf v1)
   case atStart => exact ⟨k, l0.length, l1.length, c0, c1, A0, A1, l0, l1, [], [], [], rfl, rfl, hc0, hc1, Nat.le_refl _, Nat.le_refl _, HR0, HR1, HL, HT3, HB3⟩
   case round =>
    clear HT3 HL
    obtain ⟨kk, na, nb, ca, cb, A, B, a, b, x, y, z, rfl, rfl, hca, hcb, hna, hnb, HA, HB, HI, HT, HW⟩ := hrel
    have hlen0 : na < 1152921504606846976 := by have := HLEN.out; omega
    have hlen1 : nb < 1152921504606846976 := by have := HLEN.out; omega
    cases kk with
    | zero => cases HI.out
    | succ kk =>
     have h2 := HI.out
     unfold tree_Diff.l0 at h2
     by_cases c2 : x.length < 8796093022208 ∧ y.length < 8796093022208 ∧ z.length < 8796093022208
     ·rw [if_pos c2] at h2
      have LM := Aside0.mk c2
      clear HI c2
      have hla := Kd.C_len HA.out
      have hlb := Kd.C_len HB.out
      rw [hla, hlb] at h2
      clear hla hlb
      by_cases ca0 : na = 0
      ·rw [if_pos ca0] at h2
       by_cases cb0 : nb = 0
       ·rw [if_pos cb0] at h2
        obtain ⟨rfl, rfl, rfl⟩ : x = r1 ∧ y = r2 ∧ z = r3 := by simpa using h2
        clear h2
        subst ca0 cb0
        go_wp2
        refine bodyPost_ret (v := .tuple #[u4, u5, u6]) (by simp [results, Try.results25, go_sem]) rfl ⟨u4, u5, u6, rfl, HT.out.tell.1, HT.out.tell.2.1, HT.out.tell.2.2, HW.out⟩
       ·rw [if_neg cb0] at h2
        have H2 := Aside0.mk h2
        clear h2
        have hpb : 0 < nb := Nat.pos_of_ne_zero cb0
        subst ca0
        have HTW := HT
        have HWW := HW
        obtain ⟨adB, AB_, cB_, e, hy0, hy1, hy2, hy3, hy4, hl, hi⟩ := at_T31 (Kd.C_below HB.out HW.out) 0 (by omega) (by omega)
        cases e
        simp only [show (0 : Int).toNat = 0 from rfl, Nat.zero_mul, Addr.add_zero'] at hy0 hy1 hy2 hy3 hy4
        have HLB := Aside0.mk hl
        have HIB := Aside0.mk hi
        clear hl hi
        have hcutB := (tail_of HB.out hpb hcb).1
        have HCB := Aside0.mk (tail_of HB.out hpb hcb).2
        clear cb0
        go_wp2_with ((with_reducible refine gate_builtin (b := .append) (xs := #[.tmp 54, .tmp 59]) rfl ?_); at_builtin; refine Kd.R_append Kd.string (w0 := w) w.heap.size rfl (.tmp 54) (.tmp 59) 44 9 (.string ⟨#[]⟩) 16 rfl Try.underlying44 info9 rfl (by decide) (by omega) u4 x (rd_T31 b 0).f0 [.string (rd_T31 b 0).f0] (fun _ => True) (fun _ => False) rfl rfl ?aP (fun _ hk => hk.elim) ?aF ?aO ?aB ?aS ?aL ?_; (case aP => exact rfl); (case aF => exact (fun _ _ => trivial)); (case aO => exact HTW.out.1); (case aB => exact HWW.out); (case aS => exact (below_size HWW.out)); (case aL => have := LM.out.1; omega); intro va wa ho hb hg hat; have HT3 := Aside0.mk (Three.app4 HTW.out ho hg hat); have HW3 := Aside0.mk hb; clear ho hg hat hb)
        go_roundw
        case rel => exact ⟨kk, 0, nb - 1, ca, cb - 1, A, (if cb = 1 then some adB else (some adB : Option Addr).map (·.add (1 * 5))), a, b.drop 1, _, _, _, rfl, rfl, by omega, by omega, by omega, by omega, HA, HCB, H2, HT3, HW3⟩
        case measure => simp [lenOf]; omega
      ·rw [if_neg ca0] at h2
       by_cases cb0 : nb = 0
       ·rw [if_pos cb0] at h2
        have H2 := Aside0.mk h2
        clear h2
        have hpa : 0 < na := Nat.pos_of_ne_zero ca0
        have da : ((na : Int) == 0) = false := beq_eq_false_iff_ne.mpr (by omega)
        have da1 : (na == 0) = false := beq_eq_false_iff_ne.mpr (by omega)
        subst cb0
        have HTW := HT
        have HWW := HW
        obtain ⟨adA, AA_, cA_, e, hx0, hx1, hx2, hx3, hx4, hl, hi⟩ := at_T31 (Kd.C_below HA.out HW.out) 0 (by omega) (by omega)
        cases e
        simp only [show (0 : Int).toNat = 0 from rfl, Nat.zero_mul, Addr.add_zero'] at hx0 hx1 hx2 hx3 hx4
        have HLA := Aside0.mk hl
        have HIA := Aside0.mk hi
        clear hl hi
        have hcutA := (tail_of HA.out hpa hca).1
        have HCA := Aside0.mk (tail_of HA.out hpa hca).2
        clear ca0
        go_wp2_with ((with_reducible refine gate_builtin (b := .append) (xs := #[.tmp 64, .tmp 69]) rfl ?_); at_builtin; refine Kd.R_append Kd.string (w0 := w) w.heap.size rfl (.tmp 64) (.tmp 69) 44 9 (.string ⟨#[]⟩) 16 rfl Try.underlying44 info9 rfl (by decide) (by omega) u5 y (rd_T31 a 0).f0 [.string (rd_T31 a 0).f0] (fun _ => True) (fun _ => False) rfl rfl ?aP (fun _ hk => hk.elim) ?aF ?aO ?aB ?aS ?aL ?_; (case aP => exact rfl); (case aF => exact (fun _ _ => trivial)); (case aO => exact HTW.out.2.1); (case aB => exact HWW.out); (case aS => exact (below_size HWW.out)); (case aL => have := LM.out.2.1; omega); intro va wa ho hb hg hat; have HT3 := Aside0.mk (Three.app5 HTW.out ho hg hat); have HW3 := Aside0.mk hb; clear ho hg hat hb)
        go_roundw
        case rel => exact ⟨kk, na - 1, 0, ca - 1, cb, (if ca = 1 then some adA else (some adA : Option Addr).map (·.add (1 * 5))), B, a.drop 1, b, _, _, _, rfl, rfl, by omega, by omega, by omega, by omega, HCA, HB, H2, HT3, HW3⟩
        case measure => simp [lenOf]; omega
       ·rw [if_neg cb0] at h2
        have hpa : 0 < na := Nat.pos_of_ne_zero ca0
        have hpb : 0 < nb := Nat.pos_of_ne_zero cb0
        have da : ((na : Int) == 0) = false := beq_eq_false_iff_ne.mpr (by omega)
        have da1 : (na == 0) = false := beq_eq_false_iff_ne.mpr (by omega)
        have db : ((nb : Int) == 0) = false := beq_eq_false_iff_ne.mpr (by omega)
        have db1 : (nb == 0) = false := beq_eq_false_iff_ne.mpr (by omega)
        clear ca0 cb0
        obtain ⟨q, hq, h3⟩ := Option.bind_eq_some_iff.mp h2
        clear h2
        have HQ := Aside0.mk hq
        clear hq
        obtain ⟨adA, AA_, cA_, e, hx0, hx1, hx2, hx3, hx4, hl, hi⟩ := at_T31 (Kd.C_below HA.out HW.out) 0 (by omega) (by omega)
        cases e
        simp only [show (0 : Int).toNat = 0 from rfl, Nat.zero_mul, Addr.add_zero'] at hx0 hx1 hx2 hx3 hx4
        have HLA := Aside0.mk hl
        have HIA := Aside0.mk hi
        clear hl hi
        obtain ⟨adB, AB_, cB_, e, hy0, hy1, hy2, hy3, hy4, hl, hi⟩ := at_T31 (Kd.C_below HB.out HW.out) 0 (by omega) (by omega)
        cases e
        simp only [show (0 : Int).toNat = 0 from rfl, Nat.zero_mul, Addr.add_zero'] at hy0 hy1 hy2 hy3 hy4
        have HLB := Aside0.mk hl
        have HIB := Aside0.mk hi
        clear hl hi
        have hcutA := (tail_of HA.out hpa hca).1
        have HCA := Aside0.mk (tail_of HA.out hpa hca).2
        have hcutB := (tail_of HB.out hpb hcb).1
        have HCB := Aside0.mk (tail_of HB.out hpb hcb).2
        have Khx0 := Aside0.mk hx0
        have Khx1 := Aside0.mk hx1
        have Khx2 := Aside0.mk hx2
        have Khx3 := Aside0.mk hx3
        have Khx4 := Aside0.mk hx4
        have Khy0 := Aside0.mk hy0
        have Khy1 := Aside0.mk hy1
        have Khy2 := Aside0.mk hy2
        have Khy3 := Aside0.mk hy3
        have Khy4 := Aside0.mk hy4
        by_cases cq : 0 < q
        ·rw [if_pos cq] at h3
         have H2 := Aside0.mk h3
         have dq : decide (q ≤ 0) = false := decide_eq_false (by omega)
         have dq2 : decide (0 ≤ q) = true := decide_eq_true (by omega)
         clear h3
         go_upto_region 7 with (fail)
         refine wp_region_still_tail 8 (by kernel_rfl) (by kernel_rfl) ?_
         change wpStill _ _ (World.drew wr) (fun a' => wpList _ _ _ _ a' (World.drew wr)) _ _
         have HBw : Aside0 (Below wr.heap.size wr (World.drew wr)) := ⟨below_drew (Below.refl _ _)⟩
         generalize World.drew wr = wq at HBw ⊢
         replace hx0 := (HBw.out.cell (World.block_lt_of_cell? wr _ hx0)).trans hx0
         replace hx1 := (HBw.out.cell (World.block_lt_of_cell? wr _ hx1)).trans hx1
         replace hx2 := (HBw.out.cell (World.block_lt_of_cell? wr _ hx2)).trans hx2
         replace hx3 := (HBw.out.cell (World.block_lt_of_cell? wr _ hx3)).trans hx3
         replace hx4 := (HBw.out.cell (World.block_lt_of_cell? wr _ hx4)).trans hx4
         replace hy0 := (HBw.out.cell (World.block_lt_of_cell? wr _ hy0)).trans hy0
         replace hy1 := (HBw.out.cell (World.block_lt_of_cell? wr _ hy1)).trans hy1
         replace hy2 := (HBw.out.cell (World.block_lt_of_cell? wr _ hy2)).trans hy2
         replace hy3 := (HBw.out.cell (World.block_lt_of_cell? wr _ hy3)).trans hy3
         replace hy4 := (HBw.out.cell (World.block_lt_of_cell? wr _ hy4)).trans hy4
         simp only [List.take_succ_cons, List.take_zero, List.drop_succ_cons, List.drop_zero]
         repeat still_step
         try refine wpStill_nil ?_
         clear hx1 hx2 hx3 hx4 hy1 hy2 hy3 hy4
         go_wp2_with (first | (go_at_call 17; refine (path_Compare.calls kk (rd_T31 a 0).f0 (rd_T31 b 0).f0 q _ HQ.out).mono ?_; rintro e w2 ⟨rfl, hb⟩; have HB2 := Aside0.mk (below_step HBw.out hb); have HTW := Aside0.mk (HT.out.below HB2.out); have HWW := Aside0.mk (below_step HW.out HB2.out); clear hb; have hx0b := (HB2.out.cell (World.block_lt_of_cell? wr _ Khx0.out)).trans Khx0.out; have hx1b := (HB2.out.cell (World.block_lt_of_cell? wr _ Khx1.out)).trans Khx1.out; have hx2b := (HB2.out.cell (World.block_lt_of_cell? wr _ Khx2.out)).trans Khx2.out; have hx3b := (HB2.out.cell (World.block_lt_of_cell? wr _ Khx3.out)).trans Khx3.out; have hx4b := (HB2.out.cell (World.block_lt_of_cell? wr _ Khx4.out)).trans Khx4.out; have hy0b := (HB2.out.cell (World.block_lt_of_cell? wr _ Khy0.out)).trans Khy0.out; have hy1b := (HB2.out.cell (World.block_lt_of_cell? wr _ Khy1.out)).trans Khy1.out; have hy2b := (HB2.out.cell (World.block_lt_of_cell? wr _ Khy2.out)).trans Khy2.out; have hy3b := (HB2.out.cell (World.block_lt_of_cell? wr _ Khy3.out)).trans Khy3.out; have hy4b := (HB2.out.cell (World.block_lt_of_cell? wr _ Khy4.out)).trans Khy4.out) | ((with_reducible refine gate_builtin (b := .append) (xs := #[.tmp 54, .tmp 59]) rfl ?_); at_builtin; refine Kd.R_append Kd.string (w0 := w) w.heap.size rfl (.tmp 54) (.tmp 59) 44 9 (.string ⟨#[]⟩) 16 rfl Try.underlying44 info9 rfl (by decide) (by omega) u4 x (rd_T31 b 0).f0 [.string (rd_T31 b 0).f0] (fun _ => True) (fun _ => False) rfl rfl ?aP (fun _ hk => hk.elim) ?aF ?aO ?aB ?aS ?aL ?_; (case aP => exact rfl); (case aF => exact (fun _ _ => trivial)); (case aO => exact HTW.out.1); (case aB => exact HWW.out); (case aS => exact (below_size HWW.out)); (case aL => have := LM.out.1; omega); intro va wa ho hb hg hat; have HT3 := Aside0.mk (Three.app4 HTW.out ho hg hat); have HW3 := Aside0.mk hb; clear ho hg hat hb))
         go_roundw
         case rel => exact ⟨kk, na, nb - 1, ca, cb - 1, _, (if cb = 1 then some adB else (some adB : Option Addr).map (·.add (1 * 5))), a, b.drop 1, _, _, _, rfl, rfl, by omega, by omega, by omega, by omega, HA, HCB, H2, HT3, HW3⟩
         case measure => simp [lenOf]; omega
        ·rw [if_neg cq] at h3
         by_cases cq2 : q < 0
         ·rw [if_pos cq2] at h3
          have H2 := Aside0.mk h3
          have dq : decide (q ≤ 0) = true := decide_eq_true (by omega)
          have dq2 : decide (0 ≤ q) = false := decide_eq_false (by omega)
          clear h3
          go_upto_region 7 with (fail)
          refine wp_region_still_tail 8 (by kernel_rfl) (by kernel_rfl) ?_
          change wpStill _ _ (World.drew wr) (fun a' => wpList _ _ _ _ a' (World.drew wr)) _ _
          have HBw : Aside0 (Below wr.heap.size wr (World.drew wr)) := ⟨below_drew (Below.refl _ _)⟩
          generalize World.drew wr = wq at HBw ⊢
          replace hx0 := (HBw.out.cell (World.block_lt_of_cell? wr _ hx0)).trans hx0
          replace hx1 := (HBw.out.cell (World.block_lt_of_cell? wr _ hx1)).trans hx1
          replace hx2 := (HBw.out.cell (World.block_lt_of_cell? wr _ hx2)).trans hx2
          replace hx3 := (HBw.out.cell (World.block_lt_of_cell? wr _ hx3)).trans hx3
          replace hx4 := (HBw.out.cell (World.block_lt_of_cell? wr _ hx4)).trans hx4
          replace hy0 := (HBw.out.cell (World.block_lt_of_cell? wr _ hy0)).trans hy0
          replace hy1 := (HBw.out.cell (World.block_lt_of_cell? wr _ hy1)).trans hy1
          replace hy2 := (HBw.out.cell (World.block_lt_of_cell? wr _ hy2)).trans hy2
          replace hy3 := (HBw.out.cell (World.block_lt_of_cell? wr _ hy3)).trans hy3
          replace hy4 := (HBw.out.cell (World.block_lt_of_cell? wr _ hy4)).trans hy4
          simp only [List.take_succ_cons, List.take_zero, List.drop_succ_cons, List.drop_zero]
          repeat still_step
          try refine wpStill_nil ?_
          clear hx1 hx2 hx3 hx4 hy1 hy2 hy3 hy4
          go_wp2_with (first | (go_at_call 17; refine (path_Compare.calls kk (rd_T31 a 0).f0 (rd_T31 b 0).f0 q _ HQ.out).mono ?_; rintro e w2 ⟨rfl, hb⟩; have HB2 := Aside0.mk (below_step HBw.out hb); have HTW := Aside0.mk (HT.out.below HB2.out); have HWW := Aside0.mk (below_step HW.out HB2.out); clear hb; have hx0b := (HB2.out.cell (World.block_lt_of_cell? wr _ Khx0.out)).trans Khx0.out; have hx1b := (HB2.out.cell (World.block_lt_of_cell? wr _ Khx1.out)).trans Khx1.out; have hx2b := (HB2.out.cell (World.block_lt_of_cell? wr _ Khx2.out)).trans Khx2.out; have hx3b := (HB2.out.cell (World.block_lt_of_cell? wr _ Khx3.out)).trans Khx3.out; have hx4b := (HB2.out.cell (World.block_lt_of_cell? wr _ Khx4.out)).trans Khx4.out; have hy0b := (HB2.out.cell (World.block_lt_of_cell? wr _ Khy0.out)).trans Khy0.out; have hy1b := (HB2.out.cell (World.block_lt_of_cell? wr _ Khy1.out)).trans Khy1.out; have hy2b := (HB2.out.cell (World.block_lt_of_cell? wr _ Khy2.out)).trans Khy2.out; have hy3b := (HB2.out.cell (World.block_lt_of_cell? wr _ Khy3.out)).trans Khy3.out; have hy4b := (HB2.out.cell (World.block_lt_of_cell? wr _ Khy4.out)).trans Khy4.out) | ((with_reducible refine gate_builtin (b := .append) (xs := #[.tmp 64, .tmp 69]) rfl ?_); at_builtin; refine Kd.R_append Kd.string (w0 := w) w.heap.size rfl (.tmp 64) (.tmp 69) 44 9 (.string ⟨#[]⟩) 16 rfl Try.underlying44 info9 rfl (by decide) (by omega) u5 y (rd_T31 a 0).f0 [.string (rd_T31 a 0).f0] (fun _ => True) (fun _ => False) rfl rfl ?aP (fun _ hk => hk.elim) ?aF ?aO ?aB ?aS ?aL ?_; (case aP => exact rfl); (case aF => exact (fun _ _ => trivial)); (case aO => exact HTW.out.2.1); (case aB => exact HWW.out); (case aS => exact (below_size HWW.out)); (case aL => have := LM.out.2.1; omega); intro va wa ho hb hg hat; have HT3 := Aside0.mk (Three.app5 HTW.out ho hg hat); have HW3 := Aside0.mk hb; clear ho hg hat hb))
          go_roundw
          case rel => exact ⟨kk, na - 1, nb, ca - 1, cb, (if ca = 1 then some adA else (some adA : Option Addr).map (·.add (1 * 5))), _, a.drop 1, b, _, _, _, rfl, rfl, by omega, by omega, by omega, by omega, HCA, HB, H2, HT3, HW3⟩
          case measure => simp [lenOf]; omega
         ·rw [if_neg cq2] at h3
          obtain rfl : q = 0 := by omega
          obtain ⟨t, ht, h4⟩ := Option.bind_eq_some_iff.mp h3
          clear h3 cq cq2
          have HAL := Aside0.mk (show tree_alike.f (rd_T31 a 0).f0 (rd_T31 a 0).f1 (rd_T31 a 0).f2 (rd_T31 a 0).f3 (rd_T31 a 0).f4 (rd_T31 b 0).f0 (rd_T31 b 0).f1 (rd_T31 b 0).f2 (rd_T31 b 0).f3 (rd_T31 b 0).f4 = some t from ht)
          have H2 := Aside0.mk h4
          clear ht h4
          go_upto_region 7 with (fail)
          refine wp_region_still_tail 8 (by kernel_rfl) (by kernel_rfl) ?_
          change wpStill _ _ (World.drew wr) (fun a' => wpList _ _ _ _ a' (World.drew wr)) _ _
          have HBw : Aside0 (Below wr.heap.size wr (World.drew wr)) := ⟨below_drew (Below.refl _ _)⟩
          generalize World.drew wr = wq at HBw ⊢
          replace hx0 := (HBw.out.cell (World.block_lt_of_cell? wr _ hx0)).trans hx0
          replace hx1 := (HBw.out.cell (World.block_lt_of_cell? wr _ hx1)).trans hx1
          replace hx2 := (HBw.out.cell (World.block_lt_of_cell? wr _ hx2)).trans hx2
          replace hx3 := (HBw.out.cell (World.block_lt_of_cell? wr _ hx3)).trans hx3
          replace hx4 := (HBw.out.cell (World.block_lt_of_cell? wr _ hx4)).trans hx4
          replace hy0 := (HBw.out.cell (World.block_lt_of_cell? wr _ hy0)).trans hy0
          replace hy1 := (HBw.out.cell (World.block_lt_of_cell? wr _ hy1)).trans hy1
          replace hy2 := (HBw.out.cell (World.block_lt_of_cell? wr _ hy2)).trans hy2
          replace hy3 := (HBw.out.cell (World.block_lt_of_cell? wr _ hy3)).trans hy3
          replace hy4 := (HBw.out.cell (World.block_lt_of_cell? wr _ hy4)).trans hy4
          simp only [List.take_succ_cons, List.take_zero, List.drop_succ_cons, List.drop_zero]
          repeat still_step
          try refine wpStill_nil ?_
          clear hx1 hx2 hx3 hx4 hy1 hy2 hy3 hy4
          go_upto_region 16 with ((go_at_call 17; refine (path_Compare.calls kk (rd_T31 a 0).f0 (rd_T31 b 0).f0 0 _ HQ.out).mono ?_; rintro e w2 ⟨rfl, hb⟩; have HB2 := Aside0.mk (below_step HBw.out hb); have HTW := Aside0.mk (HT.out.below HB2.out); have HWW := Aside0.mk (below_step HW.out HB2.out); clear hb; have hx0b := (HB2.out.cell (World.block_lt_of_cell? wr _ Khx0.out)).trans Khx0.out; have hx1b := (HB2.out.cell (World.block_lt_of_cell? wr _ Khx1.out)).trans Khx1.out; have hx2b := (HB2.out.cell (World.block_lt_of_cell? wr _ Khx2.out)).trans Khx2.out; have hx3b := (HB2.out.cell (World.block_lt_of_cell? wr _ Khx3.out)).trans Khx3.out; have hx4b := (HB2.out.cell (World.block_lt_of_cell? wr _ Khx4.out)).trans Khx4.out; have hy0b := (HB2.out.cell (World.block_lt_of_cell? wr _ Khy0.out)).trans Khy0.out; have hy1b := (HB2.out.cell (World.block_lt_of_cell? wr _ Khy1.out)).trans Khy1.out; have hy2b := (HB2.out.cell (World.block_lt_of_cell? wr _ Khy2.out)).trans Khy2.out; have hy3b := (HB2.out.cell (World.block_lt_of_cell? wr _ Khy3.out)).trans Khy3.out; have hy4b := (HB2.out.cell (World.block_lt_of_cell? wr _ Khy4.out)).trans Khy4.out))
          cases t with
          | true =>
           refine wp_region_still_tail 6 (by kernel_rfl) (by kernel_rfl) ?_
           change wpStill _ _ (World.drew w2) (fun a' => wpList _ _ _ _ a' (World.drew w2)) _ _
           have HBu : Aside0 (Below w2.heap.size w2 (World.drew w2)) := ⟨below_drew (Below.refl _ _)⟩
           generalize World.drew w2 = wu at HBu ⊢
           replace hx0b := (HBu.out.cell (World.block_lt_of_cell? w2 _ hx0b)).trans hx0b
           replace hx1b := (HBu.out.cell (World.block_lt_of_cell? w2 _ hx1b)).trans hx1b
           replace hx2b := (HBu.out.cell (World.block_lt_of_cell? w2 _ hx2b)).trans hx2b
           replace hx3b := (HBu.out.cell (World.block_lt_of_cell? w2 _ hx3b)).trans hx3b
           replace hx4b := (HBu.out.cell (World.block_lt_of_cell? w2 _ hx4b)).trans hx4b
           replace hy0b := (HBu.out.cell (World.block_lt_of_cell? w2 _ hy0b)).trans hy0b
           replace hy1b := (HBu.out.cell (World.block_lt_of_cell? w2 _ hy1b)).trans hy1b
           replace hy2b := (HBu.out.cell (World.block_lt_of_cell? w2 _ hy2b)).trans hy2b
           replace hy3b := (HBu.out.cell (World.block_lt_of_cell? w2 _ hy3b)).trans hy3b
           replace hy4b := (HBu.out.cell (World.block_lt_of_cell? w2 _ hy4b)).trans hy4b
           simp only [List.take_succ_cons, List.take_zero, List.drop_succ_cons, List.drop_zero]
           repeat still_step
           try refine wpStill_nil ?_
           have HBv := Aside0.mk (below_step HB2.out HBu.out)
           go_wp2_with (go_at_call 53; refine (tree_alike.calls (rd_T31 a 0).f0 (rd_T31 a 0).f1 (rd_T31 a 0).f2 _ _ (rd_T31 a 0).f3 (rd_T31 a 0).f4 (rd_T31 b 0).f0 (rd_T31 b 0).f1 (rd_T31 b 0).f2 _ _ (rd_T31 b 0).f3 (rd_T31 b 0).f4 true _ (Kd.C_below HIA.out HBv.out) HLA.out (Kd.C_below HIB.out HBv.out) HLB.out HAL.out).mono ?_; rintro e w4 ⟨rfl, hb⟩; have HB4 := Aside0.mk (below_step HBv.out hb); clear hb; have HT3 := Aside0.mk (HT.out.below HB4.out); have HW3 := Aside0.mk (below_step HW.out HB4.out))
           go_roundw
           case rel => exact ⟨kk, na - 1, nb - 1, ca - 1, cb - 1, (if ca = 1 then some adA else (some adA : Option Addr).map (·.add (1 * 5))), (if cb = 1 then some adB else (some adB : Option Addr).map (·.add (1 * 5))), a.drop 1, b.drop 1, _, _, z, rfl, rfl, by omega, by omega, by omega, by omega, HCA, HCB, H2, HT3, HW3⟩
           case measure => simp [lenOf]; omega
          | false =>
           refine wp_region_still_tail 6 (by kernel_rfl) (by kernel_rfl) ?_
           change wpStill _ _ (World.drew w2) (fun a' => wpList _ _ _ _ a' (World.drew w2)) _ _
           have HBu : Aside0 (Below w2.heap.size w2 (World.drew w2)) := ⟨below_drew (Below.refl _ _)⟩
           generalize World.drew w2 = wu at HBu ⊢
           replace hx0b := (HBu.out.cell (World.block_lt_of_cell? w2 _ hx0b)).trans hx0b
           replace hx1b := (HBu.out.cell (World.block_lt_of_cell? w2 _ hx1b)).trans hx1b
           replace hx2b := (HBu.out.cell (World.block_lt_of_cell? w2 _ hx2b)).trans hx2b
           replace hx3b := (HBu.out.cell (World.block_lt_of_cell? w2 _ hx3b)).trans hx3b
           replace hx4b := (HBu.out.cell (World.block_lt_of_cell? w2 _ hx4b)).trans hx4b
           replace hy0b := (HBu.out.cell (World.block_lt_of_cell? w2 _ hy0b)).trans hy0b
           replace hy1b := (HBu.out.cell (World.block_lt_of_cell? w2 _ hy1b)).trans hy1b
           replace hy2b := (HBu.out.cell (World.block_lt_of_cell? w2 _ hy2b)).trans hy2b
           replace hy3b := (HBu.out.cell (World.block_lt_of_cell? w2 _ hy3b)).trans hy3b
           replace hy4b := (HBu.out.cell (World.block_lt_of_cell? w2 _ hy4b)).trans hy4b
           simp only [List.take_succ_cons, List.take_zero, List.drop_succ_cons, List.drop_zero]
           repeat still_step
           try refine wpStill_nil ?_
           have HBv := Aside0.mk (below_step HB2.out HBu.out)
           go_wp2_with (first | (go_at_call 53; refine (tree_alike.calls (rd_T31 a 0).f0 (rd_T31 a 0).f1 (rd_T31 a 0).f2 _ _ (rd_T31 a 0).f3 (rd_T31 a 0).f4 (rd_T31 b 0).f0 (rd_T31 b 0).f1 (rd_T31 b 0).f2 _ _ (rd_T31 b 0).f3 (rd_T31 b 0).f4 false _ (Kd.C_below HIA.out HBv.out) HLA.out (Kd.C_below HIB.out HBv.out) HLB.out HAL.out).mono ?_; rintro e w4 ⟨rfl, hb⟩; have HB4 := Aside0.mk (below_step HBv.out hb); clear hb; have HTV := Aside0.mk (HT.out.below HB4.out); have HWV := Aside0.mk (below_step HW.out HB4.out); have hw0 := (HB4.out.cell (World.block_lt_of_cell? wr _ Khx0.out)).trans Khx0.out) | ((with_reducible refine gate_builtin (b := .append) (xs := #[.tmp 80, .tmp 85]) rfl ?_); at_builtin; refine Kd.R_append Kd.string (w0 := w) w.heap.size rfl (.tmp 80) (.tmp 85) 44 9 (.string ⟨#[]⟩) 16 rfl Try.underlying44 info9 rfl (by decide) (by omega) u6 z (rd_T31 a 0).f0 [.string (rd_T31 a 0).f0] (fun _ => True) (fun _ => False) rfl rfl ?aP (fun _ hk => hk.elim) ?aF ?aO ?aB ?aS ?aL ?_; (case aP => exact rfl); (case aF => exact (fun _ _ => trivial)); (case aO => exact HTV.out.2.2.1); (case aB => exact HWV.out); (case aS => exact (below_size HWV.out)); (case aL => have := LM.out.2.2; omega); intro va wa ho hb hg hat; have HT3 := Aside0.mk (Three.app6 HTV.out ho hg hat); have HW3 := Aside0.mk hb; clear ho hg hat hb))
           go_roundw
           case rel => exact ⟨kk, na - 1, nb - 1, ca - 1, cb - 1, (if ca = 1 then some adA else (some adA : Option Addr).map (·.add (1 * 5))), (if cb = 1 then some adB else (some adB : Option Addr).map (·.add (1 * 5))), a.drop 1, b.drop 1, _, _, _, rfl, rfl, by omega, by omega, by omega, by omega, HCA, HCB, H2, HT3, HW3⟩
           case measure => simp [lenOf]; omega
     ·rw [if_neg c2] at h2
      cases h2
  ·rw [if_neg c3] at h
   simp only [Option.some.injEq, Prod.mk.injEq] at h
   obtain ⟨rfl, rfl, rfl⟩ := h
   by_cases c4 : e1 = 0
   ·have c5 : g1 ≠ 0 := fun e => c3 ⟨c4, e⟩
    have d4 : (e1 != 0) = false := bne_eq_false_iff_eq.mpr c4
    have d5 : (g1 != 0) = true := bne_iff_ne.mpr c5
    clear c3 c4 c5
    go_enter Try.func25, Try.ntmps25
    go_wp2_with (first
    | (go_at_call_of 11 (Value.slice A0 l0.length c0); refine (tree_Check.calls k A0 c0 l0 e1 e2 _ HR0.out hc0 HE.out).mono ?_; rintro e w2 ⟨rfl, hb⟩; have HB2 := Aside0.mk hb; clear hb)
    | (go_at_call_of 11 (Value.slice A1 l1.length c1); refine (tree_Check.calls k A1 c1 l1 g1 g2 _ (Kd.C_below HR1.out HB2.out) hc1 HG.out).mono ?_; rintro e w3 ⟨rfl, hb⟩; have HB3 := Aside0.mk (below_step HB2.out hb); clear hb))
    refine bodyPost_ret (v := .tuple #[.slice none 0 0, .slice none 0 0, .slice none 0 0]) (by simp [results, Try.results25, go_sem]) rfl ⟨_, _, _, rfl, (Three.nil w3 w.heap.size).tell.1, (Three.nil w3 w.heap.size).tell.2.1, (Three.nil w3 w.heap.size).tell.2.2, HB3.out⟩
   ·have d4 : (e1 != 0) = true := bne_iff_ne.mpr c4
    clear c3 c4
    go_enter Try.func25, Try.ntmps25
    go_wp2_with (first
    | (go_at_call_of 11 (Value.slice A0 l0.length c0); refine (tree_Check.calls k A0 c0 l0 e1 e2 _ HR0.out hc0 HE.out).mono ?_; rintro e w2 ⟨rfl, hb⟩; have HB2 := Aside0.mk hb; clear hb)
    | (go_at_call_of 11 (Value.slice A1 l1.length c1); refine (tree_Check.calls k A1 c1 l1 g1 g2 _ (Kd.C_below HR1.out HB2.out) hc1 HG.out).mono ?_; rintro e w3 ⟨rfl, hb⟩; have HB3 := Aside0.mk (below_step HB2.out hb); clear hb))
    refine bodyPost_ret (v := .tuple #[.slice none 0 0, .slice none 0 0, .slice none 0 0]) (by simp [results, Try.results25, go_sem]) rfl ⟨_, _, _, rfl, (Three.nil w3 w.heap.size).tell.1, (Three.nil w3 w.heap.size).tell.2.1, (Three.nil w3 w.heap.size).tell.2.2, HB3.out⟩
 ·rw [if_neg c00] at h
  cases h

end Go.Proofs.Ytopkmchkfcjjmaa.X
end

/-! ## Satchelref08Same -/
section
namespace Go.Proofs.Ytopkmchkfcjjmaa.X
open Go.RowKit Go.Proofs.YtopkmchkfcjjmaaW.PrintWords Go.Proofs.YtopkmchkfcjjmaaW.PrintLast Go.Proofs.YtopkmchkfcjjmaaW.PrintMore
attribute [local go_sem] max2_int min2_int max_two min_two max_three min_three max_four min_four   -- for this text's walks alone
set_option linter.unusedVariables false
set_option linter.unusedSimpArgs false

attribute [local go_sem] str_gtr fld_fault0 fld_fault1
/-! ### satchelref08_Same: function 29 -/
def satchelref08_Same.l0 : Nat → List (S31) → List (S31) → Int → Option (Bool)
 | 0, _, _, _ => none
 | k + 1, x0, x1, x5 => if x5 < (x0.length : Int) then (if 0 ≤ x5 then (if x5 < (x1.length : Int) then ((satchelref08_Like.f ((rd_T31 x0 x5).f0) ((rd_T31 x0 x5).f1) ((rd_T31 x0 x5).f2) ((rd_T31 x0 x5).f3) ((rd_T31 x0 x5).f4) ((rd_T31 x1 x5).f0) ((rd_T31 x1 x5).f1) ((rd_T31 x1 x5).f2) ((rd_T31 x1 x5).f3) ((rd_T31 x1 x5).f4)).bind fun t375 => (if t375 = true then (satchelref08_Same.l0 k x0 x1 (wrap64 (x5 + 1))) else (some false))) else (none)) else (none)) else (some true)
def satchelref08_Same.f (k : Nat) (l0 : List (S31)) (l1 : List (S31)) : Option (Bool) := if (l0.length : Int) = (l1.length : Int) then (satchelref08_Same.l0 k l0 l1 0) else (some false)
theorem satchelref08_Same.mono_l : ∀ k, (∀ y0 y1 y2, LeO (satchelref08_Same.l0 k y0 y1 y2) (satchelref08_Same.l0 (k + 1) y0 y1 y2))
 | 0 => fun _ _ _ r h => by simp [satchelref08_Same.l0] at h
 | k + 1 => by
  have ih0 := satchelref08_Same.mono_l k
  ·intro y0 y1 y2
   unfold satchelref08_Same.l0
   repeat' first
   | (with_reducible exact ih0 _ _ _)
   | (with_reducible exact LeO.refl _)
   | (with_reducible exact LeO.none _)
   | (with_reducible refine LeO.ite ?_ ?_)
   | (with_reducible refine LeO.bind ?_ (fun _ => ?_))
   | exact ih0 _ _ _
   | exact LeO.none _
   | refine LeO.ite ?_ ?_
   | refine LeO.bind ?_ (fun _ => ?_)
theorem satchelref08_Same.mono : ∀ a0 a1 k, LeO (satchelref08_Same.f k a0 a1) (satchelref08_Same.f (k + 1) a0 a1) := by
 intro a0 a1 k
 have ih0 := satchelref08_Same.mono_l k
 unfold satchelref08_Same.f
 repeat' first
   | (with_reducible exact ih0 _ _ _)
   | (with_reducible exact LeO.refl _)
   | (with_reducible exact LeO.none _)
   | (with_reducible refine LeO.ite ?_ ?_)
   | (with_reducible refine LeO.bind ?_ (fun _ => ?_))
   | exact ih0 _ _ _
   | exact LeO.none _
   | refine LeO.ite ?_ ?_
   | refine LeO.bind ?_ (fun _ => ?_)
def satchelref08_Same.T6 : Bool × List (List Nat × List Nat) := (true, [([], []), ([], []), ([0, 1], [0, 1]), ([2], [2]), ([], []), ([], []), ([4, 5], [4, 5]), ([6], [6]), ([3, 7], [3, 7]), ([8], [8])])
def satchelref08_Same.B6 : List Nat := [0, 0, 3, 7, 0, 0, 48, 112, 255, 511]
theorem satchelref08_Same.tab6 : rtab .any (opsOf Try.f29 6) = satchelref08_Same.T6 := by kernel_rfl
theorem satchelref08_Same.bits6 : waitsOk satchelref08_Same.T6.2 satchelref08_Same.B6 = true := by kernel_rfl
set_option maxHeartbeats 8000000 in
set_option maxRecDepth 100000 in
theorem satchelref08_Same.calls (k : Nat) (A0 : Option Addr) (c0 : Nat) (l0 : List (S31)) (A1 : Option Addr) (c1 : Nat) (l1 : List (S31)) (r : Bool) (w : World) (hr0 : Kd.C k31 w A0 l0.length l0) (hc0 : l0.length ≤ c0) (hr1 : Kd.C k31 w A1 l1.length l1) (hc1 : l1.length ≤ c1) (h : satchelref08_Same.f k l0 l1 = some r) :
  Calls Try.prog 29 #[.slice A0 l0.length c0, .slice A1 l1.length c1] w fun e w' => e = .returned (.bool r) ∧ Below w.heap.size w w' := by
 have hu31 := Try.underlying31
 have HR0 := Aside0.mk hr0
 have HC0 := Aside0.mk hc0
 clear hr0 hc0
 have HR1 := Aside0.mk hr1
 have HC1 := Aside0.mk hc1
 clear hr1 hc1
 have HB := Aside0.mk (Below.refl w.heap.size w)
 have H : (if (l0.length : Int) = (l1.length : Int) then (satchelref08_Same.l0 k l0 l1 0) else (some false)) = some r := h
 clear h
 by_cases c3 : (l0.length : Int) = (l1.length : Int)
 ·rw [if_pos c3] at H
  have c3b0 : ((l0.length : Int) == (l1.length : Int)) = true := beq_iff_eq.mpr c3
  have c3b1 : ((l0.length : Int) != (l1.length : Int)) = false := bne_eq_false_iff_eq.mpr c3
  have c3b2 : (l0.length == l1.length) = true := by first | simpa using c3 | (simp at c3 ⊢; omega)
  clear c3
  have H' := Aside0.mk H
  clear H
  go_enter Try.func29, Try.ntmps29
  go_wp2
  go_loopg [5] k (fun kq v5 w' => ∃ (x5_1 : Int), v5 = .int .i64 x5_1 ∧ Aside0 (satchelref08_Same.l0 kq l0 l1 x5_1 = some r) ∧ Aside0 (kq ≤ k) ∧ Aside0 (Below w.heap.size w w'))
  case atStart => exact ⟨(0), (by first | rfl | (simp; done) | (simp [*]; done)), H', ⟨Nat.le_refl _⟩, ⟨by repeat (first | (with_reducible first | exact HB.out | apply below_alloc | apply pw_below_drewN | apply below_drew1) | exact HB.out)⟩⟩
  case round =>
   clear H'
   try clear c1
   try clear c2
   try clear p2
   try clear c3
   try clear c3b0
   try clear c3b1
   try clear c3b2
   obtain ⟨x5_1, rfl, HA, HK1, HB⟩ := hrel
   cases gk with
   | zero => exact absurd HA.out (by simp [satchelref08_Same.l0])
   | succ k1 =>
    have H := HA.out
    clear HA
    simp only [satchelref08_Same.l0] at H
    by_cases c4 : x5_1 < (l0.length : Int)
    ·rw [if_pos c4] at H
     have c4b0 : decide (x5_1 < (l0.length : Int)) = true := decide_eq_true c4
     clear c4
     by_cases c5 : 0 ≤ x5_1
     ·rw [if_pos c5] at H
      have c5b0 : decide (0 ≤ x5_1) = true := decide_eq_true c5
      clear c5
      by_cases c6 : x5_1 < (l1.length : Int)
      ·rw [if_pos c6] at H
       have c6b0 : decide (x5_1 < (l1.length : Int)) = true := decide_eq_true c6
       clear c6
       replace H := Option.bind_eq_some_iff.mp H
       obtain ⟨t375, A70, H⟩ := H
       replace H : (if t375 = true then (satchelref08_Same.l0 k1 l0 l1 (wrap64 (x5_1 + 1))) else (some false)) = some r := H
       have A7 := Aside0.mk A70
       clear A70
       by_cases c8 : t375 = true
       ·subst c8
        have H1 : (satchelref08_Same.l0 k1 l0 l1 (wrap64 (x5_1 + 1))) = some r := by rw [if_pos rfl] at H; exact H
        clear H
        have H := H1
        clear H1
        have H' := Aside0.mk H
        clear H
        try go_wp2
        have n0_ := Aside0.mk (below_drew1 HB.out)
        clear HB
        have HB := n0_
        clear n0_
        have p373 : 0 ≤ (x5_1 : Int) := of_decide_eq_true (by first | (with_reducible assumption) | assumption)
        have q373 : x5_1 < (l0.length : Int) := of_decide_eq_true (by first | (with_reducible assumption) | assumption)
        obtain ⟨ad373, A373_3, c373_3, e373, hx373_0, hx373_1, hx373_2, hx373_3, hx373_4, hl373_3, hi373_3⟩ := at_T31 HR0.out x5_1 p373 q373
        have hw373_4 := hx373_4
        have hw373_3 := hx373_3
        have hw373_2 := hx373_2
        have hw373_1 := hx373_1
        have hw373_0 := hx373_0
        cases e373
        replace hx373_0 := (HB.out.cell (World.block_lt_of_cell? w _ hx373_0)).trans hx373_0
        replace hx373_1 := (HB.out.cell (World.block_lt_of_cell? w _ hx373_1)).trans hx373_1
        replace hx373_2 := (HB.out.cell (World.block_lt_of_cell? w _ hx373_2)).trans hx373_2
        replace hx373_3 := (HB.out.cell (World.block_lt_of_cell? w _ hx373_3)).trans hx373_3
        replace hx373_4 := (HB.out.cell (World.block_lt_of_cell? w _ hx373_4)).trans hx373_4
        have HR373_3 := Aside0.mk hi373_3
        have HC373_3 := Aside0.mk hl373_3
        clear hi373_3 hl373_3
        replace p373 := eq_true p373
        replace q373 := eq_true q373
        have p374 : 0 ≤ (x5_1 : Int) := of_decide_eq_true (by first | (with_reducible assumption) | assumption)
        have q374 : x5_1 < (l1.length : Int) := of_decide_eq_true (by first | (with_reducible assumption) | assumption)
        obtain ⟨ad374, A374_3, c374_3, e374, hx374_0, hx374_1, hx374_2, hx374_3, hx374_4, hl374_3, hi374_3⟩ := at_T31 HR1.out x5_1 p374 q374
        have hw374_4 := hx374_4
        have hw374_3 := hx374_3
        have hw374_2 := hx374_2
        have hw374_1 := hx374_1
        have hw374_0 := hx374_0
        cases e374
        replace hx374_0 := (HB.out.cell (World.block_lt_of_cell? w _ hx374_0)).trans hx374_0
        replace hx374_1 := (HB.out.cell (World.block_lt_of_cell? w _ hx374_1)).trans hx374_1
        replace hx374_2 := (HB.out.cell (World.block_lt_of_cell? w _ hx374_2)).trans hx374_2
        replace hx374_3 := (HB.out.cell (World.block_lt_of_cell? w _ hx374_3)).trans hx374_3
        replace hx374_4 := (HB.out.cell (World.block_lt_of_cell? w _ hx374_4)).trans hx374_4
        have HR374_3 := Aside0.mk hi374_3
        have HC374_3 := Aside0.mk hl374_3
        clear hi374_3 hl374_3
        replace p374 := eq_true p374
        replace q374 := eq_true q374
        refine start_ (n := 10) (S := fun w' => w'.cell? (ad373.add ((x5_1).toNat * 5)) = some (.string ((rd_T31 l0 x5_1).f0)) ∧ w'.cell? ⟨(ad373.add ((x5_1).toNat * 5)).block, (ad373.add ((x5_1).toNat * 5)).off + 1, none⟩ = some (.int .i64 ((rd_T31 l0 x5_1).f1)) ∧ w'.cell? ⟨(ad373.add ((x5_1).toNat * 5)).block, (ad373.add ((x5_1).toNat * 5)).off + 2, none⟩ = some (.int .i64 ((rd_T31 l0 x5_1).f2)) ∧ w'.cell? ⟨(ad373.add ((x5_1).toNat * 5)).block, (ad373.add ((x5_1).toNat * 5)).off + 3, none⟩ = some (.slice A373_3 ((rd_T31 l0 x5_1).f3).length c373_3) ∧ w'.cell? ⟨(ad373.add ((x5_1).toNat * 5)).block, (ad373.add ((x5_1).toNat * 5)).off + 4, none⟩ = some (.string ((rd_T31 l0 x5_1).f4)) ∧ w'.cell? (ad374.add ((x5_1).toNat * 5)) = some (.string ((rd_T31 l1 x5_1).f0)) ∧ w'.cell? ⟨(ad374.add ((x5_1).toNat * 5)).block, (ad374.add ((x5_1).toNat * 5)).off + 1, none⟩ = some (.int .i64 ((rd_T31 l1 x5_1).f1)) ∧ w'.cell? ⟨(ad374.add ((x5_1).toNat * 5)).block, (ad374.add ((x5_1).toNat * 5)).off + 2, none⟩ = some (.int .i64 ((rd_T31 l1 x5_1).f2)) ∧ w'.cell? ⟨(ad374.add ((x5_1).toNat * 5)).block, (ad374.add ((x5_1).toNat * 5)).off + 3, none⟩ = some (.slice A374_3 ((rd_T31 l1 x5_1).f3).length c374_3) ∧ w'.cell? ⟨(ad374.add ((x5_1).toNat * 5)).block, (ad374.add ((x5_1).toNat * 5)).off + 4, none⟩ = some (.string ((rd_T31 l1 x5_1).f4))) (ds := []) #[false, false, false, false, false, false, false, false, false, false] (by kernel_rfl) rfl rfl ⟨((HB.out.cell (World.block_lt_of_cell? w _ hw373_0)).trans hw373_0), ((HB.out.cell (World.block_lt_of_cell? w _ hw373_1)).trans hw373_1), ((HB.out.cell (World.block_lt_of_cell? w _ hw373_2)).trans hw373_2), ((HB.out.cell (World.block_lt_of_cell? w _ hw373_3)).trans hw373_3), ((HB.out.cell (World.block_lt_of_cell? w _ hw373_4)).trans hw373_4), ((HB.out.cell (World.block_lt_of_cell? w _ hw374_0)).trans hw374_0), ((HB.out.cell (World.block_lt_of_cell? w _ hw374_1)).trans hw374_1), ((HB.out.cell (World.block_lt_of_cell? w _ hw374_2)).trans hw374_2), ((HB.out.cell (World.block_lt_of_cell? w _ hw374_3)).trans hw374_3), ((HB.out.cell (World.block_lt_of_cell? w _ hw374_4)).trans hw374_4)⟩ (fun hHeld => ?_); refine with_tabW satchelref08_Same.tab6 satchelref08_Same.bits6 (fun HT_ HW_ => ?_)
        generalize wr.drew = w9 at HB HR373_3 HR374_3 hx373_0 hx373_1 hx373_2 hx373_3 hx373_4 hx374_0 hx374_1 hx374_2 hx374_3 hx374_4 hHeld ⊢
        refine pure_ (i := 0) (N := some 17) (v := ?_) (a' := ?_) #[true, false, false, false, false, false, false, false, false, false] rfl rfl (any_of HT_.out (by kernel_rfl)) (fun _ _ _ h => h) (Or.inl ⟨by rfl, ?_⟩) ?_ ?_
        rotate_left
        ·intro w'
         go_simp
         with_reducible rfl
        rotate_left
        ·simp only [Act.put, List.setIfInBounds_toArray, List.set_cons_zero, List.set_cons_succ, i64_w, i32_w]
         rfl
        refine pure_ (i := 1) (N := some 18) (v := ?_) (a' := ?_) #[true, true, false, false, false, false, false, false, false, false] rfl rfl (any_of HT_.out (by kernel_rfl)) (fun _ _ _ h => h) (Or.inl ⟨by rfl, ?_⟩) ?_ ?_
        rotate_left
        ·intro w'
         go_simp
         with_reducible rfl
        rotate_left
        ·simp only [Act.put, List.setIfInBounds_toArray, List.set_cons_zero, List.set_cons_succ, i64_w, i32_w]
         rfl
        refine pure_ (i := 2) (N := some 19) (v := ?_) (a' := ?_) #[true, true, true, false, false, false, false, false, false, false] rfl rfl (any_of HT_.out (by kernel_rfl)) (fun _ _ _ h => h) (Or.inl ⟨by rfl, ?_⟩) ?_ ?_
        rotate_left
        ·intro w'
         go_simp
         with_reducible rfl
        rotate_left
        ·simp only [Act.put, List.setIfInBounds_toArray, List.set_cons_zero, List.set_cons_succ, i64_w, i32_w]
         rfl
        refine pure_ (i := 4) (N := some 21) (v := ?_) (a' := ?_) #[true, true, true, false, true, false, false, false, false, false] rfl rfl (any_of HT_.out (by kernel_rfl)) (fun _ _ _ h => h) (Or.inl ⟨by rfl, ?_⟩) ?_ ?_
        rotate_left
        ·intro w'
         go_simp
         with_reducible rfl
        rotate_left
        ·simp only [Act.put, List.setIfInBounds_toArray, List.set_cons_zero, List.set_cons_succ, i64_w, i32_w]
         rfl
        refine pure_ (i := 5) (N := some 22) (v := ?_) (a' := ?_) #[true, true, true, false, true, true, false, false, false, false] rfl rfl (any_of HT_.out (by kernel_rfl)) (fun _ _ _ h => h) (Or.inl ⟨by rfl, ?_⟩) ?_ ?_
        rotate_left
        ·intro w'
         go_simp
         with_reducible rfl
        rotate_left
        ·simp only [Act.put, List.setIfInBounds_toArray, List.set_cons_zero, List.set_cons_succ, i64_w, i32_w]
         rfl
        refine pure_ (i := 6) (N := some 23) (v := ?_) (a' := ?_) #[true, true, true, false, true, true, true, false, false, false] rfl rfl (any_of HT_.out (by kernel_rfl)) (fun _ _ _ h => h) (Or.inl ⟨by rfl, ?_⟩) ?_ ?_
        rotate_left
        ·intro w'
         go_simp
         with_reducible rfl
        rotate_left
        ·simp only [Act.put, List.setIfInBounds_toArray, List.set_cons_zero, List.set_cons_succ, i64_w, i32_w]
         rfl
        refine take_ (i := 3) (N := some 20) (v := ?_) (a' := ?_) #[true, true, true, true, true, true, true, false, false, false] rfl rfl (take_ofW HT_.out HW_.out (by kernel_rfl)) (fun _ _ _ h => h) (Or.inl ⟨by rfl, ?_⟩) hHeld ?_ ?_
        rotate_left
        ·rintro w' ⟨s0, s1, s2, s3, s4, s5, s6, s7, s8, s9⟩
         go_simp
         with_reducible rfl
        rotate_left
        ·simp only [Act.put, List.setIfInBounds_toArray, List.set_cons_zero, List.set_cons_succ, i64_w, i32_w]
         rfl
        refine take_ (i := 7) (N := some 24) (v := ?_) (a' := ?_) #[true, true, true, true, true, true, true, true, false, false] rfl rfl (take_ofW HT_.out HW_.out (by kernel_rfl)) (fun _ _ _ h => h) (Or.inl ⟨by rfl, ?_⟩) hHeld ?_ ?_
        rotate_left
        ·rintro w' ⟨s0, s1, s2, s3, s4, s5, s6, s7, s8, s9⟩
         go_simp
         with_reducible rfl
        rotate_left
        ·simp only [Act.put, List.setIfInBounds_toArray, List.set_cons_zero, List.set_cons_succ, i64_w, i32_w]
         rfl
        refine one_ (i := 8) (N := some 25) #[true, true, true, true, true, true, true, true, true, false] rfl rfl (one_of HT_.out (by kernel_rfl)) (by decide) (fun K hK => ?_)
        refine goes_ Try.func21 (by kernel_rfl) rfl #[.agg #[.string ((rd_T31 l0 x5_1).f0), .int .i64 ((rd_T31 l0 x5_1).f1), .int .i64 ((rd_T31 l0 x5_1).f2), .slice A373_3 ((rd_T31 l0 x5_1).f3).length c373_3, .string ((rd_T31 l0 x5_1).f4)], .agg #[.string ((rd_T31 l1 x5_1).f0), .int .i64 ((rd_T31 l1 x5_1).f1), .int .i64 ((rd_T31 l1 x5_1).f2), .slice A374_3 ((rd_T31 l1 x5_1).f3).length c374_3, .string ((rd_T31 l1 x5_1).f4)]] (by rfl) rfl rfl (by (try simp only [List.map_toArray, List.map_cons, List.map_nil]); first | done | rfl | (simp only [List.length_drop, List.length_take]; rfl)) ?_
        with_reducible refine (satchelref08_Like.calls ((rd_T31 l0 x5_1).f0) ((rd_T31 l0 x5_1).f1) ((rd_T31 l0 x5_1).f2) _ _ ((rd_T31 l0 x5_1).f3) ((rd_T31 l0 x5_1).f4) ((rd_T31 l1 x5_1).f0) ((rd_T31 l1 x5_1).f1) ((rd_T31 l1 x5_1).f2) _ _ ((rd_T31 l1 x5_1).f3) ((rd_T31 l1 x5_1).f4) true _ ?side1 ?side2 ?side3 ?side4 A7.out).mono ?_
        (case side1 => repeat (first | exact (Kd.C_below HR373_3.out HB.out) | (with_reducible refine Kd.C_alloc ?_ _) | (with_reducible refine Kd.C_drewN ?_ _) | (with_reducible refine Kd.C_drew ?_)))
        (case side2 => exact HC373_3.out)
        (case side3 => repeat (first | exact (Kd.C_below HR374_3.out HB.out) | (with_reducible refine Kd.C_alloc ?_ _) | (with_reducible refine Kd.C_drewN ?_ _) | (with_reducible refine Kd.C_drew ?_)))
        (case side4 => exact HC374_3.out)
        rintro e w10 ⟨rfl, hb⟩
        refine ⟨_, rfl, ?_⟩
        have n0_ := Aside0.mk (below_step (by repeat (first | (with_reducible first | exact HB.out | apply below_alloc | apply pw_below_drewN | apply below_drew1) | exact HB.out)) hb)
        clear HB
        have HB := n0_
        clear n0_
        (try clear hb)
        (try clear hb2)
        (try clear hk)
        (try clear hi)
        refine hK.out _ _ ⟨((HB.out.cell (World.block_lt_of_cell? w _ hw373_0)).trans hw373_0), ((HB.out.cell (World.block_lt_of_cell? w _ hw373_1)).trans hw373_1), ((HB.out.cell (World.block_lt_of_cell? w _ hw373_2)).trans hw373_2), ((HB.out.cell (World.block_lt_of_cell? w _ hw373_3)).trans hw373_3), ((HB.out.cell (World.block_lt_of_cell? w _ hw373_4)).trans hw373_4), ((HB.out.cell (World.block_lt_of_cell? w _ hw374_0)).trans hw374_0), ((HB.out.cell (World.block_lt_of_cell? w _ hw374_1)).trans hw374_1), ((HB.out.cell (World.block_lt_of_cell? w _ hw374_2)).trans hw374_2), ((HB.out.cell (World.block_lt_of_cell? w _ hw374_3)).trans hw374_3), ((HB.out.cell (World.block_lt_of_cell? w _ hw374_4)).trans hw374_4)⟩ (fun hHeld => ?_)
        clear hK K
        refine norm_ (a' := ?_) ?_ ?_
        rotate_left
        ·show Act.put _ (some 25) _ = _
         simp only [Act.put, List.setIfInBounds_toArray, List.set_cons_zero, List.set_cons_succ, i64_w, i32_w]
         rfl
        refine pure_ (i := 9) (N := some 26) (v := ?_) (a' := ?_) #[true, true, true, true, true, true, true, true, true, true] rfl rfl (any_of HT_.out (by kernel_rfl)) (fun _ _ _ h => h) (Or.inl ⟨by rfl, ?_⟩) ?_ ?_
        rotate_left
        ·intro w'
         go_simp
         with_reducible rfl
        rotate_left
        ·simp only [Act.put, List.setIfInBounds_toArray, List.set_cons_zero, List.set_cons_succ, i64_w, i32_w]
         rfl
        refine done_ (done_of HT_.out (by kernel_rfl)) ?_
        try go_wp2
        go_roundg k1
        case measure => have := HK1.out; omega
        case rel => exact ⟨(wrap64 (x5_1 + 1)), (by first | rfl | (simp; done) | (simp [*]; done)), H', ⟨by have := HK1.out; omega⟩, ⟨by repeat (first | (with_reducible first | exact HB.out | apply below_alloc | apply pw_below_drewN | apply below_drew1) | exact HB.out)⟩⟩
       ·replace c8 := Bool.eq_false_iff.mpr c8
        subst c8
        have H1 : (some false) = some r := by rw [if_neg (show ¬ (false = true) by decide)] at H; exact H
        clear H
        have H := H1
        clear H1
        obtain rfl := Option.some.inj H
        try go_wp2
        have n0_ := Aside0.mk (below_drew1 HB.out)
        clear HB
        have HB := n0_
        clear n0_
        have p373 : 0 ≤ (x5_1 : Int) := of_decide_eq_true (by first | (with_reducible assumption) | assumption)
        have q373 : x5_1 < (l0.length : Int) := of_decide_eq_true (by first | (with_reducible assumption) | assumption)
        obtain ⟨ad373, A373_3, c373_3, e373, hx373_0, hx373_1, hx373_2, hx373_3, hx373_4, hl373_3, hi373_3⟩ := at_T31 HR0.out x5_1 p373 q373
        have hw373_4 := hx373_4
        have hw373_3 := hx373_3
        have hw373_2 := hx373_2
        have hw373_1 := hx373_1
        have hw373_0 := hx373_0
        cases e373
        replace hx373_0 := (HB.out.cell (World.block_lt_of_cell? w _ hx373_0)).trans hx373_0
        replace hx373_1 := (HB.out.cell (World.block_lt_of_cell? w _ hx373_1)).trans hx373_1
        replace hx373_2 := (HB.out.cell (World.block_lt_of_cell? w _ hx373_2)).trans hx373_2
        replace hx373_3 := (HB.out.cell (World.block_lt_of_cell? w _ hx373_3)).trans hx373_3
        replace hx373_4 := (HB.out.cell (World.block_lt_of_cell? w _ hx373_4)).trans hx373_4
        have HR373_3 := Aside0.mk hi373_3
        have HC373_3 := Aside0.mk hl373_3
        clear hi373_3 hl373_3
        replace p373 := eq_true p373
        replace q373 := eq_true q373
        have p374 : 0 ≤ (x5_1 : Int) := of_decide_eq_true (by first | (with_reducible assumption) | assumption)
        have q374 : x5_1 < (l1.length : Int) := of_decide_eq_true (by first | (with_reducible assumption) | assumption)
        obtain ⟨ad374, A374_3, c374_3, e374, hx374_0, hx374_1, hx374_2, hx374_3, hx374_4, hl374_3, hi374_3⟩ := at_T31 HR1.out x5_1 p374 q374
        have hw374_4 := hx374_4
        have hw374_3 := hx374_3
        have hw374_2 := hx374_2
        have hw374_1 := hx374_1
        have hw374_0 := hx374_0
        cases e374
        replace hx374_0 := (HB.out.cell (World.block_lt_of_cell? w _ hx374_0)).trans hx374_0
        replace hx374_1 := (HB.out.cell (World.block_lt_of_cell? w _ hx374_1)).trans hx374_1
        replace hx374_2 := (HB.out.cell (World.block_lt_of_cell? w _ hx374_2)).trans hx374_2
        replace hx374_3 := (HB.out.cell (World.block_lt_of_cell? w _ hx374_3)).trans hx374_3
        replace hx374_4 := (HB.out.cell (World.block_lt_of_cell? w _ hx374_4)).trans hx374_4
        have HR374_3 := Aside0.mk hi374_3
        have HC374_3 := Aside0.mk hl374_3
        clear hi374_3 hl374_3
        replace p374 := eq_true p374
        replace q374 := eq_true q374
        refine start_ (n := 10) (S := fun w' => w'.cell? (ad373.add ((x5_1).toNat * 5)) = some (.string ((rd_T31 l0 x5_1).f0)) ∧ w'.cell? ⟨(ad373.add ((x5_1).toNat * 5)).block, (ad373.add ((x5_1).toNat * 5)).off + 1, none⟩ = some (.int .i64 ((rd_T31 l0 x5_1).f1)) ∧ w'.cell? ⟨(ad373.add ((x5_1).toNat * 5)).block, (ad373.add ((x5_1).toNat * 5)).off + 2, none⟩ = some (.int .i64 ((rd_T31 l0 x5_1).f2)) ∧ w'.cell? ⟨(ad373.add ((x5_1).toNat * 5)).block, (ad373.add ((x5_1).toNat * 5)).off + 3, none⟩ = some (.slice A373_3 ((rd_T31 l0 x5_1).f3).length c373_3) ∧ w'.cell? ⟨(ad373.add ((x5_1).toNat * 5)).block, (ad373.add ((x5_1).toNat * 5)).off + 4, none⟩ = some (.string ((rd_T31 l0 x5_1).f4)) ∧ w'.cell? (ad374.add ((x5_1).toNat * 5)) = some (.string ((rd_T31 l1 x5_1).f0)) ∧ w'.cell? ⟨(ad374.add ((x5_1).toNat * 5)).block, (ad374.add ((x5_1).toNat * 5)).off + 1, none⟩ = some (.int .i64 ((rd_T31 l1 x5_1).f1)) ∧ w'.cell? ⟨(ad374.add ((x5_1).toNat * 5)).block, (ad374.add ((x5_1).toNat * 5)).off + 2, none⟩ = some (.int .i64 ((rd_T31 l1 x5_1).f2)) ∧ w'.cell? ⟨(ad374.add ((x5_1).toNat * 5)).block, (ad374.add ((x5_1).toNat * 5)).off + 3, none⟩ = some (.slice A374_3 ((rd_T31 l1 x5_1).f3).length c374_3) ∧ w'.cell? ⟨(ad374.add ((x5_1).toNat * 5)).block, (ad374.add ((x5_1).toNat * 5)).off + 4, none⟩ = some (.string ((rd_T31 l1 x5_1).f4))) (ds := []) #[false, false, false, false, false, false, false, false, false, false] (by kernel_rfl) rfl rfl ⟨((HB.out.cell (World.block_lt_of_cell? w _ hw373_0)).trans hw373_0), ((HB.out.cell (World.block_lt_of_cell? w _ hw373_1)).trans hw373_1), ((HB.out.cell (World.block_lt_of_cell? w _ hw373_2)).trans hw373_2), ((HB.out.cell (World.block_lt_of_cell? w _ hw373_3)).trans hw373_3), ((HB.out.cell (World.block_lt_of_cell? w _ hw373_4)).trans hw373_4), ((HB.out.cell (World.block_lt_of_cell? w _ hw374_0)).trans hw374_0), ((HB.out.cell (World.block_lt_of_cell? w _ hw374_1)).trans hw374_1), ((HB.out.cell (World.block_lt_of_cell? w _ hw374_2)).trans hw374_2), ((HB.out.cell (World.block_lt_of_cell? w _ hw374_3)).trans hw374_3), ((HB.out.cell (World.block_lt_of_cell? w _ hw374_4)).trans hw374_4)⟩ (fun hHeld => ?_); refine with_tabW satchelref08_Same.tab6 satchelref08_Same.bits6 (fun HT_ HW_ => ?_)
        generalize wr.drew = w11 at HB HR373_3 HR374_3 hx373_0 hx373_1 hx373_2 hx373_3 hx373_4 hx374_0 hx374_1 hx374_2 hx374_3 hx374_4 hHeld ⊢
        refine pure_ (i := 0) (N := some 17) (v := ?_) (a' := ?_) #[true, false, false, false, false, false, false, false, false, false] rfl rfl (any_of HT_.out (by kernel_rfl)) (fun _ _ _ h => h) (Or.inl ⟨by rfl, ?_⟩) ?_ ?_
        rotate_left
        ·intro w'
         go_simp
         with_reducible rfl
        rotate_left
        ·simp only [Act.put, List.setIfInBounds_toArray, List.set_cons_zero, List.set_cons_succ, i64_w, i32_w]
         rfl
        refine pure_ (i := 1) (N := some 18) (v := ?_) (a' := ?_) #[true, true, false, false, false, false, false, false, false, false] rfl rfl (any_of HT_.out (by kernel_rfl)) (fun _ _ _ h => h) (Or.inl ⟨by rfl, ?_⟩) ?_ ?_
        rotate_left
        ·intro w'
         go_simp
         with_reducible rfl
        rotate_left
        ·simp only [Act.put, List.setIfInBounds_toArray, List.set_cons_zero, List.set_cons_succ, i64_w, i32_w]
         rfl
        refine pure_ (i := 2) (N := some 19) (v := ?_) (a' := ?_) #[true, true, true, false, false, false, false, false, false, false] rfl rfl (any_of HT_.out (by kernel_rfl)) (fun _ _ _ h => h) (Or.inl ⟨by rfl, ?_⟩) ?_ ?_
        rotate_left
        ·intro w'
         go_simp
         with_reducible rfl
        rotate_left
        ·simp only [Act.put, List.setIfInBounds_toArray, List.set_cons_zero, List.set_cons_succ, i64_w, i32_w]
         rfl
        refine pure_ (i := 4) (N := some 21) (v := ?_) (a' := ?_) #[true, true, true, false, true, false, false, false, false, false] rfl rfl (any_of HT_.out (by kernel_rfl)) (fun _ _ _ h => h) (Or.inl ⟨by rfl, ?_⟩) ?_ ?_
        rotate_left
        ·intro w'
         go_simp
         with_reducible rfl
        rotate_left
        ·simp only [Act.put, List.setIfInBounds_toArray, List.set_cons_zero, List.set_cons_succ, i64_w, i32_w]
         rfl
        refine pure_ (i := 5) (N := some 22) (v := ?_) (a' := ?_) #[true, true, true, false, true, true, false, false, false, false] rfl rfl (any_of HT_.out (by kernel_rfl)) (fun _ _ _ h => h) (Or.inl ⟨by rfl, ?_⟩) ?_ ?_
        rotate_left
        ·intro w'
         go_simp
         with_reducible rfl
        rotate_left
        ·simp only [Act.put, List.setIfInBounds_toArray, List.set_cons_zero, List.set_cons_succ, i64_w, i32_w]
         rfl
        refine pure_ (i := 6) (N := some 23) (v := ?_) (a' := ?_) #[true, true, true, false, true, true, true, false, false, false] rfl rfl (any_of HT_.out (by kernel_rfl)) (fun _ _ _ h => h) (Or.inl ⟨by rfl, ?_⟩) ?_ ?_
        rotate_left
        ·intro w'
         go_simp
         with_reducible rfl
        rotate_left
        ·simp only [Act.put, List.setIfInBounds_toArray, List.set_cons_zero, List.set_cons_succ, i64_w, i32_w]
         rfl
        refine take_ (i := 3) (N := some 20) (v := ?_) (a' := ?_) #[true, true, true, true, true, true, true, false, false, false] rfl rfl (take_ofW HT_.out HW_.out (by kernel_rfl)) (fun _ _ _ h => h) (Or.inl ⟨by rfl, ?_⟩) hHeld ?_ ?_
        rotate_left
        ·rintro w' ⟨s0, s1, s2, s3, s4, s5, s6, s7, s8, s9⟩
         go_simp
         with_reducible rfl
        rotate_left
        ·simp only [Act.put, List.setIfInBounds_toArray, List.set_cons_zero, List.set_cons_succ, i64_w, i32_w]
         rfl
        refine take_ (i := 7) (N := some 24) (v := ?_) (a' := ?_) #[true, true, true, true, true, true, true, true, false, false] rfl rfl (take_ofW HT_.out HW_.out (by kernel_rfl)) (fun _ _ _ h => h) (Or.inl ⟨by rfl, ?_⟩) hHeld ?_ ?_
        rotate_left
        ·rintro w' ⟨s0, s1, s2, s3, s4, s5, s6, s7, s8, s9⟩
         go_simp
         with_reducible rfl
        rotate_left
        ·simp only [Act.put, List.setIfInBounds_toArray, List.set_cons_zero, List.set_cons_succ, i64_w, i32_w]
         rfl
        refine one_ (i := 8) (N := some 25) #[true, true, true, true, true, true, true, true, true, false] rfl rfl (one_of HT_.out (by kernel_rfl)) (by decide) (fun K hK => ?_)
        refine goes_ Try.func21 (by kernel_rfl) rfl #[.agg #[.string ((rd_T31 l0 x5_1).f0), .int .i64 ((rd_T31 l0 x5_1).f1), .int .i64 ((rd_T31 l0 x5_1).f2), .slice A373_3 ((rd_T31 l0 x5_1).f3).length c373_3, .string ((rd_T31 l0 x5_1).f4)], .agg #[.string ((rd_T31 l1 x5_1).f0), .int .i64 ((rd_T31 l1 x5_1).f1), .int .i64 ((rd_T31 l1 x5_1).f2), .slice A374_3 ((rd_T31 l1 x5_1).f3).length c374_3, .string ((rd_T31 l1 x5_1).f4)]] (by rfl) rfl rfl (by (try simp only [List.map_toArray, List.map_cons, List.map_nil]); first | done | rfl | (simp only [List.length_drop, List.length_take]; rfl)) ?_
        with_reducible refine (satchelref08_Like.calls ((rd_T31 l0 x5_1).f0) ((rd_T31 l0 x5_1).f1) ((rd_T31 l0 x5_1).f2) _ _ ((rd_T31 l0 x5_1).f3) ((rd_T31 l0 x5_1).f4) ((rd_T31 l1 x5_1).f0) ((rd_T31 l1 x5_1).f1) ((rd_T31 l1 x5_1).f2) _ _ ((rd_T31 l1 x5_1).f3) ((rd_T31 l1 x5_1).f4) false _ ?side1 ?side2 ?side3 ?side4 A7.out).mono ?_
        (case side1 => repeat (first | exact (Kd.C_below HR373_3.out HB.out) | (with_reducible refine Kd.C_alloc ?_ _) | (with_reducible refine Kd.C_drewN ?_ _) | (with_reducible refine Kd.C_drew ?_)))
        (case side2 => exact HC373_3.out)
        (case side3 => repeat (first | exact (Kd.C_below HR374_3.out HB.out) | (with_reducible refine Kd.C_alloc ?_ _) | (with_reducible refine Kd.C_drewN ?_ _) | (with_reducible refine Kd.C_drew ?_)))
        (case side4 => exact HC374_3.out)
        rintro e w12 ⟨rfl, hb⟩
        refine ⟨_, rfl, ?_⟩
        have n0_ := Aside0.mk (below_step (by repeat (first | (with_reducible first | exact HB.out | apply below_alloc | apply pw_below_drewN | apply below_drew1) | exact HB.out)) hb)
        clear HB
        have HB := n0_
        clear n0_
        (try clear hb)
        (try clear hb2)
        (try clear hk)
        (try clear hi)
        refine hK.out _ _ ⟨((HB.out.cell (World.block_lt_of_cell? w _ hw373_0)).trans hw373_0), ((HB.out.cell (World.block_lt_of_cell? w _ hw373_1)).trans hw373_1), ((HB.out.cell (World.block_lt_of_cell? w _ hw373_2)).trans hw373_2), ((HB.out.cell (World.block_lt_of_cell? w _ hw373_3)).trans hw373_3), ((HB.out.cell (World.block_lt_of_cell? w _ hw373_4)).trans hw373_4), ((HB.out.cell (World.block_lt_of_cell? w _ hw374_0)).trans hw374_0), ((HB.out.cell (World.block_lt_of_cell? w _ hw374_1)).trans hw374_1), ((HB.out.cell (World.block_lt_of_cell? w _ hw374_2)).trans hw374_2), ((HB.out.cell (World.block_lt_of_cell? w _ hw374_3)).trans hw374_3), ((HB.out.cell (World.block_lt_of_cell? w _ hw374_4)).trans hw374_4)⟩ (fun hHeld => ?_)
        clear hK K
        refine norm_ (a' := ?_) ?_ ?_
        rotate_left
        ·show Act.put _ (some 25) _ = _
         simp only [Act.put, List.setIfInBounds_toArray, List.set_cons_zero, List.set_cons_succ, i64_w, i32_w]
         rfl
        refine pure_ (i := 9) (N := some 26) (v := ?_) (a' := ?_) #[true, true, true, true, true, true, true, true, true, true] rfl rfl (any_of HT_.out (by kernel_rfl)) (fun _ _ _ h => h) (Or.inl ⟨by rfl, ?_⟩) ?_ ?_
        rotate_left
        ·intro w'
         go_simp
         with_reducible rfl
        rotate_left
        ·simp only [Act.put, List.setIfInBounds_toArray, List.set_cons_zero, List.set_cons_succ, i64_w, i32_w]
         rfl
        refine done_ (done_of HT_.out (by kernel_rfl)) ?_
        try go_wp2
        go_ret
        exact ⟨by first | rfl | (simp [errW_none, errW_some] <;> rfl) | (simp [*, errW_none, errW_some] <;> rfl) | (simp [bt, *]; done) | (simp_all [bt]; done), by repeat (first | (with_reducible first | exact HB.out | apply below_alloc | apply pw_below_drewN | apply below_drew1) | exact HB.out)⟩
      ·rw [if_neg c6] at H
       exact absurd H (by simp)
     ·rw [if_neg c5] at H
      exact absurd H (by simp)
    ·rw [if_neg c4] at H
     have c4b0 : decide (x5_1 < (l0.length : Int)) = false := decide_eq_false c4
     clear c4
     obtain rfl := Option.some.inj H
     go_wp2
     go_ret
     exact ⟨by first | rfl | (simp [errW_none, errW_some] <;> rfl) | (simp [*, errW_none, errW_some] <;> rfl) | (simp [bt, *]; done) | (simp_all [bt]; done), by repeat (first | (with_reducible first | exact HB.out | apply below_alloc | apply pw_below_drewN | apply below_drew1) | exact HB.out)⟩
 ·rw [if_neg c3] at H
  have c3b0 : ((l0.length : Int) == (l1.length : Int)) = false := beq_eq_false_iff_ne.mpr c3
  have c3b1 : ((l0.length : Int) != (l1.length : Int)) = true := bne_iff_ne.mpr c3
  have c3b2 : (l0.length == l1.length) = false := by first | simpa using c3 | (simp at c3 ⊢; omega)
  obtain rfl := Option.some.inj H
  go_enter Try.func29, Try.ntmps29
  go_wp2
  go_ret
  exact ⟨by first | rfl | (simp [errW_none, errW_some] <;> rfl) | (simp [*, errW_none, errW_some] <;> rfl) | (simp [bt, *]; done) | (simp_all [bt]; done), by repeat (first | (with_reducible first | exact HB.out | apply below_alloc | apply pw_below_drewN | apply below_drew1) | exact HB.out)⟩

end Go.Proofs.Ytopkmchkfcjjmaa.X
end

/-! ## SatchelkitSameTexts -/
section
namespace Go.Proofs.Ytopkmchkfcjjmaa.X
open Go.RowKit Go.Proofs.YtopkmchkfcjjmaaW.PrintWords Go.Proofs.YtopkmchkfcjjmaaW.PrintLast Go.Proofs.YtopkmchkfcjjmaaW.PrintMore
attribute [local go_sem] max2_int min2_int max_two min_two max_three min_three max_four min_four   -- for this text's walks alone
set_option linter.unusedVariables false
set_option linter.unusedSimpArgs false

attribute [local go_sem] str_gtr fld_fault0 fld_fault1
/-! ### satchelkit_SameTexts: function 27 -/
def satchelkit_SameTexts.l0 : Nat → List ByteArray → List ByteArray → Int → Option (Bool)
 | 0, _, _, _ => none
 | k + 1, x0, x1, x5 => if x5 < (x0.length : Int) then (if 0 ≤ x5 then (if x5 < (x1.length : Int) then (if (rdOf ByteArray.empty x0 x5).toList = (rdOf ByteArray.empty x1 x5).toList then (satchelkit_SameTexts.l0 k x0 x1 (wrap64 (x5 + 1))) else (some false)) else (none)) else (none)) else (some true)
def satchelkit_SameTexts.f (k : Nat) (l0 : List ByteArray) (l1 : List ByteArray) : Option (Bool) := if (l0.length : Int) = (l1.length : Int) then (satchelkit_SameTexts.l0 k l0 l1 0) else (some false)
theorem satchelkit_SameTexts.mono_l : ∀ k, (∀ y0 y1 y2, LeO (satchelkit_SameTexts.l0 k y0 y1 y2) (satchelkit_SameTexts.l0 (k + 1) y0 y1 y2))
 | 0 => fun _ _ _ r h => by simp [satchelkit_SameTexts.l0] at h
 | k + 1 => by
  have ih0 := satchelkit_SameTexts.mono_l k
  ·intro y0 y1 y2
   unfold satchelkit_SameTexts.l0
   repeat' first
   | (with_reducible exact ih0 _ _ _)
   | (with_reducible exact LeO.refl _)
   | (with_reducible exact LeO.none _)
   | (with_reducible refine LeO.ite ?_ ?_)
   | (with_reducible refine LeO.bind ?_ (fun _ => ?_))
   | exact ih0 _ _ _
   | exact LeO.none _
   | refine LeO.ite ?_ ?_
   | refine LeO.bind ?_ (fun _ => ?_)
theorem satchelkit_SameTexts.mono : ∀ a0 a1 k, LeO (satchelkit_SameTexts.f k a0 a1) (satchelkit_SameTexts.f (k + 1) a0 a1) := by
 intro a0 a1 k
 have ih0 := satchelkit_SameTexts.mono_l k
 unfold satchelkit_SameTexts.f
 repeat' first
   | (with_reducible exact ih0 _ _ _)
   | (with_reducible exact LeO.refl _)
   | (with_reducible exact LeO.none _)
   | (with_reducible refine LeO.ite ?_ ?_)
   | (with_reducible refine LeO.bind ?_ (fun _ => ?_))
   | exact ih0 _ _ _
   | exact LeO.none _
   | refine LeO.ite ?_ ?_
   | refine LeO.bind ?_ (fun _ => ?_)
set_option maxHeartbeats 8000000 in
set_option maxRecDepth 100000 in
theorem satchelkit_SameTexts.calls (k : Nat) (A0 : Option Addr) (c0 : Nat) (l0 : List ByteArray) (A1 : Option Addr) (c1 : Nat) (l1 : List ByteArray) (r : Bool) (w : World) (hr0 : Kd.C Kd.string w A0 l0.length l0) (hc0 : l0.length ≤ c0) (hr1 : Kd.C Kd.string w A1 l1.length l1) (hc1 : l1.length ≤ c1) (h : satchelkit_SameTexts.f k l0 l1 = some r) :
  Calls Try.prog 27 #[.slice A0 l0.length c0, .slice A1 l1.length c1] w fun e w' => e = .returned (.bool r) ∧ Drawn0 w w' := by
 have HR0 := Aside0.mk hr0
 have HC0 := Aside0.mk hc0
 clear hr0 hc0
 have HR1 := Aside0.mk hr1
 have HC1 := Aside0.mk hc1
 clear hr1 hc1
 have H : (if (l0.length : Int) = (l1.length : Int) then (satchelkit_SameTexts.l0 k l0 l1 0) else (some false)) = some r := h
 clear h
 by_cases c3 : (l0.length : Int) = (l1.length : Int)
 ·rw [if_pos c3] at H
  have c3b0 : ((l0.length : Int) == (l1.length : Int)) = true := beq_iff_eq.mpr c3
  have c3b1 : ((l0.length : Int) != (l1.length : Int)) = false := bne_eq_false_iff_eq.mpr c3
  have c3b2 : (l0.length == l1.length) = true := by first | simpa using c3 | (simp at c3 ⊢; omega)
  clear c3
  have H' := Aside0.mk H
  clear H
  go_enter Try.func27, Try.ntmps27
  go_wp2
  repeat (go_quiet (fail); try go_wp2)
  go_loopg [5] k (fun kq v5 w' => ∃ (x5_1 : Int), v5 = .int .i64 x5_1 ∧ Aside0 (satchelkit_SameTexts.l0 kq l0 l1 x5_1 = some r) ∧ Aside0 (kq ≤ k) ∧ Drawn0 w w')
  case atStart => exact ⟨(0), (by first | rfl | (simp; done) | (simp [*]; done)), H', ⟨Nat.le_refl _⟩, by repeat (first | exact Drawn0.refl _ | apply Drawn0.step)⟩
  case round =>
   clear H'
   try clear c1
   try clear c2
   try clear p2
   try clear c3
   try clear c3b0
   try clear c3b1
   try clear c3b2
   obtain ⟨x5_1, rfl, HA, HK1, ⟨m1, rfl⟩⟩ := hrel
   cases gk with
   | zero => exact absurd HA.out (by simp [satchelkit_SameTexts.l0])
   | succ k1 =>
    have H := HA.out
    clear HA
    simp only [satchelkit_SameTexts.l0] at H
    by_cases c4 : x5_1 < (l0.length : Int)
    ·rw [if_pos c4] at H
     have c4b0 : decide (x5_1 < (l0.length : Int)) = true := decide_eq_true c4
     clear c4
     by_cases c5 : 0 ≤ x5_1
     ·rw [if_pos c5] at H
      have c5b0 : decide (0 ≤ x5_1) = true := decide_eq_true c5
      clear c5
      by_cases c6 : x5_1 < (l1.length : Int)
      ·rw [if_pos c6] at H
       have c6b0 : decide (x5_1 < (l1.length : Int)) = true := decide_eq_true c6
       clear c6
       by_cases c7 : (rdOf ByteArray.empty l0 x5_1).toList = (rdOf ByteArray.empty l1 x5_1).toList
       ·rw [if_pos c7] at H
        have c7b0 : ((rdOf ByteArray.empty l0 x5_1).toList == (rdOf ByteArray.empty l1 x5_1).toList) = true := beq_iff_eq.mpr c7
        have c7b1 : ((rdOf ByteArray.empty l0 x5_1).toList != (rdOf ByteArray.empty l1 x5_1).toList) = false := bne_eq_false_iff_eq.mpr c7
        clear c7
        have H' := Aside0.mk H
        clear H
        have p371 : 0 ≤ (x5_1 : Int) := of_decide_eq_true (by first | (with_reducible assumption) | assumption)
        have q371 : x5_1 < (l0.length : Int) := of_decide_eq_true (by first | (with_reducible assumption) | assumption)
        obtain ⟨ad371, e371, hx371_0⟩ := Kd.at_string HR0.out x5_1 p371 q371
        cases e371
        replace p371 := eq_true p371
        replace q371 := eq_true q371
        have p372 : 0 ≤ (x5_1 : Int) := of_decide_eq_true (by first | (with_reducible assumption) | assumption)
        have q372 : x5_1 < (l1.length : Int) := of_decide_eq_true (by first | (with_reducible assumption) | assumption)
        obtain ⟨ad372, e372, hx372_0⟩ := Kd.at_string HR1.out x5_1 p372 q372
        cases e372
        replace p372 := eq_true p372
        replace q372 := eq_true q372
        go_wp2
        repeat (go_quiet (fail); try go_wp2)
        go_roundg k1
        case measure => have := HK1.out; omega
        case rel => exact ⟨(wrap64 (x5_1 + 1)), (by first | rfl | (simp; done) | (simp [*]; done)), H', ⟨by have := HK1.out; omega⟩, by repeat (first | exact Drawn0.refl _ | apply Drawn0.step)⟩
       ·rw [if_neg c7] at H
        have c7b0 : ((rdOf ByteArray.empty l0 x5_1).toList == (rdOf ByteArray.empty l1 x5_1).toList) = false := beq_eq_false_iff_ne.mpr c7
        have c7b1 : ((rdOf ByteArray.empty l0 x5_1).toList != (rdOf ByteArray.empty l1 x5_1).toList) = true := bne_iff_ne.mpr c7
        obtain rfl := Option.some.inj H
        have p371 : 0 ≤ (x5_1 : Int) := of_decide_eq_true (by first | (with_reducible assumption) | assumption)
        have q371 : x5_1 < (l0.length : Int) := of_decide_eq_true (by first | (with_reducible assumption) | assumption)
        obtain ⟨ad371, e371, hx371_0⟩ := Kd.at_string HR0.out x5_1 p371 q371
        cases e371
        replace p371 := eq_true p371
        replace q371 := eq_true q371
        have p372 : 0 ≤ (x5_1 : Int) := of_decide_eq_true (by first | (with_reducible assumption) | assumption)
        have q372 : x5_1 < (l1.length : Int) := of_decide_eq_true (by first | (with_reducible assumption) | assumption)
        obtain ⟨ad372, e372, hx372_0⟩ := Kd.at_string HR1.out x5_1 p372 q372
        cases e372
        replace p372 := eq_true p372
        replace q372 := eq_true q372
        go_wp2
        repeat (go_quiet (fail); try go_wp2)
        go_ret
        exact ⟨by first | rfl | (simp; done) | (simp [*]; done), by repeat (first | exact Drawn0.refl _ | apply Drawn0.step)⟩
      ·rw [if_neg c6] at H
       exact absurd H (by simp)
     ·rw [if_neg c5] at H
      exact absurd H (by simp)
    ·rw [if_neg c4] at H
     have c4b0 : decide (x5_1 < (l0.length : Int)) = false := decide_eq_false c4
     clear c4
     obtain rfl := Option.some.inj H
     go_wp2
     repeat (go_quiet (fail); try go_wp2)
     go_ret
     exact ⟨by first | rfl | (simp; done) | (simp [*]; done), by repeat (first | exact Drawn0.refl _ | apply Drawn0.step)⟩
 ·rw [if_neg c3] at H
  have c3b0 : ((l0.length : Int) == (l1.length : Int)) = false := beq_eq_false_iff_ne.mpr c3
  have c3b1 : ((l0.length : Int) != (l1.length : Int)) = true := bne_iff_ne.mpr c3
  have c3b2 : (l0.length == l1.length) = false := by first | simpa using c3 | (simp at c3 ⊢; omega)
  obtain rfl := Option.some.inj H
  go_enter Try.func27, Try.ntmps27
  go_wp2
  repeat (go_quiet (fail); try go_wp2)
  go_ret
  exact ⟨by first | rfl | (simp; done) | (simp [*]; done), by repeat (first | exact Drawn0.refl _ | apply Drawn0.step)⟩

end Go.Proofs.Ytopkmchkfcjjmaa.X
end

/-! ## SatchelkitCopyBytes -/
section
namespace Go.Proofs.Ytopkmchkfcjjmaa.X
open Go.RowKit Go.Proofs.YtopkmchkfcjjmaaW.PrintWords Go.Proofs.YtopkmchkfcjjmaaW.PrintLast Go.Proofs.YtopkmchkfcjjmaaW.PrintMore
attribute [local go_sem] max2_int min2_int max_two min_two max_three min_three max_four min_four   -- for this text's walks alone
set_option linter.unusedVariables false
set_option linter.unusedSimpArgs false

attribute [local go_sem] str_gtr fld_fault0 fld_fault1
/-! ### satchelkit_CopyBytes: function 47 -/
def satchelkit_CopyBytes.f (l0 : List Int) : Option (List Int) := (some (([] : List Int) : List Int)).bind fun y237 => (if y237.length + l0.length < 140737488355328 then (some (y237 ++ l0)) else (none))
set_option maxHeartbeats 8000000 in
set_option maxRecDepth 100000 in
theorem satchelkit_CopyBytes.calls (A0 : Option Addr) (c0 : Nat) (l0 : List Int) (r : List Int) (w : World) (hr0 : Kd.C (Kd.int .u8) w A0 l0.length l0) (hc0 : l0.length ≤ c0) (h : satchelkit_CopyBytes.f l0 = some r) :
  Calls Try.prog 47 #[.slice A0 l0.length c0] w fun e w' => ∃ v0_ : Value, e = .returned (v0_) ∧ Kd.R (Kd.int .u8) 5 w' w.heap.size (fun _ => True) v0_ r ∧ Below w.heap.size w w' := by
 have HR0 := Aside0.mk hr0
 have HC0 := Aside0.mk hc0
 clear hr0 hc0
 have HB := Aside0.mk (Below.refl w.heap.size w)
 have H : ((some (([] : List Int) : List Int)).bind fun y237 => (if y237.length + l0.length < 140737488355328 then (some (y237 ++ l0)) else (none))) = some r := h
 clear h
 obtain ⟨y237, hy237⟩ : ∃ y_ : List Int, y_ = (([] : List Int)) := ⟨_, rfl⟩
 replace H : (if y237.length + l0.length < 140737488355328 then (some (y237 ++ l0)) else (none)) = some r := by first | (rw [hy237]; with_reducible exact H) | (have H2_ := (Option.bind_some _ _).symm.trans H; rw [hy237]; with_reducible exact H2_) | (have H2_ := (Option.bind_some _ _).symm.trans H; with_reducible exact H2_) | with_reducible exact H | (rw [hy237]; exact H) | exact H
 have Ny237 := Aside0.mk hy237
 clear hy237
 by_cases c2 : y237.length + l0.length < 140737488355328
 ·rw [if_pos c2] at H
  have LMc2 := Aside0.mk c2
  clear c2
  obtain ⟨y240, hy240⟩ : ∃ y_ : List Int, y_ = (y237 ++ l0) := ⟨_, rfl⟩
  replace H : (some y240) = some r := by first | (rw [hy240]; with_reducible exact H) | (have H2_ := (Option.bind_some _ _).symm.trans H; rw [hy240]; with_reducible exact H2_) | (have H2_ := (Option.bind_some _ _).symm.trans H; with_reducible exact H2_) | with_reducible exact H | (rw [hy240]; exact H) | exact H
  have Ny240 := Aside0.mk hy240
  clear hy240
  obtain rfl := Option.some.inj H
  go_enter Try.func47, Try.ntmps47
  go_wp2_with (first | ((with_reducible refine gate_dst (N := 3) rfl ?_); refine Kd.R_lit (Kd.int .u8) _ 5 ?hg (N := 3) ?hd (xs := ([] : List Int)) (inner := []) (ok := fun _ => True) (okp := fun _ => True) ?hr ?hp (fun _ hk => hk) trivial (Below.refl _ _) (Nat.le_refl _) (by simp) ?_; (case hd => rfl); (case hg => rfl); (case hr => first | (go_simp; done) | (go_simp; rfl)); (case hp => exact (Reps.none _ _)); intro v238 w3 ho4 hb hg_ hnew_; clear hg_ hnew_; (first | rw [← Ny237.out] at ho4 | (simp only [Int.reduceToNat] at ho4; rw [← Ny237.out] at ho4)); have n0_ := Aside0.mk (Kd.R_lower ho4 (below_size (by repeat (first | (with_reducible first | exact HB.out | apply below_alloc | apply pw_below_drewN | apply below_drew1) | exact HB.out)))); have n1_ := Aside0.mk (below_step (by repeat (first | (with_reducible first | exact HB.out | apply below_alloc | apply pw_below_drewN | apply below_drew1) | exact HB.out)) hb); clear HB; have HO239 := n0_; have HB := n1_; clear n0_ n1_; clear hb ho4) | ((with_reducible refine gate_builtin (b := .append) (xs := #[.tmp 3, .tmp 4]) rfl ?_); at_builtin; refine Kd.R_append_rows (Kd.int .u8) (w0 := w) w.heap.size rfl (.tmp 3) (.tmp 4) 29 5 (.int .u8 0) 1 rfl Try.underlying29 info5 rfl (by decide) (by omega) v238 y237 l0 _ _ _ (fun _ => True) (fun _ => False) rfl rfl ?aO ?aR (fun _ _ h => h) (fun _ h => h.elim) ?aF ?aB ?aS ?aL ?_; (case aR => repeat (first | exact (Kd.C_below HR0.out HB.out) | (with_reducible refine Kd.C_alloc ?_ _) | (with_reducible refine Kd.C_drewN ?_ _) | (with_reducible refine Kd.C_drew ?_))); (case aB => exact (by repeat (first | (with_reducible first | exact HB.out | apply below_alloc | apply pw_below_drewN | apply below_drew1) | exact HB.out))); (case aF => exact (fun _ _ => trivial)); (case aO => exact (by (with_reducible repeat (first | apply Kd.R_alloc | apply Kd.R_drewN | apply Kd.R_drew)); exact HO239.out)); (case aS => exact (below_size (by repeat (first | (with_reducible first | exact HB.out | apply below_alloc | apply pw_below_drewN | apply below_drew1) | exact HB.out)))); (case aL => have := LMc2.out; omega); intro v241 w5 ho hb hg hat; rw [← Ny240.out] at ho; have n0_ := Aside0.mk (hb); have n1_ := Aside0.mk (ho); clear HB; clear HO239; have HB := n0_; have HO242 := n1_; clear n0_ n1_; clear ho hb hg hat))
  go_ret
  exact ⟨_, by first | rfl | (simp [errW_none, errW_some] <;> rfl) | (simp [*, errW_none, errW_some] <;> rfl) | (simp [bt, *]; done) | (simp_all [bt]; done), by (with_reducible repeat (first | apply Kd.R_alloc | apply Kd.R_drewN | apply Kd.R_drew)); exact HO242.out, by repeat (first | (with_reducible first | exact HB.out | apply below_alloc | apply pw_below_drewN | apply below_drew1) | exact HB.out)⟩
 ·rw [if_neg c2] at H
  exact absurd H (by simp)

end Go.Proofs.Ytopkmchkfcjjmaa.X
end

/-! ## SatchelkitCopyTree -/
section
namespace Go.Proofs.Ytopkmchkfcjjmaa.X
open Go.RowKit Go.Proofs.YtopkmchkfcjjmaaW.PrintWords Go.Proofs.YtopkmchkfcjjmaaW.PrintLast Go.Proofs.YtopkmchkfcjjmaaW.PrintMore
attribute [local go_sem] max2_int min2_int max_two min_two max_three min_three max_four min_four   -- for this text's walks alone
set_option linter.unusedVariables false
set_option linter.unusedSimpArgs false

attribute [local go_sem] str_gtr fld_fault0 fld_fault1
/-! ### satchelkit_CopyTree: function 18 -/
def satchelkit_CopyTree.l0 : Nat → List (S31) → Int → Option ((List (S31)))
 | 0, _, _ => none
 | k + 1, x3, x4 => if x4 < (x3.length : Int) then (if 0 ≤ x4 then ((satchelkit_CopyBytes.f ((rd_T31 x3 x4).f3)).bind fun t250 => (satchelkit_CopyTree.l0 k (x3.set (x4 : Int).toNat (⟨(rd_T31 x3 x4).f0, (rd_T31 x3 x4).f1, (rd_T31 x3 x4).f2, t250, (rd_T31 x3 x4).f4⟩ : S31)) (wrap64 (x4 + 1)))) else (none)) else (some x3)
def satchelkit_CopyTree.f (k : Nat) (l0 : List (S31)) : Option ((List (S31))) := (some (([] : List (S31)) : List (S31))).bind fun y243 => (if y243.length + l0.length < 1954687338268 then (satchelkit_CopyTree.l0 k (y243 ++ l0) 0) else (none))
theorem satchelkit_CopyTree.mono_l : ∀ k, (∀ y0 y1, LeO (satchelkit_CopyTree.l0 k y0 y1) (satchelkit_CopyTree.l0 (k + 1) y0 y1))
 | 0 => fun _ _ r h => by simp [satchelkit_CopyTree.l0] at h
 | k + 1 => by
  have ih0 := satchelkit_CopyTree.mono_l k
  ·intro y0 y1
   unfold satchelkit_CopyTree.l0
   repeat' first
   | (with_reducible exact ih0 _ _)
   | (with_reducible exact LeO.refl _)
   | (with_reducible exact LeO.none _)
   | (with_reducible refine LeO.ite ?_ ?_)
   | (with_reducible refine LeO.bind ?_ (fun _ => ?_))
   | exact ih0 _ _
   | exact LeO.none _
   | refine LeO.ite ?_ ?_
   | refine LeO.bind ?_ (fun _ => ?_)
theorem satchelkit_CopyTree.mono : ∀ a0 k, LeO (satchelkit_CopyTree.f k a0) (satchelkit_CopyTree.f (k + 1) a0) := by
 intro a0 k
 have ih0 := satchelkit_CopyTree.mono_l k
 unfold satchelkit_CopyTree.f
 repeat' first
   | (with_reducible exact ih0 _ _)
   | (with_reducible exact LeO.refl _)
   | (with_reducible exact LeO.none _)
   | (with_reducible refine LeO.ite ?_ ?_)
   | (with_reducible refine LeO.bind ?_ (fun _ => ?_))
   | exact ih0 _ _
   | exact LeO.none _
   | refine LeO.ite ?_ ?_
   | refine LeO.bind ?_ (fun _ => ?_)
set_option maxHeartbeats 8000000 in
set_option maxRecDepth 100000 in
theorem satchelkit_CopyTree.calls (k : Nat) (P0_ : Nat → Prop) (A0 : Option Addr) (c0 : Nat) (l0 : List (S31)) (r : List (S31)) (w : World) (hs0 : Kd.V k31 31 w w.heap.size (fun k_ => P0_ k_) (.slice A0 l0.length c0) l0) (h : satchelkit_CopyTree.f k l0 = some r) :
  Calls Try.prog 18 #[.slice A0 l0.length c0] w fun e w' => ∃ v0_ : Value, e = .returned (v0_) ∧ Kd.N k31 31 w' w.heap.size (fun k_ => (P0_ k_ ∨ w.heap.size ≤ k_)) v0_ r ∧ Below w.heap.size w w' := by
 have HO0 := Aside0.mk (show Kd.V k31 31 w w.heap.size (fun k_ => (P0_ k_ ∨ w.heap.size ≤ k_)) (.slice A0 l0.length c0) l0 from Kd.V_mono hs0 (fun k_ hk => .inl hk))
 have HB := Aside0.mk (Below.refl w.heap.size w)
 have H : ((some (([] : List (S31)) : List (S31))).bind fun y243 => (if y243.length + l0.length < 1954687338268 then (satchelkit_CopyTree.l0 k (y243 ++ l0) 0) else (none))) = some r := h
 clear h
 obtain ⟨y243, hy243⟩ : ∃ y_ : List (S31), y_ = (([] : List (S31))) := ⟨_, rfl⟩
 replace H : (if y243.length + l0.length < 1954687338268 then (satchelkit_CopyTree.l0 k (y243 ++ l0) 0) else (none)) = some r := by first | (rw [hy243]; with_reducible exact H) | (have H2_ := (Option.bind_some _ _).symm.trans H; rw [hy243]; with_reducible exact H2_) | (have H2_ := (Option.bind_some _ _).symm.trans H; with_reducible exact H2_) | with_reducible exact H | (rw [hy243]; exact H) | exact H
 have Ny243 := Aside0.mk hy243
 clear hy243
 by_cases c2 : y243.length + l0.length < 1954687338268
 ·rw [if_pos c2] at H
  have LMc2 := Aside0.mk c2
  clear c2
  obtain ⟨y246, hy246⟩ : ∃ y_ : List (S31), y_ = (y243 ++ l0) := ⟨_, rfl⟩
  replace H : (satchelkit_CopyTree.l0 k y246 0) = some r := by first | (rw [hy246]; with_reducible exact H) | (have H2_ := (Option.bind_some _ _).symm.trans H; rw [hy246]; with_reducible exact H2_) | (have H2_ := (Option.bind_some _ _).symm.trans H; with_reducible exact H2_) | with_reducible exact H | (rw [hy246]; exact H) | exact H
  have Ny246 := Aside0.mk hy246
  clear hy246
  have H' := Aside0.mk H
  clear H
  go_enter Try.func18, Try.ntmps18
  go_wp2_with (first | ((with_reducible refine gate_dst (N := 5) rfl ?_); refine Kd.N_lit k31 _ 31 ?hg (N' := 5) ?hd (xs := ([] : List (S31))) (inner := []) (ok := (fun k_ => (P0_ k_ ∨ w.heap.size ≤ k_))) (okp := (fun k_ => (P0_ k_ ∨ w.heap.size ≤ k_))) ?hr ?hp (fun _ hk => hk) ((show ∀ k_, w.heap.size ≤ k_ → (fun k_ => (P0_ k_ ∨ w.heap.size ≤ k_)) k_ from fun k_ hk => (.inr (Nat.le_trans (below_size (by repeat (first | (with_reducible first | exact HB.out | apply below_alloc | apply pw_below_drewN | apply below_drew1) | exact HB.out))) hk))) _ (Nat.le_refl _)) (Below.refl _ _) (Nat.le_refl _) (by simp) ?_; (case hd => rfl); (case hg => rfl); (case hr => first | (go_simp; done) | (go_simp; rfl)); (case hp => exact (Reps.none _ _)); intro v244 w3 ho4 hb hg_ hnew_; clear hg_ hnew_; (first | rw [← Ny243.out] at ho4 | (simp only [Int.reduceToNat] at ho4; rw [← Ny243.out] at ho4)); have n0_ := Aside0.mk (Kd.V_elder' (by (with_reducible repeat (first | apply Kd.V_alloc | apply Kd.V_drewN | apply Kd.V_drew)); exact HO0.out) (by first | exact Kd.N_base ho4 | exact Kd.S_base ho4) hb); have n1_ := Aside0.mk (Kd.N_lower ho4 (below_size (by repeat (first | (with_reducible first | exact HB.out | apply below_alloc | apply pw_below_drewN | apply below_drew1) | exact HB.out)))); have n2_ := Aside0.mk (below_step (by repeat (first | (with_reducible first | exact HB.out | apply below_alloc | apply pw_below_drewN | apply below_drew1) | exact HB.out)) hb); clear HO0; clear HB; have HO0 := n0_; have HO245 := n1_; have HB := n2_; clear n0_ n1_ n2_; clear hb ho4) | ((with_reducible refine gate_builtin (b := .append) (xs := #[.tmp 5, .tmp 6]) rfl ?_); at_builtin; refine Kd.N_append_rows k31 (w0 := w) w.heap.size rfl (.tmp 5) (.tmp 6) 22 31 (.agg #[(.string ⟨#[]⟩), (.int .i64 0), (.int .i64 0), (.slice none 0 0), (.string ⟨#[]⟩)]) 72 rfl Try.underlying22 info31 rfl (by decide) (by omega) v244 y243 l0 _ _ _ (fun k_ => (P0_ k_ ∨ w.heap.size ≤ k_)) (fun k_ => ((fun k_ => (P0_ k_ ∨ w.heap.size ≤ k_))) k_ ∧ some k_ ≠ (v244 : Value).ownBlock) rfl rfl ?aO ?aR (fun _ hk => hk) ?aF ?aB ?aS ?aL ?_; (case aR => exact (by skip; exact Kd.V_F (Kd.V_mono (ok' := (fun k_ => ((fun k_ => (P0_ k_ ∨ w.heap.size ≤ k_))) k_ ∧ some k_ ≠ (v244 : Value).ownBlock)) (HO0.out) (fun k_ hk => ⟨hk.1, hk.2⟩)))); (case aB => exact (by repeat (first | (with_reducible first | exact HB.out | apply below_alloc | apply pw_below_drewN | apply below_drew1) | exact HB.out))); (case aF => exact (fun k_ hk => (.inr (Nat.le_trans (below_size (by repeat (first | (with_reducible first | exact HB.out | apply below_alloc | apply pw_below_drewN | apply below_drew1) | exact HB.out))) hk)))); (case aO => exact (by (with_reducible repeat (first | apply Kd.N_alloc | apply Kd.N_drewN | apply Kd.N_drew)); exact HO245.out)); (case aS => exact (below_size (by repeat (first | (with_reducible first | exact HB.out | apply below_alloc | apply pw_below_drewN | apply below_drew1) | exact HB.out)))); (case aL => have := LMc2.out; omega); intro v247 w5 ho hb hg hat; rw [← Ny246.out] at ho; have n0_ := Aside0.mk (Kd.V_afterv (ok := (fun k_ => (P0_ k_ ∨ w.heap.size ≤ k_))) (by (with_reducible repeat (first | apply Kd.V_alloc | apply Kd.V_drewN | apply Kd.V_drew)); exact HO0.out) hg hat); have n1_ := Aside0.mk (hb); have n2_ := Aside0.mk (ho); clear HO0; clear HB; clear HO245; have HO0 := n0_; have HB := n1_; have HO248 := n2_; clear n0_ n1_ n2_; clear ho hb hg hat))
  go_loopg [4] k (fun kq v4 w' => ∃ (x3_1 : List (S31)) (x4_1 : Int), v4 = .int .i64 x4_1 ∧ Aside0 (satchelkit_CopyTree.l0 kq x3_1 x4_1 = some r) ∧ Aside0 (kq ≤ k) ∧ Aside0 (Kd.N k31 31 w' w.heap.size (fun k_ => (P0_ k_ ∨ w.heap.size ≤ k_)) v247 x3_1) ∧ Aside0 (Below w.heap.size w w'))
  case atStart => exact ⟨(y246), (0), (by first | rfl | (simp; done) | (simp [*]; done)), H', ⟨Nat.le_refl _⟩, ⟨by (with_reducible repeat (first | apply Kd.N_alloc | apply Kd.N_drewN | apply Kd.N_drew)); exact HO248.out⟩, ⟨by repeat (first | (with_reducible first | exact HB.out | apply below_alloc | apply pw_below_drewN | apply below_drew1) | exact HB.out)⟩⟩
  case round =>
   clear H'
   try clear c1
   try clear c2
   try clear p2
   obtain ⟨x3_1, x4_1, rfl, HA, HK1, HO_3, HB⟩ := hrel
   cases gk with
   | zero => exact absurd HA.out (by simp [satchelkit_CopyTree.l0])
   | succ k1 =>
    have H := HA.out
    clear HA
    simp only [satchelkit_CopyTree.l0] at H
    by_cases c6 : x4_1 < (x3_1.length : Int)
    ·rw [if_pos c6] at H
     have c6b0 : decide (x4_1 < (x3_1.length : Int)) = true := decide_eq_true c6
     clear c6
     by_cases c7 : 0 ≤ x4_1
     ·rw [if_pos c7] at H
      have c7b0 : decide (0 ≤ x4_1) = true := decide_eq_true c7
      clear c7
      replace H := Option.bind_eq_some_iff.mp H
      obtain ⟨t250, A80, H⟩ := H
      replace H : (satchelkit_CopyTree.l0 k1 (x3_1.set (x4_1 : Int).toNat (⟨(rd_T31 x3_1 x4_1).f0, (rd_T31 x3_1 x4_1).f1, (rd_T31 x3_1 x4_1).f2, t250, (rd_T31 x3_1 x4_1).f4⟩ : S31)) (wrap64 (x4_1 + 1))) = some r := H
      have A8 := Aside0.mk A80
      clear A80
      obtain ⟨y253, hy253⟩ : ∃ y_ : List (S31), y_ = (x3_1.set (x4_1 : Int).toNat (⟨(rd_T31 x3_1 x4_1).f0, (rd_T31 x3_1 x4_1).f1, (rd_T31 x3_1 x4_1).f2, t250, (rd_T31 x3_1 x4_1).f4⟩ : S31)) := ⟨_, rfl⟩
      replace H : (satchelkit_CopyTree.l0 k1 y253 (wrap64 (x4_1 + 1))) = some r := by first | (rw [hy253]; with_reducible exact H) | (have H2_ := (Option.bind_some _ _).symm.trans H; rw [hy253]; with_reducible exact H2_) | (have H2_ := (Option.bind_some _ _).symm.trans H; with_reducible exact H2_) | with_reducible exact H | (rw [hy253]; exact H) | exact H
      have Ny253 := Aside0.mk hy253
      clear hy253
      have H' := Aside0.mk H
      clear H
      obtain ⟨Ao10, co10, eo10⟩ := Kd.N_slice HO_3.out
      subst eo10
      have p249 : 0 ≤ (x4_1 : Int) := of_decide_eq_true (by first | (with_reducible assumption) | assumption)
      have q249 : x4_1 < (x3_1.length : Int) := of_decide_eq_true (by first | (with_reducible assumption) | assumption)
      obtain ⟨ad249, A249_3, c249_3, e249, hx249_0, hx249_1, hx249_2, hx249_3, hx249_4, hl249_3, hi249_3⟩ := at_T31 (Kd.N_reads' HO_3.out).2.2 x4_1 p249 q249
      cases e249
      obtain ⟨ce249, hce249, hMe249, hcc249⟩ := Kd.N_get HO_3.out z31 x4_1 p249 (by first | exact q249 | exact of_decide_eq_true (by first | (with_reducible assumption) | assumption) | (have e_ := (Kd.N_reads' HO_3.out).1; omega))
      obtain ⟨ua249_3, uc249_3, rfl, ul249_3, ge249_3⟩ := k31_openF hMe249
      have hv249_3 := hcc249 3 _ rfl
      rw [add_field _ _ 3 (by omega)] at hv249_3
      replace hv249_3 := Option.some.inj (hv249_3.symm.trans hx249_3)
      injection hv249_3 with hva_ hvn_ hvc_
      rw [hva_] at ge249_3
      rw [hvc_] at ul249_3
      have HL249_3 := Aside0.mk (show Kd.V (Kd.int .u8) 5 _ w.heap.size _ _ ((rd_T31 x3_1 x4_1).f3) from Kd.V_mk ul249_3 ge249_3)
      clear hva_ hvn_ hvc_ ge249_3 ul249_3
      clear hcc249 hce249
      have HR249_3 := Aside0.mk hi249_3
      have HC249_3 := Aside0.mk hl249_3
      clear hi249_3 hl249_3
      replace p249 := eq_true p249
      replace q249 := eq_true q249
      go_wp2_with (first | ((with_reducible refine gate_callee (f := 47) rfl ?_); refine goesL_ (some 21) rfl rfl Try.func47 (by kernel_rfl) rfl #[.slice A249_3 ((rd_T31 x3_1 x4_1).f3).length c249_3] rfl (by (try simp only [List.map_toArray, List.map_cons, List.map_nil]); first | done | rfl | (simp only [List.length_drop, List.length_take]; rfl)) ?_; (with_reducible refine (satchelkit_CopyBytes.calls _ _ ((rd_T31 x3_1 x4_1).f3) t250 _ ?side1 ?side2 A8.out).mono ?_); (case side1 => repeat (first | exact (by repeat (first | (with_reducible exact HR249_3.out) | (with_reducible refine Kd.C_alloc ?_ _) | (with_reducible refine Kd.C_drewN ?_ _) | (with_reducible refine Kd.C_drew ?_) | exact HR249_3.out)) | (with_reducible refine Kd.C_alloc ?_ _) | (with_reducible refine Kd.C_drewN ?_ _) | (with_reducible refine Kd.C_drew ?_))); (case side2 => exact HC249_3.out); rintro e w11 ⟨v251, rfl, ho0, hb⟩; refine ⟨_, rfl, ?_⟩; have n0_ := Aside0.mk (Kd.N_elder' (by (with_reducible repeat (first | apply Kd.N_alloc | apply Kd.N_drewN | apply Kd.N_drew)); exact HO_3.out) (Kd.R_base ho0) hb); have n1_ := Aside0.mk (Kd.V_elder' (by (with_reducible repeat (first | apply Kd.V_alloc | apply Kd.V_drewN | apply Kd.V_drew)); exact HL249_3.out) (Kd.R_base ho0) hb); have n2_ := Aside0.mk (Kd.R_lower (Kd.R_newM (M := fun k_ => (w.heap.size ≤ k_)) ho0 (below_size (by repeat (first | (with_reducible first | exact HB.out | apply below_alloc | apply pw_below_drewN | apply below_drew1) | exact HB.out))) (fun k_ h_ => h_)) (below_size (by repeat (first | (with_reducible first | exact HB.out | apply below_alloc | apply pw_below_drewN | apply below_drew1) | exact HB.out)))); have n3_ := Aside0.mk (Kd.C_below (by repeat (first | (with_reducible exact HR249_3.out) | (with_reducible refine Kd.C_alloc ?_ _) | (with_reducible refine Kd.C_drewN ?_ _) | (with_reducible refine Kd.C_drew ?_) | exact HR249_3.out)) hb); have n4_ := Aside0.mk (below_step (by repeat (first | (with_reducible first | exact HB.out | apply below_alloc | apply pw_below_drewN | apply below_drew1) | exact HB.out)) hb); clear HO_3; clear HL249_3; clear HR249_3; clear HB; have HO_3 := n0_; have HL249_3 := n1_; have HO252 := n2_; have HR249_3 := n3_; have HB := n4_; clear n0_ n1_ n2_ n3_ n4_; (try clear hb); (try clear hb2); (try clear hk); (try clear hi); (try clear ho0); have p9 : 0 ≤ (x4_1 : Int) := of_decide_eq_true (by first | (with_reducible assumption) | assumption); have q9 : (x4_1 : Int) < ((x3_1.length : Int) : Int) := of_decide_eq_true (by first | (with_reducible assumption) | assumption); obtain ⟨go9, co9, eo9, gb9, gl9, cl9, HG9⟩ := Kd.N_form HO_3.out (by omega); (first | cases eo9 | (injection eo9 with ea_ en_ ec_; (first | subst ea_ | (injection ea_ with ea_; subst ea_)); subst ec_; clear en_)); have GB9 := Aside0.mk gb9; have GG9 := Aside0.mk HG9; clear gb9 gl9 HG9; (first | simp only [add_plain] at hx249_0 | skip); (first | simp only [add_plain] at hx249_1 | skip); (first | simp only [add_plain] at hx249_2 | skip); (first | simp only [add_plain] at hx249_3 | skip); (first | simp only [add_plain] at hx249_4 | skip); obtain ⟨ce9, hcl9, hM9, hcc9, hfr9⟩ := Kd.N_elem HO_3.out z31 (x4_1 : Int) p9 q9; obtain ⟨ua9_3, uc9_3, rfl, ul9_3, ge9_3⟩ := k31_openF hM9; have hx9_0 : w11.cell? ⟨go9, (x4_1 : Int).toNat * 5, none⟩ = some (.string ((rd_T31 x3_1 x4_1).f0)) := hcc9 0 _ rfl; have hx9_1 : w11.cell? ⟨go9, (x4_1 : Int).toNat * 5 + 1, none⟩ = some (.int .i64 ((rd_T31 x3_1 x4_1).f1)) := hcc9 1 _ rfl; have hx9_2 : w11.cell? ⟨go9, (x4_1 : Int).toNat * 5 + 2, none⟩ = some (.int .i64 ((rd_T31 x3_1 x4_1).f2)) := hcc9 2 _ rfl; have hx9_3 : w11.cell? ⟨go9, (x4_1 : Int).toNat * 5 + 3, none⟩ = some (.slice ua9_3 ((rd_T31 x3_1 x4_1).f3).length uc9_3) := hcc9 3 _ rfl; have hx9_4 : w11.cell? ⟨go9, (x4_1 : Int).toNat * 5 + 4, none⟩ = some (.string ((rd_T31 x3_1 x4_1).f4)) := hcc9 4 _ rfl; have hf9_0 : w11.frozen? ⟨go9, (x4_1 : Int).toNat * 5, none⟩ = false := hfr9 0; have hf9_1 : w11.frozen? ⟨go9, (x4_1 : Int).toNat * 5 + 1, none⟩ = false := hfr9 1; have hf9_2 : w11.frozen? ⟨go9, (x4_1 : Int).toNat * 5 + 2, none⟩ = false := hfr9 2; have hf9_3 : w11.frozen? ⟨go9, (x4_1 : Int).toNat * 5 + 3, none⟩ = false := hfr9 3; have hf9_4 : w11.frozen? ⟨go9, (x4_1 : Int).toNat * 5 + 4, none⟩ = false := hfr9 4; clear hcl9 hcc9 hfr9 hM9; replace p9 := eq_true p9; replace q9 := eq_true q9; have HX12 := Aside0.mk (show Kd.N k31 31 w11 w.heap.size (fun k_ => (P0_ k_ ∨ w.heap.size ≤ k_)) (.slice (some ⟨go9, 0, none⟩) x3_1.length co10) x3_1 from (by (with_reducible repeat (first | apply Kd.N_alloc | apply Kd.N_drewN | apply Kd.N_drew)); exact Kd.N_mono HO_3.out (fun _ hk => hk.1))); obtain ⟨ce12, hcl12, hM12, hcc12, hfr12⟩ := Kd.N_elem HX12.out z31 (x4_1 : Int) (of_decide_eq_true (by first | (with_reducible assumption) | assumption)) (by have h_ : (x4_1 : Int) < ((x3_1.length : Int) : Int) := of_decide_eq_true (by first | (with_reducible assumption) | assumption); first | exact h_ | (have e_ := (Kd.N_reads' HO_3.out).1; omega) | simpa using h_); obtain ⟨ua12_3, uc12_3, rfl, ul12_3, ge12_3⟩ := k31_openF hM12; have HP12 := Kd.N_seg HX12.out (x4_1 : Int) (of_decide_eq_true (by first | (with_reducible assumption) | assumption)) (by have h_ : (x4_1 : Int) < ((x3_1.length : Int) : Int) := of_decide_eq_true (by first | (with_reducible assumption) | assumption); first | exact h_ | (have e_ := (Kd.N_reads' HO_3.out).1; omega) | simpa using h_) (seg := [v251]) (j := 3) hcl12 hcc12 (show 4 ≤ 5 from by decide) (x' := (⟨(rd_T31 x3_1 x4_1).f0, (rd_T31 x3_1 x4_1).f1, (rd_T31 x3_1 x4_1).f2, t250, (rd_T31 x3_1 x4_1).f4⟩ : S31)) (entry_mkFv _ _ (⟨(rd_T31 x3_1 x4_1).f0, (rd_T31 x3_1 x4_1).f1, (rd_T31 x3_1 x4_1).f2, t250, (rd_T31 x3_1 x4_1).f4⟩ : S31) _ (Kd.R_mono (ok' := (fun k_ => ((fun k_ => (P0_ k_ ∨ w.heap.size ≤ k_))) k_ ∧ k_ ≠ go9)) (Kd.R_apart' (HO252.out) (Kd.N_typed HO_3.out) (by decide)) (fun k_ hk => ⟨(.inr (hk.1.1)), fun e_ => (hk.2) (by rw [e_]; rfl)⟩))) (fun _ hk => hk); have hx12_3 := hcc12 3 _ rfl; (try simp only [show (k31).sz = 5 from rfl, Nat.mul_one, Nat.add_zero] at hx12_3); have hf12_3 := hfr12 3; (try simp only [show (k31).sz = 5 from rfl, Nat.mul_one, Nat.add_zero] at hf12_3); clear hcl12 hcc12 hfr12 hM12) | ((with_reducible refine gate_store (t := 29) (p := 23) rfl ?_); refine store_event (t := 29) (p := 23) (v := ?vo_w13) (w1 := (w11.setCell ⟨go9, (x4_1 : Int).toNat * 5 + 3, none⟩ (v251))) ?hg ?ho ?hn ?hr ?_; (case ho => rfl); (case hg => rfl); (case hn => rfl); (case hr => first | (obtain ⟨A_, c_, rfl⟩ := Kd.R_slice HO252.out; first | (go_simp; done) | (go_simp; rfl)) | (go_simp; done) | (go_simp; rfl)); intro w13 hw; have hg : w11.grownBy w13 (some go9) := (by rw [hw]; exact HP12.2); have hp_ : Kd.N k31 31 w13 w.heap.size (fun k_ => (P0_ k_ ∨ w.heap.size ≤ k_)) (.slice (some ⟨go9, 0, none⟩) x3_1.length co10) y253 := (by rw [hw, Ny253.out]; exact HP12.1); clear HP12; have n0_ := Aside0.mk (hp_); have n1_ := Aside0.mk (Kd.V_afterv (v := (.slice (some ⟨go9, 0, none⟩) x3_1.length co10)) (v1 := (.slice (some ⟨go9, 0, none⟩) x3_1.length co10)) (ok := (fun k_ => (P0_ k_ ∨ w.heap.size ≤ k_) ∧ some k_ ≠ (v251 : Value).ownBlock)) (by (with_reducible repeat (first | apply Kd.V_alloc | apply Kd.V_drewN | apply Kd.V_drew)); exact Kd.V_mono HL249_3.out (fun _ hk => ⟨⟨hk.1.1, hk.2⟩, hk.1.2⟩)) hg (.inl rfl)); have n2_ := Aside0.mk ((by rw [hw]; exact below_set (HB.out) GB9.out : Below w.heap.size w w13)); clear HO_3; clear HL249_3; clear HB; clear HO252; have HO_3 := n0_; have HL249_3 := n1_; have HB := n2_; clear n0_ n1_ n2_; clear hg hw hp_))
      go_roundg k1
      case measure => have := HK1.out; omega
      case rel => exact ⟨(y253), (wrap64 (x4_1 + 1)), (by first | rfl | (simp; done) | (simp [*]; done)), H', ⟨by have := HK1.out; omega⟩, ⟨by (with_reducible repeat (first | apply Kd.N_alloc | apply Kd.N_drewN | apply Kd.N_drew)); exact HO_3.out⟩, ⟨by repeat (first | (with_reducible first | exact HB.out | apply below_alloc | apply pw_below_drewN | apply below_drew1) | exact HB.out)⟩⟩
     ·rw [if_neg c7] at H
      exact absurd H (by simp)
    ·rw [if_neg c6] at H
     have c6b0 : decide (x4_1 < (x3_1.length : Int)) = false := decide_eq_false c6
     clear c6
     obtain rfl := Option.some.inj H
     obtain ⟨Ao14, co14, eo14⟩ := Kd.N_slice HO_3.out
     subst eo14
     go_wp2
     go_ret
     exact ⟨_, by first | rfl | (simp [errW_none, errW_some] <;> rfl) | (simp [*, errW_none, errW_some] <;> rfl) | (simp [bt, *]; done) | (simp_all [bt]; done), by (with_reducible repeat (first | apply Kd.N_alloc | apply Kd.N_drewN | apply Kd.N_drew)); exact HO_3.out, by repeat (first | (with_reducible first | exact HB.out | apply below_alloc | apply pw_below_drewN | apply below_drew1) | exact HB.out)⟩
 ·rw [if_neg c2] at H
  exact absurd H (by simp)

end Go.Proofs.Ytopkmchkfcjjmaa.X
end

/-! ## StringsliteHasPrefix -/
section
namespace Go.Proofs.Ytopkmchkfcjjmaa.X
open Go.RowKit Go.Proofs.YtopkmchkfcjjmaaW.PrintWords Go.Proofs.YtopkmchkfcjjmaaW.PrintLast Go.Proofs.YtopkmchkfcjjmaaW.PrintMore
attribute [local go_sem] max2_int min2_int max_two min_two max_three min_three max_four min_four   -- for this text's walks alone
set_option linter.unusedVariables false
set_option linter.unusedSimpArgs false

attribute [local go_sem] str_gtr fld_fault0 fld_fault1
/-! ### stringslite_HasPrefix: function 76 -/
def stringslite_HasPrefix.f (a0 : ByteArray) (a1 : ByteArray) : Option (Bool) := if (a0.size : Int) ≥ (a1.size : Int) then (if 0 ≤ (a1.size : Int) then (if (a1.size : Int) ≤ (a0.size : Int) then (some ((a0.extract 0 ((a1.size : Int) : Int).toNat).toList == a1.toList)) else (none)) else (none)) else (some false)
set_option maxHeartbeats 8000000 in
set_option maxRecDepth 100000 in
theorem stringslite_HasPrefix.calls (a0 : ByteArray) (a1 : ByteArray) (r : Bool) (w : World) (h : stringslite_HasPrefix.f a0 a1 = some r) :
  Calls Try.prog 76 #[.string a0, .string a1] w fun e w' => e = .returned (.bool r) ∧ Drawn0 w w' := by
 have H : (if (a0.size : Int) ≥ (a1.size : Int) then (if 0 ≤ (a1.size : Int) then (if (a1.size : Int) ≤ (a0.size : Int) then (some ((a0.extract 0 ((a1.size : Int) : Int).toNat).toList == a1.toList)) else (none)) else (none)) else (some false)) = some r := h
 clear h
 by_cases c3 : (a0.size : Int) ≥ (a1.size : Int)
 ·rw [if_pos c3] at H
  have c3b0 : decide ((a1.size : Int) ≤ (a0.size : Int)) = true := decide_eq_true c3
  have c3b1 : decide (a1.size ≤ a0.size) = true := decide_eq_true (Int.ofNat_le.mp c3)
  clear c3
  by_cases c4 : 0 ≤ (a1.size : Int)
  ·rw [if_pos c4] at H
   have c4b0 := eq_true c4
   have c4b1 : decide (0 ≤ (a1.size : Int)) = true := decide_eq_true c4
   clear c4
   by_cases c5 : (a1.size : Int) ≤ (a0.size : Int)
   ·rw [if_pos c5] at H
    have c5b0 := eq_true c5
    have c5b1 : decide ((a1.size : Int) ≤ (a0.size : Int)) = true := decide_eq_true c5
    clear c5
    obtain rfl := Option.some.inj H
    go_enter Try.func76, Try.ntmps76
    go_wp2
    go_ret
    exact ⟨by first | rfl | (simp; done) | (simp [*]; done), by repeat (first | exact Drawn0.refl _ | apply Drawn0.step)⟩
   ·rw [if_neg c5] at H
    exact absurd H (by simp)
  ·rw [if_neg c4] at H
   exact absurd H (by simp)
 ·rw [if_neg c3] at H
  have c3b0 : decide ((a1.size : Int) ≤ (a0.size : Int)) = false := decide_eq_false c3
  have c3b1 : decide (a1.size ≤ a0.size) = false := decide_eq_false (fun h => c3 (Int.ofNat_le.mpr h))
  clear c3
  obtain rfl := Option.some.inj H
  go_enter Try.func76, Try.ntmps76
  go_wp2
  go_ret
  exact ⟨by first | rfl | (simp; done) | (simp [*]; done), by repeat (first | exact Drawn0.refl _ | apply Drawn0.step)⟩

end Go.Proofs.Ytopkmchkfcjjmaa.X
end

/-! ## StringsHasPrefix -/
section
namespace Go.Proofs.Ytopkmchkfcjjmaa.X
open Go.RowKit Go.Proofs.YtopkmchkfcjjmaaW.PrintWords Go.Proofs.YtopkmchkfcjjmaaW.PrintLast Go.Proofs.YtopkmchkfcjjmaaW.PrintMore
attribute [local go_sem] max2_int min2_int max_two min_two max_three min_three max_four min_four   -- for this text's walks alone
set_option linter.unusedVariables false
set_option linter.unusedSimpArgs false

attribute [local go_sem] str_gtr fld_fault0 fld_fault1
/-! ### strings_HasPrefix: function 60 -/
def strings_HasPrefix.f (a0 : ByteArray) (a1 : ByteArray) : Option (Bool) := (stringslite_HasPrefix.f a0 a1).bind fun t525 => (some t525)
set_option maxHeartbeats 8000000 in
set_option maxRecDepth 100000 in
theorem strings_HasPrefix.calls (a0 : ByteArray) (a1 : ByteArray) (r : Bool) (w : World) (h : strings_HasPrefix.f a0 a1 = some r) :
  Calls Try.prog 60 #[.string a0, .string a1] w fun e w' => e = .returned (.bool r) ∧ Drawn0 w w' := by
 have H : ((stringslite_HasPrefix.f a0 a1).bind fun t525 => (some t525)) = some r := h
 clear h
 replace H := Option.bind_eq_some_iff.mp H
 obtain ⟨t525, A30, H⟩ := H
 replace H : (some t525) = some r := H
 have A3 := Aside0.mk A30
 clear A30
 obtain rfl := Option.some.inj H
 go_enter Try.func60, Try.ntmps60
 go_wp2_with (first | ((with_reducible refine gate_callee (f := 76) rfl ?_); refine goesL_ (some 7) rfl rfl Try.func76 (by kernel_rfl) rfl #[.string a0, .string a1] rfl (by (try simp only [List.map_toArray, List.map_cons, List.map_nil]); first | done | rfl | (simp only [List.length_drop, List.length_take]; rfl)) ?_; (with_reducible refine (stringslite_HasPrefix.calls a0 a1 t525 _ A3.out).mono ?_); rintro e w' ⟨rfl, ⟨nd, rfl⟩⟩; refine ⟨_, rfl, ?_⟩))
 go_ret
 exact ⟨by first | rfl | (simp; done) | (simp [*]; done), by repeat (first | exact Drawn0.refl _ | apply Drawn0.step)⟩

end Go.Proofs.Ytopkmchkfcjjmaa.X
end

/-! ## PathUnder -/
section
namespace Go.Proofs.Ytopkmchkfcjjmaa.X
open Go.RowKit Go.Proofs.YtopkmchkfcjjmaaW.PrintWords Go.Proofs.YtopkmchkfcjjmaaW.PrintLast Go.Proofs.YtopkmchkfcjjmaaW.PrintMore
attribute [local go_sem] max2_int min2_int max_two min_two max_three min_three max_four min_four   -- for this text's walks alone
set_option linter.unusedVariables false
set_option linter.unusedSimpArgs false

attribute [local go_sem] str_gtr fld_fault0 fld_fault1
/-! ### path_Under: function 37 -/
def path_Under.f (k : Nat) (a0 : ByteArray) (a1 : ByteArray) : Option (Bool) := (path_valid.f k a0).bind fun t526 => (if t526 = true then ((path_valid.f k a1).bind fun t527 => (if t527 = true then (if a1.size + 1 ≤ 9223372036854775807 then ((strings_HasPrefix.f a0 (a1 ++ (⟨#[47]⟩ : ByteArray))).bind fun t528 => (some t528)) else (none)) else (some false))) else (some false))
theorem path_Under.mono : ∀ a0 a1 k, LeO (path_Under.f k a0 a1) (path_Under.f (k + 1) a0 a1) := by
 intro a0 a1 k
 unfold path_Under.f
 repeat' first
   | (with_reducible exact path_valid.mono _ _)
   | (with_reducible exact LeO.refl _)
   | (with_reducible exact LeO.none _)
   | (with_reducible refine LeO.ite ?_ ?_)
   | (with_reducible refine LeO.bind ?_ (fun _ => ?_))
   | exact path_valid.mono _ _
   | exact LeO.none _
   | refine LeO.ite ?_ ?_
   | refine LeO.bind ?_ (fun _ => ?_)
set_option maxHeartbeats 8000000 in
set_option maxRecDepth 100000 in
theorem path_Under.calls (k : Nat) (a0 : ByteArray) (a1 : ByteArray) (r : Bool) (w : World) (h : path_Under.f k a0 a1 = some r) :
  Calls Try.prog 37 #[.string a0, .string a1] w fun e w' => e = .returned (.bool r) ∧ Below w.heap.size w w' := by
 have HB := Aside0.mk (Below.refl w.heap.size w)
 have H : ((path_valid.f k a0).bind fun t526 => (if t526 = true then ((path_valid.f k a1).bind fun t527 => (if t527 = true then (if a1.size + 1 ≤ 9223372036854775807 then ((strings_HasPrefix.f a0 (a1 ++ (⟨#[47]⟩ : ByteArray))).bind fun t528 => (some t528)) else (none)) else (some false))) else (some false))) = some r := h
 clear h
 replace H := Option.bind_eq_some_iff.mp H
 obtain ⟨t526, A30, H⟩ := H
 replace H : (if t526 = true then ((path_valid.f k a1).bind fun t527 => (if t527 = true then (if a1.size + 1 ≤ 9223372036854775807 then ((strings_HasPrefix.f a0 (a1 ++ (⟨#[47]⟩ : ByteArray))).bind fun t528 => (some t528)) else (none)) else (some false))) else (some false)) = some r := H
 have A3 := Aside0.mk A30
 clear A30
 by_cases c4 : t526 = true
 ·subst c4
  have H1 : ((path_valid.f k a1).bind fun t527 => (if t527 = true then (if a1.size + 1 ≤ 9223372036854775807 then ((strings_HasPrefix.f a0 (a1 ++ (⟨#[47]⟩ : ByteArray))).bind fun t528 => (some t528)) else (none)) else (some false))) = some r := by rw [if_pos rfl] at H; exact H
  clear H
  have H := H1
  clear H1
  replace H := Option.bind_eq_some_iff.mp H
  obtain ⟨t527, A50, H⟩ := H
  replace H : (if t527 = true then (if a1.size + 1 ≤ 9223372036854775807 then ((strings_HasPrefix.f a0 (a1 ++ (⟨#[47]⟩ : ByteArray))).bind fun t528 => (some t528)) else (none)) else (some false)) = some r := H
  have A5 := Aside0.mk A50
  clear A50
  by_cases c6 : t527 = true
  ·subst c6
   have H1 : (if a1.size + 1 ≤ 9223372036854775807 then ((strings_HasPrefix.f a0 (a1 ++ (⟨#[47]⟩ : ByteArray))).bind fun t528 => (some t528)) else (none)) = some r := by rw [if_pos rfl] at H; exact H
   clear H
   have H := H1
   clear H1
   by_cases c7 : a1.size + 1 ≤ 9223372036854775807
   ·rw [if_pos c7] at H
    have c7b0 := eq_true c7
    have c7b1 : decide (a1.size + 1 ≤ 9223372036854775807) = true := decide_eq_true c7
    try have c7b2 : (9223372036854775807 < a1.size + 1) = False := eq_false (Nat.not_lt.2 c7)
    replace H := Option.bind_eq_some_iff.mp H
    obtain ⟨t528, A80, H⟩ := H
    replace H : (some t528) = some r := H
    have A8 := Aside0.mk A80
    clear A80
    obtain rfl := Option.some.inj H
    go_enter Try.func37, Try.ntmps37
    go_wp2_with (first | ((with_reducible refine gate_callee (f := 43) rfl ?_); refine goesL_ (some 6) rfl rfl Try.func43 (by kernel_rfl) rfl #[.string a0] rfl (by (try simp only [List.map_toArray, List.map_cons, List.map_nil]); first | done | rfl | (simp only [List.length_drop, List.length_take]; rfl)) ?_; (with_reducible refine (path_valid.calls k a0 true _ A3.out).mono ?_); rintro e w9 ⟨rfl, hb⟩; refine ⟨_, rfl, ?_⟩; have n0_ := Aside0.mk (below_step (by repeat (first | (with_reducible first | exact HB.out | apply below_alloc | apply pw_below_drewN | apply below_drew1) | exact HB.out)) hb); clear HB; have HB := n0_; clear n0_; (try clear hb); (try clear hb2); (try clear hk); (try clear hi)) | (go_at_call 43; (with_reducible refine (path_valid.calls k a1 true _ A5.out).mono ?_); rintro e w10 ⟨rfl, hb⟩; have n0_ := Aside0.mk (below_step (by repeat (first | (with_reducible first | exact HB.out | apply below_alloc | apply pw_below_drewN | apply below_drew1) | exact HB.out)) hb); clear HB; have HB := n0_; clear n0_; (try clear hb); (try clear hb2); (try clear hk); (try clear hi)) | (go_at_call 60; (with_reducible refine (strings_HasPrefix.calls a0 (a1 ++ (⟨#[47]⟩ : ByteArray)) t528 _ A8.out).mono ?_); rintro e w' ⟨rfl, ⟨nd, rfl⟩⟩))
    go_ret
    exact ⟨by first | rfl | (simp [errW_none, errW_some] <;> rfl) | (simp [*, errW_none, errW_some] <;> rfl) | (simp [bt, *]; done) | (simp_all [bt]; done), by repeat (first | (with_reducible first | exact HB.out | apply below_alloc | apply pw_below_drewN | apply below_drew1) | exact HB.out)⟩
   ·rw [if_neg c7] at H
    exact absurd H (by simp)
  ·replace c6 := Bool.eq_false_iff.mpr c6
   subst c6
   have H1 : (some false) = some r := by rw [if_neg (show ¬ (false = true) by decide)] at H; exact H
   clear H
   have H := H1
   clear H1
   obtain rfl := Option.some.inj H
   go_enter Try.func37, Try.ntmps37
   go_wp2_with (first | ((with_reducible refine gate_callee (f := 43) rfl ?_); refine goesL_ (some 6) rfl rfl Try.func43 (by kernel_rfl) rfl #[.string a0] rfl (by (try simp only [List.map_toArray, List.map_cons, List.map_nil]); first | done | rfl | (simp only [List.length_drop, List.length_take]; rfl)) ?_; (with_reducible refine (path_valid.calls k a0 true _ A3.out).mono ?_); rintro e w11 ⟨rfl, hb⟩; refine ⟨_, rfl, ?_⟩; have n0_ := Aside0.mk (below_step (by repeat (first | (with_reducible first | exact HB.out | apply below_alloc | apply pw_below_drewN | apply below_drew1) | exact HB.out)) hb); clear HB; have HB := n0_; clear n0_; (try clear hb); (try clear hb2); (try clear hk); (try clear hi)) | (go_at_call 43; (with_reducible refine (path_valid.calls k a1 false _ A5.out).mono ?_); rintro e w12 ⟨rfl, hb⟩; have n0_ := Aside0.mk (below_step (by repeat (first | (with_reducible first | exact HB.out | apply below_alloc | apply pw_below_drewN | apply below_drew1) | exact HB.out)) hb); clear HB; have HB := n0_; clear n0_; (try clear hb); (try clear hb2); (try clear hk); (try clear hi)))
   go_ret
   exact ⟨by first | rfl | (simp [errW_none, errW_some] <;> rfl) | (simp [*, errW_none, errW_some] <;> rfl) | (simp [bt, *]; done) | (simp_all [bt]; done), by repeat (first | (with_reducible first | exact HB.out | apply below_alloc | apply pw_below_drewN | apply below_drew1) | exact HB.out)⟩
 ·replace c4 := Bool.eq_false_iff.mpr c4
  subst c4
  have H1 : (some false) = some r := by rw [if_neg (show ¬ (false = true) by decide)] at H; exact H
  clear H
  have H := H1
  clear H1
  obtain rfl := Option.some.inj H
  go_enter Try.func37, Try.ntmps37
  go_wp2_with (first | ((with_reducible refine gate_callee (f := 43) rfl ?_); refine goesL_ (some 6) rfl rfl Try.func43 (by kernel_rfl) rfl #[.string a0] rfl (by (try simp only [List.map_toArray, List.map_cons, List.map_nil]); first | done | rfl | (simp only [List.length_drop, List.length_take]; rfl)) ?_; (with_reducible refine (path_valid.calls k a0 false _ A3.out).mono ?_); rintro e w13 ⟨rfl, hb⟩; refine ⟨_, rfl, ?_⟩; have n0_ := Aside0.mk (below_step (by repeat (first | (with_reducible first | exact HB.out | apply below_alloc | apply pw_below_drewN | apply below_drew1) | exact HB.out)) hb); clear HB; have HB := n0_; clear n0_; (try clear hb); (try clear hb2); (try clear hk); (try clear hi)))
  go_ret
  exact ⟨by first | rfl | (simp [errW_none, errW_some] <;> rfl) | (simp [*, errW_none, errW_some] <;> rfl) | (simp [bt, *]; done) | (simp_all [bt]; done), by repeat (first | (with_reducible first | exact HB.out | apply below_alloc | apply pw_below_drewN | apply below_drew1) | exact HB.out)⟩

end Go.Proofs.Ytopkmchkfcjjmaa.X
end

/-! ## TreeDrop -/
section
namespace Go.Proofs.Ytopkmchkfcjjmaa.X
open Go.RowKit Go.Proofs.YtopkmchkfcjjmaaW.PrintWords Go.Proofs.YtopkmchkfcjjmaaW.PrintLast Go.Proofs.YtopkmchkfcjjmaaW.PrintMore
attribute [local go_sem] max2_int min2_int max_two min_two max_three min_three max_four min_four   -- for this text's walks alone
set_option linter.unusedVariables false
set_option linter.unusedSimpArgs false

attribute [local go_sem] str_gtr fld_fault0 fld_fault1
/-! ### tree_Drop: function 32 -/
/-- Is an entry dropped with a path? -/
def goneOf (k : Nat) (s : ByteArray) (x : S31) : Option Bool := if x.f0.toList = s.toList then some true else path_Under.f k x.f0 s
theorem goneOf_mono (k : Nat) (s : ByteArray) (x : S31) : LeO (goneOf k s x) (goneOf (k + 1) s x) := by
 unfold goneOf
 exact LeO.ite (LeO.refl _) (path_Under.mono _ _ _)
def isGone (k : Nat) (s : ByteArray) (x : S31) : Bool := (goneOf k s x).getD false
def keptOf (k : Nat) (l : List (S31)) (s : ByteArray) : Option (List (S31)) := if l.all (fun x => (goneOf k s x).isSome) = true then some (l.filter fun x => !isGone k s x) else none
theorem keptOf_mono (k : Nat) (l : List (S31)) (s : ByteArray) : LeO (keptOf k l s) (keptOf (k + 1) l s) := by
 intro r h
 unfold keptOf at h ⊢
 split at h
 ·rename_i h1
  have h2 : ∀ x, x ∈ l → goneOf (k + 1) s x = goneOf k s x := by
   intro x hx
   have h3 := List.all_eq_true.mp h1 x hx
   obtain ⟨b, hb⟩ := Option.isSome_iff_exists.1 h3
   rw [hb]
   exact goneOf_mono k s x _ hb
  have h4 : l.all (fun x => (goneOf (k + 1) s x).isSome) = true := by
   refine List.all_eq_true.mpr fun x hx => ?_
   rw [h2 x hx]
   exact List.all_eq_true.mp h1 x hx
  rw [if_pos h4, ← h]
  congr 1
  refine List.filter_congr fun x hx => ?_
  unfold isGone
  rw [h2 x hx]
 ·cases h
theorem zeroCells_succ (z : Array Value) (m : Nat) (hz : 0 < z.size) : (Builtin.zeroCells z (m + 1)).toList = z.toList ++ (Builtin.zeroCells z m).toList := by
 apply List.ext_getElem?
 intro i
 simp only [Builtin.zeroCells, Array.toList_map, Array.toList_range, List.getElem?_map, List.getElem?_append]
 have hs : (m + 1) * z.size = z.size + m * z.size := by rw [Nat.succ_mul, Nat.add_comm]
 rcases Nat.lt_or_ge i z.size with h1 | h1
 ·rw [if_pos (by simpa using h1), List.getElem?_range (by omega)]
  simp [Nat.mod_eq_of_lt h1, h1]
 ·rw [if_neg (by simpa using h1)]
  rcases Nat.lt_or_ge i (z.size + m * z.size) with h2 | h2
  ·rw [List.getElem?_range (by omega), List.getElem?_range (by simp; omega)]
   simp only [Option.map_some, Array.length_toList, Option.some.injEq]
   rw [Nat.mod_eq_sub_mod h1]
  ·rw [List.getElem?_eq_none (by simp; omega), List.getElem?_eq_none (by simp; omega)]
theorem setCells_append (b : Nat) : ∀ (l1 l2 : List Value) (o : Nat) (w : World), World.setCells w b o (l1 ++ l2) = World.setCells (World.setCells w b o l1) b (o + l1.length) l2
 | [], _, _, _ => rfl
 | v :: r, l2, o, w => by
  rw [List.cons_append, World.setCells, World.setCells, setCells_append b r l2 (o + 1), List.length_cons, show o + 1 + r.length = o + (r.length + 1) by omega]
/-- The cells of element i, all at once. -/
theorem entryN_set {W : World} {base n cap g i : Nat} {ok : Nat → Prop} {xs : List (S31)} (h : Kd.N k31 31 W base ok (.slice (some ⟨g, 0, none⟩) n cap) xs) (hi : i < n) {x : S31} {seg : List Value} (hF : Kd.FK k31 W (fun k => ok k ∧ k ≠ g) x seg) :
  Kd.N k31 31 (W.setCells g (i * 5) seg) base ok (.slice (some ⟨g, 0, none⟩) n cap) (xs.set i x) ∧ W.grownBy (W.setCells g (i * 5) seg) (some g) := by
 obtain ⟨c, hcl, _, hcc, _⟩ := Kd.N_elem h z31 (i : Int) (by omega) (by omega)
 have hl : seg.length = k31.sz := k31.K_len (Kd.FK_now hF)
 have hs : c.take 0 ++ seg ++ c.drop (0 + seg.length) = seg := by
  rw [Nat.zero_add, hl, ← hcl, List.drop_length]
  simp
 have := Kd.N_seg h (i : Int) (by omega) (by omega) (seg := seg) (j := 0) hcl hcc (by omega) (x' := x) (by rw [hs]; exact hF) (fun _ hk => hk)
 exact (by simpa using this : Kd.N k31 31 (W.setCells g (i * k31.sz) seg) base ok (.slice (some ⟨g, 0, none⟩) n cap) (xs.set i x) ∧ W.grownBy (W.setCells g (i * k31.sz) seg) (some g))
/-- The zero entry's cells. -/
def zeroEntry : Array Value := #[.string ⟨#[]⟩, .int .i64 0, .int .i64 0, .slice none 0 0, .string ⟨#[]⟩]
theorem zeroEntry_F (W : World) (ok : Nat → Prop) : Kd.FK k31 W ok z31 zeroEntry.toList := k31_mkF W ok z31 (A3 := none) (c3 := 0) (Nat.le_refl _) (Kd.F_nil _ _ _)
theorem entryN_zero {base n cap g : Nat} {ok : Nat → Prop} : ∀ (m i : Nat) (W : World) (xs : List (S31)), Kd.N k31 31 W base ok (.slice (some ⟨g, 0, none⟩) n cap) xs → i + m = n →
  Kd.N k31 31 (W.setCells g (i * 5) (Builtin.zeroCells zeroEntry m).toList) base ok (.slice (some ⟨g, 0, none⟩) n cap) (xs.take i ++ List.replicate m z31) ∧ W.grownBy (W.setCells g (i * 5) (Builtin.zeroCells zeroEntry m).toList) (some g)
 | 0, i, W, xs, h, he => by
  have hl := (Kd.N_reads' h).1
  have e1 : (Builtin.zeroCells zeroEntry 0).toList = [] := by simp [Builtin.zeroCells]
  rw [e1, show i = xs.length by omega, List.take_length]
  exact ⟨by simpa [World.setCells] using h, World.grownBy.refl _ _⟩
 | m + 1, i, W, xs, h, he => by
  have hl := (Kd.N_reads' h).1
  obtain ⟨h1, g1⟩ := entryN_set h (show i < n by omega) (zeroEntry_F W (fun k => ok k ∧ k ≠ g))
  obtain ⟨h2, g2⟩ := entryN_zero m (i + 1) _ _ h1 (by omega)
  rw [zeroCells_succ zeroEntry m (by decide), setCells_append]
  have e1 : i * 5 + zeroEntry.toList.length = (i + 1) * 5 := by show i * 5 + 5 = _; omega
  rw [e1]
  have e2 : (xs.set i z31).take (i + 1) ++ List.replicate m z31 = xs.take i ++ List.replicate (m + 1) z31 := by
   rw [List.take_add_one, List.take_set_of_le (Nat.le_refl i), List.getElem?_set_self (by omega)]
   simp [List.replicate_succ]
  rw [e2] at h2
  exact ⟨h2, g1.trans g2⟩
theorem entryN_clear (w : World) (ty : TypeId) {base n cap g i : Nat} {ok : Nat → Prop} {xs : List (S31)} (h : Kd.N k31 31 w base ok (.slice (some ⟨g, 0, none⟩) n cap) xs) (hi : i < n) (c : Nat) :
  (Builtin.clear_ #[22] ty #[.slice (some ⟨g, i * 5, none⟩) (n - i) c]).run Try.prog w = .ok (.tuple #[]) (w.setCells g (i * 5) (Builtin.zeroCells zeroEntry (n - i)).toList) := by
 have hv : ∀ w, (zeroValue 31).run Try.prog w = .ok (.agg zeroEntry) w := fun w => rfl
 have hl : (Builtin.zeroCells zeroEntry (n - i)).toList.length = (n - i) * 5 := by simp [Builtin.zeroCells]; rfl
 have hat : ∀ j, j < (n - i) * 5 → (w.cell? ⟨g, i * 5 + j, none⟩).isSome = true ∧ w.frozen? ⟨g, i * 5 + j, none⟩ = false := by
  intro j hj
  obtain ⟨c, hcl, _, hcc, hfr⟩ := Kd.N_elem h z31 ((i + j / 5 : Nat) : Int) (by omega) (by omega)
  have hcl' : c.length = 5 := hcl
  have h1 := hcc (j % 5) _ (List.getElem?_eq_getElem (by omega))
  have h2 := hfr (j % 5)
  have e : ((i + j / 5 : Nat) : Int).toNat * k31.sz + j % 5 = i * 5 + j := by
   show ((i + j / 5 : Nat) : Int).toNat * 5 + j % 5 = i * 5 + j
   rw [Int.toNat_natCast]; omega
  rw [e] at h1 h2
  exact ⟨by rw [h1]; rfl, h2⟩
 have hst := run_storeCells_cells (P := Try.prog) g (i * 5) (Builtin.zeroCells zeroEntry (n - i)).toList 0 w (by intro j hj; rw [hl] at hj; rw [Nat.add_zero]; exact (hat j hj).1) (by intro j hj; rw [hl] at hj; rw [Nat.add_zero]; exact (hat j hj).2) (by
  intro v hv'
  simp only [Builtin.zeroCells, Array.toList_map, List.mem_map] at hv'
  obtain ⟨q, _, rfl⟩ := hv'
  have hq : q % zeroEntry.size < 5 := Nat.mod_lt _ (by decide)
  generalize q % zeroEntry.size = y at hq
  match y, hq with
  | 0, _ => rfl
  | 1, _ => rfl
  | 2, _ => rfl
  | 3, _ => rfl
  | 4, _ => rfl)
 rw [Nat.add_zero] at hst
 obtain ⟨m, hm⟩ : ∃ m, n - i = m + 1 := ⟨n - i - 1, by omega⟩
 rw [hm] at hst ⊢
 simp [Builtin.clear_, run_underlying Try.underlying22, hv, Value.cells, hst]
set_option maxHeartbeats 2000000 in
set_option maxRecDepth 100000 in
theorem tree_Drop1.calls (k : Nat) (x : S31) (v3 : Value) (s : ByteArray) (sb : Nat) (r : Bool) (w : World) (hv : v3.oneCell' = true) (hbx : w.heap[sb]? = some (.cells #[.string s] 9 (0, 0))) (h : goneOf k s x = some r) :
  Calls Try.prog 58 #[.agg #[.string x.f0, .int .i64 x.f1, .int .i64 x.f2, v3, .string x.f4], .pointer (some ⟨sb, 0, none⟩)] w fun e w' => e = .returned (.bool r) ∧ Below w.heap.size w w' := by
 have hc : ∀ o, (w.alloc o).cell? ⟨sb, 0, none⟩ = some (.string s) := fun o => blk_cell (blk_alloc hbx o) 0
 unfold goneOf at h
 by_cases c1 : x.f0.toList = s.toList
 ·rw [if_pos c1] at h
  obtain rfl := Option.some.inj h
  clear h hbx
  have c1b0 : (x.f0.toList == s.toList) = true := beq_iff_eq.mpr c1
  clear c1
  go_enter Try.func58, Try.ntmps58
  go_wp2
  go_ret
  exact ⟨rfl, by repeat (first | (with_reducible first | exact Below.refl _ _ | apply below_alloc | apply pw_below_drewN | apply below_drew1) | exact Below.refl _ _)⟩
 ·rw [if_neg c1] at h
  have H := Aside0.mk h
  clear h hbx
  have c1b0 : (x.f0.toList == s.toList) = false := beq_eq_false_iff_ne.mpr c1
  clear c1
  go_enter Try.func58, Try.ntmps58
  go_wp2_with (go_at_call 37; refine (path_Under.calls k _ _ _ _ H.out).mono ?_; rintro e w1 ⟨rfl, hb⟩; have HB := Aside0.mk hb; clear hb)
  go_ret
  exact ⟨rfl, below_then ((Below.refl _ w).alloc (Nat.le_refl _) _) (by simp) HB.out⟩
set_option maxHeartbeats 4000000 in
set_option maxRecDepth 100000 in
theorem slices_IndexFunc.calls (k : Nat) (A0 : Option Addr) (c0 : Nat) (l0 : List (S31)) (s : ByteArray) (sb : Nat) (w : World) (hr0 : Kd.C k31 w A0 l0.length l0) (hc0 : l0.length ≤ c0) (hlen : l0.length < 1152921504606846976) (hbx : w.heap[sb]? = some (.cells #[.string s] 9 (0, 0))) (hall : ∀ x ∈ l0, goneOf k s x = some (isGone k s x)) :
  Calls Try.prog 75 #[.slice A0 l0.length c0, .func (.func 58) #[] #[.pointer (some ⟨sb, 0, none⟩)]] w fun e w' => ((∃ i : Nat, i < l0.length ∧ isGone k s (rd_T31 l0 (i : Int)) = true ∧ (∀ j : Nat, j < i → isGone k s (rd_T31 l0 (j : Int)) = false) ∧ e = .returned (.int .i64 (i : Int))) ∨ ((∀ j : Nat, j < l0.length → isGone k s (rd_T31 l0 (j : Int)) = false) ∧ e = .returned (.int .i64 (-1)))) ∧ Below w.heap.size w w' := by
 have HR0 := Aside0.mk hr0
 have HX := Aside0.mk hbx
 have HALL := Aside0.mk hall
 clear hr0 hbx hall
 go_enter Try.func75, Try.ntmps75
 go_wp2
 go_loopw [8] (fun v8 wr => ∃ (i : Nat), v8 = .int .i64 (i : Int) ∧ i ≤ l0.length ∧ Aside0 (∀ j : Nat, j < i → isGone k s (rd_T31 l0 (j : Int)) = false) ∧ Aside0 (Below w.heap.size w wr)) (fun v8 _ => l0.length - (intOf v8).toNat)
 case atStart => exact ⟨0, rfl, by omega, ⟨fun j hj => by omega⟩, ⟨Below.refl _ _⟩⟩
 case round =>
  obtain ⟨i, rfl, hil, HJ, HB⟩ := hrel
  by_cases c1 : i < l0.length
  ·have d1 : decide (i < l0.length) = true := decide_eq_true c1
   have p : (0 : Int) ≤ (i : Int) := by omega
   have q : (i : Int) < (l0.length : Int) := by omega
   obtain ⟨ad, A3, c3, e, hx0, hx1, hx2, hx3, hx4, hl3, hi3⟩ := at_T31 (Kd.C_below HR0.out HB.out) _ p q
   cases e
   rw [Int.toNat_natCast] at hx0 hx1 hx2 hx3 hx4
   clear hl3 hi3
   have HG := Aside0.mk (HALL.out (rd_T31 l0 (i : Int)) (by
    unfold rd_T31
    rw [Int.toNat_natCast, List.getD_eq_getElem?_getD, List.getElem?_eq_getElem c1]
    exact List.getElem_mem _))
   obtain ⟨b, hb0⟩ : ∃ b, isGone k s (rd_T31 l0 (i : Int)) = b := ⟨_, rfl⟩
   rw [hb0] at HG
   cases b with
   | false =>
    go_wp2_with (go_at_call 58; refine (tree_Drop1.calls k (rd_T31 l0 (i : Int)) _ s sb false _ rfl (blk_below HX.out HB.out) HG.out).mono ?_; rintro e w2 ⟨rfl, hb⟩; have HB2 := Aside0.mk (below_then HB.out HB.out.size hb); clear hb HB)
    go_roundw
    case rel => exact ⟨i + 1, by congr 1, by omega, ⟨fun j hj => by
     rcases Nat.lt_or_ge j i with h1 | h1
     ·exact HJ.out j h1
     ·rw [show j = i by omega]; exact hb0⟩, HB2⟩
    case measure => simp [intOf]; omega
   | true =>
    go_wp2_with (go_at_call 58; refine (tree_Drop1.calls k (rd_T31 l0 (i : Int)) _ s sb true _ rfl (blk_below HX.out HB.out) HG.out).mono ?_; rintro e w2 ⟨rfl, hb⟩; have HB2 := Aside0.mk (below_then HB.out HB.out.size hb); clear hb HB)
    go_ret
    exact ⟨.inl ⟨i, c1, hb0, HJ.out, rfl⟩, HB2.out⟩
  ·have d1 : decide (i < l0.length) = false := decide_eq_false c1
   go_wp2
   go_ret
   exact ⟨.inr ⟨fun j hj => HJ.out j (by omega), rfl⟩, HB.out⟩
theorem isGone_at (k : Nat) (s : ByteArray) (l0 : List (S31)) (i : Nat) (h : i < l0.length) : rd_T31 l0 (i : Int) = l0[i] := by
 unfold rd_T31
 rw [Int.toNat_natCast, List.getD_eq_getElem?_getD, List.getElem?_eq_getElem h]
 rfl
theorem slices_IndexFunc.at_ (k : Nat) (A0 : Option Addr) (c0 : Nat) (l0 : List (S31)) (s : ByteArray) (sb : Nat) (i : Nat) (w : World) (hr0 : Kd.C k31 w A0 l0.length l0) (hc0 : l0.length ≤ c0) (hlen : l0.length < 1152921504606846976) (hbx : w.heap[sb]? = some (.cells #[.string s] 9 (0, 0))) (hall : ∀ x ∈ l0, goneOf k s x = some (isGone k s x))
  (h1 : i < l0.length) (h2 : isGone k s (rd_T31 l0 (i : Int)) = true) (h3 : ∀ j : Nat, j < i → isGone k s (rd_T31 l0 (j : Int)) = false) :
  Calls Try.prog 75 #[.slice A0 l0.length c0, .func (.func 58) #[] #[.pointer (some ⟨sb, 0, none⟩)]] w fun e w' => e = .returned (.int .i64 (i : Int)) ∧ Below w.heap.size w w' := by
 refine (slices_IndexFunc.calls k A0 c0 l0 s sb w hr0 hc0 hlen hbx hall).mono ?_
 rintro e w1 ⟨⟨i1, h4, h5, h6, rfl⟩ | ⟨h4, rfl⟩, hb⟩
 ·rcases Nat.lt_trichotomy i i1 with h7 | h7 | h7
  ·rw [h6 i h7] at h2; cases h2
  ·rw [h7]; exact ⟨rfl, hb⟩
  ·rw [h3 i1 h7] at h5; cases h5
 ·rw [h4 i h1] at h2; cases h2
theorem slices_IndexFunc.none_ (k : Nat) (A0 : Option Addr) (c0 : Nat) (l0 : List (S31)) (s : ByteArray) (sb : Nat) (w : World) (hr0 : Kd.C k31 w A0 l0.length l0) (hc0 : l0.length ≤ c0) (hlen : l0.length < 1152921504606846976) (hbx : w.heap[sb]? = some (.cells #[.string s] 9 (0, 0))) (hall : ∀ x ∈ l0, goneOf k s x = some (isGone k s x))
  (h3 : ∀ j : Nat, j < l0.length → isGone k s (rd_T31 l0 (j : Int)) = false) :
  Calls Try.prog 75 #[.slice A0 l0.length c0, .func (.func 58) #[] #[.pointer (some ⟨sb, 0, none⟩)]] w fun e w' => e = .returned (.int .i64 (-1)) ∧ Below w.heap.size w w' := by
 refine (slices_IndexFunc.calls k A0 c0 l0 s sb w hr0 hc0 hlen hbx hall).mono ?_
 rintro e w1 ⟨⟨i1, h4, h5, h6, rfl⟩ | ⟨h4, rfl⟩, hb⟩
 ·rw [h3 i1 h4] at h5; cases h5
 ·exact ⟨rfl, hb⟩
theorem firstGone (k : Nat) (s : ByteArray) (l0 : List (S31)) : (∀ j : Nat, j < l0.length → isGone k s (rd_T31 l0 (j : Int)) = false) ∨ ∃ i : Nat, i < l0.length ∧ isGone k s (rd_T31 l0 (i : Int)) = true ∧ ∀ j : Nat, j < i → isGone k s (rd_T31 l0 (j : Int)) = false := by
 have h : ∀ n, n ≤ l0.length → (∀ j : Nat, j < n → isGone k s (rd_T31 l0 (j : Int)) = false) ∨ ∃ i : Nat, i < l0.length ∧ isGone k s (rd_T31 l0 (i : Int)) = true ∧ ∀ j : Nat, j < i → isGone k s (rd_T31 l0 (j : Int)) = false := by
  intro n
  induction n with
  | zero => exact fun _ => .inl fun j hj => by omega
  | succ n ih =>
   intro hn
   rcases ih (by omega) with h | h
   ·cases hg : isGone k s (rd_T31 l0 (n : Int)) with
    | true => exact .inr ⟨n, by omega, hg, h⟩
    | false =>
     refine .inl fun j hj => ?_
     rcases Nat.lt_or_ge j n with h1 | h1
     ·exact h j h1
     ·rw [show j = n by omega]; exact hg
   ·exact .inr h
 exact h _ (Nat.le_refl _)
/-- What stands at the round's start: i are kept of the first j. -/
structure Kept_ (k : Nat) (s : ByteArray) (l0 cur : List (S31)) (i j : Nat) : Prop where
 len : cur.length = l0.length
 ij : i < j
 jn : j ≤ l0.length
 front : cur.take i = (l0.take j).filter fun x => !isGone k s x
 back : cur.drop j = l0.drop j
theorem Kept_.start {k : Nat} {s : ByteArray} {l0 : List (S31)} {i : Nat} (h1 : i < l0.length) (h2 : isGone k s (rd_T31 l0 (i : Int)) = true) (h3 : ∀ j : Nat, j < i → isGone k s (rd_T31 l0 (j : Int)) = false) : Kept_ k s l0 l0 i (i + 1) := by
 refine ⟨rfl, by omega, by omega, ?_, rfl⟩
 rw [isGone_at k s l0 i h1] at h2
 rw [List.take_add_one, List.getElem?_eq_getElem h1, List.filter_append]
 have e1 : (l0.take i).filter (fun x => !isGone k s x) = l0.take i := by
  refine List.filter_eq_self.2 fun x hx => ?_
  obtain ⟨j, hj, rfl⟩ := List.getElem_of_mem hx
  rw [List.length_take] at hj
  rw [List.getElem_take, ← isGone_at k s l0 j (by omega), h3 j (by omega)]
  rfl
 rw [e1]
 simp [h2]
theorem Kept_.at_ {k : Nat} {s : ByteArray} {l0 cur : List (S31)} {i j : Nat} (h : Kept_ k s l0 cur i j) (hj : j < l0.length) : cur[j]? = l0[j]? := by
 have h1 := congrArg (fun l => l[0]?) h.back
 simpa [List.getElem?_drop] using h1
theorem Kept_.skip {k : Nat} {s : ByteArray} {l0 cur : List (S31)} {i j : Nat} (h : Kept_ k s l0 cur i j) (hj : j < l0.length) (hg : isGone k s (rd_T31 l0 (j : Int)) = true) : Kept_ k s l0 cur i (j + 1) := by
 have h1 := h.ij
 refine ⟨h.len, by omega, by omega, ?_, ?_⟩
 ·rw [isGone_at k s l0 j hj] at hg
  rw [h.front, List.take_add_one, List.getElem?_eq_getElem hj, List.filter_append]
  simp [hg]
 ·rw [← List.drop_drop, ← List.drop_drop, h.back]
theorem Kept_.keep {k : Nat} {s : ByteArray} {l0 cur : List (S31)} {i j : Nat} (h : Kept_ k s l0 cur i j) (hj : j < l0.length) (hg : isGone k s (rd_T31 l0 (j : Int)) = false) : Kept_ k s l0 (cur.set i (rd_T31 l0 (j : Int))) (i + 1) (j + 1) := by
 have h1 := h.ij
 have h2 := h.len
 rw [isGone_at k s l0 j hj] at hg ⊢
 refine ⟨by simpa using h.len, by omega, by omega, ?_, ?_⟩
 ·rw [List.take_add_one, List.take_set_of_le (Nat.le_refl i), List.getElem?_set_self (by omega), h.front, List.take_add_one, List.getElem?_eq_getElem hj, List.filter_append]
  simp [hg]
 ·rw [List.drop_set_of_lt (by omega), ← List.drop_drop, ← List.drop_drop, h.back]
theorem wrap_small (i : Nat) (h : i < 1152921504606846976) : wrap64 ((i : Int) + 1) = ((i + 1 : Nat) : Int) := by
 unfold wrap64
 omega
set_option maxHeartbeats 8000000 in
set_option maxRecDepth 100000 in
theorem slices_DeleteFunc.calls (k base : Nat) (P : Nat → Prop) (A0 : Option Addr) (c0 : Nat) (l0 : List (S31)) (s : ByteArray) (sb : Nat) (r : List (S31)) (w : World) (ho : Kd.N k31 31 w base P (.slice A0 l0.length c0) l0) (hsb : sb < base) (hbase : base ≤ w.heap.size) (hlen : l0.length < 1152921504606846976) (hbx : w.heap[sb]? = some (.cells #[.string s] 9 (0, 0))) (h : keptOf k l0 s = some r) :
  Calls Try.prog 57 #[.slice A0 l0.length c0, .func (.func 58) #[] #[.pointer (some ⟨sb, 0, none⟩)]] w fun e w' => ∃ v0_ : Value, e = .returned v0_ ∧ Kd.N k31 31 w' base P v0_ r ∧ Below base w w' := by
 have hall : ∀ x ∈ l0, goneOf k s x = some (isGone k s x) := by
  intro x hx
  unfold keptOf at h
  split at h
  ·rename_i h1
   obtain ⟨b, hb⟩ := Option.isSome_iff_exists.1 (List.all_eq_true.mp h1 x hx)
   unfold isGone
   rw [hb]; rfl
  ·cases h
 have hr : l0.filter (fun x => !isGone k s x) = r := by
  unfold keptOf at h
  split at h
  ·exact Option.some.inj h
  ·cases h
 clear h
 have hc0 := (Kd.N_reads' ho).2.1
 have HO := Aside0.mk ho
 have HX := Aside0.mk hbx
 have HALL := Aside0.mk hall
 have HR := Aside0.mk hr
 clear ho hbx hall hr
 rcases firstGone k s l0 with hn | ⟨i0, hi1, hi2, hi3⟩
 ·have HN := Aside0.mk hn
  clear hn
  go_enter Try.func57, Try.ntmps57
  go_wp2_with (go_at_call 75; refine (slices_IndexFunc.none_ k A0 c0 l0 s sb _ (Kd.N_reads' HO.out).2.2 hc0 hlen HX.out HALL.out HN.out).mono ?_; rintro e w1 ⟨rfl, hb⟩; have HB := Aside0.mk hb; clear hb)
  go_ret
  refine ⟨_, rfl, ?_, HB.out.mono hbase⟩
  have e1 : r = l0 := by
   rw [← HR.out]
   refine List.filter_eq_self.2 fun x hx => ?_
   obtain ⟨j, hj, rfl⟩ := List.getElem_of_mem hx
   rw [← isGone_at k s l0 j hj, HN.out j hj]
   rfl
  rw [e1]
  exact Kd.N_below HO.out HB.out
 ·have HI2 := Aside0.mk hi2
  have HI3 := Aside0.mk hi3
  have hK0 : Kept_ k s l0 l0 i0 (i0 + 1) := Kept_.start hi1 hi2 hi3
  have HK0 := Aside0.mk hK0
  clear hi2 hi3 hK0
  obtain ⟨g, cap, eA, hgb, hgl, _⟩ := Kd.N_form HO.out (by omega)
  injection eA with ea en ec
  subst ea ec
  clear en
  have d0 : ((i0 : Int) == -1) = false := beq_eq_false_iff_ne.mpr (by omega)
  go_enter Try.func57, Try.ntmps57
  go_wp2_with (go_at_call 75; refine (slices_IndexFunc.at_ k _ c0 l0 s sb i0 _ (Kd.N_reads' HO.out).2.2 hc0 hlen HX.out HALL.out hi1 HI2.out HI3.out).mono ?_; rintro e w1 ⟨rfl, hb⟩; have HB := Aside0.mk hb; clear hb)
  have HO1 := Aside0.mk (Kd.N_below HO.out HB.out)
  have HB1 := Aside0.mk (HB.out.mono hbase)
  go_loopw [5, 6] (fun v5 v6 wr => ∃ (i j : Nat) (cur : List (S31)), v5 = .int .i64 (i : Int) ∧ v6 = .int .i64 (j : Int) ∧ Aside0 (Kept_ k s l0 cur i j) ∧ Aside0 (Kd.N k31 31 wr base P (.slice (some ⟨g, 0, none⟩) l0.length c0) cur) ∧ Aside0 (Below base w wr)) (fun _ v6 _ => l0.length - (intOf v6).toNat)
  case atStart => exact ⟨i0, i0 + 1, l0, rfl, by congr 1, HK0, HO1, HB1⟩
  case round =>
   clear HO1 HB1 HB HI2 HI3 HK0 d0
   obtain ⟨i, j, cur, rfl, rfl, HK, HO1, HB1⟩ := hrel
   have hij : i < j := HK.out.ij
   have hjn : j ≤ l0.length := HK.out.jn
   have HX1 := Aside0.mk ((HB1.out.block sb hsb).trans HX.out)
   have HS1 := Aside0.mk (Nat.le_trans hbase HB1.out.size)
   by_cases c1 : j < l0.length
   ·have d1 : decide (j < l0.length) = true := decide_eq_true c1
    have p : (0 : Int) ≤ (j : Int) := Int.natCast_nonneg j
    have q : (j : Int) < (l0.length : Int) := Int.ofNat_lt.2 c1
    obtain ⟨c, hcl, hM, hcc, hfr⟩ := Kd.N_elem HO1.out z31 (j : Int) p q
    have hxx : cur.getD ((j : Int)).toNat z31 = rd_T31 l0 (j : Int) := by
     rw [isGone_at k s l0 j c1, Int.toNat_natCast, List.getD_eq_getElem?_getD, HK.out.at_ c1, List.getElem?_eq_getElem c1]
     rfl
    rw [hxx] at hM
    clear hxx hfr hcl
    obtain ⟨ua, uc, rfl, ul, ge⟩ := k31_openF hM
    rw [Int.toNat_natCast] at hcc
    have HM := Aside0.mk hM
    have hx0 : wr.cell? ⟨g, j * 5, none⟩ = some (.string (rd_T31 l0 (j : Int)).f0) := hcc 0 _ rfl
    have hx1 : wr.cell? ⟨g, j * 5 + 1, none⟩ = some (.int .i64 (rd_T31 l0 (j : Int)).f1) := hcc 1 _ rfl
    have hx2 : wr.cell? ⟨g, j * 5 + 2, none⟩ = some (.int .i64 (rd_T31 l0 (j : Int)).f2) := hcc 2 _ rfl
    have hx3 : wr.cell? ⟨g, j * 5 + 3, none⟩ = some (.slice ua (rd_T31 l0 (j : Int)).f3.length uc) := hcc 3 _ rfl
    have hx4 : wr.cell? ⟨g, j * 5 + 4, none⟩ = some (.string (rd_T31 l0 (j : Int)).f4) := hcc 4 _ rfl
    clear hcc hM ul ge
    have HG := Aside0.mk (HALL.out (rd_T31 l0 (j : Int)) (by rw [isGone_at k s l0 j c1]; exact List.getElem_mem _))
    obtain ⟨b, hb0⟩ : ∃ b, isGone k s (rd_T31 l0 (j : Int)) = b := ⟨_, rfl⟩
    rw [hb0] at HG
    cases b with
    | true =>
     go_wp2_with (first | ((with_reducible refine gate_dst (N := 7) rfl ?_); refine box_event ?hg (N := 7) ?hd (cs := #[.string (⟨#[]⟩ : ByteArray), .int .i64 0, .int .i64 0, .slice none 0 0, .string (⟨#[]⟩ : ByteArray)]) (t := 31) ?hr ?_; (case hd => rfl); (case hg => rfl); (case hr => first | (go_simp; done) | (go_simp; rfl)); intro gb hg w9 hbox hb; have HBr := Aside0.mk hb; have BK := Aside0.mk hbox; have GE := Aside0.mk (show wr.heap.size ≤ gb by rw [hg]; exact Nat.le_refl _); clear hb hbox hg; have hcz0 : w9.cell? ⟨gb, 0, none⟩ = some (.string (⟨#[]⟩ : ByteArray)) := (blk_cell BK.out 0).trans rfl; have hfz0 := blk_frozen BK.out 0; have hcz1 : w9.cell? ⟨gb, 1, none⟩ = some (.int .i64 0) := (blk_cell BK.out 1).trans rfl; have hfz1 := blk_frozen BK.out 1; have hcz2 : w9.cell? ⟨gb, 2, none⟩ = some (.int .i64 0) := (blk_cell BK.out 2).trans rfl; have hfz2 := blk_frozen BK.out 2; have hcz3 : w9.cell? ⟨gb, 3, none⟩ = some (.slice none 0 0) := (blk_cell BK.out 3).trans rfl; have hfz3 := blk_frozen BK.out 3; have hcz4 : w9.cell? ⟨gb, 4, none⟩ = some (.string (⟨#[]⟩ : ByteArray)) := (blk_cell BK.out 4).trans rfl; have hfz4 := blk_frozen BK.out 4) | (go_at_call 58; refine (tree_Drop1.calls k (rd_T31 l0 (j : Int)) _ s sb true _ rfl (blk_below HX1.out (show Below wr.heap.size wr _ from (by repeat (with_reducible first | exact HBr.out | refine below_set ?_ GE.out)))) HG.out).mono ?_; rintro e w2 ⟨rfl, hb⟩; have n0_ := Aside0.mk (blk_below (g := gb) (o := .cells #[.string (rd_T31 l0 (j : Int)).f0, .int .i64 (rd_T31 l0 (j : Int)).f1, .int .i64 (rd_T31 l0 (j : Int)).f2, .slice ua (rd_T31 l0 (j : Int)).f3.length uc, .string (rd_T31 l0 (j : Int)).f4] 31 (0, 0)) (by refine blk_put (cs := #[.string (rd_T31 l0 (j : Int)).f0, .int .i64 (rd_T31 l0 (j : Int)).f1, .int .i64 (rd_T31 l0 (j : Int)).f2, .slice ua (rd_T31 l0 (j : Int)).f3.length uc, .string (⟨#[]⟩ : ByteArray)]) ?_ 4 _ rfl; refine blk_put (cs := #[.string (rd_T31 l0 (j : Int)).f0, .int .i64 (rd_T31 l0 (j : Int)).f1, .int .i64 (rd_T31 l0 (j : Int)).f2, .slice none 0 0, .string (⟨#[]⟩ : ByteArray)]) ?_ 3 _ rfl; refine blk_put (cs := #[.string (rd_T31 l0 (j : Int)).f0, .int .i64 (rd_T31 l0 (j : Int)).f1, .int .i64 0, .slice none 0 0, .string (⟨#[]⟩ : ByteArray)]) ?_ 2 _ rfl; refine blk_put (cs := #[.string (rd_T31 l0 (j : Int)).f0, .int .i64 0, .int .i64 0, .slice none 0 0, .string (⟨#[]⟩ : ByteArray)]) ?_ 1 _ rfl; refine blk_put (cs := #[.string (⟨#[]⟩ : ByteArray), .int .i64 0, .int .i64 0, .slice none 0 0, .string (⟨#[]⟩ : ByteArray)]) ?_ 0 _ rfl; with_reducible exact BK.out) hb); have n1_ := Aside0.mk (show Below wr.heap.size wr w2 from below_step (by repeat (with_reducible first | exact HBr.out | refine below_set ?_ GE.out)) hb); clear BK HBr hb; have BK := n0_; have HBr := n1_; clear n0_ n1_))
     go_roundw
     case rel => exact ⟨i, j + 1, cur, rfl, by congr 1, ⟨HK.out.skip c1 hb0⟩, ⟨Kd.N_below HO1.out HBr.out⟩, ⟨HB1.out.trans (HBr.out.mono HS1.out)⟩⟩
     case measure => simp [intOf]; omega
    | false =>
     go_wp2_with (first | ((with_reducible refine gate_dst (N := 7) rfl ?_); refine box_event ?hg (N := 7) ?hd (cs := #[.string (⟨#[]⟩ : ByteArray), .int .i64 0, .int .i64 0, .slice none 0 0, .string (⟨#[]⟩ : ByteArray)]) (t := 31) ?hr ?_; (case hd => rfl); (case hg => rfl); (case hr => first | (go_simp; done) | (go_simp; rfl)); intro gb hg w9 hbox hb; have HBr := Aside0.mk hb; have BK := Aside0.mk hbox; have GE := Aside0.mk (show wr.heap.size ≤ gb by rw [hg]; exact Nat.le_refl _); clear hb hbox hg; have hcz0 : w9.cell? ⟨gb, 0, none⟩ = some (.string (⟨#[]⟩ : ByteArray)) := (blk_cell BK.out 0).trans rfl; have hfz0 := blk_frozen BK.out 0; have hcz1 : w9.cell? ⟨gb, 1, none⟩ = some (.int .i64 0) := (blk_cell BK.out 1).trans rfl; have hfz1 := blk_frozen BK.out 1; have hcz2 : w9.cell? ⟨gb, 2, none⟩ = some (.int .i64 0) := (blk_cell BK.out 2).trans rfl; have hfz2 := blk_frozen BK.out 2; have hcz3 : w9.cell? ⟨gb, 3, none⟩ = some (.slice none 0 0) := (blk_cell BK.out 3).trans rfl; have hfz3 := blk_frozen BK.out 3; have hcz4 : w9.cell? ⟨gb, 4, none⟩ = some (.string (⟨#[]⟩ : ByteArray)) := (blk_cell BK.out 4).trans rfl; have hfz4 := blk_frozen BK.out 4) | (go_at_call 58; refine (tree_Drop1.calls k (rd_T31 l0 (j : Int)) _ s sb false _ rfl (blk_below HX1.out (show Below wr.heap.size wr _ from (by repeat (with_reducible first | exact HBr.out | refine below_set ?_ GE.out)))) HG.out).mono ?_; rintro e w2 ⟨rfl, hb⟩; have n0_ := Aside0.mk (blk_below (g := gb) (o := .cells #[.string (rd_T31 l0 (j : Int)).f0, .int .i64 (rd_T31 l0 (j : Int)).f1, .int .i64 (rd_T31 l0 (j : Int)).f2, .slice ua (rd_T31 l0 (j : Int)).f3.length uc, .string (rd_T31 l0 (j : Int)).f4] 31 (0, 0)) (by refine blk_put (cs := #[.string (rd_T31 l0 (j : Int)).f0, .int .i64 (rd_T31 l0 (j : Int)).f1, .int .i64 (rd_T31 l0 (j : Int)).f2, .slice ua (rd_T31 l0 (j : Int)).f3.length uc, .string (⟨#[]⟩ : ByteArray)]) ?_ 4 _ rfl; refine blk_put (cs := #[.string (rd_T31 l0 (j : Int)).f0, .int .i64 (rd_T31 l0 (j : Int)).f1, .int .i64 (rd_T31 l0 (j : Int)).f2, .slice none 0 0, .string (⟨#[]⟩ : ByteArray)]) ?_ 3 _ rfl; refine blk_put (cs := #[.string (rd_T31 l0 (j : Int)).f0, .int .i64 (rd_T31 l0 (j : Int)).f1, .int .i64 0, .slice none 0 0, .string (⟨#[]⟩ : ByteArray)]) ?_ 2 _ rfl; refine blk_put (cs := #[.string (rd_T31 l0 (j : Int)).f0, .int .i64 0, .int .i64 0, .slice none 0 0, .string (⟨#[]⟩ : ByteArray)]) ?_ 1 _ rfl; refine blk_put (cs := #[.string (⟨#[]⟩ : ByteArray), .int .i64 0, .int .i64 0, .slice none 0 0, .string (⟨#[]⟩ : ByteArray)]) ?_ 0 _ rfl; with_reducible exact BK.out) hb); have n1_ := Aside0.mk (show Below wr.heap.size wr w2 from below_step (by repeat (with_reducible first | exact HBr.out | refine below_set ?_ GE.out)) hb); clear BK HBr hb; have BK := n0_; have HBr := n1_; clear n0_ n1_; have HO2 := Aside0.mk (Kd.N_below HO1.out HBr.out); obtain ⟨c2, hcl2, hM2, hcc2, hfr2⟩ := Kd.N_elem HO2.out z31 (i : Int) (by omega) (by omega); obtain ⟨ua2, uc2, rfl, ul2, ge2⟩ := k31_openF hM2; rw [Int.toNat_natCast] at hcc2 hfr2; have hy0 := hcc2 0 _ rfl; have hf0 := hfr2 0; have hy1 := hcc2 1 _ rfl; have hf1 := hfr2 1; have hy2 := hcc2 2 _ rfl; have hf2 := hfr2 2; have hy3 := hcc2 3 _ rfl; have hf3 := hfr2 3; have hy4 := hcc2 4 _ rfl; have hf4 := hfr2 4; simp only [show k31.sz = 5 from rfl, Nat.add_zero] at hy0 hy1 hy2 hy3 hy4 hf0 hf1 hf2 hf3 hf4; clear hcc2 hfr2 hM2 ul2 ge2 hcl2; have hcy0 : w2.cell? ⟨gb, 0, none⟩ = some (.string (rd_T31 l0 (j : Int)).f0) := (blk_cell BK.out 0).trans rfl; have hcy1 : w2.cell? ⟨gb, 1, none⟩ = some (.int .i64 (rd_T31 l0 (j : Int)).f1) := (blk_cell BK.out 1).trans rfl; have hcy2 : w2.cell? ⟨gb, 2, none⟩ = some (.int .i64 (rd_T31 l0 (j : Int)).f2) := (blk_cell BK.out 2).trans rfl; have hcy3 : w2.cell? ⟨gb, 3, none⟩ = some (.slice ua (rd_T31 l0 (j : Int)).f3.length uc) := (blk_cell BK.out 3).trans rfl; have hcy4 : w2.cell? ⟨gb, 4, none⟩ = some (.string (rd_T31 l0 (j : Int)).f4) := (blk_cell BK.out 4).trans rfl) | ((with_reducible refine gate_store (t := 31) (p := 33) rfl ?_); refine store_event (t := 31) (p := 33) (v := ?vo_) (w1 := (((((w2.setCell ⟨g, i * 5, none⟩ (.string (rd_T31 l0 (j : Int)).f0)).setCell ⟨g, i * 5 + 1, none⟩ (.int .i64 (rd_T31 l0 (j : Int)).f1)).setCell ⟨g, i * 5 + 2, none⟩ (.int .i64 (rd_T31 l0 (j : Int)).f2)).setCell ⟨g, i * 5 + 3, none⟩ (.slice ua (rd_T31 l0 (j : Int)).f3.length uc)).setCell ⟨g, i * 5 + 4, none⟩ (.string (rd_T31 l0 (j : Int)).f4))) ?hg ?ho ?hn ?hr ?_; (case ho => rfl); (case hg => rfl); (case hn => rfl); (case hr => first | (go_simp; done) | (go_simp; rfl)); intro w3 hw; obtain ⟨hN3, hG3⟩ := entryN_set HO2.out (show i < l0.length by omega) (x := (rd_T31 l0 (j : Int))) (seg := [.string (rd_T31 l0 (j : Int)).f0, .int .i64 (rd_T31 l0 (j : Int)).f1, .int .i64 (rd_T31 l0 (j : Int)).f2, .slice ua (rd_T31 l0 (j : Int)).f3.length uc, .string (rd_T31 l0 (j : Int)).f4]) (Kd.FK_below HM.out HBr.out); have HO3 := Aside0.mk (by rw [hw]; exact hN3 : Kd.N k31 31 w3 base P (.slice (some ⟨g, 0, none⟩) l0.length c0) (cur.set i (rd_T31 l0 (j : Int)))); have HB3 := Aside0.mk (show Below base w w3 by rw [hw]; exact (((((HB1.out.trans (HBr.out.mono HS1.out)).setCell hgb _).setCell hgb _).setCell hgb _).setCell hgb _).setCell hgb _); clear hN3 hG3 hw))
     go_roundw
     case rel => exact ⟨i + 1, j + 1, _, by congr 1, by congr 1, ⟨HK.out.keep c1 hb0⟩, HO3, HB3⟩
     case measure => simp [intOf]; omega
   ·have d1 : decide (j < l0.length) = false := decide_eq_false c1
    have hin : i < l0.length := by omega
    obtain ⟨hNz, hGz⟩ := entryN_zero (l0.length - i) i wr cur HO1.out (by omega)
    have HNz := Aside0.mk hNz
    have HGz := Aside0.mk hGz
    clear hNz hGz
    have hclr := entryN_clear wr 0 HO1.out hin (c0 - i)
    have h5 : i ≤ c0 := by omega
    go_wp2
    go_ret
    refine ⟨_, rfl, ?_, ?_⟩
    ·have e1 : r = (cur.take i ++ List.replicate (l0.length - i) z31).take i := by
      have e2 : (cur.take i).length = i := by rw [List.length_take, HK.out.len]; omega
      rw [List.take_append_of_le_length (by omega), List.take_of_length_le (by omega), HK.out.front, ← HR.out, show j = l0.length by omega, List.take_length]
     have e3 := Kd.N_take HNz.out (m := i) (by rw [List.length_append, List.length_take, HK.out.len, List.length_replicate]; omega)
     rw [e1]
     exact e3
    ·exact HB1.out.grown HGz.out HS1.out (fun k hk => by injection hk with hk; omega)
def tree_Drop.f (k : Nat) (l0 : List (S31)) (a1 : ByteArray) : Option ((List (S31)) × Int) :=
 (tree_Check.f k l0).bind fun c => if c.1 = 0 then ((tree_place.f k l0 a1).bind fun p => if p.2 = true then ((api_Entry_55.f l0).bind fun x => (keptOf k x a1).bind fun y => (tree_clone.f k y).bind fun z => some (z, 0)) else some ([], 6)) else some ([], c.1)
theorem tree_Drop.mono : ∀ l0 a1 k, LeO (tree_Drop.f k l0 a1) (tree_Drop.f (k + 1) l0 a1) := by
 intro l0 a1 k
 unfold tree_Drop.f
 exact LeO.bind (tree_Check.mono _ _) fun _ => LeO.ite (LeO.bind (tree_place.mono _ _ _) fun _ => LeO.ite (LeO.bind (LeO.refl _) fun _ => LeO.bind (keptOf_mono _ _ _) fun _ => LeO.bind (tree_clone.mono _ _) fun _ => LeO.refl _) (LeO.refl _)) (LeO.refl _)
set_option maxHeartbeats 8000000 in
set_option maxRecDepth 100000 in
theorem tree_Drop.calls (k : Nat) (A0 : Option Addr) (c0 : Nat) (l0 : List (S31)) (a1 : ByteArray) (r1 : List (S31)) (r2 : Int) (w : World) (hr0 : Kd.C k31 w A0 l0.length l0) (hc0 : l0.length ≤ c0) (h : tree_Drop.f k l0 a1 = some (r1, r2)) :
  Calls Try.prog 32 #[.slice A0 l0.length c0, .string a1] w fun e w' => ∃ v0_ : Value, e = .returned (.tuple #[v0_, .int .i64 r2]) ∧ Kd.S k31 31 w' w.heap.size (fun _ => True) v0_ r1 ∧ Below w.heap.size w w' := by
 obtain ⟨P0_, hs0⟩ : ∃ P0_ : Nat → Prop, Kd.V k31 31 w w.heap.size (fun k_ => P0_ k_) (.slice A0 l0.length c0) l0 := ⟨fun k => k < w.heap.size, Kd.V_mk hc0 (Kd.C_F k31_heap hr0)⟩
 clear hr0
 have HS := Aside0.mk hs0
 clear hs0
 unfold tree_Drop.f at h
 obtain ⟨⟨e1, e2⟩, hchk, h⟩ := Option.bind_eq_some_iff.mp h
 replace h : (if e1 = 0 then ((tree_place.f k l0 a1).bind fun p => if p.2 = true then ((api_Entry_55.f l0).bind fun x => (keptOf k x a1).bind fun y => (tree_clone.f k y).bind fun z => some (z, 0)) else some ([], 6)) else some ([], e1)) = some (r1, r2) := h
 have HC := Aside0.mk hchk
 clear hchk
 by_cases c1 : e1 = 0
 ·rw [if_pos c1] at h
  subst c1
  obtain ⟨⟨p1, p2⟩, hpl, h⟩ := Option.bind_eq_some_iff.mp h
  replace h : (if p2 = true then ((api_Entry_55.f l0).bind fun x => (keptOf k x a1).bind fun y => (tree_clone.f k y).bind fun z => some (z, 0)) else some ([], 6)) = some (r1, r2) := h
  have HP := Aside0.mk hpl
  clear hpl
  by_cases c2 : p2 = true
  ·rw [if_pos c2] at h
   subst c2
   obtain ⟨x, hx, h⟩ := Option.bind_eq_some_iff.mp h
   obtain ⟨y, hy, h⟩ := Option.bind_eq_some_iff.mp h
   obtain ⟨z, hz, h⟩ := Option.bind_eq_some_iff.mp h
   obtain ⟨rfl, rfl⟩ := Prod.mk.inj (Option.some.inj h)
   have HX := Aside0.mk hx
   have HY := Aside0.mk hy
   have HZ := Aside0.mk hz
   have hxl : x = l0 ∧ l0.length < 1152921504606846976 := by
    unfold api_Entry_55.f at hx
    split at hx
    ·exact ⟨(Option.some.inj hx).symm, by omega⟩
    ·cases hx
   obtain ⟨rfl, hlen⟩ := hxl
   have HLEN := Aside0.mk hlen
   clear h hx hy hz hlen
   have HB := Aside0.mk (Below.refl w.heap.size w)
   go_enter Try.func32, Try.ntmps32
   go_wp2_with (first
    | ((with_reducible refine gate_dst (N := 3) rfl ?_); refine box_event ?hg (N := 3) ?hd (cs := #[.string a1]) (t := 9) ?hr ?_; (case hd => rfl); (case hg => rfl); (case hr => first | (go_simp; done) | (go_simp; rfl)); intro gb hg w1 hbox hb; have HB1 := Aside0.mk hb; have BK := Aside0.mk hbox; have GE := Aside0.mk hg; have hsz := Aside0.mk (blk_lt hbox); clear hb hbox hg; have hcz : w1.cell? ⟨gb, 0, none⟩ = some (.string a1) := (blk_cell BK.out 0).trans rfl)
    | (go_at_call 11; refine (tree_Check.calls k A0 c0 _ 0 e2 _ (Kd.V_reads' (Kd.V_below HS.out HB1.out)).2.2 hc0 HC.out).mono ?_; rintro e w2 ⟨rfl, hb⟩; have HB2 := Aside0.mk (below_step HB1.out hb); have BK2 := Aside0.mk (blk_below BK.out hb); clear hb hcz; have hcz : w2.cell? ⟨gb, 0, none⟩ = some (.string a1) := (blk_cell BK2.out 0).trans rfl)
    | (go_at_call 40; refine (tree_place.calls k A0 c0 _ a1 p1 true _ (Kd.V_reads' (Kd.V_below HS.out HB2.out)).2.2 hc0 HP.out).mono ?_; rintro e w3 ⟨rfl, hb⟩; have HB3 := Aside0.mk (below_step HB2.out hb); have BK3 := Aside0.mk (blk_below BK2.out hb); clear hb hcz; have hcz : w3.cell? ⟨gb, 0, none⟩ = some (.string a1) := (blk_cell BK3.out 0).trans rfl)
    | (go_at_call 55; refine (api_Entry_55.calls P0_ A0 c0 _ x _ (Kd.V_map (Kd.V_below HS.out HB3.out) (fun _ hf => hf)) HX.out).mono ?_; rintro e w4 ⟨v4, rfl, hN4, hb⟩; have HB4 := Aside0.mk (below_step HB3.out hb); have BK4 := Aside0.mk (blk_below BK3.out hb); have HN4 := Aside0.mk hN4; obtain ⟨A4, c4, rfl⟩ := Kd.N_slice hN4; clear hb hcz hN4; have hcz : w4.cell? ⟨gb, 0, none⟩ = some (.string a1) := (blk_cell BK4.out 0).trans rfl)
    | (go_at_call 57; refine (slices_DeleteFunc.calls k (gb + 1) (fun k_ => P0_ k_ ∨ w.heap.size ≤ k_) A4 c4 x a1 gb y _ (Kd.N_lower (Kd.N_mono HN4.out (fun k_ hk => hk.imp id (fun hk => Nat.le_trans HB3.out.size hk))) (Nat.succ_le_of_lt (blk_lt BK3.out))) (Nat.lt_succ_self _) (Nat.succ_le_of_lt (blk_lt BK4.out)) HLEN.out BK4.out HY.out).mono ?_; rintro e w5 ⟨v5, rfl, hN5, hb⟩; have HB5 := Aside0.mk (HB4.out.trans (hb.mono (Nat.le_of_lt (Nat.lt_succ_of_le (by rw [GE.out]; exact Nat.le_refl _))))); have HN5 := Aside0.mk hN5; obtain ⟨A5, c5, rfl⟩ := Kd.N_slice hN5; clear hb hcz hN5)
    | (go_at_call 41; refine (tree_clone.calls k A5 c5 y z _ (Kd.N_reads' HN5.out).2.2 (Kd.N_reads' HN5.out).2.1 HZ.out).mono ?_; rintro e w6 ⟨v6, rfl, hN6, hb⟩; have HB6 := Aside0.mk (below_step HB5.out hb); have HN6 := Aside0.mk (Kd.S_lower hN6 HB5.out.size); clear hb hN6))
   go_ret2
   exact ⟨_, rfl, HN6.out, HB6.out⟩
  ·rw [if_neg c2] at h
   have c3 : p2 = false := by simpa using c2
   subst c3
   obtain ⟨rfl, rfl⟩ := Prod.mk.inj (Option.some.inj h)
   clear h c2
   have HB := Aside0.mk (Below.refl w.heap.size w)
   go_enter Try.func32, Try.ntmps32
   go_wp2_with (first
    | ((with_reducible refine gate_dst (N := 3) rfl ?_); refine box_event ?hg (N := 3) ?hd (cs := #[.string a1]) (t := 9) ?hr ?_; (case hd => rfl); (case hg => rfl); (case hr => first | (go_simp; done) | (go_simp; rfl)); intro gb hg w1 hbox hb; have HB1 := Aside0.mk hb; have BK := Aside0.mk hbox; have GE := Aside0.mk hg; have hsz := Aside0.mk (blk_lt hbox); clear hb hbox hg; have hcz : w1.cell? ⟨gb, 0, none⟩ = some (.string a1) := (blk_cell BK.out 0).trans rfl)
    | (go_at_call 11; refine (tree_Check.calls k A0 c0 _ 0 e2 _ (Kd.V_reads' (Kd.V_below HS.out HB1.out)).2.2 hc0 HC.out).mono ?_; rintro e w2 ⟨rfl, hb⟩; have HB2 := Aside0.mk (below_step HB1.out hb); have BK2 := Aside0.mk (blk_below BK.out hb); clear hb hcz; have hcz : w2.cell? ⟨gb, 0, none⟩ = some (.string a1) := (blk_cell BK2.out 0).trans rfl)
    | (go_at_call 40; refine (tree_place.calls k A0 c0 _ a1 p1 false _ (Kd.V_reads' (Kd.V_below HS.out HB2.out)).2.2 hc0 HP.out).mono ?_; rintro e w3 ⟨rfl, hb⟩; have HB3 := Aside0.mk (below_step HB2.out hb); have BK3 := Aside0.mk (blk_below BK2.out hb); clear hb hcz; have hcz : w3.cell? ⟨gb, 0, none⟩ = some (.string a1) := (blk_cell BK3.out 0).trans rfl))
   go_ret2
   exact ⟨_, rfl, Kd.S_nil _ _ _ _ _, HB3.out⟩
 ·rw [if_neg c1] at h
  obtain ⟨rfl, rfl⟩ := Prod.mk.inj (Option.some.inj h)
  clear h
  have c1b : (e1 != 0) = true := bne_iff_ne.mpr c1
  have HB := Aside0.mk (Below.refl w.heap.size w)
  go_enter Try.func32, Try.ntmps32
  go_wp2_with (first
   | ((with_reducible refine gate_dst (N := 3) rfl ?_); refine box_event ?hg (N := 3) ?hd (cs := #[.string a1]) (t := 9) ?hr ?_; (case hd => rfl); (case hg => rfl); (case hr => first | (go_simp; done) | (go_simp; rfl)); intro gb hg w1 hbox hb; have HB1 := Aside0.mk hb; have BK := Aside0.mk hbox; have GE := Aside0.mk hg; have hsz := Aside0.mk (blk_lt hbox); clear hb hbox hg; have hcz : w1.cell? ⟨gb, 0, none⟩ = some (.string a1) := (blk_cell BK.out 0).trans rfl)
   | (go_at_call 11; refine (tree_Check.calls k A0 c0 _ e1 e2 _ (Kd.V_reads' (Kd.V_below HS.out HB1.out)).2.2 hc0 HC.out).mono ?_; rintro e w2 ⟨rfl, hb⟩; have HB2 := Aside0.mk (below_step HB1.out hb); have BK2 := Aside0.mk (blk_below BK.out hb); clear hb hcz; have hcz : w2.cell? ⟨gb, 0, none⟩ = some (.string a1) := (blk_cell BK2.out 0).trans rfl))
  go_ret2
  exact ⟨_, rfl, Kd.S_nil _ _ _ _ _, HB2.out⟩

end Go.Proofs.Ytopkmchkfcjjmaa.X
end

/-! ## Satchellaw08Sample -/
section
namespace Go.Proofs.Ytopkmchkfcjjmaa.X
open Go.RowKit Go.Proofs.YtopkmchkfcjjmaaW.PrintWords Go.Proofs.YtopkmchkfcjjmaaW.PrintLast Go.Proofs.YtopkmchkfcjjmaaW.PrintMore
attribute [local go_sem] max2_int min2_int max_two min_two max_three min_three max_four min_four   -- for this text's walks alone
set_option linter.unusedVariables false
set_option linter.unusedSimpArgs false

attribute [local go_sem] str_gtr fld_fault0 fld_fault1
/-! ### satchellaw08_sample: function 35 -/
def sampleTree : List S31 := [⟨⟨#[97]⟩, 1, 493, [], ⟨#[]⟩⟩, ⟨⟨#[97, 47, 98]⟩, 2, 420, [120], ⟨#[]⟩⟩, ⟨⟨#[99]⟩, 3, 0, [], ⟨#[97, 47, 98]⟩⟩]
def satchellaw08_sample.f : Option (List S31) := some sampleTree
/-- []byte("x"): a block that is marked behind its end. -/
theorem cv_lit (b n c : Nat) (cs : Array Value) (t : TypeId) (fr : Nat × Nat) (W : World) (h : W.heap[b]? = some (.cells cs t fr)) :
  (convert 29 29 (.slice (some ⟨b, 0, none⟩) n c)).run Try.prog W = .ok (.slice (some ⟨b, 0, none⟩) n c) (W.freeze ⟨b, cs.size, none⟩ 1) := by
 simp [convert, run_underlying Try.underlying29, run_underlying Try.underlying5, markStringish, Sem.run_bind, shape, freeze, Sem.run, World.shape?, h, Result.andThen]
theorem freeze_below {B : Nat} {w W : World} (h : Below B w W) (a : Addr) (n : Nat) (ha : B ≤ a.block) : Below B w (W.freeze a n) := by
 unfold World.freeze
 split
 ·exact h
 ·refine ⟨h.os, h.tape, h.output, by simpa using h.size, fun i hi => ?_⟩
  have hne : a.block ≠ i := by omega
  simp only [Array.getElem?_modify, if_neg hne]
  exact h.block i hi
/-- A row of one byte that is only read. -/
theorem one_byte (W : World) (b : Nat) (x : Int) (t : TypeId) (fr : Nat × Nat) (ok : Nat → Prop) (hb : ok b) (h : W.heap[b]? = some (.cells #[.int .u8 x] t fr)) : Kd.F (Kd.int .u8) W ok (some ⟨b, 0, none⟩) ([x] : List Int).length [x] := by
 intro W' hW
 have h' : W'.heap[b]? = some (.cells #[.int .u8 x] t fr) := (hW b hb (Array.getElem?_eq_some_iff.1 h).1).trans h
 refine ⟨rfl, by simp, fun _ => ⟨_, rfl, fun j p hj => ?_⟩⟩
 obtain ⟨hlt, rfl⟩ := List.getElem?_eq_some_iff.1 hj
 have hj0 : j = 0 := by simpa using hlt
 subst hj0
 refine ⟨[.int .u8 x], rfl, rfl, fun i u hu => ?_⟩
 obtain ⟨hi, rfl⟩ := List.getElem?_eq_some_iff.1 hu
 have hi0 : i = 0 := by simpa using hi
 subst hi0
 simp [World.cell?, Addr.add, h']
set_option maxHeartbeats 2000000 in
set_option maxRecDepth 100000 in
theorem satchellaw08_sample.calls  (r : List (S31)) (w : World) (h : satchellaw08_sample.f  = some r) :
  Calls Try.prog 35 #[] w fun e w' => ∃ v0_ : Value, e = .returned (v0_) ∧ Kd.N k31 31 w' w.heap.size (fun k_ => (w.heap.size ≤ k_)) v0_ r ∧ Below w.heap.size w w' := by
 obtain rfl := Option.some.inj h
 clear h
 have hu31 := Try.underlying31
 obtain ⟨w1, hw1⟩ : ∃ w1, (w.alloc (.cells #[.int .u8 120] 5)).freeze ⟨w.heap.size, 1, none⟩ 1 = w1 := ⟨_, rfl⟩
 have hcv := cv_lit w.heap.size 1 1 #[.int .u8 120] 5 (0, 0) (w.alloc (.cells #[.int .u8 120] 5)) (heap_alloc_new w _)
 replace hcv : (convert 29 29 (.slice (some ⟨w.heap.size, 0, none⟩) 1 1)).run Try.prog (w.alloc (.cells #[.int .u8 120] 5)) = .ok (.slice (some ⟨w.heap.size, 0, none⟩) 1 1) w1 := by rw [← hw1]; exact hcv
 have HB := Aside0.mk (show Below w.heap.size w w1 by rw [← hw1]; exact freeze_below ((Below.refl _ w).alloc (Nat.le_refl _) _) _ _ (Nat.le_refl _))
 have HF := Aside0.mk (show Kd.F (Kd.int .u8) w1 (fun k => w.heap.size ≤ k) (some ⟨w.heap.size, 0, none⟩) ([120] : List Int).length [120] from by
  refine one_byte w1 w.heap.size 120 5 (1, 2) _ (Nat.le_refl _) ?_
  rw [← hw1]
  unfold World.freeze
  rw [if_neg (by decide)]
  simp only [Array.getElem?_modify, heap_alloc_new]
  rfl)
 clear hw1
 go_enter Try.func35, Try.ntmps35
 go_wp2_with ((with_reducible refine gate_dst (N := 6) rfl ?_); refine Kd.N_lit k31 _ 31 ?hg (N' := 6) ?hd (xs := sampleTree) (inner := [.string (⟨#[97]⟩ : ByteArray), .int .i64 1, .int .i64 493, .slice none 0 0, .string (⟨#[]⟩ : ByteArray), .string (⟨#[97, 47, 98]⟩ : ByteArray), .int .i64 2, .int .i64 420, .slice (some ⟨w.heap.size, 0, none⟩) 1 1, .string (⟨#[]⟩ : ByteArray), .string (⟨#[99]⟩ : ByteArray), .int .i64 3, .int .i64 0, .slice none 0 0, .string (⟨#[97, 47, 98]⟩ : ByteArray)]) (ok := (fun k_ => (w.heap.size ≤ k_))) (okp := (fun k_ => (w.heap.size ≤ k_))) ?hr ?hp (fun _ hk => hk) (HB.out.size) (Below.refl _ _) (Nat.le_refl _) (by simp [sampleTree]) ?_; (case hd => rfl); (case hg => rfl); (case hr => first | (go_simp; done) | (go_simp; rfl)); (case hp => exact (Reps.c5 (show Kd.FK k31 _ _ (⟨(⟨#[97]⟩ : ByteArray), 1, 493, ([] : List Int), (⟨#[]⟩ : ByteArray)⟩ : S31) _ from (k31_mkF _ _ (⟨(⟨#[97]⟩ : ByteArray), 1, 493, ([] : List Int), (⟨#[]⟩ : ByteArray)⟩ : S31) (Nat.le_refl _) (Kd.F_nil _ _ _))) (Reps.c5 (show Kd.FK k31 _ _ (⟨(⟨#[97, 47, 98]⟩ : ByteArray), 2, 420, ([120] : List Int), (⟨#[]⟩ : ByteArray)⟩ : S31) _ from (k31_mkF _ _ (⟨(⟨#[97, 47, 98]⟩ : ByteArray), 2, 420, ([120] : List Int), (⟨#[]⟩ : ByteArray)⟩ : S31) (Nat.le_refl _) HF.out)) (Reps.c5 (show Kd.FK k31 _ _ (⟨(⟨#[99]⟩ : ByteArray), 3, 0, ([] : List Int), (⟨#[97, 47, 98]⟩ : ByteArray)⟩ : S31) _ from (k31_mkF _ _ (⟨(⟨#[99]⟩ : ByteArray), 3, 0, ([] : List Int), (⟨#[97, 47, 98]⟩ : ByteArray)⟩ : S31) (Nat.le_refl _) (Kd.F_nil _ _ _))) (Reps.none _ _))))); intro v148 w4 ho5 hb hg_ hnew_; clear hg_ hnew_; have n0_ := Aside0.mk (Kd.N_lower ho5 HB.out.size); have n1_ := Aside0.mk (below_step HB.out hb); clear HB hb ho5)
 go_ret
 exact ⟨_, rfl, n0_.out, n1_.out⟩

end Go.Proofs.Ytopkmchkfcjjmaa.X
end

/-! ## Satchellaw08Fails -/
section
namespace Go.Proofs.Ytopkmchkfcjjmaa.X
open Go.RowKit Go.Proofs.YtopkmchkfcjjmaaW.PrintWords Go.Proofs.YtopkmchkfcjjmaaW.PrintLast Go.Proofs.YtopkmchkfcjjmaaW.PrintMore
attribute [local go_sem] max2_int min2_int max_two min_two max_three min_three max_four min_four   -- for this text's walks alone
set_option linter.unusedVariables false
set_option linter.unusedSimpArgs false

attribute [local go_sem] str_gtr fld_fault0 fld_fault1
/-! ### satchellaw08_fails: function 36 -/
def satchellaw08_fails.f (k : Nat) (l0 : List (S31)) (a1 : Int) (a2 : Int) : Option (Bool) := (tree_Check.f k l0).bind fun bt136 => (if bt136.1 = a1 then (some (bt136.2 == a2)) else (some false))
theorem satchellaw08_fails.mono : ∀ a0 a1 a2 k, LeO (satchellaw08_fails.f k a0 a1 a2) (satchellaw08_fails.f (k + 1) a0 a1 a2) := by
 intro a0 a1 a2 k
 unfold satchellaw08_fails.f
 repeat' first
   | (with_reducible exact tree_Check.mono _ _)
   | (with_reducible exact LeO.refl _)
   | (with_reducible exact LeO.none _)
   | (with_reducible refine LeO.ite ?_ ?_)
   | (with_reducible refine LeO.bind ?_ (fun _ => ?_))
   | exact tree_Check.mono _ _
   | exact LeO.none _
   | refine LeO.ite ?_ ?_
   | refine LeO.bind ?_ (fun _ => ?_)
set_option maxHeartbeats 8000000 in
set_option maxRecDepth 100000 in
theorem satchellaw08_fails.calls (k : Nat) (A0 : Option Addr) (c0 : Nat) (l0 : List (S31)) (a1 : Int) (a2 : Int) (r : Bool) (w : World) (hr0 : Kd.C k31 w A0 l0.length l0) (hc0 : l0.length ≤ c0) (h : satchellaw08_fails.f k l0 a1 a2 = some r) :
  Calls Try.prog 36 #[.slice A0 l0.length c0, .int .i64 a1, .int .i64 a2] w fun e w' => e = .returned (.bool r) ∧ Below w.heap.size w w' := by
 have HR0 := Aside0.mk hr0
 have HC0 := Aside0.mk hc0
 clear hr0 hc0
 have HB := Aside0.mk (Below.refl w.heap.size w)
 have H : ((tree_Check.f k l0).bind fun bt136 => (if bt136.1 = a1 then (some (bt136.2 == a2)) else (some false))) = some r := h
 clear h
 replace H := Option.bind_eq_some_iff.mp H
 obtain ⟨⟨t136, t137⟩, A40, H⟩ := H
 replace H : (if t136 = a1 then (some (t137 == a2)) else (some false)) = some r := H
 have A4 := Aside0.mk A40
 clear A40
 by_cases c5 : t136 = a1
 ·rw [if_pos c5] at H
  have c5b0 : (t136 == a1) = true := beq_iff_eq.mpr c5
  have c5b1 : (t136 != a1) = false := bne_eq_false_iff_eq.mpr c5
  clear c5
  obtain rfl := Option.some.inj H
  go_enter Try.func36, Try.ntmps36
  go_wp2_with (first | ((with_reducible refine gate_callee (f := 11) rfl ?_); refine goesL_ (some 11) rfl rfl Try.func11 (by kernel_rfl) rfl #[.slice A0 l0.length c0] rfl (by (try simp only [List.map_toArray, List.map_cons, List.map_nil]); first | done | rfl | (simp only [List.length_drop, List.length_take]; rfl)) ?_; (with_reducible refine (tree_Check.calls k _ _ l0 t136 t137 _ ?side1 ?side2 A4.out).mono ?_); (case side1 => repeat (first | exact HR0.out | (with_reducible refine Kd.C_alloc ?_ _) | (with_reducible refine Kd.C_drewN ?_ _) | (with_reducible refine Kd.C_drew ?_))); (case side2 => exact HC0.out); rintro e w6 ⟨rfl, hb⟩; refine ⟨_, rfl, ?_⟩; have n0_ := Aside0.mk (below_step (by repeat (first | (with_reducible first | exact HB.out | apply below_alloc | apply pw_below_drewN | apply below_drew1) | exact HB.out)) hb); clear HB; have HB := n0_; clear n0_; (try clear hb); (try clear hb2); (try clear hk); (try clear hi)))
  go_ret
  exact ⟨by first | rfl | (simp [errW_none, errW_some] <;> rfl) | (simp [*, errW_none, errW_some] <;> rfl) | (simp [bt, *]; done) | (simp_all [bt]; done), by repeat (first | (with_reducible first | exact HB.out | apply below_alloc | apply pw_below_drewN | apply below_drew1) | exact HB.out)⟩
 ·rw [if_neg c5] at H
  have c5b0 : (t136 == a1) = false := beq_eq_false_iff_ne.mpr c5
  have c5b1 : (t136 != a1) = true := bne_iff_ne.mpr c5
  obtain rfl := Option.some.inj H
  go_enter Try.func36, Try.ntmps36
  go_wp2_with (first | ((with_reducible refine gate_callee (f := 11) rfl ?_); refine goesL_ (some 11) rfl rfl Try.func11 (by kernel_rfl) rfl #[.slice A0 l0.length c0] rfl (by (try simp only [List.map_toArray, List.map_cons, List.map_nil]); first | done | rfl | (simp only [List.length_drop, List.length_take]; rfl)) ?_; (with_reducible refine (tree_Check.calls k _ _ l0 t136 t137 _ ?side1 ?side2 A4.out).mono ?_); (case side1 => repeat (first | exact HR0.out | (with_reducible refine Kd.C_alloc ?_ _) | (with_reducible refine Kd.C_drewN ?_ _) | (with_reducible refine Kd.C_drew ?_))); (case side2 => exact HC0.out); rintro e w7 ⟨rfl, hb⟩; refine ⟨_, rfl, ?_⟩; have n0_ := Aside0.mk (below_step (by repeat (first | (with_reducible first | exact HB.out | apply below_alloc | apply pw_below_drewN | apply below_drew1) | exact HB.out)) hb); clear HB; have HB := n0_; clear n0_; (try clear hb); (try clear hb2); (try clear hk); (try clear hi)))
  go_ret
  exact ⟨by first | rfl | (simp [errW_none, errW_some] <;> rfl) | (simp [*, errW_none, errW_some] <;> rfl) | (simp [bt, *]; done) | (simp_all [bt]; done), by repeat (first | (with_reducible first | exact HB.out | apply below_alloc | apply pw_below_drewN | apply below_drew1) | exact HB.out)⟩

end Go.Proofs.Ytopkmchkfcjjmaa.X
end
