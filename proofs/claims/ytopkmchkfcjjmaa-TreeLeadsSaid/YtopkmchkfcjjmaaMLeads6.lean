/- Functions, one behind the other: a plain Lean function for each, and the proof that the call comes to its answer, whatever the world (conditions: what the arguments read as); and plain laws of them. -/
import Derived.Test.YtopkmchkfcjjmaaMLeads5
import Derived.Test.YtopkmchkfcjjmaaMLeads2
/-! ## PureLeads -/
section
namespace Go.Proofs.Ytopkmchkfcjjmaa.X
open Go.RowKit Go.Proofs.YtopkmchkfcjjmaaW.PrintWords Go.Proofs.YtopkmchkfcjjmaaW.PrintLast Go.Proofs.YtopkmchkfcjjmaaW.PrintMore
set_option linter.unusedVariables false
set_option linter.unusedSimpArgs false
/-! ### Trees that rise are told by what is in them -/
theorem hasP_iff {l : List (S31)} {s : ByteArray} : hasP l s = true ↔ ∃ x ∈ l, x.f0 = s := by
 unfold hasP
 rw [List.any_eq_true]
 simp only [decide_eq_true_eq]
theorem Up.ext : ∀ {l m : List (S31)}, Up l → Up m → (∀ z, z ∈ l ↔ z ∈ m) → l = m
 | [], [], _, _, _ => rfl
 | [], y :: m, _, _, h => by have := (h y).2 List.mem_cons_self; cases this
 | x :: l, [], _, _, h => by have := (h x).1 List.mem_cons_self; cases this
 | x :: l, y :: m, hl, hm, h => by
  have e : x = y := by
   rcases List.mem_cons.1 ((h x).1 List.mem_cons_self) with e | h1
   ·exact e
   ·rcases List.mem_cons.1 ((h y).2 List.mem_cons_self) with e | h2
    ·exact e.symm
    ·have := cmpV_trans (List.rel_of_pairwise_cons hl h2) (List.rel_of_pairwise_cons hm h1)
     rw [cmpV_self] at this
     omega
  subst e
  congr 1
  refine Up.ext hl.tail hm.tail (fun z => ⟨fun hz => ?_, fun hz => ?_⟩)
  ·rcases List.mem_cons.1 ((h z).1 (List.mem_cons_of_mem _ hz)) with rfl | h1
   ·exact absurd rfl (hl.head _ hz)
   ·exact h1
  ·rcases List.mem_cons.1 ((h z).2 (List.mem_cons_of_mem _ hz)) with rfl | h1
   ·exact absurd rfl (hm.head _ hz)
   ·exact h1
theorem Up.one {l : List (S31)} (h : Up l) {x y : S31} (hx : x ∈ l) (hy : y ∈ l) (e : x.f0 = y.f0) : x = y := by
 obtain ⟨i, hi, rfl⟩ := List.mem_iff_getElem.1 hx
 obtain ⟨j, hj, rfl⟩ := List.mem_iff_getElem.1 hy
 rcases Nat.lt_trichotomy i j with h1 | h1 | h1
 ·exact absurd e (cmpV_ne (List.pairwise_iff_getElem.1 h i j hi hj h1))
 ·subst h1; rfl
 ·exact absurd e.symm (cmpV_ne (List.pairwise_iff_getElem.1 h j i hj hi h1))
theorem Up.rising {l : List (S31)} (h : Up l) : Rising l := by
 intro a b hab hb
 rw [rd_at l a (by omega), rd_at l b hb]
 exact List.pairwise_iff_getElem.1 h a b (by omega) hb hab
theorem Up.paths {l : List (S31)} : Up l ↔ (l.map fun x => x.f0).Pairwise fun x y => cmpV x y < 0 := by
 unfold Up
 rw [List.pairwise_map]
theorem Up.filter {l : List (S31)} (h : Up l) (p : S31 → Bool) : Up (l.filter p) := List.Pairwise.filter p h
/-! ### Which directory -/
theorem lastUpTo_max (l : List UInt8) : ∀ (n m : Nat), m < n → l[m]? = some 47 → (m : Int) ≤ lastUpTo l n
 | 0, m, h, _ => by omega
 | n + 1, m, h, h1 => by
  unfold lastUpTo
  split
  ·omega
  ·rename_i h2
   rcases Nat.lt_succ_iff_lt_or_eq.1 h with h3 | h3
   ·exact lastUpTo_max l n m h3 h1
   ·subst h3; exact absurd h1 h2
theorem parent_cut {s up : ByteArray} (h : parentV s = (up, true)) : validV s = true ∧ up.size < s.size ∧ up.toList = s.toList.take up.size ∧ s.toList[up.size]? = some 47 ∧ ∀ m, m < s.size → s.toList[m]? = some 47 → m ≤ up.size := by
 unfold parentV at h
 split at h
 ·simp at h
 ·rename_i h1
  split at h
  ·rename_i h2
   have hr := lastUpTo_lt s.toList s.size
   have ha := lastUpTo_at (l := s.toList) (n := s.size) (by omega)
   have hm := lastUpTo_max s.toList s.size
   obtain ⟨n, hn⟩ := Int.eq_ofNat_of_zero_le (show 0 ≤ lastUpTo s.toList s.size by omega)
   rw [hn] at h ha hm hr
   have hup : up = s.extract 0 n := by
    have := (Prod.mk.inj h).1
    simpa using this.symm
   have hl : up.toList = s.toList.take n := by rw [hup, extract_list, List.drop_zero]
   have hz : up.size = n := by rw [← toList_len, hl, List.length_take, toList_len]; omega
   rw [hz]
   exact ⟨h2, by omega, hl, by simpa using ha, fun m h3 h4 => by have := hm m h3 h4; omega⟩
  ·simp at h
theorem under_iff {s d : ByteArray} : underV s d = true ↔ validV s = true ∧ validV d = true ∧ d.size < s.size ∧ s.toList.take d.size = d.toList ∧ s.toList[d.size]? = some 47 := by
 unfold underV
 rw [Bool.and_eq_true, Bool.and_eq_true, decide_eq_true_eq, and_assoc]
theorem under_parent {s d : ByteArray} (h : underV s d = true) : ∃ up, parentV s = (up, true) ∧ (up = d ∨ (validV up = true → underV up d = true)) := by
 obtain ⟨h1, h2, h3, h4, h5⟩ := under_iff.1 h
 have hm := lastUpTo_max s.toList s.size d.size h3 h5
 obtain ⟨up, hp⟩ : ∃ up, parentV s = (up, true) := ⟨_, by unfold parentV; rw [if_neg (by omega), if_pos h1]⟩
 obtain ⟨p1, p2, p3, p4, p5⟩ := parent_cut hp
 refine ⟨up, hp, ?_⟩
 rcases Nat.eq_or_lt_of_le (p5 d.size h3 h5) with e | e
 ·exact .inl (bytes_ext (by rw [p3, ← e, h4]))
 ·refine .inr (fun hv => under_iff.2 ⟨hv, h2, e, ?_, ?_⟩)
  ·rw [p3, List.take_take, show min d.size up.size = d.size by omega, h4]
  ·rw [p3, List.getElem?_take, if_pos e, h5]
theorem parent_gone {s up g : ByteArray} (h : parentV s = (up, true)) (hg : validV g = true) (hd : up = g ∨ underV up g = true) : underV s g = true := by
 obtain ⟨p1, p2, p3, p4, p5⟩ := parent_cut h
 rcases hd with rfl | hd
 ·exact under_iff.2 ⟨p1, hg, p2, p3.symm, p4⟩
 ·obtain ⟨h1, h2, h3, h4, h5⟩ := under_iff.1 hd
  refine under_iff.2 ⟨p1, hg, by omega, ?_, ?_⟩
  ·rw [← h4, p3, List.take_take, show min g.size up.size = g.size by omega]
  ·rw [p3, List.getElem?_take, if_pos h3] at h5
   exact h5
/-! ### Trees that may be, by what is in them -/
theorem Good.mem_one {l : List (S31)} (h : Good l) {z : S31} (hz : z ∈ l) : oneV z = 0 := by
 obtain ⟨i, hi, rfl⟩ := List.mem_iff_getElem.1 hz
 rw [← rd_at l i hi]
 exact h.one hi
theorem Good.valid {l : List (S31)} (h : Good l) {z : S31} (hz : z ∈ l) : validV z.f0 = true := (one_ok (h.mem_one hz)).1
theorem Good.mem_up {l : List (S31)} (h : Good l) {z : S31} (hz : z ∈ l) {up : ByteArray} (hp : parentV z.f0 = (up, true)) : ∃ y ∈ l, y.f0 = up ∧ y.f1 = 1 := by
 obtain ⟨i, hi, rfl⟩ := List.mem_iff_getElem.1 hz
 rw [← rd_at l i hi] at hp
 obtain ⟨k, h1, h2, h3⟩ := h.up hi hp
 rw [rd_at l k (by omega)] at h2 h3
 exact ⟨l[k], List.getElem_mem _, h2, h3⟩
theorem cmpV_parent {s up : ByteArray} (h : parentV s = (up, true)) (hv : validV up = true) : cmpV up s < 0 := by
 obtain ⟨h1, h2⟩ := parent_ahead h
 unfold cmpV
 rw [if_pos hv, if_pos h1]
 exact h2
theorem good_mk {l : List (S31)} (hn : l.length ≤ 200) (h1 : ∀ z ∈ l, oneV z = 0) (hU : Up l) (hp : ∀ z ∈ l, ∀ up, parentV z.f0 = (up, true) → ∃ y ∈ l, y.f0 = up ∧ y.f1 = 1) : Good l := by
 have hR := hU.rising
 refine ⟨hn, fun i hi => ?_⟩
 have hm : rd_T31 l (i : Int) ∈ l := by rw [rd_at l i hi]; exact List.getElem_mem hi
 unfold badAt
 rw [if_pos (h1 _ hm)]
 have hs : ¬ (0 < i ∧ 0 ≤ cmpV (rd_T31 l ((i : Int) - 1)).f0 (rd_T31 l (i : Int)).f0) := by
  rintro ⟨h0, h2⟩
  have := hR (i - 1) i (by omega) hi
  rw [show ((i - 1 : Nat) : Int) = (i : Int) - 1 by omega] at this
  omega
 rw [if_neg hs]
 split
 ·rename_i h3
  obtain ⟨up, hup⟩ : ∃ up, parentV (rd_T31 l (i : Int)).f0 = (up, true) := ⟨(parentV (rd_T31 l (i : Int)).f0).1, by rw [← h3]⟩
  rw [hup]
  simp only
  obtain ⟨y, hy, e1, e2⟩ := hp _ hm up hup
  have hc := cmpV_parent hup (by rw [← e1]; exact (one_ok (h1 y hy)).1)
  obtain ⟨q, hq, rfl⟩ := List.mem_iff_getElem.1 hy
  rw [← rd_at l q hq] at e1 e2
  have hlt : q < i := by
   rcases Nat.lt_trichotomy q i with h4 | h4 | h4
   ·exact h4
   ·subst h4
    rw [e1, cmpV_self] at hc
    omega
   ·have h5 := hR i q h4 hq
    rw [e1] at h5
    have h6 := cmpV_trans hc h5
    rw [cmpV_self] at h6
    omega
  obtain ⟨n, p1, p2, p3, p4⟩ := place_spec (hR.take i) up
  rcases p4 with ⟨p4, p5, p6⟩ | ⟨p4, p5⟩
  ·have hni : n < i := by rw [List.length_take] at p5; omega
   have hnl : n < l.length := by omega
   rw [rd_take l i n hni] at p6
   have hnq : l[n] = l[q] := hU.one (List.getElem_mem hnl) (List.getElem_mem hq) (by rw [← rd_at l n hnl, ← rd_at l q hq, p6, e1])
   rw [p4]
   simp only
   rw [if_pos ⟨trivial, by rw [rd_at l n hnl, hnq, ← rd_at l q hq]; exact e2⟩]
  ·exact absurd (by rw [rd_take l i q hlt]; exact e1) (p5 q (by rw [List.length_take]; omega))
 ·rfl
theorem find_bool {l : List (S31)} (hg : Good l) (s : ByteArray) : ∃ x : S31, Ev (fun k => tree_Find.f k l s) (x.f0, x.f1, x.f2, x.f3, x.f4, hasP l s) := by
 cases h : hasP l s with
 | true =>
  obtain ⟨x, hx, rfl⟩ := hasP_iff.1 h
  obtain ⟨i, hi, rfl⟩ := List.mem_iff_getElem.1 hx
  have := find_hit hg hi
  rw [rd_at l i hi] at this
  exact ⟨l[i], this⟩
 | false =>
  refine ⟨⟨⟨#[]⟩, 0, 0, [], ⟨#[]⟩⟩, find_miss hg (fun a ha e => ?_)⟩
  rw [hasP_iff.2 ⟨_, List.getElem_mem ha, by rw [← rd_at l a ha]; exact e⟩] at h
  cases h
/-! ### A drop -/
theorem Good.dropped {l : List (S31)} (h : Good l) {g : ByteArray} (hg : validV g = true) : Good (l.filter fun x => !goneV g x) := by
 refine good_mk (Nat.le_trans (List.length_filter_le _ _) h.1) (fun z hz => h.mem_one (List.mem_filter.1 hz).1) (h.Up.filter _) (fun z hz up hp => ?_)
 obtain ⟨h1, h2⟩ := List.mem_filter.1 hz
 obtain ⟨y, hy, e1, e2⟩ := h.mem_up h1 hp
 refine ⟨y, List.mem_filter.2 ⟨hy, ?_⟩, e1, e2⟩
 cases hc : goneV g y with
 | false => rfl
 | true =>
  unfold goneV at h2 hc
  rw [Bool.or_eq_true, decide_eq_true_eq, e1] at hc
  rw [parent_gone hp hg hc, Bool.or_true] at h2
  cases h2
/-- What is in a tree that may be has its directories there. -/
theorem Good.ancestor {l : List (S31)} (h : Good l) {d : ByteArray} : ∀ (n : Nat) (s : ByteArray), s.size ≤ n → hasP l s = true → underV s d = true → hasP l d = true
 | 0, s, hn, _, hu => by have := (under_iff.1 hu).2.2.1; omega
 | n + 1, s, hn, hs, hu => by
  obtain ⟨z, hz, rfl⟩ := hasP_iff.1 hs
  obtain ⟨up, hp, hd⟩ := under_parent hu
  obtain ⟨y, hy, e1, _⟩ := h.mem_up hz hp
  have hyp : hasP l up = true := hasP_iff.2 ⟨y, hy, e1⟩
  rcases hd with rfl | hd
  ·exact hyp
  ·exact h.ancestor n up (by have := (parent_cut hp).2.1; omega) hyp (hd (by rw [← e1]; exact h.valid hy))
theorem dropped_none {l : List (S31)} (h : Good l) {g : ByteArray} (hn : hasP l g = false) : (l.filter fun x => !goneV g x) = l := by
 rw [List.filter_eq_self]
 intro x hx
 cases hc : goneV g x with
 | false => rfl
 | true =>
  unfold goneV at hc
  rw [Bool.or_eq_true, decide_eq_true_eq] at hc
  rcases hc with rfl | hc
  ·rw [hasP_iff.2 ⟨x, hx, rfl⟩] at hn; cases hn
  ·rw [h.ancestor _ x.f0 (Nat.le_refl _) (hasP_iff.2 ⟨x, hx, rfl⟩) hc] at hn; cases hn
theorem dropped_less {l : List (S31)} {g : ByteArray} (hn : hasP l g = true) : (l.filter fun x => !goneV g x).length < l.length := by
 obtain ⟨x, hx, rfl⟩ := hasP_iff.1 hn
 rw [List.length_filter_lt_length_iff_exists]
 exact ⟨x, hx, by unfold goneV; simp⟩
/-! ### A put -/
theorem putAt_spec {l : List (S31)} (hG : Good l) (x : S31) : ∃ A B : List (S31), putAt l (placeV l x.f0) x = A ++ x :: B ∧ (∀ z, z ∈ A ++ B ↔ z ∈ l ∧ z.f0 ≠ x.f0) ∧ (∀ z ∈ A, cmpV z.f0 x.f0 < 0) ∧ (∀ z ∈ B, cmpV x.f0 z.f0 < 0) ∧ Up (A ++ B) := by
 have hU := hG.Up
 obtain ⟨n, h0, h1, h2, h3⟩ := place_spec hG.rising x.f0
 have hA : ∀ z ∈ l.take n, cmpV z.f0 x.f0 < 0 := by
  intro z hz
  obtain ⟨i, hi, rfl⟩ := List.mem_iff_getElem.1 hz
  rw [List.length_take] at hi
  rw [List.getElem_take, ← rd_at l i (by omega)]
  exact h1 i (by omega)
 have hB : ∀ m, n ≤ m → (∀ i : Nat, m ≤ i → i < l.length → (rd_T31 l (i : Int)).f0 ≠ x.f0) → ∀ z ∈ l.drop m, cmpV x.f0 z.f0 < 0 := by
  intro m hm hne z hz
  obtain ⟨i, hi, rfl⟩ := List.mem_iff_getElem.1 hz
  rw [List.length_drop] at hi
  rw [List.getElem_drop, ← rd_at l (m + i) (by omega)]
  have h4 := h2 (m + i) (by omega) (by omega)
  have h5 := hne (m + i) (by omega) (by omega)
  have h6 := cmpV_swap (rd_T31 l ((m + i : Nat) : Int)).f0 x.f0
  have h7 : cmpV (rd_T31 l ((m + i : Nat) : Int)).f0 x.f0 ≠ 0 := fun e => h5 (cmpV_zero e)
  omega
 rcases h3 with ⟨h3, h4, h5⟩ | ⟨h3, h4⟩
 ·refine ⟨l.take n, l.drop (n + 1), ?_, ?_, hA, ?_, ?_⟩
  ·rw [h3]
   unfold putAt
   rw [if_pos rfl]
   exact set_split l n x h4
  ·intro z
   have hl : l = l.take n ++ l[n] :: l.drop (n + 1) := by rw [← List.drop_eq_getElem_cons h4, List.take_append_drop]
   have hnx : l[n].f0 = x.f0 := by rw [← rd_at l n h4]; exact h5
   constructor
   ·intro hz
    have hzl : z ∈ l := by
     rw [hl]
     rcases List.mem_append.1 hz with h | h
     ·exact List.mem_append_left _ h
     ·exact List.mem_append_right _ (List.mem_cons_of_mem _ h)
    refine ⟨hzl, fun e => ?_⟩
    have hz2 := hU.one hzl (List.getElem_mem h4) (e.trans hnx.symm)
    have hd : (l.take n ++ l[n] :: l.drop (n + 1)).Pairwise fun x y => cmpV x.f0 y.f0 < 0 := by rw [← hl]; exact hU
    rw [List.pairwise_append, List.pairwise_cons] at hd
    rcases List.mem_append.1 hz with h | h
    ·have := hd.2.2 z h l[n] List.mem_cons_self
     rw [hz2, cmpV_self] at this
     omega
    ·have := hd.2.1.1 z h
     rw [hz2, cmpV_self] at this
     omega
   ·rintro ⟨hz, hne⟩
    rw [hl] at hz
    rcases List.mem_append.1 hz with h | h
    ·exact List.mem_append_left _ h
    ·rcases List.mem_cons.1 h with rfl | h
     ·exact absurd hnx hne
     ·exact List.mem_append_right _ h
  ·refine hB (n + 1) (by omega) (fun i hi hil e => ?_)
   have := hG.rising n i (by omega) hil
   rw [h5, e, cmpV_self] at this
   omega
  ·exact List.Pairwise.sublist (List.Sublist.trans (List.Sublist.append (List.Sublist.refl _) (List.drop_sublist_drop_left l (Nat.le_succ n))) (by rw [List.take_append_drop]; exact List.Sublist.refl _)) hU
 ·refine ⟨l.take n, l.drop n, ?_, ?_, hA, hB n (Nat.le_refl _) (fun i _ hil => h4 i hil), ?_⟩
  ·rw [h3]
   unfold putAt
   rw [if_neg (fun h => Bool.noConfusion h)]
   rfl
  ·intro z
   rw [List.take_append_drop]
   refine ⟨fun hz => ⟨hz, fun e => ?_⟩, fun hz => hz.1⟩
   obtain ⟨i, hi, rfl⟩ := List.mem_iff_getElem.1 hz
   exact h4 i hi (by rw [rd_at l i hi]; exact e)
  ·rw [List.take_append_drop]; exact hU
/-- A put leads to the tree that has the entry, and all the others. -/
theorem put_to {l t : List (S31)} (hG : Good l) (hT : Good t) (x : S31) (hm : ∀ z, z ∈ t ↔ z = x ∨ (z ∈ l ∧ z.f0 ≠ x.f0)) : putV l x = (t, 0) := by
 obtain ⟨A, B, h1, h2, h3, h4, h5⟩ := putAt_spec hG x
 have hU : Up (A ++ x :: B) := by
  rw [Up, List.pairwise_append] at h5 ⊢
  refine ⟨h5.1, List.pairwise_cons.2 ⟨h4, h5.2.1⟩, fun a ha b hb => ?_⟩
  rcases List.mem_cons.1 hb with rfl | hb
  ·exact h3 a ha
  ·exact h5.2.2 a ha b hb
 have e : putAt l (placeV l x.f0) x = t := by
  rw [h1]
  refine Up.ext hU hT.Up (fun z => ?_)
  rw [hm, ← h2, List.mem_append, List.mem_append, List.mem_cons]
  constructor
  ·rintro (h | h | h)
   ·exact .inr (.inl h)
   ·exact .inl h
   ·exact .inr (.inr h)
  ·rintro (h | h | h)
   ·exact .inr (.inl h)
   ·exact .inl h
   ·exact .inr (.inr h)
 unfold putV
 rw [if_pos (by rw [hG.tree]), e, if_pos (by rw [hT.tree])]
/-! ### What stands between the two trees -/
/-- a's entry of that path; y if there is none. -/
def ofA (a : List (S31)) (y : S31) : S31 := (a.find? fun x => decide (x.f0 = y.f0)).getD y
/-- What the walk leaves at y: y, if it is added or changed, else a's. -/
def toB (a : List (S31)) (y : S31) : S31 := if (!hasP a y.f0 || turnedE a y) = true then y else ofA a y
def midV (a b : List (S31)) (i : Nat) : List (S31) := (b.take i).map (toB a) ++ ((b.drop i).filter fun y => hasP a y.f0).map (ofA a)
theorem ofA_mem {a : List (S31)} {y : S31} (h : hasP a y.f0 = true) : ofA a y ∈ a ∧ (ofA a y).f0 = y.f0 := by
 unfold ofA
 cases hf : a.find? (fun x => decide (x.f0 = y.f0)) with
 | none =>
  obtain ⟨x, hx, e⟩ := hasP_iff.1 h
  have := List.find?_eq_none.1 hf x hx
  simp [e] at this
 | some x => exact ⟨List.mem_of_find?_eq_some hf, by simpa using List.find?_some hf⟩
theorem toB_path (a : List (S31)) (y : S31) : (toB a y).f0 = y.f0 := by
 unfold toB
 split
 ·rfl
 ·rename_i h
  rw [Bool.not_eq_true, Bool.or_eq_false_iff] at h
  exact (ofA_mem (by simpa using h.1)).2
theorem turned_one {a : List (S31)} {x y : S31} (hx : x ∈ a) (e : x.f0 = y.f0) (ht : turnedE a y = false) : sameEntry x y = true := by
 unfold turnedE at ht
 have := List.any_eq_false.1 ht x hx
 simpa [e] using this
theorem toB_same (a : List (S31)) (y : S31) : sameEntry (toB a y) y = true := by
 unfold toB
 split
 ·exact sameEntry_self y
 ·rename_i h
  rw [Bool.not_eq_true, Bool.or_eq_false_iff] at h
  have h1 := ofA_mem (a := a) (y := y) (by simpa using h.1)
  exact turned_one h1.1 h1.2 h.2
theorem sameEntry_kind {x y : S31} (h : sameEntry x y = true) : x.f1 = y.f1 := by
 unfold sameEntry at h
 simp only [Bool.and_eq_true, beq_iff_eq] at h
 exact h.2.1
theorem mid_mem {a b : List (S31)} {i : Nat} {z : S31} : z ∈ midV a b i ↔ (∃ (j : Nat) (hj : j < b.length), j < i ∧ z = toB a b[j]) ∨ ∃ (j : Nat) (hj : j < b.length), i ≤ j ∧ hasP a b[j].f0 = true ∧ z = ofA a b[j] := by
 unfold midV
 rw [List.mem_append, List.mem_map, List.mem_map]
 constructor
 ·rintro (⟨y, hy, rfl⟩ | ⟨y, hy, rfl⟩)
  ·obtain ⟨j, hj, rfl⟩ := List.mem_iff_getElem.1 hy
   rw [List.length_take] at hj
   exact .inl ⟨j, by omega, by omega, by rw [List.getElem_take]⟩
  ·obtain ⟨hy, hp⟩ := List.mem_filter.1 hy
   obtain ⟨j, hj, rfl⟩ := List.mem_iff_getElem.1 hy
   rw [List.length_drop] at hj
   rw [List.getElem_drop] at hp ⊢
   exact .inr ⟨i + j, by omega, by omega, hp, rfl⟩
 ·rintro (⟨j, hj, hi, rfl⟩ | ⟨j, hj, hi, hp, rfl⟩)
  ·exact .inl ⟨b[j], List.mem_iff_getElem.2 ⟨j, by rw [List.length_take]; omega, by rw [List.getElem_take]⟩, rfl⟩
  ·refine .inr ⟨b[j], List.mem_filter.2 ⟨List.mem_iff_getElem.2 ⟨j - i, by rw [List.length_drop]; omega, ?_⟩, hp⟩, rfl⟩
   rw [List.getElem_drop]
   congr 1
   omega
theorem mid_paths {a b : List (S31)} {i : Nat} : ((midV a b i).map fun x => x.f0).Sublist (b.map fun x => x.f0) := by
 unfold midV
 rw [List.map_append, List.map_map, List.map_map]
 have h1 : ((fun x : S31 => x.f0) ∘ toB a) = fun x => x.f0 := by funext x; exact toB_path a x
 have h2 : (((b.drop i).filter fun y => hasP a y.f0).map ((fun x : S31 => x.f0) ∘ ofA a)) = ((b.drop i).filter fun y => hasP a y.f0).map fun x => x.f0 := by
  refine List.map_congr_left (fun y hy => ?_)
  exact (ofA_mem (List.mem_filter.1 hy).2).2
 rw [h1, h2, ← List.map_append]
 refine List.Sublist.map _ ?_
 conv => rhs; rw [← List.take_append_drop i b]
 exact List.Sublist.append (List.Sublist.refl _) List.filter_sublist
theorem mid_up {a b : List (S31)} (hb : Up b) (i : Nat) : Up (midV a b i) := Up.paths.2 (List.Pairwise.sublist mid_paths (Up.paths.1 hb))
theorem mid_len (a b : List (S31)) (i : Nat) : (midV a b i).length ≤ b.length := by
 have := mid_paths (a := a) (b := b) (i := i).length_le
 rwa [List.length_map, List.length_map] at this
theorem toB_kind (a : List (S31)) (y : S31) : (toB a y).f1 = y.f1 := sameEntry_kind (toB_same a y)
theorem mid_good {a b : List (S31)} (ha : Good a) (hb : Good b) (i : Nat) : Good (midV a b i) := by
 refine good_mk (Nat.le_trans (mid_len a b i) hb.1) ?_ (mid_up hb.Up i) ?_
 ·intro z hz
  rcases mid_mem.1 hz with ⟨j, hj, _, rfl⟩ | ⟨j, hj, _, hp, rfl⟩
  ·unfold toB
   split
   ·exact hb.mem_one (List.getElem_mem hj)
   ·rename_i h
    rw [Bool.not_eq_true, Bool.or_eq_false_iff] at h
    exact ha.mem_one (ofA_mem (by simpa using h.1)).1
  ·exact ha.mem_one (ofA_mem hp).1
 ·intro z hz up hup
  obtain ⟨j, hj, hzp, hij⟩ : ∃ (j : Nat) (hj : j < b.length), z.f0 = b[j].f0 ∧ (j < i ∨ (i ≤ j ∧ z ∈ a)) := by
   rcases mid_mem.1 hz with ⟨j, hj, hi, rfl⟩ | ⟨j, hj, hi, hp, rfl⟩
   ·exact ⟨j, hj, toB_path _ _, .inl hi⟩
   ·exact ⟨j, hj, (ofA_mem hp).2, .inr ⟨hi, (ofA_mem hp).1⟩⟩
  have hup2 : parentV b[j].f0 = (up, true) := by rw [← hzp]; exact hup
  obtain ⟨k, h1, h2, h3⟩ := hb.up hj (by rw [rd_at b j hj]; exact hup2)
  have hk : k < b.length := by omega
  rw [rd_at b k hk] at h2 h3
  by_cases hki : k < i
  ·exact ⟨toB a b[k], mid_mem.2 (.inl ⟨k, hk, hki, rfl⟩), by rw [toB_path, h2], by rw [toB_kind, h3]⟩
  ·rcases hij with hij | ⟨hij, hza⟩
   ·omega
   ·obtain ⟨y, hy, e1, e2⟩ := ha.mem_up hza hup
    have hp : hasP a b[k].f0 = true := hasP_iff.2 ⟨y, hy, e1.trans h2.symm⟩
    refine ⟨ofA a b[k], mid_mem.2 (.inr ⟨k, hk, by omega, hp, rfl⟩), (ofA_mem hp).2.trans h2, ?_⟩
    rw [ha.Up.one (ofA_mem hp).1 hy ((ofA_mem hp).2.trans (h2.trans e1.symm))]
    exact e2
theorem mid_zero {a b : List (S31)} (ha : Good a) (hb : Good b) : midV a b 0 = a.filter fun x => hasP b x.f0 := by
 refine Up.ext (mid_up hb.Up 0) (ha.Up.filter _) (fun z => ?_)
 rw [mid_mem, List.mem_filter]
 constructor
 ·rintro (⟨j, _, h, _⟩ | ⟨j, hj, _, hp, rfl⟩)
  ·omega
  ·exact ⟨(ofA_mem hp).1, hasP_iff.2 ⟨b[j], List.getElem_mem hj, (ofA_mem hp).2.symm⟩⟩
 ·rintro ⟨hz, hp⟩
  obtain ⟨y, hy, e⟩ := hasP_iff.1 hp
  obtain ⟨j, hj, rfl⟩ := List.mem_iff_getElem.1 hy
  have hpa : hasP a b[j].f0 = true := hasP_iff.2 ⟨z, hz, e.symm⟩
  exact .inr ⟨j, hj, by omega, hpa, ha.Up.one hz (ofA_mem hpa).1 (e.symm.trans (ofA_mem hpa).2.symm)⟩
theorem mid_all (a b : List (S31)) : midV a b b.length = b.map (toB a) := by
 unfold midV
 rw [List.take_length, List.drop_length]
 exact List.append_nil _
theorem mid_keep {a b : List (S31)} {i : Nat} (hi : i < b.length) (h1 : hasP a b[i].f0 = true) (h2 : turnedE a b[i] = false) : midV a b (i + 1) = midV a b i := by
 unfold midV
 rw [List.take_succ_eq_append_getElem hi, List.drop_eq_getElem_cons hi, List.filter_cons, if_pos h1, List.map_append, List.map_cons, List.map_nil, List.append_assoc, List.map_cons]
 have : toB a b[i] = ofA a b[i] := by unfold toB; rw [if_neg (by rw [h1, h2]; decide)]
 rw [this]
 rfl
theorem mid_put {a b : List (S31)} (ha : Good a) (hb : Good b) {i : Nat} (hi : i < b.length) (h : (!hasP a b[i].f0 || turnedE a b[i]) = true) : putV (midV a b i) b[i] = (midV a b (i + 1), 0) := by
 refine put_to (mid_good ha hb i) (mid_good ha hb (i + 1)) b[i] (fun z => ?_)
 have hw : toB a b[i] = b[i] := by unfold toB; rw [if_pos h]
 have hne : ∀ (j : Nat) (hj : j < b.length), j ≠ i → b[j].f0 ≠ b[i].f0 := fun j hj hji e => by
  rcases Nat.lt_or_gt_of_ne hji with h1 | h1
  ·exact cmpV_ne (List.pairwise_iff_getElem.1 hb.Up j i hj hi h1) e
  ·exact cmpV_ne (List.pairwise_iff_getElem.1 hb.Up i j hi hj h1) e.symm
 rw [mid_mem, mid_mem]
 constructor
 ·rintro (⟨j, hj, h1, rfl⟩ | ⟨j, hj, h1, hp, rfl⟩)
  ·by_cases e : j = i
   ·subst e; exact .inl hw
   ·exact .inr ⟨.inl ⟨j, hj, by omega, rfl⟩, by rw [toB_path]; exact hne j hj e⟩
  ·exact .inr ⟨.inr ⟨j, hj, by omega, hp, rfl⟩, by rw [(ofA_mem hp).2]; exact hne j hj (by omega)⟩
 ·rintro (rfl | ⟨⟨j, hj, h1, rfl⟩ | ⟨j, hj, h1, hp, rfl⟩, hz⟩)
  ·exact .inl ⟨i, hi, by omega, hw.symm⟩
  ·exact .inl ⟨j, hj, by omega, rfl⟩
  ·refine .inr ⟨j, hj, ?_, hp, rfl⟩
   rw [(ofA_mem hp).2] at hz
   rcases Nat.eq_or_lt_of_le h1 with e | e
   ·subst e; exact absurd rfl hz
   ·omega
theorem mid_fits {a b : List (S31)} (fa : Fits a) (fb : Fits b) (i : Nat) : Fits (midV a b i) := by
 intro z hz
 rcases mid_mem.1 hz with ⟨j, hj, _, rfl⟩ | ⟨j, hj, _, hp, rfl⟩
 ·unfold toB
  split
  ·exact fb _ (List.getElem_mem hj)
  ·rename_i h
   rw [Bool.not_eq_true, Bool.or_eq_false_iff] at h
   exact fa _ (ofA_mem (by simpa using h.1)).1
 ·exact fa _ (ofA_mem hp).1
theorem same_to (a b : List (S31)) : sameV (b.map (toB a)) b = true := by
 unfold sameV
 rw [List.length_map, Bool.and_eq_true]
 refine ⟨decide_eq_true rfl, List.all_eq_true.2 (fun p hp => ?_)⟩
 obtain ⟨j, hj, rfl⟩ := List.mem_iff_getElem.1 hp
 rw [List.getElem_zip, List.getElem_map]
 exact toB_same a _
/-! ### The walk's own answers -/
theorem among_l0 (l : List ByteArray) (hl : l.length ≤ 1000000) (s : ByteArray) : ∀ (m i : Nat), i + m = l.length → Ev (fun k => satchellaw08_among.l0 k l s (i : Int)) ((l.drop i).any fun x => decide (x = s))
 | 0, i, h => by
  refine Ev.shift ?_
  simp only [satchellaw08_among.l0]
  rw [List.drop_eq_nil_of_le (by omega)]
  exact Ev.ifn (by omega) (Ev.const _)
 | m + 1, i, h => by
  refine Ev.shift ?_
  simp only [satchellaw08_among.l0]
  have hi : i < l.length := by omega
  refine Ev.ifp (by omega) (Ev.ifp (by omega) ?_)
  have hr : rdOf ByteArray.empty l (i : Int) = l[i] := by
   unfold rdOf
   simp [hi]
  rw [hr, List.drop_eq_getElem_cons hi, List.any_cons]
  by_cases h1 : l[i] = s
  ·rw [decide_eq_true h1, Bool.true_or]
   exact Ev.ifp (by rw [h1]) (Ev.const _)
  ·rw [decide_eq_false h1, Bool.false_or]
   refine Ev.ifn (fun e => h1 (bytes_ext e)) ?_
   rw [wrap_id _ (by omega)]
   exact among_l0 l hl s m (i + 1) (by omega)
theorem among_ev (l : List ByteArray) (hl : l.length ≤ 1000000) (s : ByteArray) : Ev (fun k => satchellaw08_among.f k l s) (l.any fun x => decide (x = s)) := among_l0 l hl s l.length 0 (by omega)
theorem among_added {a b : List (S31)} {y : S31} (hy : y ∈ b) : ((addedV a b).any fun x => decide (x = y.f0)) = !hasP a y.f0 := by
 unfold addedV
 rw [List.any_map, Bool.eq_iff_iff, List.any_eq_true]
 constructor
 ·rintro ⟨x, hx, e⟩
  rw [← of_decide_eq_true e]
  exact (List.mem_filter.1 hx).2
 ·intro h
  exact ⟨y, List.mem_filter.2 ⟨hy, h⟩, decide_eq_true rfl⟩
theorem among_changed {a b : List (S31)} (hb : Up b) {y : S31} (hy : y ∈ b) : ((changedV a b).any fun x => decide (x = y.f0)) = turnedE a y := by
 unfold changedV
 rw [List.any_map, Bool.eq_iff_iff, List.any_eq_true]
 constructor
 ·rintro ⟨x, hx, e⟩
  obtain ⟨h1, h2⟩ := List.mem_filter.1 hx
  rw [← hb.one h1 hy (of_decide_eq_true e)]
  exact h2
 ·intro h
  exact ⟨y, List.mem_filter.2 ⟨hy, h⟩, decide_eq_true rfl⟩
def newE (a : List (S31)) (y : S31) : Bool := !hasP a y.f0 || turnedE a y
theorem new_count (a : List (S31)) : ∀ b : List (S31), (b.filter (newE a)).length = (addedV a b).length + (changedV a b).length
 | [] => rfl
 | y :: b => by
  have ih := new_count a b
  rw [addedV_cons, changedV_cons, List.filter_cons]
  unfold newE at ih ⊢
  cases h1 : hasP a y.f0 with
  | false =>
   rw [turnedE_none h1]
   simp only [Bool.not_false, Bool.true_or, if_true, List.length_cons, Bool.false_eq_true, if_false]
   omega
  | true =>
   cases h2 : turnedE a y with
   | true => simp only [Bool.or_true, if_true, List.length_cons]; omega
   | false => simp only [Bool.not_true, Bool.or_false, if_true, Bool.false_eq_true, if_false]; omega
theorem same_of {a b : List (S31)} (ha : Up a) (hb : Up b) : sameV a b = true ↔ addedV a b = [] ∧ addedV b a = [] ∧ changedV a b = [] := by
 have hadd : ∀ a b : List (S31), addedV a b = [] ↔ ∀ y ∈ b, hasP a y.f0 = true := by
  intro a b
  unfold addedV
  rw [List.map_eq_nil_iff, List.filter_eq_nil_iff]
  constructor
  ·intro h y hy
   have := h y hy
   simpa using this
  ·intro h y hy
   rw [h y hy]
   decide
 have hch : changedV a b = [] ↔ ∀ y ∈ b, turnedE a y = false := by
  unfold changedV
  rw [List.map_eq_nil_iff, List.filter_eq_nil_iff]
  constructor
  ·intro h y hy
   have := h y hy
   simpa using this
  ·intro h y hy
   rw [h y hy]
   decide
 rw [hadd, hadd, hch]
 unfold sameV
 rw [Bool.and_eq_true, decide_eq_true_eq, List.all_eq_true]
 constructor
 ·rintro ⟨hl, h⟩
  have hi : ∀ (i : Nat) (h1 : i < a.length) (h2 : i < b.length), sameEntry a[i] b[i] = true := fun i h1 h2 => h (a[i], b[i]) (List.mem_iff_getElem.2 ⟨i, by rw [List.length_zip]; omega, by rw [List.getElem_zip]⟩)
  refine ⟨fun y hy => ?_, fun y hy => ?_, fun y hy => ?_⟩
  ·obtain ⟨i, h2, rfl⟩ := List.mem_iff_getElem.1 hy
   exact hasP_iff.2 ⟨a[i], List.getElem_mem (by omega), sameEntry_path (hi i (by omega) h2)⟩
  ·obtain ⟨i, h2, rfl⟩ := List.mem_iff_getElem.1 hy
   exact hasP_iff.2 ⟨b[i], List.getElem_mem (by omega), (sameEntry_path (hi i h2 (by omega))).symm⟩
  ·obtain ⟨i, h2, rfl⟩ := List.mem_iff_getElem.1 hy
   have h1 : i < a.length := by omega
   rw [turned_at ha h1 (by rw [rd_at a i h1]; exact sameEntry_path (hi i h1 h2)), rd_at a i h1, hi i h1 h2]
   rfl
 ·rintro ⟨h1, h2, h3⟩
  have hm : (a.map fun x => x.f0) = b.map fun x => x.f0 := by
   have key : ∀ l m : List ByteArray, (l.Pairwise fun x y => cmpV x y < 0) → (m.Pairwise fun x y => cmpV x y < 0) → (∀ z, z ∈ l ↔ z ∈ m) → l = m := by
    intro l
    induction l with
    | nil =>
     intro m _ _ h
     cases m with
     | nil => rfl
     | cons y m => have := (h y).2 List.mem_cons_self; cases this
    | cons x l ih =>
     intro m hl hm h
     cases m with
     | nil => have := (h x).1 List.mem_cons_self; cases this
     | cons y m =>
      have e : x = y := by
       rcases List.mem_cons.1 ((h x).1 List.mem_cons_self) with e | h1
       ·exact e
       ·rcases List.mem_cons.1 ((h y).2 List.mem_cons_self) with e | h2
        ·exact e.symm
        ·have := cmpV_trans (List.rel_of_pairwise_cons hl h2) (List.rel_of_pairwise_cons hm h1)
         rw [cmpV_self] at this
         omega
      subst e
      congr 1
      refine ih m (List.pairwise_cons.1 hl).2 (List.pairwise_cons.1 hm).2 (fun z => ⟨fun hz => ?_, fun hz => ?_⟩)
      ·rcases List.mem_cons.1 ((h z).1 (List.mem_cons_of_mem _ hz)) with rfl | h1
       ·exact absurd rfl (cmpV_ne (List.rel_of_pairwise_cons hl hz))
       ·exact h1
      ·rcases List.mem_cons.1 ((h z).2 (List.mem_cons_of_mem _ hz)) with rfl | h1
       ·exact absurd rfl (cmpV_ne (List.rel_of_pairwise_cons hm hz))
       ·exact h1
   refine key _ _ (Up.paths.1 ha) (Up.paths.1 hb) (fun z => ?_)
   rw [List.mem_map, List.mem_map]
   constructor
   ·rintro ⟨x, hx, rfl⟩
    exact hasP_iff.1 (h2 x hx)
   ·rintro ⟨x, hx, rfl⟩
    exact hasP_iff.1 (h1 x hx)
  have hl : a.length = b.length := by have := congrArg List.length hm; rwa [List.length_map, List.length_map] at this
  refine ⟨hl, fun p hp => ?_⟩
  obtain ⟨i, hi, rfl⟩ := List.mem_iff_getElem.1 hp
  rw [List.length_zip] at hi
  rw [List.getElem_zip]
  have hia : i < a.length := by omega
  have hib : i < b.length := by omega
  have e : a[i].f0 = b[i].f0 := by
   have h4 : (a.map fun x => x.f0)[i]? = (b.map fun x => x.f0)[i]? := by rw [hm]
   rw [List.getElem?_map, List.getElem?_map, List.getElem?_eq_getElem hia, List.getElem?_eq_getElem hib] at h4
   exact Option.some.inj h4
  exact turned_one (List.getElem_mem hia) e (h3 b[i] (List.getElem_mem hib))
theorem diff_self {b : List (S31)} (hb : Up b) : addedV b b = [] ∧ changedV b b = [] := by
 have := (same_of hb hb).1 (sameV_refl b)
 exact ⟨this.1, this.2.2⟩
/-! ### The loops -/
section
variable {a b : List (S31)}
theorem leads_l1 (ha : Good a) (hb : Good b) (la : a.length ≤ 60) (lb : b.length ≤ 60) (fa : Fits a) (fb : Fits b) : ∀ (m i : Nat), i + m = b.length →
  Ev (fun k => satchellaw08_TreeLeads.l1 k a b true (addedV a b) (addedV b a) (changedV a b) (midV a b i) (((b.take i).filter (newE a)).length : Int) (i : Int)) true
 | 0, i, h => by
  refine Ev.shift ?_
  simp only [satchellaw08_TreeLeads.l1]
  obtain rfl : i = b.length := by omega
  have h1 := addedV_len a b
  have h2 := addedV_len b a
  have h3 := changedV_len a b
  refine Ev.ifn (by omega) ?_
  have hd := diff_ev b b (by omega) (by omega)
  obtain ⟨d1, d2⟩ := diff_self hb.Up
  have hv : diffV b b = ([], [], []) := by unfold diffV; rw [if_pos ⟨by rw [hb.tree], by rw [hb.tree]⟩, d1, d2]
  rw [hv] at hd
  refine Ev.bind hd (Ev.ifp (by trivial) ?_)
  rw [List.take_length, mid_all]
  refine Ev.ifp (by rw [new_count, wrap_id _ (by omega)]; omega) ?_
  simp only [sameTree_f, same_to, Option.bind_some]
  refine Ev.ifp (by trivial) ?_
  simp only [same_f (b.map (toB a)) b (by rw [List.length_map]; omega), same_to, Option.bind_some]
  refine Ev.ifp (by trivial) (Ev.ifp (by show wrap64 (wrap64 ((0 : Int) + 0) + 0) = 0; rw [wrap_id (0 + 0 : Int) (by omega), wrap_id _ (by omega)]; rfl) ?_)
  simp only [same_f a b (by omega), Option.bind_some]
  have e : (sameV a b == (wrap64 ((wrap64 (((addedV a b).length : Int) + ((addedV b a).length : Int))) + ((changedV a b).length : Int)) == 0)) = true := by
   rw [wrap_id ((addedV a b).length + (addedV b a).length : Int) (by omega), wrap_id _ (by omega), beq_iff_eq, Bool.eq_iff_iff, same_of ha.Up hb.Up, beq_iff_eq]
   constructor
   ·rintro ⟨e1, e2, e3⟩
    rw [e1, e2, e3]
    rfl
   ·intro e1
    exact ⟨List.eq_nil_of_length_eq_zero (by omega), List.eq_nil_of_length_eq_zero (by omega), List.eq_nil_of_length_eq_zero (by omega)⟩
  rw [e]
  exact Ev.const _
 | m + 1, i, h => by
  have hi : i < b.length := by omega
  have h1 := addedV_len a b
  have h3 := changedV_len a b
  have hle : ((b.take i).filter (newE a)).length ≤ i := Nat.le_trans (List.length_filter_le _ _) (by rw [List.length_take]; omega)
  refine Ev.shift ?_
  simp only [satchellaw08_TreeLeads.l1]
  refine Ev.ifp (by omega) (Ev.ifp (by omega) ?_)
  have ih := leads_l1 ha hb la lb fa fb m (i + 1) (by omega)
  have hc : (b.take (i + 1)).filter (newE a) = (b.take i).filter (newE a) ++ (if newE a b[i] = true then [b[i]] else []) := by
   rw [List.take_succ_eq_append_getElem hi, List.filter_append, List.filter_cons, List.filter_nil]
  have put : newE a b[i] = true → Ev (fun k => satchellaw08_TreeLeads.j3 k a b true (addedV a b) (addedV b a) (changedV a b) (midV a b i) (((b.take i).filter (newE a)).length : Int) (i : Int) false) true := by
   intro hn
   refine Ev.shift ?_
   simp only [satchellaw08_TreeLeads.j3]
   refine Ev.ifn (by decide) (Ev.ifp (by omega) (Ev.ifp (by omega) ?_))
   rw [rd_at b i hi]
   have hp := put_ev (midV a b i) (by have := mid_len a b i; omega) (mid_fits fa fb i) b[i] (fb _ (List.getElem_mem hi))
   rw [mid_put ha hb hi hn] at hp
   refine Ev.bind hp (Ev.ifp rfl ?_)
   rw [hc, if_pos hn, List.length_append, List.length_singleton] at ih
   rw [wrap_id _ (by omega), wrap_id _ (by omega)]
   exact ih
  rw [rd_at b i hi]
  have ha1 := among_ev (addedV a b) (by omega) b[i].f0
  rw [among_added (List.getElem_mem hi)] at ha1
  refine Ev.bind ha1 ?_
  by_cases h4 : hasP a b[i].f0 = true
  ·rw [h4]
   refine Ev.ifn (by decide) ?_
   have hc1 := among_ev (changedV a b) (by omega) b[i].f0
   rw [among_changed hb.Up (List.getElem_mem hi)] at hc1
   refine Ev.bind hc1 ?_
   cases h5 : turnedE a b[i] with
   | true => exact put (by unfold newE; rw [h5, Bool.or_true])
   | false =>
    refine Ev.shift ?_
    simp only [satchellaw08_TreeLeads.j3]
    refine Ev.ifp rfl ?_
    rw [hc, if_neg (by unfold newE; rw [h4, h5]; decide), List.append_nil, mid_keep hi h4 h5] at ih
    rw [wrap_id _ (by omega)]
    exact ih
  ·have h6 : hasP a b[i].f0 = false := by simpa using h4
   rw [h6]
   exact Ev.ifp rfl (put (by unfold newE; rw [h6]; rfl))
def stillE (b a : List (S31)) (i : Nat) (x : S31) : Bool := ((addedV b a).take i).all fun g => !goneV g x
theorem gone_valid (ha : Good a) {g : ByteArray} (hg : g ∈ addedV b a) : validV g = true ∧ hasP b g = false ∧ hasP a g = true := by
 unfold addedV at hg
 obtain ⟨y, hy, rfl⟩ := List.mem_map.1 hg
 obtain ⟨h1, h2⟩ := List.mem_filter.1 hy
 exact ⟨ha.valid h1, by simpa using h2, hasP_iff.2 ⟨y, h1, rfl⟩⟩
theorem still_step (i : Nat) (hi : i < (addedV b a).length) : (a.filter (stillE b a (i + 1))) = (a.filter (stillE b a i)).filter fun x => !goneV (addedV b a)[i] x := by
 rw [List.filter_filter]
 refine List.filter_congr (fun x _ => ?_)
 unfold stillE
 rw [List.take_succ_eq_append_getElem hi, List.all_append, List.all_cons, List.all_nil, Bool.and_true, Bool.and_comm]
theorem still_good (ha : Good a) : ∀ i, i ≤ (addedV b a).length → Good (a.filter (stillE b a i))
 | 0, _ => by
  have : a.filter (stillE b a 0) = a := List.filter_eq_self.2 (fun x _ => rfl)
  rw [this]
  exact ha
 | i + 1, h => by
  rw [still_step i (by omega)]
  exact (still_good ha i (by omega)).dropped (gone_valid ha (List.getElem_mem (by omega))).1
theorem still_all (ha : Good a) (hb : Good b) : a.filter (stillE b a (addedV b a).length) = midV a b 0 := by
 rw [mid_zero ha hb]
 refine List.filter_congr (fun x hx => ?_)
 unfold stillE
 rw [List.take_length]
 cases h : hasP b x.f0 with
 | true =>
  rw [List.all_eq_true]
  intro g hg
  obtain ⟨h1, h2, h3⟩ := gone_valid ha hg
  cases hc : goneV g x with
  | false => rfl
  | true =>
   unfold goneV at hc
   rw [Bool.or_eq_true, decide_eq_true_eq] at hc
   rcases hc with rfl | hc
   ·rw [h] at h2; cases h2
   ·rw [hb.ancestor _ x.f0 (Nat.le_refl _) h hc] at h2; cases h2
 | false =>
  rw [List.all_eq_false]
  refine ⟨x.f0, ?_, by unfold goneV; simp⟩
  unfold addedV
  exact List.mem_map.2 ⟨x, List.mem_filter.2 ⟨hx, by rw [h]; rfl⟩, rfl⟩
theorem leads_l0 (ha : Good a) (hb : Good b) (la : a.length ≤ 60) (lb : b.length ≤ 60) (fa : Fits a) (fb : Fits b) : ∀ (m i : Nat), i + m = (addedV b a).length →
  Ev (fun k => satchellaw08_TreeLeads.l0 k a b true (addedV a b) (addedV b a) (changedV a b) (a.filter (stillE b a i)) (i : Int)) true
 | 0, i, h => by
  refine Ev.shift ?_
  simp only [satchellaw08_TreeLeads.l0]
  obtain rfl : i = (addedV b a).length := by omega
  refine Ev.ifn (by omega) ?_
  rw [still_all ha hb]
  exact leads_l1 ha hb la lb fa fb b.length 0 (by omega)
 | m + 1, i, h => by
  have hi : i < (addedV b a).length := by omega
  have h2 := addedV_len b a
  refine Ev.shift ?_
  simp only [satchellaw08_TreeLeads.l0]
  refine Ev.ifp (by omega) (Ev.ifp (by omega) ?_)
  have ih := leads_l0 ha hb la lb fa fb m (i + 1) (by omega)
  have hr : rdOf ByteArray.empty (addedV b a) (i : Int) = (addedV b a)[i] := by
   unfold rdOf
   simp [hi]
  rw [hr]
  have hG := still_good (b := b) ha i (by omega)
  have hv := gone_valid ha (List.getElem_mem hi)
  rw [still_step i hi] at ih
  have hlen : (a.filter (stillE b a i)).length ≤ 60 := Nat.le_trans (List.length_filter_le _ _) la
  have hfit : Fits (a.filter (stillE b a i)) := fun e he => fa e (List.mem_filter.1 he).1
  generalize (a.filter (stillE b a i)) = l at hG ih hlen hfit
  generalize (addedV b a)[i] = g at hv ih
  obtain ⟨x, hx⟩ := find_bool hG g
  refine Ev.bind hx ?_
  cases hp : hasP l g with
  | true =>
   refine Ev.ifp rfl ?_
   have hdr := drop_ev l (by omega) hfit g
   have hdv : dropV l g = (l.filter fun x => !goneV g x, 0) := by unfold dropV; rw [if_pos (by rw [hG.tree]), if_pos hp]
   rw [hdv] at hdr
   refine Ev.bind hdr (Ev.ifp rfl (Ev.ifn (by have := dropped_less hp; show ¬ ((l.filter fun x => !goneV g x).length : Int) ≥ (l.length : Int); omega) ?_))
   rw [wrap_id _ (by omega)]
   exact ih
  | false =>
   refine Ev.ifn (fun h => Bool.noConfusion h) ?_
   rw [dropped_none hG hp] at ih
   rw [wrap_id _ (by omega)]
   exact ih
theorem leads_j0 (fa : Fits a) (fb : Fits b) (x : Bool) (hx : x = false → Good a ∧ Good b ∧ a.length ≤ 60 ∧ b.length ≤ 60) : Ev (fun k => satchellaw08_TreeLeads.j0 k a b true x) true := by
 refine Ev.shift ?_
 simp only [satchellaw08_TreeLeads.j0]
 cases x with
 | true => exact Ev.ifp rfl (Ev.const _)
 | false =>
  obtain ⟨ha, hb, la, lb⟩ := hx rfl
  have hd := diff_ev a b (by omega) (by omega)
  have hv : diffV a b = (addedV a b, addedV b a, changedV a b) := by unfold diffV; rw [if_pos ⟨by rw [ha.tree], by rw [hb.tree]⟩]
  rw [hv] at hd
  refine Ev.ifn (by simp) (Ev.bind hd (Ev.bind (copy_ev a (by omega) fa) ?_))
  have := leads_l0 ha hb la lb fa fb (addedV b a).length 0 (by omega)
  have h0 : a.filter (stillE b a 0) = a := List.filter_eq_self.2 (fun x _ => rfl)
  rw [h0] at this
  exact this
end
theorem leads_ev (a b : List (S31)) (fa : Fits a) (fb : Fits b) : Ev (fun k => satchellaw08_TreeLeads.f k a b) true := by
 simp only [satchellaw08_TreeLeads.f, satchellaw08_TreeKnown.f, Option.bind_some]
 refine Ev.bind (tree_ev a) (Ev.bind (tree_ev b) ?_)
 obtain ⟨x, hx, la⟩ := big_ev a 60 4000 (by decide)
 refine Ev.bind hx ?_
 by_cases h1 : x = true
 ·exact Ev.ifp h1 (leads_j0 fa fb true (fun h => by cases h))
 ·refine Ev.ifn h1 ?_
  obtain ⟨y, hy, lb⟩ := big_ev b 60 4000 (by decide)
  refine Ev.bind hy ?_
  by_cases h2 : y = true
  ·exact Ev.ifp h2 (leads_j0 fa fb true (fun h => by cases h))
  ·refine Ev.ifn h2 ?_
   by_cases h3 : (treeV a).1 = 0
   ·refine Ev.ifp h3 (leads_j0 fa fb _ (fun h => ⟨good_of h3, good_of (by simpa using h), la (by simpa using h1), lb (by simpa using h2)⟩))
   ·exact Ev.ifn h3 (leads_j0 fa fb true (fun h => by cases h))
end Go.Proofs.Ytopkmchkfcjjmaa.X
end

/-! ## WalkLeads -/
section
namespace Go.Proofs.Ytopkmchkfcjjmaa.X
open Go.RowKit Go.Proofs.YtopkmchkfcjjmaaW.PrintWords Go.Proofs.YtopkmchkfcjjmaaW.PrintLast Go.Proofs.YtopkmchkfcjjmaaW.PrintMore
theorem treeLeads.walk (A0 : Option Addr) (c0 : Nat) (l0 : List (S31)) (A1 : Option Addr) (c1 : Nat) (l1 : List (S31)) (w : World) (hr0 : Kd.C k31 w A0 l0.length l0) (hc0 : l0.length ≤ c0) (hf0 : Fits l0) (hr1 : Kd.C k31 w A1 l1.length l1) (hc1 : l1.length ≤ c1) (hf1 : Fits l1) :
  Calls Try.prog 9 #[.slice A0 l0.length c0, .slice A1 l1.length c1] w fun e w' => e = .returned (.bool true) ∧ Below w.heap.size w w' := by
 obtain ⟨k, hk⟩ := leads_ev l0 l1 hf0 hf1
 exact satchellaw08_TreeLeads.calls k A0 c0 l0 A1 c1 l1 true w hr0 hc0 hr1 hc1 (hk k (Nat.le_refl _))
end Go.Proofs.Ytopkmchkfcjjmaa.X
end
