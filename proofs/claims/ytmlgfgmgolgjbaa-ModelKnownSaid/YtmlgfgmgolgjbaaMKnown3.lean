/- Functions, one behind the other: a plain Lean function for each, and the proof that the call comes to its answer, whatever the world (conditions: what the arguments read as); and plain laws of them. -/
import Derived.Test.YtmlgfgmgolgjbaaMKnown2
import Derived.Maps.OwnOps
import Derived.Maps.OwnSet
import Derived.Maps.Views
import Derived.WalkSpells
import Derived.Lib.LazyBuf
import Derived.Laws.Append
import Derived.BigRegion
import Derived.BigQuiet
import Derived.RangeFuncNested
import Derived.RangeFuncBound
import Derived.RangeFuncCalls
import Derived.RangeFuncLeaves
import Derived.OwnWalkIn
import Derived.Shelf.Abstract
import Derived.TacticsInMore
import Derived.LoopNIn
import Derived.LoopIn
import Derived.Deep.Slices
/-! ## mPureC -/
section
namespace Go.Proofs.Ytmlgfgmgolgjbaa.X
open Go.RowKit Go.Proofs.YtmlgfgmgolgjbaaW.PrintWords Go.Proofs.YtmlgfgmgolgjbaaW.PrintLast Go.Proofs.YtmlgfgmgolgjbaaW.PrintMore
set_option linter.unusedVariables false
set_option linter.unusedSimpArgs false
theorem rd_at (l : List (S89)) (i : Nat) (h : i < l.length) : rd_T89 l (i : Int) = l[i] := by
  unfold rd_T89
  rw [Int.toNat_natCast, List.getD_eq_getElem?_getD, List.getElem?_eq_getElem h]
  rfl
def oneV (e : S89) : Int := oneOf (checkV e.f0).1 e.f1 e.f2 e.f3 e.f4
theorem one_ev (e : S89) : Ev (fun k => tree_one.f k e.f0 e.f1 e.f2 e.f3 e.f4) (oneV e) := by
  simp only [tree_one.f]
  exact Ev.bind (check_ev e.f0) (Ev.const _)
theorem one_ok {e : S89} (h : oneV e = 0) : validV e.f0 = true ∧ 1 ≤ e.f1 ∧ e.f1 ≤ 3 ∧ e.f3.length ≤ 1048576 := by
  unfold oneV oneOf at h
  split at h
  · rename_i h1
    refine ⟨by unfold validV; rw [h1]; rfl, ?_⟩
    split at h <;> try (cases h; done)
    split at h <;> try (cases h; done)
    split at h <;> try (cases h; done)
    split at h <;> try (cases h; done)
    split at h <;> try (cases h; done)
    split at h <;> try (cases h; done)
    split at h <;> try (cases h; done)
    split at h <;> try (cases h; done)
    omega
  · cases h
/-! ### The search -/
def ends (l : List (S89)) (s : ByteArray) (i : Nat) : Int × Bool := if i < l.length then ((i : Int), cmpV (rd_T89 l (i : Int)).f0 s == 0) else ((i : Int), false)
def bs (l : List (S89)) (s : ByteArray) : Nat → Nat → Nat → Int × Bool
  | 0, i, _ => ends l s i
  | m + 1, i, j => if i < j then (if cmpV (rd_T89 l (((i + j) / 2 : Nat) : Int)).f0 s < 0 then bs l s m ((i + j) / 2 + 1) j else bs l s m i ((i + j) / 2)) else ends l s i
theorem ends_ev (l : List (S89)) (s : ByteArray) (i : Nat) : Ev (fun k => if i < l.length then (path_Compare.f k (rd_T89 l (i : Int)).f0 s).bind fun c => some ((i : Int), c == 0) else some ((i : Int), false)) (ends l s i) := by
  unfold ends
  by_cases h : i < l.length
  · rw [if_pos h]
    exact Ev.ifp h (Ev.bind (compare_ev _ _) (Ev.const _))
  · rw [if_neg h]
    exact Ev.ifn h (Ev.const _)
theorem place_l0 (l : List (S89)) (s : ByteArray) : ∀ (m i j : Nat), j - i ≤ m → Ev (fun k => tree_place.l0 k l s i j) (bs l s m i j)
  | 0, i, j, h => by
    refine Ev.shift ?_
    simp only [tree_place.l0]
    exact Ev.ifn (by omega) (ends_ev l s i)
  | m + 1, i, j, h => by
    refine Ev.shift ?_
    simp only [tree_place.l0]
    unfold bs
    by_cases h1 : i < j
    · rw [if_pos h1]
      have e1 : ((i : Int) + (j : Int)) / 2 = (((i + j) / 2 : Nat) : Int) := by omega
      rw [e1]
      refine Ev.ifp h1 (Ev.bind (compare_ev _ _) ?_)
      by_cases h2 : cmpV (rd_T89 l (((i + j) / 2 : Nat) : Int)).f0 s < 0
      · rw [if_pos h2]
        exact Ev.ifp h2 (place_l0 l s m _ _ (by omega))
      · rw [if_neg h2]
        exact Ev.ifn h2 (place_l0 l s m _ _ (by omega))
    · rw [if_neg h1]
      exact Ev.ifn h1 (ends_ev l s i)
def placeV (l : List (S89)) (s : ByteArray) : Int × Bool := bs l s l.length 0 l.length
theorem place_ev (l : List (S89)) (s : ByteArray) (h : l.length < 1152921504606846976) : Ev (fun k => tree_place.f k l s) (placeV l s) := by
  simp only [tree_place.f]
  exact Ev.ifp h (place_l0 l s _ _ _ (by omega))
theorem ends_lt {l : List (S89)} {s : ByteArray} {i : Nat} {k : Int} (h : ends l s i = (k, true)) : ∃ n : Nat, k = (n : Int) ∧ n < l.length := by
  unfold ends at h
  split at h
  · rename_i h1
    exact ⟨i, ((Prod.mk.inj h).1).symm, h1⟩
  · simp at h
theorem bs_lt (l : List (S89)) (s : ByteArray) : ∀ (m i j : Nat) {k : Int}, bs l s m i j = (k, true) → ∃ n : Nat, k = (n : Int) ∧ n < l.length
  | 0, i, j, k, h => ends_lt h
  | m + 1, i, j, k, h => by
    unfold bs at h
    split at h
    · split at h
      · exact bs_lt l s m _ _ h
      · exact bs_lt l s m _ _ h
    · exact ends_lt h
theorem place_lt {l : List (S89)} {s : ByteArray} {k : Int} (h : placeV l s = (k, true)) : ∃ n : Nat, k = (n : Int) ∧ n < l.length := bs_lt l s _ _ _ h
/-! ### Which trees may be -/
/-- What is wrong with entry i, if those ahead of it may be. -/
def badAt (l : List (S89)) (i : Nat) : Option Int :=
  if oneV (rd_T89 l (i : Int)) = 0 then
    (if 0 < i ∧ 0 ≤ cmpV (rd_T89 l ((i : Int) - 1)).f0 (rd_T89 l (i : Int)).f0 then some 7
     else if (parentV (rd_T89 l (i : Int)).f0).2 = true then
       (if (placeV (l.take i) (parentV (rd_T89 l (i : Int)).f0).1).2 = true ∧ (rd_T89 l (placeV (l.take i) (parentV (rd_T89 l (i : Int)).f0).1).1).f1 = 1 then none else some 6)
     else none)
  else some (oneV (rd_T89 l (i : Int)))
def chkTree (l : List (S89)) : Nat → Nat → Int × Int
  | 0, _ => (0, 0)
  | m + 1, i => match badAt l i with
    | some e => (e, (i : Int))
    | none => chkTree l m (i + 1)
theorem tree_l0 (l : List (S89)) (hl : l.length ≤ 200) : ∀ (m i : Nat), i + m = l.length → Ev (fun k => tree_Check.l0 k l l (l.length : Int) (i : Int)) (chkTree l m i)
  | 0, i, h => by
    refine Ev.shift ?_
    simp only [tree_Check.l0]
    exact Ev.ifn (by omega) (Ev.const _)
  | m + 1, i, h => by
    refine Ev.shift ?_
    simp only [tree_Check.l0]
    refine Ev.ifp (by omega) (Ev.ifp (by omega) (Ev.ifp (by omega) (Ev.bind (one_ev _) ?_)))
    have next := tree_l0 l hl m (i + 1) (by omega)
    have ew : wrap64 ((i : Int) + 1) = ((i + 1 : Nat) : Int) := by rw [wrap_id _ (by omega)]; omega
    by_cases h1 : oneV (rd_T89 l (i : Int)) = 0
    · refine Ev.ifp h1 ?_
      have hv := (one_ok h1).1
      have hsz := valid_size hv
      -- behind the order
      have tail : ∀ b : Bool, b = decide (0 < i ∧ 0 ≤ cmpV (rd_T89 l ((i : Int) - 1)).f0 (rd_T89 l (i : Int)).f0) → Ev (fun k => tree_Check.j1 k l (i : Int) l (l.length : Int) (i : Int) b (rd_T89 l (i : Int)).f0 (rd_T89 l (i : Int)).f1 (rd_T89 l (i : Int)).f2 (rd_T89 l (i : Int)).f3 (rd_T89 l (i : Int)).f4) (chkTree l (m + 1) i) := by
        intro b hb
        refine Ev.shift ?_
        simp only [tree_Check.j1]
        by_cases h2 : 0 < i ∧ 0 ≤ cmpV (rd_T89 l ((i : Int) - 1)).f0 (rd_T89 l (i : Int)).f0
        · have hbad : badAt l i = some 7 := by unfold badAt; rw [if_pos h1, if_pos h2]
          rw [show chkTree l (m + 1) i = (7, (i : Int)) by unfold chkTree; rw [hbad]]
          rw [hb, decide_eq_true h2]
          exact Ev.ifp rfl (Ev.const _)
        · rw [hb, decide_eq_false h2]
          refine Ev.ifn (by simp) (Ev.bind (parent_ev _ (by omega)) ?_)
          by_cases h3 : (parentV (rd_T89 l (i : Int)).f0).2 = true
          · refine Ev.ifp h3 (Ev.ifp (by omega) (Ev.ifp (by omega) ?_))
            rw [Int.toNat_natCast]
            refine Ev.bind (place_ev _ _ (by rw [List.length_take]; omega)) ?_
            by_cases h4 : (placeV (l.take i) (parentV (rd_T89 l (i : Int)).f0).1).2 = true
            · obtain ⟨n, hn, hnl⟩ := place_lt (l := l.take i) (s := (parentV (rd_T89 l (i : Int)).f0).1) (k := (placeV (l.take i) (parentV (rd_T89 l (i : Int)).f0).1).1) (by rw [← h4])
              rw [List.length_take] at hnl
              refine Ev.ifp h4 (Ev.ifp (by omega) (Ev.ifp (by omega) ?_))
              by_cases h5 : (rd_T89 l (placeV (l.take i) (parentV (rd_T89 l (i : Int)).f0).1).1).f1 = 1
              · have hbad : badAt l i = none := by unfold badAt; rw [if_pos h1, if_neg h2, if_pos h3, if_pos ⟨h4, h5⟩]
                rw [show chkTree l (m + 1) i = chkTree l m (i + 1) by show (match badAt l i with | some e => (e, (i : Int)) | none => chkTree l m (i + 1)) = _; rw [hbad]]
                rw [ew]
                exact Ev.ifp h5 next
              · have hbad : badAt l i = some 6 := by unfold badAt; rw [if_pos h1, if_neg h2, if_pos h3, if_neg (fun h => h5 h.2)]
                rw [show chkTree l (m + 1) i = (6, (i : Int)) by unfold chkTree; rw [hbad]]
                exact Ev.ifn h5 (Ev.const _)
            · have hbad : badAt l i = some 6 := by unfold badAt; rw [if_pos h1, if_neg h2, if_pos h3, if_neg (fun h => h4 h.1)]
              rw [show chkTree l (m + 1) i = (6, (i : Int)) by unfold chkTree; rw [hbad]]
              exact Ev.ifn h4 (Ev.const _)
          · have hbad : badAt l i = none := by unfold badAt; rw [if_pos h1, if_neg h2, if_neg h3]
            rw [show chkTree l (m + 1) i = chkTree l m (i + 1) by show (match badAt l i with | some e => (e, (i : Int)) | none => chkTree l m (i + 1)) = _; rw [hbad]]
            rw [ew]
            exact Ev.ifn h3 next
      by_cases h0 : 0 < i
      · have e1 : wrap64 ((i : Int) - 1) = (i : Int) - 1 := wrap_id _ (by omega)
        refine Ev.ifp (by omega) ?_
        rw [e1]
        refine Ev.ifp (by omega) (Ev.ifp (by omega) (Ev.bind (compare_ev _ _) ?_))
        exact tail _ (by simp [h0])
      · refine Ev.ifn (by omega) ?_
        exact tail _ (by simp [h0])
    · have hbad : badAt l i = some (oneV (rd_T89 l (i : Int))) := by unfold badAt; rw [if_neg h1]
      rw [show chkTree l (m + 1) i = (oneV (rd_T89 l (i : Int)), (i : Int)) by unfold chkTree; rw [hbad]]
      exact Ev.ifn h1 (Ev.const _)
def treeV (l : List (S89)) : Int × Int := if 200 < l.length then (3, 0) else chkTree l l.length 0
theorem tree_ev (l : List (S89)) : Ev (fun k => tree_Check.f k l) (treeV l) := by
  unfold treeV
  simp only [tree_Check.f]
  by_cases h : 200 < l.length
  · rw [if_pos h]; exact Ev.ifp (by omega) (Ev.const _)
  · rw [if_neg h]; exact Ev.ifn (by omega) (tree_l0 l (by omega) l.length 0 (by omega))
end Go.Proofs.Ytmlgfgmgolgjbaa.X
end

/-! ## mState -/
section
namespace Go.Proofs.Ytmlgfgmgolgjbaa.X
open Go.RowKit Go.Maps Go.Proofs.YtmlgfgmgolgjbaaW.PrintWords Go.Proofs.YtmlgfgmgolgjbaaW.PrintLast Go.Proofs.YtmlgfgmgolgjbaaW.PrintMore
set_option linter.unusedVariables false
set_option linter.unusedSimpArgs false
/-- A snapshot's number, command, tick; where its tree lies (the tree is not read). -/
abbrev Sn := Int × Int × Int × Option Addr × Nat × Nat
def snCells (x : Sn) (cs : List Value) : Prop := cs = [.int .i64 x.1, .int .i64 x.2.1, .int .i64 x.2.2.1, .slice x.2.2.2.1 x.2.2.2.2.1 x.2.2.2.2.2]
def kSn : Kd Sn where
 sz := 4
 E := []
 K := fun _ x cs => snCells x cs
 M := fun _ _ _ x cs => snCells x cs
 K_len := by intro w x cs h; rw [show cs = _ from h]; rfl
 K_one := by
  intro w x cs h u hu
  rw [show cs = _ from h] at hu
  simp only [List.mem_cons, List.not_mem_nil, or_false] at hu
  rcases hu with rfl | rfl | rfl | rfl <;> rfl
 K_below := fun _ h => h
 K_of_M := fun h => h
 M_mono := fun _ h => h
 M_bound := fun h => h
 M_move := fun _ h => h
 M_lower := fun _ h => h
/-- A pointer to a block, as an element of a map. -/
def ptrE : Value → Option (DataW Unit × List MemPlace)
 | .pointer none => some (.nil, [])
 | .pointer (some ⟨b, 0, none⟩) => some (.lit (.int .i64 (b : Int)), [])
 | _ => none
theorem ptrE_nil_inv {v : Value} {ps : List MemPlace} (h : ptrE v = some (.nil, ps)) : v = .pointer none := by
 unfold ptrE at h
 split at h
 ·rfl
 ·simp at h
 ·cases h
theorem ptrE_inv {v : Value} {b : Nat} {ps : List MemPlace} (h : ptrE v = some (.lit (.int .i64 (b : Int)), ps)) : v = .pointer (some ⟨b, 0, none⟩) := by
 unfold ptrE at h
 split at h
 ·simp at h
 ·rename_i b'
  have h1 : (b' : Int) = (b : Int) ∧ ps = [] := by simpa using h
  have h2 : b' = b := by omega
  rw [h2]
 ·cases h
/-- A client: its key, its block, its row of snapshots, what is in it, its greatest number. -/
structure Cl where
 key : Int
 b : Nat
 v : Value
 xs : List Sn
 g : Int
def clOf (C : List Cl) (k : Int) : Option Cl := C.find? fun c => decide (c.key = k)
/-- The model at block mm, its map at block mb: clients C; w0: the world in which all of it was begun. -/
structure Held (w0 w : World) (mm mb n : Nat) (C : List Cl) : Prop where
 below : Below w0.heap.size w0 w
 mm_ge : w0.heap.size ≤ mm
 mb_ge : w0.heap.size ≤ mb
 model : w.heap[mm]? = some (.cells #[.map (some mb)] 40 (0, 0))
 map : ∃ D : DataW Unit, w.ownsMap Try.prog 3 ptrE mb n D ∧ ∀ k : Int, (Lit.int .i64 k).wf = true → ∀ z, D.atKey (.int .i64 k) z = (match clOf C k with | some c => .lit (.int .i64 (c.b : Int)) | none => z)
 blk : ∀ c ∈ C, w0.heap.size ≤ c.b ∧ w.heap[c.b]? = some (.cells #[c.v, .int .i64 c.g] 74 (0, 0))
 row : ∀ c ∈ C, Kd.R kSn 70 w w0.heap.size (fun _ => True) c.v c.xs
 apart : ∀ c ∈ C, ∀ d ∈ C, c.key ≠ d.key → c.b ≠ d.b ∧ ∀ k, c.v.ownBlock = some k → d.v.ownBlock ≠ some k
/-- What is none of the model's blocks that turn. -/
def Off (mb : Nat) (C : List Cl) (w : World) (k : Nat) : Prop := k < w.heap.size ∧ k ≠ mb ∧ ∀ c ∈ C, k ≠ c.b ∧ c.v.ownBlock ≠ some k
theorem Off.after {mb : Nat} {C : List Cl} {w w' : World} {k : Nat} (h : Off mb C w k) (hb : w.heap.size ≤ w'.heap.size) : Off mb C w' k := ⟨by have := h.1; omega, h.2⟩
/-- Where a snapshot's tree lies, and what it reads as. -/
def TreeAt (mb : Nat) (C : List Cl) (w : World) (t : Option Addr × Nat × Nat) (l : List S89) : Prop := t.2.1 = l.length ∧ l.length ≤ t.2.2 ∧ Kd.F k89 w (Off mb C w) t.1 l.length l
theorem TreeAt.after {mb : Nat} {C : List Cl} {w w' : World} {t : Option Addr × Nat × Nat} {l : List S89} (h : TreeAt mb C w t l) (hb : Below w.heap.size w w') : TreeAt mb C w' t l :=
 ⟨h.1, h.2.1, Kd.F_mono (Kd.F_below h.2.2 hb) (fun _ hk => hk.after hb.size)⟩
theorem clOf_some {C : List Cl} {k : Int} {c : Cl} (h : clOf C k = some c) : c ∈ C ∧ c.key = k := by
 unfold clOf at h
 exact ⟨List.mem_of_find?_eq_some h, by simpa using List.find?_some h⟩
theorem grown_below {W w' : World} (hb : Below W.heap.size W w') : W.grownBy w' none := by
 refine ⟨hb.os, hb.tape, hb.output, hb.size, fun i hi _ => hb.block i hi⟩
theorem Held.after {w0 w w' : World} {mm mb n : Nat} {C : List Cl} (h : Held w0 w mm mb n C) (hb : Below w.heap.size w w') : Held w0 w' mm mb n C where
 below := h.below.trans (hb.mono h.below.size)
 mm_ge := h.mm_ge
 mb_ge := h.mb_ge
 model := blk_below h.model hb
 map := by
  obtain ⟨D, h1, h2⟩ := h.map
  exact ⟨D, h1.kept (grown_below hb) (by simp), h2⟩
 blk := fun c hc => ⟨(h.blk c hc).1, blk_below (h.blk c hc).2 hb⟩
 row := fun c hc => Kd.R_below (h.row c hc) hb
 apart := h.apart
theorem int_key {k : Int} (hk : (Lit.int .i64 k).wf = true) : keyOf Try.prog 3 (.int .i64 k) = some (.int .i64 k) := keyOf_int_mk Try.underlying3 hk
theorem zero_ptr (w : World) : (zeroValue 63).run Try.prog w = .ok (.pointer none) w := by kernel_rfl
/-- What the look-up comes to. -/
theorem Held.look {w0 w : World} {mm mb n : Nat} {C : List Cl} (h : Held w0 w mm mb n C) {k : Int} (hk : (Lit.int .i64 k).wf = true) :
  (Instr.lookup 38 (.map (some mb)) (.int .i64 k) false).run Try.prog w = .ok (match clOf C k with | some c => .pointer (some ⟨c.b, 0, none⟩) | none => .pointer none) w := by
 obtain ⟨D, h1, h2⟩ := h.map
 obtain ⟨v, ps, hrun, hv⟩ := h1.lookup (z := .pointer none) (zd := .nil) (zp := []) (int_keyed Try.underlying3) Try.underlying38 (zero_ptr w) rfl (int_key hk)
 rw [h2 k hk] at hv
 rw [hrun]
 cases hc : clOf C k with
 | none =>
  rw [hc] at hv
  rw [ptrE_nil_inv hv]
 | some c =>
  rw [hc] at hv
  rw [ptrE_inv hv]
/-! ### What a step turns -/
/-- Nothing that was there has turned, but for the blocks of S. -/
structure Chg (W w' : World) (S : Nat → Prop) : Prop where
 os : w'.os = W.os
 tape : w'.tape = W.tape
 output : w'.output = W.output
 size : W.heap.size ≤ w'.heap.size
 block : ∀ i, i < W.heap.size → ¬ S i → w'.heap[i]? = W.heap[i]?
theorem Chg.refl (W : World) (S : Nat → Prop) : Chg W W S := ⟨rfl, rfl, rfl, Nat.le_refl _, fun _ _ _ => rfl⟩
theorem Chg.of_below {W w' : World} (h : Below W.heap.size W w') (S : Nat → Prop) : Chg W w' S := ⟨h.os, h.tape, h.output, h.size, fun i hi _ => h.block i hi⟩
theorem Chg.of_grown {W w' : World} {row : Option Nat} {S : Nat → Prop} (h : W.grownBy w' row) (hS : ∀ i, some i = row → S i) : Chg W w' S := ⟨h.os, h.tape, h.output, h.size, fun i hi hn => h.block i hi (fun e => hn (hS i e))⟩
theorem Chg.set (W : World) (p : Addr) (u : Value) {S : Nat → Prop} (hS : S p.block) : Chg W (W.setCell p u) S :=
 ⟨rfl, rfl, rfl, by simp, fun i hi hn => Below.heap_setCell W p u i (fun e => hn (e ▸ hS))⟩
theorem Chg.trans {A B D : World} {S : Nat → Prop} (h : Chg A B S) (k : Chg B D S) : Chg A D S :=
 ⟨k.os.trans h.os, k.tape.trans h.tape, k.output.trans h.output, Nat.le_trans h.size k.size, fun i hi hn => (k.block i (Nat.lt_of_lt_of_le hi h.size) hn).trans (h.block i hi hn)⟩
theorem Chg.below {w0 W w' : World} {S : Nat → Prop} (h : Below w0.heap.size w0 W) (k : Chg W w' S) (hS : ∀ i, S i → w0.heap.size ≤ i) : Below w0.heap.size w0 w' :=
 ⟨k.os.trans h.os, k.tape.trans h.tape, k.output.trans h.output, Nat.le_trans h.size k.size, fun i hi => (k.block i (Nat.lt_of_lt_of_le hi h.size) (fun hs => by have := hS i hs; omega)).trans (h.block i hi)⟩
theorem row_only {w : World} {base : Nat} {ok : Nat → Prop} {v : Value} {xs : List Sn} (h : Kd.R kSn 70 w base ok v xs) : Kd.R kSn 70 w base (fun k => v.ownBlock = some k) v xs := by
 obtain ⟨_, inner, h1, h2⟩ := h
 exact ⟨fun k hk => hk, inner, h1, h2⟩
theorem row_at {w : World} {base : Nat} {ok : Nat → Prop} {v : Value} {xs : List Sn} (h : Kd.R kSn 70 w base ok v xs) {k : Nat} (hk : v.ownBlock = some k) : base ≤ k ∧ k < w.heap.size ∧ ∃ cells, w.heap[k]? = some (.cells cells 70 (0, 0)) := by
 obtain ⟨_, h2, h3, h4⟩ := (Kd.R_bound h).1 k hk
 obtain ⟨q, hq, cells, hc⟩ := h4
 have : q = 70 := by simpa [kSn] using hq
 subst this
 exact ⟨h2, h3, cells, hc⟩
/-- A client has a snapshot more. -/
theorem Held.took {w0 w1 w' : World} {mm mb n : Nat} {C : List Cl} (h : Held w0 w1 mm mb n C) {k : Int} {cb : Nat} {v v' : Value} {xs' : List Sn} {num : Int} (hk : (Lit.int .i64 k).wf = true) (hge : w0.heap.size ≤ cb)
  (hcl : (∃ c, clOf C k = some c ∧ c.b = cb ∧ c.v = v) ∨ (clOf C k = none ∧ (∀ c ∈ C, c.b ≠ cb) ∧ v.ownBlock = none))
  (hcb : ∃ cells, w1.heap[cb]? = some (.cells cells 74 (0, 0)))
  {D : DataW Unit} (hD : w1.ownsMap Try.prog 3 ptrE mb n D) (hDl : ∀ k : Int, (Lit.int .i64 k).wf = true → ∀ z, D.atKey (.int .i64 k) z = (match clOf C k with | some c => .lit (.int .i64 (c.b : Int)) | none => z)) (hmap : w'.ownsMap Try.prog 3 ptrE mb (n + 1) (D.put (.int .i64 k) (.lit (.int .i64 (cb : Int)))))
  (hblk : w'.heap[cb]? = some (.cells #[v', .int .i64 num] 74 (0, 0))) (hrow : Kd.R kSn 70 w' w0.heap.size (fun _ => True) v' xs')
  (hown : v'.ownBlock = v.ownBlock ∨ ∃ b, v'.ownBlock = some b ∧ w1.heap.size ≤ b) (hchg : Chg w1 w' (fun i => i = cb ∨ i = mb ∨ some i = v.ownBlock)) :
  Held w0 w' mm mb (n + 1) (⟨k, cb, v', xs', num⟩ :: C.filter fun c => decide (c.key ≠ k)) := by
 obtain ⟨cells, hcb⟩ := hcb
 have hmb : ∃ es cl, w1.heap[mb]? = some (.map es cl) := by obtain ⟨es, cl, e, _⟩ := hD; exact ⟨es, cl, e⟩
 obtain ⟨es, cl, hmb⟩ := hmb
 have hv : ∀ i, some i = v.ownBlock → w0.heap.size ≤ i ∧ ∃ cs, w1.heap[i]? = some (.cells cs 70 (0, 0)) := by
  intro i hi
  rcases hcl with ⟨c, e1, _, rfl⟩ | ⟨_, _, e⟩
  ·obtain ⟨a1, _, a2⟩ := row_at (h.row c (clOf_some e1).1) hi.symm
   exact ⟨a1, a2⟩
  ·rw [e] at hi; cases hi
 have hoth : ∀ c ∈ C, c.key ≠ k → c.b ≠ cb ∧ ∀ q, c.v.ownBlock = some q → v.ownBlock ≠ some q := by
  intro c hc hne
  rcases hcl with ⟨d, e1, rfl, rfl⟩ | ⟨_, e2, e3⟩
  ·obtain ⟨d1, d2⟩ := clOf_some e1
   obtain ⟨a1, a2⟩ := h.apart c hc d d1 (by rw [d2]; exact hne)
   exact ⟨a1, a2⟩
  ·exact ⟨e2 c hc, fun q _ => by rw [e3]; simp⟩
 have hmem : ∀ c, c ∈ C.filter (fun c => decide (c.key ≠ k)) → c ∈ C ∧ c.key ≠ k := fun c hc => by
  obtain ⟨a1, a2⟩ := List.mem_filter.1 hc
  exact ⟨a1, by simpa using a2⟩
 have hlt : ∀ {i : Nat} {o : Obj}, w1.heap[i]? = some o → i < w1.heap.size := fun e => (Array.getElem?_eq_some_iff.1 e).1
 have hkeep : ∀ {i : Nat} {o : Obj}, w1.heap[i]? = some o → i ≠ cb → i ≠ mb → some i ≠ v.ownBlock → w'.heap[i]? = some o := fun e a1 a2 a3 => (hchg.block _ (hlt e) (by rintro (e1 | e1 | e1); exact a1 e1; exact a2 e1; exact a3 e1)).trans e
 refine ⟨?_, h.mm_ge, h.mb_ge, ?_, ?_, ?_, ?_, ?_⟩
 ·refine hchg.below h.below (fun i hi => ?_)
  rcases hi with rfl | rfl | hi
  ·exact hge
  ·exact h.mb_ge
  ·exact (hv i hi).1
 ·refine hkeep h.model (fun e => ?_) (fun e => ?_) (fun e => ?_)
  ·have := h.model; rw [e, hcb] at this; injection this with this; injection this with _ this _; cases this
  ·have := h.model; rw [e, hmb] at this; cases this
  ·obtain ⟨_, cs, e2⟩ := hv mm e
   have := h.model; rw [e2] at this; injection this with this; injection this with _ this _; cases this
 ·refine ⟨_, hmap, fun k' hk' z => ?_⟩
  by_cases e : k' = k
  ·subst e
   have e1 : clOf (⟨k', cb, v', xs', num⟩ :: C.filter fun c => decide (c.key ≠ k')) k' = some ⟨k', cb, v', xs', num⟩ := by unfold clOf; rw [List.find?_cons_of_pos (by simp)]
   rw [e1]
   exact atKey_put_same hD.isMap (by first | exact trivial | exact rfl | simp [WideAt.IsKeyLit]) _ _
  ·rw [atKey_put_other (fun e1 => e (by injection e1)), hDl k' hk']
   have e1 : clOf (⟨k, cb, v', xs', num⟩ :: C.filter fun c => decide (c.key ≠ k)) k' = clOf C k' := by
    unfold clOf
    rw [List.find?_cons_of_neg (by simpa using fun e1 : k = k' => e e1.symm), find_filter_keep]
    intro c hc
    have : c.key = k' := by simpa using hc
    simp [this, e]
   rw [e1]
 ·intro c hc
  rcases List.mem_cons.1 hc with rfl | hc
  ·exact ⟨hge, hblk⟩
  ·obtain ⟨hc, hne⟩ := hmem c hc
   refine ⟨(h.blk c hc).1, hkeep (h.blk c hc).2 (hoth c hc hne).1 (fun e => ?_) (fun e => ?_)⟩
   ·have := (h.blk c hc).2; rw [e, hmb] at this; cases this
   ·obtain ⟨_, cs, e2⟩ := hv c.b e
    have := (h.blk c hc).2; rw [e2] at this; injection this with this; injection this with _ this _; cases this
 ·intro c hc
  rcases List.mem_cons.1 hc with rfl | hc
  ·exact hrow
  ·obtain ⟨hc, hne⟩ := hmem c hc
   refine Kd.R_mono (Kd.R_move (row_only (h.row c hc)) (fun q hq => ?_)) (fun _ _ => trivial)
   obtain ⟨_, a2, cs, a3⟩ := row_at (h.row c hc) hq
   rw [a3]
   refine hkeep a3 (fun e => ?_) (fun e => ?_) (fun e => (hoth c hc hne).2 q hq e.symm)
   ·rw [e, hcb] at a3; injection a3 with a3; injection a3 with _ a3 _; cases a3
   ·rw [e, hmb] at a3; cases a3
 ·intro c hc d hd hne
  rcases List.mem_cons.1 hc with rfl | hc
  ·rcases List.mem_cons.1 hd with rfl | hd
   ·exact absurd rfl hne
   ·obtain ⟨hd, hnd⟩ := hmem d hd
    refine ⟨fun e => (hoth d hd hnd).1 e.symm, fun q hq hq2 => ?_⟩
    rcases hown with e | ⟨b, e, hb⟩
    ·exact (hoth d hd hnd).2 q hq2 (e ▸ hq)
    ·obtain ⟨_, a2, _⟩ := row_at (h.row d hd) hq2
     have : q = b := by have := hq.symm.trans e; injection this
     omega
  ·obtain ⟨hc, hnc⟩ := hmem c hc
   rcases List.mem_cons.1 hd with rfl | hd
   ·refine ⟨(hoth c hc hnc).1, fun q hq hq2 => ?_⟩
    rcases hown with e | ⟨b, e, hb⟩
    ·exact (hoth c hc hnc).2 q hq (e ▸ hq2)
    ·obtain ⟨_, a2, _⟩ := row_at (h.row c hc) hq
     have : q = b := by have := hq2.symm.trans e; injection this
     omega
   ·obtain ⟨hd, hnd⟩ := hmem d hd
    exact h.apart c hc d hd hne
end Go.Proofs.Ytmlgfgmgolgjbaa.X
end

/-! ## mSmall -/
section
namespace Go.Proofs.Ytmlgfgmgolgjbaa.X
open Go.RowKit Go.Maps Go.Proofs.YtmlgfgmgolgjbaaW.PrintWords Go.Proofs.YtmlgfgmgolgjbaaW.PrintLast Go.Proofs.YtmlgfgmgolgjbaaW.PrintMore
set_option linter.unusedVariables false
set_option linter.unusedSimpArgs false
def newW (w : World) : World := (w.alloc (.map #[] 0)).alloc (.cells #[.map (some w.heap.size)] 40)
set_option maxRecDepth 100000 in
theorem model_New.calls (w : World) : Calls Try.prog 8 #[] w fun e w' => e = .returned (.pointer (some ⟨w.heap.size + 1, 0, none⟩)) ∧ w' = newW w := by
 have hmm := @run_makeMap Try.prog
 go_enter Try.func8, Try.ntmps8
 go_wp2
 go_ret
 exact ⟨by simp, rfl⟩
theorem newW_below (w : World) : Below w.heap.size w (newW w) := ((Below.refl _ w).alloc (Nat.le_refl _) _).alloc (by simp) _
theorem Held.new {w0 w : World} (h : Below w0.heap.size w0 w) : Held w0 (newW w) (w.heap.size + 1) w.heap.size 0 [] where
 below := h.trans ((newW_below w).mono h.size)
 mm_ge := by have := h.size; omega
 mb_ge := h.size
 model := by
  have := heap_alloc_new (w.alloc (.map #[] 0)) (.cells #[.map (some w.heap.size)] 40)
  rw [World.size_alloc] at this
  exact this
 map := ⟨.map [], (World.ownsMap_made w Try.prog 3 ptrE).alloc _, fun k _ z => rfl⟩
 blk := fun c hc => by cases hc
 row := fun c hc => by cases hc
 apart := fun c hc => by cases hc
set_option maxRecDepth 100000 in
theorem model_none.calls (b mb : Nat) (w : World) (h : w.heap[b]? = some (.cells #[.map (some mb)] 40 (0, 0))) : Calls Try.prog 26 #[.pointer (some ⟨b, 0, none⟩)] w fun e w' => e = .returned (.bool false) ∧ w' = w := by
 have hc : w.cell? ⟨b, 0, none⟩ = some (.map (some mb)) := (blk_cell h 0).trans rfl
 have heq := run_eql_map_nil (P := Try.prog) w 38 3 63 (some mb) Try.underlying38
 clear h
 go_enter Try.func26, Try.ntmps26
 go_wp2
 go_ret
 exact ⟨rfl, rfl⟩
set_option maxRecDepth 100000 in
theorem model_none.nil (w : World) : Calls Try.prog 26 #[.pointer none] w fun e w' => e = .returned (.bool true) ∧ w' = w := by
 go_enter Try.func26, Try.ntmps26
 go_wp2
 go_ret
 exact ⟨rfl, rfl⟩
def freshO : Obj := .cells #[.slice none 0 0, .int .i64 0] 74
set_option maxRecDepth 100000 in
theorem model_of.hit {w0 w : World} {mm mb n : Nat} {C : List Cl} (h : Held w0 w mm mb n C) {k : Int} (hk : (Lit.int .i64 k).wf = true) {c : Cl} (hc : clOf C k = some c) :
  Calls Try.prog 28 #[.pointer (some ⟨mm, 0, none⟩), .int .i64 k] w fun e w' => e = .returned (.pointer (some ⟨c.b, 0, none⟩)) ∧ w' = w := by
 have hl := h.look hk
 rw [hc] at hl
 dsimp only at hl
 have hcell : w.cell? ⟨mm, 0, none⟩ = some (.map (some mb)) := (blk_cell h.model 0).trans rfl
 clear h hc hk
 go_enter Try.func28, Try.ntmps28
 go_wp2
 go_ret
 exact ⟨rfl, rfl⟩
set_option maxRecDepth 100000 in
theorem model_of.miss {w0 w : World} {mm mb n : Nat} {C : List Cl} (h : Held w0 w mm mb n C) {k : Int} (hk : (Lit.int .i64 k).wf = true) (hc : clOf C k = none) :
  Calls Try.prog 28 #[.pointer (some ⟨mm, 0, none⟩), .int .i64 k] w fun e w' => e = .returned (.pointer (some ⟨w.heap.size, 0, none⟩)) ∧ w' = w.alloc freshO := by
 have hl := h.look hk
 rw [hc] at hl
 dsimp only at hl
 have hcell : w.cell? ⟨mm, 0, none⟩ = some (.map (some mb)) := (blk_cell h.model 0).trans rfl
 clear h hc hk
 go_enter Try.func28, Try.ntmps28
 go_wp2
 go_ret
 exact ⟨rfl, rfl⟩
end Go.Proofs.Ytmlgfgmgolgjbaa.X
end

/-! ## ModelWithin -/
section
namespace Go.Proofs.Ytmlgfgmgolgjbaa.X
open Go.RowKit Go.Proofs.YtmlgfgmgolgjbaaW.PrintWords Go.Proofs.YtmlgfgmgolgjbaaW.PrintLast Go.Proofs.YtmlgfgmgolgjbaaW.PrintMore
attribute [local go_sem] max2_int min2_int max_two min_two max_three min_three max_four min_four   -- for this text's walks alone
set_option linter.unusedVariables false
set_option linter.unusedSimpArgs false

attribute [local go_sem] str_gtr fld_fault0 fld_fault1
/-! ### model_within: function 40 -/
def model_within.f (a0 : Int) (a1 : Int) : Option (Bool) := if a0 ≥ a1 then (some (decide (a0 ≤ 2147483647))) else (some false)
set_option maxHeartbeats 8000000 in
set_option maxRecDepth 100000 in
theorem model_within.calls (a0 : Int) (a1 : Int) (r : Bool) (w : World) (h : model_within.f a0 a1 = some r) :
  Calls Try.prog 40 #[.int .i64 a0, .int .i64 a1] w fun e w' => e = .returned (.bool r) ∧ Drawn0 w w' := by
 have H : (if a0 ≥ a1 then (some (decide (a0 ≤ 2147483647))) else (some false)) = some r := h
 clear h
 by_cases c3 : a0 ≥ a1
 ·rw [if_pos c3] at H
  have c3b0 : decide (a1 ≤ a0) = true := decide_eq_true c3
  clear c3
  obtain rfl := Option.some.inj H
  go_enter Try.func40, Try.ntmps40
  go_wp2
  go_ret
  exact ⟨by first | rfl | (simp; done) | (simp [*]; done), by repeat (first | exact Drawn0.refl _ | apply Drawn0.step)⟩
 ·rw [if_neg c3] at H
  have c3b0 : decide (a1 ≤ a0) = false := decide_eq_false c3
  clear c3
  obtain rfl := Option.some.inj H
  go_enter Try.func40, Try.ntmps40
  go_wp2
  go_ret
  exact ⟨by first | rfl | (simp; done) | (simp [*]; done), by repeat (first | exact Drawn0.refl _ | apply Drawn0.step)⟩

end Go.Proofs.Ytmlgfgmgolgjbaa.X
end

/-! ## ModelFits -/
section
namespace Go.Proofs.Ytmlgfgmgolgjbaa.X
open Go.RowKit Go.Proofs.YtmlgfgmgolgjbaaW.PrintWords Go.Proofs.YtmlgfgmgolgjbaaW.PrintLast Go.Proofs.YtmlgfgmgolgjbaaW.PrintMore
attribute [local go_sem] max2_int min2_int max_two min_two max_three min_three max_four min_four   -- for this text's walks alone
set_option linter.unusedVariables false
set_option linter.unusedSimpArgs false

attribute [local go_sem] str_gtr fld_fault0 fld_fault1
/-! ### model_fits: function 27 -/
def model_fits.j0 : Nat → List (S89) → Bool → Option (Int)
 | 0, _, _ => none
 | k + 1, x4, x30 => if x30 = true then (some 5) else ((tree_Check.f k x4).bind fun bt142 => (if bt142.1 = 0 then (some 0) else (some 2)))
def model_fits.f (k : Nat) (a0 : Int) (a1 : Int) (a2 : Int) (a3 : Int) (l4 : List (S89)) : Option (Int) := (model_within.f a0 1).bind fun t138 => (if t138 = true then ((model_within.f a1 1).bind fun t139 => (if t139 = true then ((model_within.f a2 1).bind fun t140 => (if t140 = true then ((model_within.f a3 0).bind fun t141 => (model_fits.j0 k l4 (!t141))) else (model_fits.j0 k l4 true))) else (model_fits.j0 k l4 true))) else (model_fits.j0 k l4 true))
theorem model_fits.mono_l : ∀ k, (∀ y0 y1, LeO (model_fits.j0 k y0 y1) (model_fits.j0 (k + 1) y0 y1))
 | 0 => fun _ _ r h => by simp [model_fits.j0] at h
 | k + 1 => by
  have ih0 := model_fits.mono_l k
  ·intro y0 y1
   unfold model_fits.j0
   repeat' first
   | (with_reducible exact ih0 _ _)
   | (with_reducible exact tree_Check.mono _ _)
   | (with_reducible exact LeO.refl _)
   | (with_reducible exact LeO.none _)
   | (with_reducible refine LeO.ite ?_ ?_)
   | (with_reducible refine LeO.bind ?_ (fun _ => ?_))
   | exact ih0 _ _
   | exact tree_Check.mono _ _
   | exact LeO.none _
   | refine LeO.ite ?_ ?_
   | refine LeO.bind ?_ (fun _ => ?_)
theorem model_fits.mono : ∀ a0 a1 a2 a3 a4 k, LeO (model_fits.f k a0 a1 a2 a3 a4) (model_fits.f (k + 1) a0 a1 a2 a3 a4) := by
 intro a0 a1 a2 a3 a4 k
 have ih0 := model_fits.mono_l k
 unfold model_fits.f
 repeat' first
   | (with_reducible exact ih0 _ _)
   | (with_reducible exact tree_Check.mono _ _)
   | (with_reducible exact LeO.refl _)
   | (with_reducible exact LeO.none _)
   | (with_reducible refine LeO.ite ?_ ?_)
   | (with_reducible refine LeO.bind ?_ (fun _ => ?_))
   | exact ih0 _ _
   | exact tree_Check.mono _ _
   | exact LeO.none _
   | refine LeO.ite ?_ ?_
   | refine LeO.bind ?_ (fun _ => ?_)
set_option maxHeartbeats 8000000 in
set_option maxRecDepth 100000 in
theorem model_fits.calls (k : Nat) (a0 : Int) (a1 : Int) (a2 : Int) (a3 : Int) (A4 : Option Addr) (c4 : Nat) (l4 : List (S89)) (r : Int) (w : World) (hr4 : Kd.C k89 w A4 l4.length l4) (hc4 : l4.length ≤ c4) (h : model_fits.f k a0 a1 a2 a3 l4 = some r) :
  Calls Try.prog 27 #[.int .i64 a0, .int .i64 a1, .int .i64 a2, .int .i64 a3, .slice A4 l4.length c4] w fun e w' => e = .returned (.int .i64 r) ∧ Below w.heap.size w w' := by
 have HR4 := Aside0.mk hr4
 have HC4 := Aside0.mk hc4
 clear hr4 hc4
 have HB := Aside0.mk (Below.refl w.heap.size w)
 have H : ((model_within.f a0 1).bind fun t138 => (if t138 = true then ((model_within.f a1 1).bind fun t139 => (if t139 = true then ((model_within.f a2 1).bind fun t140 => (if t140 = true then ((model_within.f a3 0).bind fun t141 => (model_fits.j0 k l4 (!t141))) else (model_fits.j0 k l4 true))) else (model_fits.j0 k l4 true))) else (model_fits.j0 k l4 true))) = some r := h
 clear h
 have HC6 := Aside0.mk H
 clear H
 go_enter Try.func27, Try.ntmps27
 go_upto_region 1 with (fail)
 go_cut [30] (fun v30 wc => ∃ (kq : Nat) (x30_5 : Bool), v30 = .bool x30_5 ∧ Aside0 (model_fits.j0 kq l4 x30_5 = some r) ∧ Aside0 (kq ≤ k) ∧ Aside0 (Below w.heap.size w wc))
 case first =>
  have H := HC6.out
  clear HC6
  replace H := Option.bind_eq_some_iff.mp H
  obtain ⟨t138, A70, H⟩ := H
  replace H : (if t138 = true then ((model_within.f a1 1).bind fun t139 => (if t139 = true then ((model_within.f a2 1).bind fun t140 => (if t140 = true then ((model_within.f a3 0).bind fun t141 => (model_fits.j0 k l4 (!t141))) else (model_fits.j0 k l4 true))) else (model_fits.j0 k l4 true))) else (model_fits.j0 k l4 true)) = some r := H
  have A7 := Aside0.mk A70
  clear A70
  by_cases c8 : t138 = true
  ·subst c8
   have H1 : ((model_within.f a1 1).bind fun t139 => (if t139 = true then ((model_within.f a2 1).bind fun t140 => (if t140 = true then ((model_within.f a3 0).bind fun t141 => (model_fits.j0 k l4 (!t141))) else (model_fits.j0 k l4 true))) else (model_fits.j0 k l4 true))) = some r := by rw [if_pos rfl] at H; exact H
   clear H
   have H := H1
   clear H1
   replace H := Option.bind_eq_some_iff.mp H
   obtain ⟨t139, A90, H⟩ := H
   replace H : (if t139 = true then ((model_within.f a2 1).bind fun t140 => (if t140 = true then ((model_within.f a3 0).bind fun t141 => (model_fits.j0 k l4 (!t141))) else (model_fits.j0 k l4 true))) else (model_fits.j0 k l4 true)) = some r := H
   have A9 := Aside0.mk A90
   clear A90
   by_cases c10 : t139 = true
   ·subst c10
    have H1 : ((model_within.f a2 1).bind fun t140 => (if t140 = true then ((model_within.f a3 0).bind fun t141 => (model_fits.j0 k l4 (!t141))) else (model_fits.j0 k l4 true))) = some r := by rw [if_pos rfl] at H; exact H
    clear H
    have H := H1
    clear H1
    replace H := Option.bind_eq_some_iff.mp H
    obtain ⟨t140, A110, H⟩ := H
    replace H : (if t140 = true then ((model_within.f a3 0).bind fun t141 => (model_fits.j0 k l4 (!t141))) else (model_fits.j0 k l4 true)) = some r := H
    have A11 := Aside0.mk A110
    clear A110
    by_cases c12 : t140 = true
    ·subst c12
     have H1 : ((model_within.f a3 0).bind fun t141 => (model_fits.j0 k l4 (!t141))) = some r := by rw [if_pos rfl] at H; exact H
     clear H
     have H := H1
     clear H1
     replace H := Option.bind_eq_some_iff.mp H
     obtain ⟨t141, A130, H⟩ := H
     replace H : (model_fits.j0 k l4 (!t141)) = some r := H
     have A13 := Aside0.mk A130
     clear A130
     have H' := Aside0.mk H
     clear H
     go_wp2_with (first | ((with_reducible refine gate_callee (f := 40) rfl ?_); refine goesL_ (some 14) rfl rfl Try.func40 (by kernel_rfl) rfl #[.int .i64 a0, .int .i64 1] rfl (by (try simp only [List.map_toArray, List.map_cons, List.map_nil]); first | done | rfl | (simp only [List.length_drop, List.length_take]; rfl)) ?_; (with_reducible refine (model_within.calls a0 1 true _ A7.out).mono ?_); rintro e w' ⟨rfl, ⟨nd, rfl⟩⟩; refine ⟨_, rfl, ?_⟩) | (go_at_call 40; (with_reducible refine (model_within.calls a1 1 true _ A9.out).mono ?_); rintro e w' ⟨rfl, ⟨nd, rfl⟩⟩) | (go_at_call 40; (with_reducible refine (model_within.calls a2 1 true _ A11.out).mono ?_); rintro e w' ⟨rfl, ⟨nd, rfl⟩⟩) | (go_at_call 40; (with_reducible refine (model_within.calls a3 0 t141 _ A13.out).mono ?_); rintro e w' ⟨rfl, ⟨nd, rfl⟩⟩))
     go_meet
     case rel => exact ⟨_, (!t141), (by first | rfl | (simp; done) | (simp [*]; done)), H', ⟨by first | omega | exact Nat.le_refl _⟩, ⟨by repeat (first | (with_reducible first | exact HB.out | apply below_alloc | apply pw_below_drewN | apply below_drew1) | exact HB.out)⟩⟩
    ·replace c12 := Bool.eq_false_iff.mpr c12
     subst c12
     have H1 : (model_fits.j0 k l4 true) = some r := by rw [if_neg (show ¬ (false = true) by decide)] at H; exact H
     clear H
     have H := H1
     clear H1
     have H' := Aside0.mk H
     clear H
     go_wp2_with (first | ((with_reducible refine gate_callee (f := 40) rfl ?_); refine goesL_ (some 14) rfl rfl Try.func40 (by kernel_rfl) rfl #[.int .i64 a0, .int .i64 1] rfl (by (try simp only [List.map_toArray, List.map_cons, List.map_nil]); first | done | rfl | (simp only [List.length_drop, List.length_take]; rfl)) ?_; (with_reducible refine (model_within.calls a0 1 true _ A7.out).mono ?_); rintro e w' ⟨rfl, ⟨nd, rfl⟩⟩; refine ⟨_, rfl, ?_⟩) | (go_at_call 40; (with_reducible refine (model_within.calls a1 1 true _ A9.out).mono ?_); rintro e w' ⟨rfl, ⟨nd, rfl⟩⟩) | (go_at_call 40; (with_reducible refine (model_within.calls a2 1 false _ A11.out).mono ?_); rintro e w' ⟨rfl, ⟨nd, rfl⟩⟩))
     go_meet
     case rel => exact ⟨_, (true), (by first | rfl | (simp; done) | (simp [*]; done)), H', ⟨by first | omega | exact Nat.le_refl _⟩, ⟨by repeat (first | (with_reducible first | exact HB.out | apply below_alloc | apply pw_below_drewN | apply below_drew1) | exact HB.out)⟩⟩
   ·replace c10 := Bool.eq_false_iff.mpr c10
    subst c10
    have H1 : (model_fits.j0 k l4 true) = some r := by rw [if_neg (show ¬ (false = true) by decide)] at H; exact H
    clear H
    have H := H1
    clear H1
    have H' := Aside0.mk H
    clear H
    go_wp2_with (first | ((with_reducible refine gate_callee (f := 40) rfl ?_); refine goesL_ (some 14) rfl rfl Try.func40 (by kernel_rfl) rfl #[.int .i64 a0, .int .i64 1] rfl (by (try simp only [List.map_toArray, List.map_cons, List.map_nil]); first | done | rfl | (simp only [List.length_drop, List.length_take]; rfl)) ?_; (with_reducible refine (model_within.calls a0 1 true _ A7.out).mono ?_); rintro e w' ⟨rfl, ⟨nd, rfl⟩⟩; refine ⟨_, rfl, ?_⟩) | (go_at_call 40; (with_reducible refine (model_within.calls a1 1 false _ A9.out).mono ?_); rintro e w' ⟨rfl, ⟨nd, rfl⟩⟩))
    go_meet
    case rel => exact ⟨_, (true), (by first | rfl | (simp; done) | (simp [*]; done)), H', ⟨by first | omega | exact Nat.le_refl _⟩, ⟨by repeat (first | (with_reducible first | exact HB.out | apply below_alloc | apply pw_below_drewN | apply below_drew1) | exact HB.out)⟩⟩
  ·replace c8 := Bool.eq_false_iff.mpr c8
   subst c8
   have H1 : (model_fits.j0 k l4 true) = some r := by rw [if_neg (show ¬ (false = true) by decide)] at H; exact H
   clear H
   have H := H1
   clear H1
   have H' := Aside0.mk H
   clear H
   go_wp2_with (first | ((with_reducible refine gate_callee (f := 40) rfl ?_); refine goesL_ (some 14) rfl rfl Try.func40 (by kernel_rfl) rfl #[.int .i64 a0, .int .i64 1] rfl (by (try simp only [List.map_toArray, List.map_cons, List.map_nil]); first | done | rfl | (simp only [List.length_drop, List.length_take]; rfl)) ?_; (with_reducible refine (model_within.calls a0 1 false _ A7.out).mono ?_); rintro e w' ⟨rfl, ⟨nd, rfl⟩⟩; refine ⟨_, rfl, ?_⟩))
   go_meet
   case rel => exact ⟨_, (true), (by first | rfl | (simp; done) | (simp [*]; done)), H', ⟨by first | omega | exact Nat.le_refl _⟩, ⟨by repeat (first | (with_reducible first | exact HB.out | apply below_alloc | apply pw_below_drewN | apply below_drew1) | exact HB.out)⟩⟩
 case rest =>
  clear HC6
  try clear c1
  try clear c2
  try clear p2
  try clear c4
  try clear c8
  try clear c10
  try clear c12
  obtain ⟨kq, x30_5, rfl, HA, HJ5, HB⟩ := hcut
  cases kq with
  | zero => exact absurd HA.out (by simp [model_fits.j0])
  | succ kj5 =>
   have H := HA.out
   clear HA
   simp only [model_fits.j0] at H
   by_cases c14 : x30_5 = true
   ·subst c14
    have H1 : (some 5) = some r := by rw [if_pos rfl] at H; exact H
    clear H
    have H := H1
    clear H1
    obtain rfl := Option.some.inj H
    go_wp2
    go_ret
    exact ⟨by first | rfl | (simp [errW_none, errW_some] <;> rfl) | (simp [*, errW_none, errW_some] <;> rfl) | (simp [bt, *]; done) | (simp_all [bt]; done), by repeat (first | (with_reducible first | exact HB.out | apply below_alloc | apply pw_below_drewN | apply below_drew1) | exact HB.out)⟩
   ·replace c14 := Bool.eq_false_iff.mpr c14
    subst c14
    have H1 : ((tree_Check.f kj5 l4).bind fun bt142 => (if bt142.1 = 0 then (some 0) else (some 2))) = some r := by rw [if_neg (show ¬ (false = true) by decide)] at H; exact H
    clear H
    have H := H1
    clear H1
    replace H := Option.bind_eq_some_iff.mp H
    obtain ⟨⟨t142, t143⟩, A150, H⟩ := H
    replace H : (if t142 = 0 then (some 0) else (some 2)) = some r := H
    have A15 := Aside0.mk A150
    clear A150
    by_cases c16 : t142 = 0
    ·rw [if_pos c16] at H
     have c16b0 : (t142 == 0) = true := beq_iff_eq.mpr c16
     have c16b1 : (t142 != 0) = false := bne_eq_false_iff_eq.mpr c16
     clear c16
     obtain rfl := Option.some.inj H
     go_wp2_with (first | ((with_reducible refine gate_callee (f := 41) rfl ?_); refine goesL_ (some 33) rfl rfl Try.func41 (by kernel_rfl) rfl #[.slice A4 l4.length c4] rfl (by (try simp only [List.map_toArray, List.map_cons, List.map_nil]); first | done | rfl | (simp only [List.length_drop, List.length_take]; rfl)) ?_; (with_reducible refine (tree_Check.calls kj5 _ _ l4 t142 t143 _ ?side1 ?side2 A15.out).mono ?_); (case side1 => repeat (first | exact (Kd.C_below HR4.out HB.out) | (with_reducible refine Kd.C_alloc ?_ _) | (with_reducible refine Kd.C_drewN ?_ _) | (with_reducible refine Kd.C_drew ?_))); (case side2 => exact HC4.out); rintro e w17 ⟨rfl, hb⟩; refine ⟨_, rfl, ?_⟩; have n0_ := Aside0.mk (below_step (by repeat (first | (with_reducible first | exact HB.out | apply below_alloc | apply pw_below_drewN | apply below_drew1) | exact HB.out)) hb); clear HB; have HB := n0_; clear n0_; (try clear hb); (try clear hb2); (try clear hk); (try clear hi)))
     go_ret
     exact ⟨by first | rfl | (simp [errW_none, errW_some] <;> rfl) | (simp [*, errW_none, errW_some] <;> rfl) | (simp [bt, *]; done) | (simp_all [bt]; done), by repeat (first | (with_reducible first | exact HB.out | apply below_alloc | apply pw_below_drewN | apply below_drew1) | exact HB.out)⟩
    ·rw [if_neg c16] at H
     have c16b0 : (t142 == 0) = false := beq_eq_false_iff_ne.mpr c16
     have c16b1 : (t142 != 0) = true := bne_iff_ne.mpr c16
     obtain rfl := Option.some.inj H
     go_wp2_with (first | ((with_reducible refine gate_callee (f := 41) rfl ?_); refine goesL_ (some 33) rfl rfl Try.func41 (by kernel_rfl) rfl #[.slice A4 l4.length c4] rfl (by (try simp only [List.map_toArray, List.map_cons, List.map_nil]); first | done | rfl | (simp only [List.length_drop, List.length_take]; rfl)) ?_; (with_reducible refine (tree_Check.calls kj5 _ _ l4 t142 t143 _ ?side1 ?side2 A15.out).mono ?_); (case side1 => repeat (first | exact (Kd.C_below HR4.out HB.out) | (with_reducible refine Kd.C_alloc ?_ _) | (with_reducible refine Kd.C_drewN ?_ _) | (with_reducible refine Kd.C_drew ?_))); (case side2 => exact HC4.out); rintro e w18 ⟨rfl, hb⟩; refine ⟨_, rfl, ?_⟩; have n0_ := Aside0.mk (below_step (by repeat (first | (with_reducible first | exact HB.out | apply below_alloc | apply pw_below_drewN | apply below_drew1) | exact HB.out)) hb); clear HB; have HB := n0_; clear n0_; (try clear hb); (try clear hb2); (try clear hk); (try clear hi)))
     go_ret
     exact ⟨by first | rfl | (simp [errW_none, errW_some] <;> rfl) | (simp [*, errW_none, errW_some] <;> rfl) | (simp [bt, *]; done) | (simp_all [bt]; done), by repeat (first | (with_reducible first | exact HB.out | apply below_alloc | apply pw_below_drewN | apply below_drew1) | exact HB.out)⟩

end Go.Proofs.Ytmlgfgmgolgjbaa.X
end

/-! ## SlicesCloneEntry -/
section
namespace Go.Proofs.Ytmlgfgmgolgjbaa.X
open Go.RowKit Go.Proofs.YtmlgfgmgolgjbaaW.PrintWords Go.Proofs.YtmlgfgmgolgjbaaW.PrintLast Go.Proofs.YtmlgfgmgolgjbaaW.PrintMore
attribute [local go_sem] max2_int min2_int max_two min_two max_three min_three max_four min_four   -- for this text's walks alone
set_option linter.unusedVariables false
set_option linter.unusedSimpArgs false

attribute [local go_sem] str_gtr fld_fault0 fld_fault1
/-! ### slices_Clone_Entry: function 48 -/
def api_Entry_48.f (l0 : List (S89)) : Option ((List (S89))) := if l0.length < 1954687338268 then some l0 else none
set_option maxHeartbeats 8000000 in
set_option maxRecDepth 100000 in
theorem api_Entry_48.calls (P0_ : Nat → Prop) (A0 : Option Addr) (c0 : Nat) (l0 : List (S89)) (r : List (S89)) (w : World) (hs0 : Kd.V k89 89 w w.heap.size (fun k_ => P0_ k_) (.slice A0 l0.length c0) l0) (h : api_Entry_48.f l0 = some r) :
  Calls Try.prog 48 #[.slice A0 l0.length c0] w fun e w' => ∃ v0_ : Value, e = .returned (v0_) ∧ Kd.N k89 89 w' w.heap.size (fun k_ => (P0_ k_ ∨ w.heap.size ≤ k_)) v0_ r ∧ Below w.heap.size w w' := by
 have HO0 := Aside0.mk (show Kd.V k89 89 w w.heap.size (fun k_ => (P0_ k_ ∨ w.heap.size ≤ k_)) (.slice A0 l0.length c0) l0 from Kd.V_mono hs0 (fun k_ hk => .inl hk))
 have HB := Aside0.mk (Below.refl w.heap.size w)
 unfold api_Entry_48.f at h
 by_cases c2 : l0.length < 1954687338268
 ·rw [if_pos c2] at h
  obtain rfl := Option.some.inj h
  clear h hs0
  have heq := fun (w : World) => run_eql_slice_nil w 27 89 A0 l0.length c0 Try.underlying27
  cases A0 with
  | none =>
   have hl : l0 = [] := by
    obtain ⟨_, _, h3⟩ := Kd.F_now (Kd.V_F HO0.out)
    rcases Nat.eq_zero_or_pos l0.length with h0 | h0
    ·exact List.eq_nil_of_length_eq_zero h0
    ·obtain ⟨ad, h4, _⟩ := h3 h0
     cases h4
   subst hl
   clear heq
   have heq := fun (w : World) => run_eql_slice_nil w 27 89 none 0 c0 Try.underlying27
   go_enter Try.func48, Try.ntmps48
   go_wp2
   go_ret
   exact ⟨_, rfl, Kd.R_N (Kd.R_nil _ _ _ _ _), Below.refl _ _⟩
  | some ad =>
   have LMc2 := Aside0.mk (show ([] : List (S89)).length + l0.length < 1954687338268 by simpa using c2)
   clear c2
   obtain ⟨yA, hyA⟩ : ∃ y_ : List (S89), y_ = [] := ⟨_, rfl⟩
   obtain ⟨yB, hyB⟩ : ∃ y_ : List (S89), y_ = (yA ++ l0) := ⟨_, rfl⟩
   have hyC : yB = l0 := by rw [hyB, hyA]; rfl
   have NyC := Aside0.mk hyC
   rw [← hyA] at LMc2
   have NyA := Aside0.mk hyA
   have NyB := Aside0.mk hyB
   clear hyA hyB hyC
   go_enter Try.func48, Try.ntmps48
   go_wp2_with (first | ((with_reducible refine gate_dst (N := 5) rfl ?_); refine Kd.N_lit k89 _ 89 ?hg (N' := 5) ?hd (xs := ([] : List (S89))) (inner := []) (ok := (fun k_ => (P0_ k_ ∨ w.heap.size ≤ k_))) (okp := (fun k_ => (P0_ k_ ∨ w.heap.size ≤ k_))) ?hr ?hp (fun _ hk => hk) ((show ∀ k_, w.heap.size ≤ k_ → (fun k_ => (P0_ k_ ∨ w.heap.size ≤ k_)) k_ from fun k_ hk => (.inr (Nat.le_trans (below_size (by repeat (first | (with_reducible first | exact HB.out | apply below_alloc | apply pw_below_drewN | apply below_drew1) | exact HB.out))) hk))) _ (Nat.le_refl _)) (Below.refl _ _) (Nat.le_refl _) (by simp) ?_; (case hd => rfl); (case hg => rfl); (case hr => first | (go_simp; done) | (go_simp; rfl)); (case hp => exact (Reps.none _ _)); intro v253 w3 ho4 hb hg_ hnew_; clear hg_ hnew_; (first | rw [← NyA.out] at ho4 | (simp only [Int.reduceToNat] at ho4; rw [← NyA.out] at ho4)); have n0_ := Aside0.mk (Kd.V_elder' (by (with_reducible repeat (first | apply Kd.V_alloc | apply Kd.V_drewN | apply Kd.V_drew)); exact HO0.out) (by first | exact Kd.N_base ho4 | exact Kd.S_base ho4) hb); have n1_ := Aside0.mk (Kd.N_lower ho4 (below_size (by repeat (first | (with_reducible first | exact HB.out | apply below_alloc | apply pw_below_drewN | apply below_drew1) | exact HB.out)))); have n2_ := Aside0.mk (below_step (by repeat (first | (with_reducible first | exact HB.out | apply below_alloc | apply pw_below_drewN | apply below_drew1) | exact HB.out)) hb); clear HO0; clear HB; have HO0 := n0_; have HO254 := n1_; have HB := n2_; clear n0_ n1_ n2_; clear hb ho4) | ((with_reducible refine gate_builtin (b := .append) (xs := #[.tmp 5, .tmp 6]) rfl ?_); at_builtin; refine Kd.N_append_rows k89 (w0 := w) w.heap.size rfl (.tmp 5) (.tmp 6) 27 89 (.agg #[(.string ⟨#[]⟩), (.int .i64 0), (.int .i64 0), (.slice none 0 0), (.string ⟨#[]⟩)]) 72 rfl Try.underlying27 info89 rfl (by decide) (by omega) v253 yA l0 _ _ _ (fun k_ => (P0_ k_ ∨ w.heap.size ≤ k_)) (fun k_ => ((fun k_ => (P0_ k_ ∨ w.heap.size ≤ k_))) k_ ∧ some k_ ≠ (v253 : Value).ownBlock) rfl rfl ?aO ?aR (fun _ hk => hk) ?aF ?aB ?aS ?aL ?_; (case aR => exact (by skip; exact Kd.V_F (Kd.V_mono (ok' := (fun k_ => ((fun k_ => (P0_ k_ ∨ w.heap.size ≤ k_))) k_ ∧ some k_ ≠ (v253 : Value).ownBlock)) (HO0.out) (fun k_ hk => ⟨hk.1, hk.2⟩)))); (case aB => exact (by repeat (first | (with_reducible first | exact HB.out | apply below_alloc | apply pw_below_drewN | apply below_drew1) | exact HB.out))); (case aF => exact (fun k_ hk => (.inr (Nat.le_trans (below_size (by repeat (first | (with_reducible first | exact HB.out | apply below_alloc | apply pw_below_drewN | apply below_drew1) | exact HB.out))) hk)))); (case aO => exact (by (with_reducible repeat (first | apply Kd.N_alloc | apply Kd.N_drewN | apply Kd.N_drew)); exact HO254.out)); (case aS => exact (below_size (by repeat (first | (with_reducible first | exact HB.out | apply below_alloc | apply pw_below_drewN | apply below_drew1) | exact HB.out)))); (case aL => have := LMc2.out; omega); intro v256 w5 ho hb hg hat; rw [← NyB.out] at ho; have n0_ := Aside0.mk (Kd.V_afterv (ok := (fun k_ => (P0_ k_ ∨ w.heap.size ≤ k_))) (by (with_reducible repeat (first | apply Kd.V_alloc | apply Kd.V_drewN | apply Kd.V_drew)); exact HO0.out) hg hat); have n1_ := Aside0.mk (hb); have n2_ := Aside0.mk (ho); clear HO0; clear HB; clear HO254; have HO0 := n0_; have HB := n1_; have HO257 := n2_; clear n0_ n1_ n2_; clear ho hb hg hat))
   go_ret
   exact ⟨_, rfl, by rw [← NyC.out]; (with_reducible repeat (first | apply Kd.N_alloc | apply Kd.N_drewN | apply Kd.N_drew)); exact HO257.out, by repeat (first | (with_reducible first | exact HB.out | apply below_alloc | apply pw_below_drewN | apply below_drew1) | exact HB.out)⟩
 ·rw [if_neg c2] at h
  cases h

end Go.Proofs.Ytmlgfgmgolgjbaa.X
end

/-! ## SlicesCloneByteByte -/
section
namespace Go.Proofs.Ytmlgfgmgolgjbaa.X
open Go.RowKit Go.Proofs.YtmlgfgmgolgjbaaW.PrintWords Go.Proofs.YtmlgfgmgolgjbaaW.PrintLast Go.Proofs.YtmlgfgmgolgjbaaW.PrintMore
attribute [local go_sem] max2_int min2_int max_two min_two max_three min_three max_four min_four   -- for this text's walks alone
set_option linter.unusedVariables false
set_option linter.unusedSimpArgs false

attribute [local go_sem] str_gtr fld_fault0 fld_fault1
/-! ### slices_Clone_byte_byte: function 49 -/
def slices_Clone_byte_byte.f (l0 : List Int) : Option (List Int) := if l0.length < 140737488355328 then some l0 else none
/-- All cells of a row's block, its room too, hold bytes. -/
def Full8 (w : World) (v : Value) : Prop := ∀ g, v.ownBlock = some g → ∃ cur : Array Value, w.heap[g]? = some (.cells cur 5 (0, 0)) ∧ ∀ u ∈ cur.toList, ∃ z : Int, u = .int .u8 z
theorem Full8.nil (w : World) : Full8 w (.slice none 0 0) := fun g hg => by simp [Value.ownBlock] at hg
theorem Full8.step {w w1 : World} {v : Value} (h : Full8 w v) (hm : ∀ k, v.ownBlock = some k → k < w.heap.size → w1.heap[k]? = w.heap[k]?) : Full8 w1 v := fun g hg => by
 obtain ⟨cur, h1, h2⟩ := h g hg
 exact ⟨cur, (hm g hg (blk_lt h1)).trans h1, h2⟩
theorem Full8.below {w w1 : World} {v : Value} (h : Full8 w v) (hb : Below w.heap.size w w1) : Full8 w1 v := h.step fun k _ hk => hb.block k hk
theorem Full8.far {w : World} {v : Value} (h : Full8 w v) {p : Addr} (hp : ∀ k, v.ownBlock = some k → k ≠ p.block) (u : Value) : Full8 (w.setCell p u) v := h.step fun k hk _ => Below.heap_setCell w p u k (hp k hk)
/-- A row of whole numbers out of the block that it owns. -/
theorem own_to_R {w : World} {base e n : Nat} {k : IntKind} {v : Value} {xs : List Int} (hn : xs.length = n) (h : w.ownsRow base e 1 v n (nums k xs)) : Kd.R (Kd.int k) e w base (fun _ => True) v xs := by
 subst hn
 exact Kd.R_of_own h (fun _ _ => trivial)
set_option maxHeartbeats 8000000 in
set_option maxRecDepth 100000 in
theorem slices_Clone_byte_byte.calls2 (A0 : Option Addr) (c0 : Nat) (l0 : List Int) (r : List Int) (w : World) (hr0 : Kd.C (Kd.int .u8) w A0 l0.length l0) (hc0 : l0.length ≤ c0) (h : slices_Clone_byte_byte.f l0 = some r) :
  Calls Try.prog 49 #[.slice A0 l0.length c0] w fun e w' => ∃ v0_ : Value, e = .returned (v0_) ∧ Kd.R (Kd.int .u8) 5 w' w.heap.size (fun _ => True) v0_ r ∧ Full8 w' v0_ ∧ Below w.heap.size w w' := by
 unfold slices_Clone_byte_byte.f at h
 by_cases c2 : l0.length < 140737488355328
 ·rw [if_pos c2] at h
  obtain rfl := Option.some.inj h
  clear h
  cases A0 with
  | none =>
   have hl : l0 = [] := by
    obtain ⟨_, _, h3⟩ := hr0
    rcases Nat.eq_zero_or_pos l0.length with h0 | h0
    ·exact List.eq_nil_of_length_eq_zero h0
    ·obtain ⟨ad, h4, _⟩ := h3 h0
     cases h4
   subst hl
   clear hr0 hc0
   have heq := fun (w : World) => run_eql_slice_nil w 87 5 none 0 c0 Try.underlying87
   go_enter Try.func49, Try.ntmps49
   go_wp2
   go_ret
   exact ⟨_, rfl, Kd.R_nil _ _ _ _ _, Full8.nil _, Below.refl _ _⟩
  | some ad =>
   obtain ⟨i0, hi, hz0, hz1, hz2⟩ := info_parts info5
   by_cases hl : l0 = []
   ·subst hl
    have hap := run_append_room_cells (P := Try.prog) (w.alloc (.cells #[] 5)) 87 87 5 i0 Try.underlying87 hi w.heap.size 0 0 0 ad 0 c0 [] (by simp) (fun j u hj => by simp at hj) (fun u hu => by simp at hu) (by omega) (fun j hj => by simp at hj) (fun j hj => by simp at hj)
    have HAP := Aside0.mk hap
    clear hap hr0 hc0
    have HAP2 : (Builtin.append_ #[87, 87] 87 #[.slice (some ⟨w.heap.size, 0, none⟩) 0 0, .slice (some ad) 0 c0]).run Try.prog (w.alloc (.cells #[] 5)) = .ok (.slice (some ⟨w.heap.size, 0, none⟩) 0 0) (w.alloc (.cells #[] 5)) := HAP.out
    have HAP := Aside0.mk HAP2
    clear HAP2
    have heq := fun (w : World) => run_eql_slice_nil w 87 5 (some ad) 0 c0 Try.underlying87
    go_enter Try.func49, Try.ntmps49
    go_wp2_with ((with_reducible refine gate_builtin (b := .append) (xs := #[.tmp 5, .tmp 6]) rfl ?_); refine append_event (v := .slice (some ⟨w.heap.size, 0, none⟩) 0 0) (w1 := w.alloc (.cells #[] 5)) rfl (.tmp 5) (.tmp 6) 87 87 rfl _ _ rfl rfl HAP.out ?_)
    go_ret
    have hnew := heap_alloc_new w (.cells #[] 5)
    refine ⟨_, rfl, own_to_R (xs := ([] : List Int)) rfl (by rw [show (.cells #[] 5 : Obj) = .cells #[] 5 (0, 0) from rfl] at hnew; exact ⟨rfl, .inr ⟨w.heap.size, 0, #[], rfl, Nat.le_refl _, hnew, Nat.le_refl _, by decide, rfl, rfl⟩⟩), fun g hg => ?_, (Below.refl _ _).alloc (Nat.le_refl _) _⟩
    obtain rfl := Option.some.inj hg
    exact ⟨#[], hnew, fun u hu => by simp at hu⟩
   ·have hpos : 0 < l0.length := List.length_pos_iff.2 hl
    obtain ⟨ad', e, hcell⟩ := hr0.2.2 hpos
    obtain rfl := Option.some.inj e
    have hnews : ∀ j u, (nums .u8 l0)[j]? = some u → (w.alloc (.cells #[] 5)).cell? (ad.add j) = some u := by
     intro j u hj
     have hjl : j < l0.length := by have := (List.getElem?_eq_some_iff.1 hj).1; rwa [nums_length] at this
     have hu : u = .int .u8 l0[j] := by
      unfold nums at hj
      rw [List.getElem?_map, List.getElem?_eq_getElem hjl] at hj
      exact (Option.some.inj hj).symm
     subst hu
     obtain ⟨c, h1, h2, h3⟩ := hcell j l0[j] (List.getElem?_eq_getElem hjl)
     have h4 := h3 0 (.int .u8 l0[j]) (by rw [h2]; rfl)
     rw [show j * (Kd.int .u8).sz + 0 = j from by show j * 1 + 0 = j; omega] at h4
     rw [show (w.alloc (.cells #[] 5)).cell? (ad.add j) = w.cell? (ad.add j) from ((Below.refl _ w).alloc (Nat.le_refl _) (.cells #[] 5)).cell (World.block_lt_of_cell? w _ h4)]
     exact h4
    have hap := run_append_grow (P := Try.prog) (w.alloc (.cells #[] 5)) 87 87 5 i0 (.int .u8 0) Try.underlying87 hi hz0 ⟨w.heap.size, 0, none⟩ 0 0 [] (by simp) (fun j u hj => by simp at hj) ad l0.length c0 (nums .u8 l0) (by rw [nums_length, hz1, Nat.mul_one]) hnews (by omega) (by omega) (growslice_fits (by omega) (by rw [hz2]; omega))
    obtain ⟨gc, hgc⟩ : ∃ gc, gc = grownCap (w.alloc (.cells #[] 5)) (0 + l0.length) 0 5 := ⟨_, rfl⟩
    have hge : l0.length ≤ gc := by rw [hgc]; have := grownCap_ge (w.alloc (.cells #[] 5)) (0 + l0.length) 0 5; omega
    have hmx : gc ≤ maxLen := by rw [hgc]; exact grownCap_le_maxLen _ _ _ _ (by unfold maxLen; omega)
    rw [← hgc] at hap
    obtain ⟨cur, hcur⟩ : ∃ cur : Array Value, cur = ([] : List Value).toArray ++ (nums .u8 l0).toArray ++ Builtin.zeroCells (Value.int .u8 0).cells (gc - (0 + l0.length)) := ⟨_, rfl⟩
    rw [← hcur] at hap
    have hsz : cur.size = gc := by rw [hcur]; simp [nums_length, size_zeroCells, Value.cells]; omega
    have htk : cur.toList.take l0.length = nums .u8 l0 := by
     rw [hcur]
     simp only [Array.toList_append, List.nil_append]
     rw [List.take_left' (by rw [nums_length])]
    have hfull : ∀ u ∈ cur.toList, ∃ z : Int, u = .int .u8 z := by
     intro u hu
     rw [hcur] at hu
     simp only [Array.toList_append, List.nil_append, List.mem_append] at hu
     rcases hu with hu | hu
     ·obtain ⟨z, _, rfl⟩ := List.mem_map.1 hu
      exact ⟨z, rfl⟩
     ·simp only [Builtin.zeroCells, Array.toList_map, List.mem_map] at hu
      obtain ⟨q, _, rfl⟩ := hu
      refine ⟨0, ?_⟩
      simp [Value.cells, Nat.mod_one]
    clear hcur hgc
    have HAP := Aside0.mk hap
    have HGE := Aside0.mk hge
    have HMX := Aside0.mk hmx
    have HSZ := Aside0.mk hsz
    have HTK := Aside0.mk htk
    have HFL := Aside0.mk hfull
    clear hap hge hmx hsz htk hfull hr0 hc0 hcell hnews
    have hap : (Builtin.append_ #[87, 87] 87 #[.slice (some ⟨w.heap.size, 0, none⟩) 0 0, .slice (some ad) l0.length c0]).run Try.prog (w.alloc (.cells #[] 5)) = .ok (.slice (some ⟨w.heap.size + 1, 0, none⟩) l0.length gc) ((w.alloc (.cells #[] 5)).drew.alloc (.cells cur 5)) := by
     have h := HAP.out
     rw [Nat.zero_add, World.size_alloc] at h
     exact h
    replace HAP := Aside0.mk hap
    clear hap
    have heq := fun (w : World) => run_eql_slice_nil w 87 5 (some ad) l0.length c0 Try.underlying87
    go_enter Try.func49, Try.ntmps49
    go_wp2_with ((with_reducible refine gate_builtin (b := .append) (xs := #[.tmp 5, .tmp 6]) rfl ?_); refine append_event (v := .slice (some ⟨w.heap.size + 1, 0, none⟩) l0.length gc) (w1 := (w.alloc (.cells #[] 5)).drew.alloc (.cells cur 5)) rfl (.tmp 5) (.tmp 6) 87 87 rfl _ _ rfl rfl HAP.out ?_)
    go_ret
    have hnew : ((w.alloc (.cells #[] 5)).drew.alloc (.cells cur 5)).heap[w.heap.size + 1]? = some (.cells cur 5 (0, 0)) := by
     have h := heap_alloc_new (w.alloc (.cells #[] 5)).drew (.cells cur 5)
     rwa [show (w.alloc (.cells #[] 5)).drew.heap.size = w.heap.size + 1 from World.size_alloc _ _] at h
    refine ⟨_, rfl, own_to_R (xs := l0) rfl ⟨by rw [nums_length, Nat.mul_one], .inr ⟨w.heap.size + 1, gc, cur, rfl, by omega, hnew, HGE.out, HMX.out, by rw [HSZ.out, Nat.mul_one], by rw [Nat.mul_one]; exact HTK.out⟩⟩, fun g hg => ?_, ((below_drew ((Below.refl _ w).alloc (Nat.le_refl _) _)).alloc (by show w.heap.size ≤ (w.alloc _).heap.size; simp) _)⟩
    obtain rfl := Option.some.inj hg
    exact ⟨cur, hnew, HFL.out⟩
 ·rw [if_neg c2] at h
  cases h
theorem slices_Clone_byte_byte.calls (A0 : Option Addr) (c0 : Nat) (l0 : List Int) (r : List Int) (w : World) (hr0 : Kd.C (Kd.int .u8) w A0 l0.length l0) (hc0 : l0.length ≤ c0) (h : slices_Clone_byte_byte.f l0 = some r) :
  Calls Try.prog 49 #[.slice A0 l0.length c0] w fun e w' => ∃ v0_ : Value, e = .returned (v0_) ∧ Kd.R (Kd.int .u8) 5 w' w.heap.size (fun _ => True) v0_ r ∧ Below w.heap.size w w' :=
 (slices_Clone_byte_byte.calls2 A0 c0 l0 r w hr0 hc0 h).mono fun e w' ⟨v, h1, h2, _, h4⟩ => ⟨v, h1, h2, h4⟩

end Go.Proofs.Ytmlgfgmgolgjbaa.X
end

/-! ## ModelClone -/
section
namespace Go.Proofs.Ytmlgfgmgolgjbaa.X
open Go.RowKit Go.Proofs.YtmlgfgmgolgjbaaW.PrintWords Go.Proofs.YtmlgfgmgolgjbaaW.PrintLast Go.Proofs.YtmlgfgmgolgjbaaW.PrintMore
attribute [local go_sem] max2_int min2_int max_two min_two max_three min_three max_four min_four   -- for this text's walks alone
set_option linter.unusedVariables false
set_option linter.unusedSimpArgs false

attribute [local go_sem] str_gtr fld_fault0 fld_fault1
/-! ### model_clone: function 33 -/
def model_clone.l0 : Nat → List (S89) → Int → Int → Option ((List (S89)))
 | 0, _, _, _ => none
 | k + 1, x3, x8, x9 => if x9 < x8 then (if 0 ≤ x9 then (if x9 < (x3.length : Int) then ((slices_Clone_byte_byte.f ((rd_T89 x3 x9).f3)).bind fun t148 => (model_clone.l0 k (x3.set (x9 : Int).toNat (⟨(rd_T89 x3 x9).f0, (rd_T89 x3 x9).f1, (rd_T89 x3 x9).f2, t148, (rd_T89 x3 x9).f4⟩ : S89)) x8 (wrap64 (x9 + 1)))) else (none)) else (none)) else (some x3)
def model_clone.f (k : Nat) (l0 : List (S89)) : Option ((List (S89))) := (api_Entry_48.f l0).bind fun t144 => (model_clone.l0 k t144 (t144.length : Int) 0)
theorem model_clone.mono_l : ∀ k, (∀ y0 y1 y2, LeO (model_clone.l0 k y0 y1 y2) (model_clone.l0 (k + 1) y0 y1 y2))
 | 0 => fun _ _ _ r h => by simp [model_clone.l0] at h
 | k + 1 => by
  have ih0 := model_clone.mono_l k
  ·intro y0 y1 y2
   unfold model_clone.l0
   repeat' first
   | (with_reducible exact ih0 _ _ _)
   | (with_reducible exact LeO.refl _)
   | (with_reducible exact LeO.none _)
   | (with_reducible refine LeO.ite ?_ ?_)
   | (with_reducible refine LeO.bind ?_ (fun _ => ?_))
   | exact ih0 _ _ _
   | exact LeO.none _
   | refine LeO.ite ?_ ?_
   | refine LeO.bind ?_ (fun _ => ?_)
theorem model_clone.mono : ∀ a0 k, LeO (model_clone.f k a0) (model_clone.f (k + 1) a0) := by
 intro a0 k
 have ih0 := model_clone.mono_l k
 unfold model_clone.f
 repeat' first
   | (with_reducible exact ih0 _ _ _)
   | (with_reducible exact LeO.refl _)
   | (with_reducible exact LeO.none _)
   | (with_reducible refine LeO.ite ?_ ?_)
   | (with_reducible refine LeO.bind ?_ (fun _ => ?_))
   | exact ih0 _ _ _
   | exact LeO.none _
   | refine LeO.ite ?_ ?_
   | refine LeO.bind ?_ (fun _ => ?_)
set_option maxHeartbeats 8000000 in
set_option maxRecDepth 100000 in
theorem model_clone.calls (k : Nat) (P0_ : Nat → Prop) (A0 : Option Addr) (c0 : Nat) (l0 : List (S89)) (r : List (S89)) (w : World) (hs0 : Kd.V k89 89 w w.heap.size (fun k_ => P0_ k_) (.slice A0 l0.length c0) l0) (h : model_clone.f k l0 = some r) :
  Calls Try.prog 33 #[.slice A0 l0.length c0] w fun e w' => ∃ v0_ : Value, e = .returned (v0_) ∧ Kd.N k89 89 w' w.heap.size (fun k_ => (P0_ k_ ∨ w.heap.size ≤ k_)) v0_ r ∧ Below w.heap.size w w' := by
 have HO0 := Aside0.mk (show Kd.V k89 89 w w.heap.size (fun k_ => (P0_ k_ ∨ w.heap.size ≤ k_)) (.slice A0 l0.length c0) l0 from Kd.V_mono hs0 (fun k_ hk => .inl hk))
 have HB := Aside0.mk (Below.refl w.heap.size w)
 have H : ((api_Entry_48.f l0).bind fun t144 => (model_clone.l0 k t144 (t144.length : Int) 0)) = some r := h
 clear h
 replace H := Option.bind_eq_some_iff.mp H
 obtain ⟨t144, A20, H⟩ := H
 replace H : (model_clone.l0 k t144 (t144.length : Int) 0) = some r := H
 have A2 := Aside0.mk A20
 clear A20
 have H' := Aside0.mk H
 clear H
 go_enter Try.func33, Try.ntmps33
 go_wp2_with (first | ((with_reducible refine gate_callee (f := 48) rfl ?_); refine goesL_ (some 6) rfl rfl Try.func48 (by kernel_rfl) rfl #[.slice A0 l0.length c0] rfl (by (try simp only [List.map_toArray, List.map_cons, List.map_nil]); first | done | rfl | (simp only [List.length_drop, List.length_take]; rfl)) ?_; (with_reducible refine (api_Entry_48.calls (fun k_ => (P0_ k_ ∨ w.heap.size ≤ k_)) _ _ l0 t144 _ ?side1 A2.out).mono ?_); (case side1 => exact HO0.out); rintro e w3 ⟨v145, rfl, ho0, hb⟩; refine ⟨_, rfl, ?_⟩; have n0_ := Aside0.mk (Kd.V_elder' (by (with_reducible repeat (first | apply Kd.V_alloc | apply Kd.V_drewN | apply Kd.V_drew)); exact HO0.out) (by first | exact Kd.N_base ho0 | exact Kd.S_base ho0) hb); have n1_ := Aside0.mk (Kd.N_lower (Kd.N_mono (ok' := fun k_ => (P0_ k_ ∨ w.heap.size ≤ k_)) ho0 (fun k_ hk_ => Or.elim hk_ (fun hs_ => hs_) (fun hn_ => (.inr (Nat.le_trans (below_size (by repeat (first | (with_reducible first | exact HB.out | apply below_alloc | apply pw_below_drewN | apply below_drew1) | exact HB.out))) hn_))))) (below_size (by repeat (first | (with_reducible first | exact HB.out | apply below_alloc | apply pw_below_drewN | apply below_drew1) | exact HB.out)))); have n2_ := Aside0.mk (below_step (by repeat (first | (with_reducible first | exact HB.out | apply below_alloc | apply pw_below_drewN | apply below_drew1) | exact HB.out)) hb); clear HO0; clear HB; have HO0 := n0_; have HO146 := n1_; have HB := n2_; clear n0_ n1_ n2_; (try clear hb); (try clear hb2); (try clear hk); (try clear hi); (try clear ho0); obtain ⟨Ao4, co4, eo4⟩ := Kd.N_slice HO146.out; subst eo4))
 go_loopg [9] k (fun kq v9 w' => ∃ (x3_1 : List (S89)) (x9_1 : Int), v9 = .int .i64 x9_1 ∧ Aside0 (model_clone.l0 kq x3_1 (t144.length : Int) x9_1 = some r) ∧ Aside0 (kq ≤ k) ∧ Aside0 (Kd.N k89 89 w' w.heap.size (fun k_ => (P0_ k_ ∨ w.heap.size ≤ k_)) (.slice Ao4 t144.length co4) x3_1) ∧ Aside0 (Below w.heap.size w w'))
 case atStart => exact ⟨(t144), (0), (by first | rfl | (simp; done) | (simp [*]; done)), H', ⟨Nat.le_refl _⟩, ⟨by (with_reducible repeat (first | apply Kd.N_alloc | apply Kd.N_drewN | apply Kd.N_drew)); exact HO146.out⟩, ⟨by repeat (first | (with_reducible first | exact HB.out | apply below_alloc | apply pw_below_drewN | apply below_drew1) | exact HB.out)⟩⟩
 case round =>
  clear H'
  try clear p2
  try clear c3
  try clear c4
  obtain ⟨x3_1, x9_1, rfl, HA, HK1, HO_3, HB⟩ := hrel
  have hl3_1 := (Kd.N_reads' HO_3.out).1
  rw [hl3_1] at HO_3
  (try simp only [hl3_1])
  cases gk with
  | zero => exact absurd HA.out (by simp [model_clone.l0])
  | succ k1 =>
   have H := HA.out
   clear HA
   simp only [model_clone.l0] at H
   by_cases c5 : x9_1 < (t144.length : Int)
   ·rw [if_pos c5] at H
    have c5b0 : decide (x9_1 < (t144.length : Int)) = true := decide_eq_true c5
    have c5b0z : decide (x9_1 < (x3_1.length : Int)) = true := by rw [← hl3_1]; exact c5b0
    clear c5
    by_cases c6 : 0 ≤ x9_1
    ·rw [if_pos c6] at H
     have c6b0 : decide (0 ≤ x9_1) = true := decide_eq_true c6
     clear c6
     by_cases c7 : x9_1 < (x3_1.length : Int)
     ·rw [if_pos c7] at H
      have c7b0 : decide (x9_1 < (x3_1.length : Int)) = true := decide_eq_true c7
      clear c7
      replace H := Option.bind_eq_some_iff.mp H
      obtain ⟨t148, A80, H⟩ := H
      replace H : (model_clone.l0 k1 (x3_1.set (x9_1 : Int).toNat (⟨(rd_T89 x3_1 x9_1).f0, (rd_T89 x3_1 x9_1).f1, (rd_T89 x3_1 x9_1).f2, t148, (rd_T89 x3_1 x9_1).f4⟩ : S89)) (t144.length : Int) (wrap64 (x9_1 + 1))) = some r := H
      have A8 := Aside0.mk A80
      clear A80
      obtain ⟨y151, hy151⟩ : ∃ y_ : List (S89), y_ = (x3_1.set (x9_1 : Int).toNat (⟨(rd_T89 x3_1 x9_1).f0, (rd_T89 x3_1 x9_1).f1, (rd_T89 x3_1 x9_1).f2, t148, (rd_T89 x3_1 x9_1).f4⟩ : S89)) := ⟨_, rfl⟩
      replace H : (model_clone.l0 k1 y151 (t144.length : Int) (wrap64 (x9_1 + 1))) = some r := by first | (rw [hy151]; with_reducible exact H) | (have H2_ := (Option.bind_some _ _).symm.trans H; rw [hy151]; with_reducible exact H2_) | (have H2_ := (Option.bind_some _ _).symm.trans H; with_reducible exact H2_) | with_reducible exact H | (rw [hy151]; exact H) | exact H
      have Ny151 := Aside0.mk hy151
      clear hy151
      have H' := Aside0.mk H
      clear H
      have p147 : 0 ≤ (x9_1 : Int) := of_decide_eq_true (by first | (with_reducible assumption) | assumption)
      have q147 : x9_1 < (x3_1.length : Int) := of_decide_eq_true (by first | (with_reducible assumption) | assumption)
      obtain ⟨ad147, A147_3, c147_3, e147, hx147_0, hx147_1, hx147_2, hx147_3, hx147_4, hl147_3, hi147_3⟩ := at_T89 (Kd.N_reads' HO_3.out).2.2 x9_1 p147 q147
      cases e147
      obtain ⟨ce147, hce147, hMe147, hcc147⟩ := Kd.N_get HO_3.out z89 x9_1 p147 (by first | exact q147 | exact of_decide_eq_true (by first | (with_reducible assumption) | assumption) | (have e_ := (Kd.N_reads' HO_3.out).1; omega))
      obtain ⟨ua147_3, uc147_3, rfl, ul147_3, ge147_3⟩ := k89_openF hMe147
      have hv147_3 := hcc147 3 _ rfl
      rw [add_field _ _ 3 (by omega)] at hv147_3
      replace hv147_3 := Option.some.inj (hv147_3.symm.trans hx147_3)
      injection hv147_3 with hva_ hvn_ hvc_
      rw [hva_] at ge147_3
      rw [hvc_] at ul147_3
      have HL147_3 := Aside0.mk (show Kd.V (Kd.int .u8) 5 _ w.heap.size _ _ ((rd_T89 x3_1 x9_1).f3) from Kd.V_mk ul147_3 ge147_3)
      clear hva_ hvn_ hvc_ ge147_3 ul147_3
      clear hcc147 hce147
      have HR147_3 := Aside0.mk hi147_3
      have HC147_3 := Aside0.mk hl147_3
      clear hi147_3 hl147_3
      replace p147 := eq_true p147
      replace q147 := eq_true q147
      go_wp2_with (first | ((with_reducible refine gate_callee (f := 49) rfl ?_); refine goesL_ (some 19) rfl rfl Try.func49 (by kernel_rfl) rfl #[.slice A147_3 ((rd_T89 x3_1 x9_1).f3).length c147_3] rfl (by (try simp only [List.map_toArray, List.map_cons, List.map_nil]); first | done | rfl | (simp only [List.length_drop, List.length_take]; rfl)) ?_; (with_reducible refine (slices_Clone_byte_byte.calls _ _ ((rd_T89 x3_1 x9_1).f3) t148 _ ?side1 ?side2 A8.out).mono ?_); (case side1 => repeat (first | exact (by repeat (first | (with_reducible exact HR147_3.out) | (with_reducible refine Kd.C_alloc ?_ _) | (with_reducible refine Kd.C_drewN ?_ _) | (with_reducible refine Kd.C_drew ?_) | exact HR147_3.out)) | (with_reducible refine Kd.C_alloc ?_ _) | (with_reducible refine Kd.C_drewN ?_ _) | (with_reducible refine Kd.C_drew ?_))); (case side2 => exact HC147_3.out); rintro e w10 ⟨v149, rfl, ho0, hb⟩; refine ⟨_, rfl, ?_⟩; have n0_ := Aside0.mk (Kd.N_elder' (by (with_reducible repeat (first | apply Kd.N_alloc | apply Kd.N_drewN | apply Kd.N_drew)); exact HO_3.out) (Kd.R_base ho0) hb); have n1_ := Aside0.mk (Kd.V_elder' (by (with_reducible repeat (first | apply Kd.V_alloc | apply Kd.V_drewN | apply Kd.V_drew)); exact HL147_3.out) (Kd.R_base ho0) hb); have n2_ := Aside0.mk (Kd.R_lower (Kd.R_newM (M := fun k_ => (w.heap.size ≤ k_)) ho0 (below_size (by repeat (first | (with_reducible first | exact HB.out | apply below_alloc | apply pw_below_drewN | apply below_drew1) | exact HB.out))) (fun k_ h_ => h_)) (below_size (by repeat (first | (with_reducible first | exact HB.out | apply below_alloc | apply pw_below_drewN | apply below_drew1) | exact HB.out)))); have n3_ := Aside0.mk (Kd.C_below (by repeat (first | (with_reducible exact HR147_3.out) | (with_reducible refine Kd.C_alloc ?_ _) | (with_reducible refine Kd.C_drewN ?_ _) | (with_reducible refine Kd.C_drew ?_) | exact HR147_3.out)) hb); have n4_ := Aside0.mk (below_step (by repeat (first | (with_reducible first | exact HB.out | apply below_alloc | apply pw_below_drewN | apply below_drew1) | exact HB.out)) hb); clear HO_3; clear HL147_3; clear HR147_3; clear HB; have HO_3 := n0_; have HL147_3 := n1_; have HO150 := n2_; have HR147_3 := n3_; have HB := n4_; clear n0_ n1_ n2_ n3_ n4_; (try clear hb); (try clear hb2); (try clear hk); (try clear hi); (try clear ho0); have p9 : 0 ≤ (x9_1 : Int) := of_decide_eq_true (by first | (with_reducible assumption) | assumption); have q9 : (x9_1 : Int) < ((x3_1.length : Int) : Int) := of_decide_eq_true (by first | (with_reducible assumption) | assumption); obtain ⟨go9, co9, eo9, gb9, gl9, cl9, HG9⟩ := Kd.N_form HO_3.out (by omega); (first | cases eo9 | (injection eo9 with ea_ en_ ec_; (first | subst ea_ | (injection ea_ with ea_; subst ea_)); subst ec_; clear en_)); have GB9 := Aside0.mk gb9; have GG9 := Aside0.mk HG9; clear gb9 gl9 HG9; (first | simp only [add_plain] at hx147_0 | skip); (first | simp only [add_plain] at hx147_1 | skip); (first | simp only [add_plain] at hx147_2 | skip); (first | simp only [add_plain] at hx147_3 | skip); (first | simp only [add_plain] at hx147_4 | skip); obtain ⟨ce9, hcl9, hM9, hcc9, hfr9⟩ := Kd.N_elem HO_3.out z89 (x9_1 : Int) p9 q9; obtain ⟨ua9_3, uc9_3, rfl, ul9_3, ge9_3⟩ := k89_openF hM9; have hx9_0 : w10.cell? ⟨go9, (x9_1 : Int).toNat * 5, none⟩ = some (.string ((rd_T89 x3_1 x9_1).f0)) := hcc9 0 _ rfl; have hx9_1 : w10.cell? ⟨go9, (x9_1 : Int).toNat * 5 + 1, none⟩ = some (.int .i64 ((rd_T89 x3_1 x9_1).f1)) := hcc9 1 _ rfl; have hx9_2 : w10.cell? ⟨go9, (x9_1 : Int).toNat * 5 + 2, none⟩ = some (.int .i64 ((rd_T89 x3_1 x9_1).f2)) := hcc9 2 _ rfl; have hx9_3 : w10.cell? ⟨go9, (x9_1 : Int).toNat * 5 + 3, none⟩ = some (.slice ua9_3 ((rd_T89 x3_1 x9_1).f3).length uc9_3) := hcc9 3 _ rfl; have hx9_4 : w10.cell? ⟨go9, (x9_1 : Int).toNat * 5 + 4, none⟩ = some (.string ((rd_T89 x3_1 x9_1).f4)) := hcc9 4 _ rfl; have hf9_0 : w10.frozen? ⟨go9, (x9_1 : Int).toNat * 5, none⟩ = false := hfr9 0; have hf9_1 : w10.frozen? ⟨go9, (x9_1 : Int).toNat * 5 + 1, none⟩ = false := hfr9 1; have hf9_2 : w10.frozen? ⟨go9, (x9_1 : Int).toNat * 5 + 2, none⟩ = false := hfr9 2; have hf9_3 : w10.frozen? ⟨go9, (x9_1 : Int).toNat * 5 + 3, none⟩ = false := hfr9 3; have hf9_4 : w10.frozen? ⟨go9, (x9_1 : Int).toNat * 5 + 4, none⟩ = false := hfr9 4; clear hcl9 hcc9 hfr9 hM9; replace p9 := eq_true p9; replace q9 := eq_true q9; have HX11 := Aside0.mk (show Kd.N k89 89 w10 w.heap.size (fun k_ => (P0_ k_ ∨ w.heap.size ≤ k_)) (.slice (some ⟨go9, 0, none⟩) x3_1.length co4) x3_1 from (by (with_reducible repeat (first | apply Kd.N_alloc | apply Kd.N_drewN | apply Kd.N_drew)); exact Kd.N_mono HO_3.out (fun _ hk => hk.1))); obtain ⟨ce11, hcl11, hM11, hcc11, hfr11⟩ := Kd.N_elem HX11.out z89 (x9_1 : Int) (of_decide_eq_true (by first | (with_reducible assumption) | assumption)) (by have h_ : (x9_1 : Int) < ((x3_1.length : Int) : Int) := of_decide_eq_true (by first | (with_reducible assumption) | assumption); first | exact h_ | (have e_ := (Kd.N_reads' HO_3.out).1; omega) | simpa using h_); obtain ⟨ua11_3, uc11_3, rfl, ul11_3, ge11_3⟩ := k89_openF hM11; have HP11 := Kd.N_seg HX11.out (x9_1 : Int) (of_decide_eq_true (by first | (with_reducible assumption) | assumption)) (by have h_ : (x9_1 : Int) < ((x3_1.length : Int) : Int) := of_decide_eq_true (by first | (with_reducible assumption) | assumption); first | exact h_ | (have e_ := (Kd.N_reads' HO_3.out).1; omega) | simpa using h_) (seg := [v149]) (j := 3) hcl11 hcc11 (show 4 ≤ 5 from by decide) (x' := (⟨(rd_T89 x3_1 x9_1).f0, (rd_T89 x3_1 x9_1).f1, (rd_T89 x3_1 x9_1).f2, t148, (rd_T89 x3_1 x9_1).f4⟩ : S89)) (entry_mkFv _ _ (⟨(rd_T89 x3_1 x9_1).f0, (rd_T89 x3_1 x9_1).f1, (rd_T89 x3_1 x9_1).f2, t148, (rd_T89 x3_1 x9_1).f4⟩ : S89) _ (Kd.R_mono (ok' := (fun k_ => ((fun k_ => (P0_ k_ ∨ w.heap.size ≤ k_))) k_ ∧ k_ ≠ go9)) (Kd.R_apart' (HO150.out) (Kd.N_typed HO_3.out) (by decide)) (fun k_ hk => ⟨(.inr (hk.1.1)), fun e_ => (hk.2) (by rw [e_]; rfl)⟩))) (fun _ hk => hk); have hx11_3 := hcc11 3 _ rfl; (try simp only [show (k89).sz = 5 from rfl, Nat.mul_one, Nat.add_zero] at hx11_3); have hf11_3 := hfr11 3; (try simp only [show (k89).sz = 5 from rfl, Nat.mul_one, Nat.add_zero] at hf11_3); clear hcl11 hcc11 hfr11 hM11) | ((with_reducible refine gate_store (t := 87) (p := 21) rfl ?_); refine store_event (t := 87) (p := 21) (v := ?vo_w12) (w1 := (w10.setCell ⟨go9, (x9_1 : Int).toNat * 5 + 3, none⟩ (v149))) ?hg ?ho ?hn ?hr ?_; (case ho => rfl); (case hg => rfl); (case hn => rfl); (case hr => first | (obtain ⟨A_, c_, rfl⟩ := Kd.R_slice HO150.out; first | (go_simp; done) | (go_simp; rfl)) | (go_simp; done) | (go_simp; rfl)); intro w12 hw; have hg : w10.grownBy w12 (some go9) := (by rw [hw]; exact HP11.2); have hp_ : Kd.N k89 89 w12 w.heap.size (fun k_ => (P0_ k_ ∨ w.heap.size ≤ k_)) (.slice (some ⟨go9, 0, none⟩) x3_1.length co4) y151 := (by rw [hw, Ny151.out]; exact HP11.1); clear HP11; have n0_ := Aside0.mk (hp_); have n1_ := Aside0.mk (Kd.V_afterv (v := (.slice (some ⟨go9, 0, none⟩) x3_1.length co4)) (v1 := (.slice (some ⟨go9, 0, none⟩) x3_1.length co4)) (ok := (fun k_ => (P0_ k_ ∨ w.heap.size ≤ k_) ∧ some k_ ≠ (v149 : Value).ownBlock)) (by (with_reducible repeat (first | apply Kd.V_alloc | apply Kd.V_drewN | apply Kd.V_drew)); exact Kd.V_mono HL147_3.out (fun _ hk => ⟨⟨hk.1.1, hk.2⟩, hk.1.2⟩)) hg (.inl rfl)); have n2_ := Aside0.mk ((by rw [hw]; exact below_set (HB.out) GB9.out : Below w.heap.size w w12)); clear HO_3; clear HL147_3; clear HB; clear HO150; have HO_3 := n0_; have HL147_3 := n1_; have HB := n2_; clear n0_ n1_ n2_; clear hg hw hp_))
      (try simp only [← hl3_1])
      go_roundg k1
      case measure => have := HK1.out; omega
      case rel => exact ⟨(y151), (wrap64 (x9_1 + 1)), (by first | rfl | (simp; done) | (simp [*]; done)), H', ⟨by have := HK1.out; omega⟩, ⟨by (try simp only [hl3_1]); (with_reducible repeat (first | apply Kd.N_alloc | apply Kd.N_drewN | apply Kd.N_drew)); exact HO_3.out⟩, ⟨by repeat (first | (with_reducible first | exact HB.out | apply below_alloc | apply pw_below_drewN | apply below_drew1) | exact HB.out)⟩⟩
     ·rw [if_neg c7] at H
      exact absurd H (by simp)
    ·rw [if_neg c6] at H
     exact absurd H (by simp)
   ·rw [if_neg c5] at H
    have c5b0 : decide (x9_1 < (t144.length : Int)) = false := decide_eq_false c5
    have c5b0z : decide (x9_1 < (x3_1.length : Int)) = false := by rw [← hl3_1]; exact c5b0
    clear c5
    obtain rfl := Option.some.inj H
    go_wp2
    go_ret
    exact ⟨_, by first | rfl | (simp [errW_none, errW_some] <;> rfl) | (simp [*, errW_none, errW_some] <;> rfl) | (simp [bt, *]; done) | (simp_all [bt]; done), by (with_reducible repeat (first | apply Kd.N_alloc | apply Kd.N_drewN | apply Kd.N_drew)); exact HO_3.out, by repeat (first | (with_reducible first | exact HB.out | apply below_alloc | apply pw_below_drewN | apply below_drew1) | exact HB.out)⟩

end Go.Proofs.Ytmlgfgmgolgjbaa.X
end

/-! ## mTake -/
section
namespace Go.Proofs.Ytmlgfgmgolgjbaa.X
open Go.RowKit Go.Maps Go.Proofs.YtmlgfgmgolgjbaaW.PrintWords Go.Proofs.YtmlgfgmgolgjbaaW.PrintLast Go.Proofs.YtmlgfgmgolgjbaaW.PrintMore
set_option linter.unusedVariables false
set_option linter.unusedSimpArgs false
theorem infoSn : (Try.prog.info? 70).map (fun i => (i.zero, i.size, i.bytes)) = some (some (.agg #[.int .i64 0, .int .i64 0, .int .i64 0, .slice none 0 0]), 4, 48) := by kernel_rfl
/-- A client's block, as 'of' hands it over. -/
structure CliAt (w0 w : World) (cb : Nat) (v : Value) (xs : List Sn) (g : Int) : Prop where
 ge : w0.heap.size ≤ cb
 blk : w.heap[cb]? = some (.cells #[v, .int .i64 g] 74 (0, 0))
 row : Kd.R kSn 70 w w0.heap.size (fun _ => True) v xs
def modelTake.T11 : Bool × List (List Nat × List Nat) := (true, [([], []), ([], []), ([1], [1]), ([2], [2]), ([3], [3]), ([4], [4]), ([], []), ([], []), ([], []), ([], []), ([9], [9]), ([6, 7, 8, 10], [6, 7, 8, 10]), ([11], [11]), ([5, 12, 10], [5, 12]), ([0, 0, 1, 2, 3, 4, 5, 6, 7, 8, 9, 10, 11, 12, 13], [0]), ([14, 0, 1, 2, 3, 4, 5, 6, 7, 8, 9, 10, 11, 12, 13], [14]), ([15, 0, 1, 2, 3, 4, 5, 6, 7, 8, 9, 10, 11, 12, 13], [15]), ([16, 13, 13, 0, 1, 2, 3, 4, 5, 6, 7, 8, 9, 10, 11, 12, 13], [13, 16])])
def modelTake.B11 : List Nat := [0, 0, 2, 6, 14, 30, 0, 0, 0, 0, 512, 1984, 4032, 8190, 16383, 32767, 65535, 131071]
theorem modelTake.tab11 : rtab .any (opsOf Try.f15 11) = modelTake.T11 := by kernel_rfl
theorem modelTake.bits11 : waitsOk modelTake.T11.2 modelTake.B11 = true := by kernel_rfl
set_option maxHeartbeats 8000000 in
set_option maxRecDepth 100000 in
theorem model_Take.core {w0 w : World} {mm mb n : Nat} {C : List Cl} (h : Held w0 w mm mb n C) {D : DataW Unit} (hD : w.ownsMap Try.prog 3 ptrE mb n D) (hn : n < 1000000) {k num cmd tick : Int} (hk : (Lit.int .i64 k).wf = true) (A : Option Addr) (c : Nat) (l : List S89) (P0 : Nat → Prop) (hC : Kd.F k89 w P0 A l.length l) (hc : l.length ≤ c) (kf kc : Nat)
  (hfit : model_fits.f kf k num cmd tick l = some 0) (hclone : model_clone.f kc l = some l) {v : Value} {xs : List Sn} {g : Int} (hg : g < num) (hx : xs.length < 64) (Tg : Nat → Prop) (hP : ∀ k, P0 k → k < w.heap.size ∧ k ≠ mb ∧ v.ownBlock ≠ some k) (hPc : ∀ cb, Tg cb → ∀ k, P0 k → k ≠ cb)
  (hof : ∀ W, Below w.heap.size w W → Calls Try.prog 28 #[.pointer (some ⟨mm, 0, none⟩), .int .i64 k] W fun e w1 => ∃ cb, e = .returned (.pointer (some ⟨cb, 0, none⟩)) ∧ Below W.heap.size W w1 ∧ CliAt w0 w1 cb v xs g ∧ Tg cb) :
  Calls Try.prog 15 #[.pointer (some ⟨mm, 0, none⟩), .int .i64 k, .int .i64 num, .int .i64 cmd, .int .i64 tick, .slice A l.length c] w fun e w' => e = .returned (.int .i64 0) ∧ ∃ (w1 : World) (cb : Nat) (v' : Value) (t : Option Addr × Nat × Nat), Below w.heap.size w w1 ∧ CliAt w0 w1 cb v xs g ∧ Tg cb ∧
   Chg w1 w' (fun i => i = cb ∨ i = mb ∨ some i = v.ownBlock) ∧ w'.ownsMap Try.prog 3 ptrE mb (n + 1) (D.put (.int .i64 k) (.lit (.int .i64 (cb : Int)))) ∧
   w'.heap[cb]? = some (.cells #[v', .int .i64 num] 74 (0, 0)) ∧ Kd.R kSn 70 w' w0.heap.size (fun _ => True) v' (xs ++ [(num, cmd, tick, t)]) ∧ (v'.ownBlock = v.ownBlock ∨ ∃ b, v'.ownBlock = some b ∧ w1.heap.size ≤ b) ∧ t.2.1 = l.length ∧ l.length ≤ t.2.2 ∧ Kd.F k89 w' (fun k => P0 k ∨ (w1.heap.size ≤ k ∧ k < w'.heap.size ∧ v'.ownBlock ≠ some k)) t.1 l.length l := by
 have H := Aside0.mk h
 have DM := Aside0.mk hD
 have HC := Aside0.mk hC
 have FIT := Aside0.mk hfit
 have CLONE := Aside0.mk hclone
 have OF := Aside0.mk hof
 have PP := Aside0.mk hP
 have PPC := Aside0.mk hPc
 have d1 : decide (num ≤ g) = false := decide_eq_false (by omega)
 have d2 : decide ((xs.length : Int) ≥ 64) = false := decide_eq_false (by omega)
 have d3 : decide (64 ≤ (xs.length : Int)) = false := decide_eq_false (by omega)
 have d4 : decide (64 ≤ xs.length) = false := decide_eq_false (by omega)
 have hmc0 : w.cell? ⟨mm, 0, none⟩ = some (.map (some mb)) := (blk_cell h.model 0).trans rfl
 clear h hD hC hfit hclone hof hg hP hPc
 go_enter Try.func15, Try.ntmps15
 go_upto_region 7 with (first
  | (go_at_call 26; refine (model_none.calls mm mb _ H.out.model).mono ?_; rintro e w1 ⟨rfl, rfl⟩)
  | (go_at_call 27; refine (model_fits.calls kf k num cmd tick A c l 0 _ (Kd.F_now HC.out) hc FIT.out).mono ?_; rintro e w1 ⟨rfl, hb⟩; have B1 := Aside0.mk hb; clear hb)
  | (go_at_call 28; refine (OF.out _ B1.out).mono ?_; rintro e w2 ⟨cb, rfl, hb, hcl, ht⟩; have B2 := Aside0.mk (below_step B1.out hb); have CL := Aside0.mk hcl; have TG := Aside0.mk ht; clear hb hcl ht))
 obtain ⟨Av, cv, rfl⟩ := Kd.R_slice CL.out.row
 have H2 := Aside0.mk (H.out.after B2.out)
 have hc20 : w2.cell? ⟨cb, 0, none⟩ = some (.slice Av xs.length cv) := (blk_cell CL.out.blk 0).trans rfl
 have hc21 : w2.cell? ⟨cb, 1, none⟩ = some (.int .i64 g) := (blk_cell CL.out.blk 1).trans rfl
 have hmc2 : w2.cell? ⟨mm, 0, none⟩ = some (.map (some mb)) := (blk_cell H2.out.model 0).trans rfl
 go_upto_region 11 with (fail)
 have BCd := Aside0.mk (blk_drew CL.out.blk)
 have RWd := Aside0.mk (Kd.R_drew CL.out.row)
 have HBd := Aside0.mk (below_drew H2.out.below)
 have VL : Aside0 (Kd.V k89 89 w2.drew w2.drew.heap.size (fun k_ => P0 k_) (.slice A l.length c) l) := ⟨Kd.V_mk hc (Kd.F_below HC.out (below_drew B2.out))⟩
 refine start_ (n := 18) (S := fun w' => w'.cell? ⟨cb, 0, none⟩ = some (.slice Av xs.length cv)) (ds := [13, 17]) #[false, false, false, false, false, false, false, false, false, false, false, false, false, false, false, false, false, false] (by kernel_rfl) rfl rfl ((blk_cell BCd.out 0).trans rfl) (fun hHeld => ?_)
 refine with_tabW modelTake.tab11 modelTake.bits11 (fun HT_ HW_ => ?_)
 refine pure_ (i := 0) (N := some 44) (v := ?_) (a' := ?_) #[true, false, false, false, false, false, false, false, false, false, false, false, false, false, false, false, false, false] rfl rfl (any_of HT_.out (by kernel_rfl)) (fun _ _ _ h => h) (Or.inl ⟨by rfl, ?_⟩) ?_ ?_; rotate_left; (intro w'; go_simp; with_reducible rfl); rotate_left; (simp only [Act.put, List.setIfInBounds_toArray, List.set_cons_zero, List.set_cons_succ, i64_w, i32_w]; rfl)
 refine pure_ (i := 1) (N := some 45) (v := ?_) (a' := ?_) #[true, true, false, false, false, false, false, false, false, false, false, false, false, false, false, false, false, false] rfl rfl (any_of HT_.out (by kernel_rfl)) (fun _ _ _ h => h) (Or.inl ⟨by rfl, ?_⟩) ?_ ?_; rotate_left; (intro w'; go_simp; with_reducible rfl); rotate_left; (simp only [Act.put, List.setIfInBounds_toArray, List.set_cons_zero, List.set_cons_succ, i64_w, i32_w]; rfl)
 refine pure_ (i := 2) (N := some 46) (v := ?_) (a' := ?_) #[true, true, true, false, false, false, false, false, false, false, false, false, false, false, false, false, false, false] rfl rfl (any_of HT_.out (by kernel_rfl)) (fun _ _ _ h => h) (Or.inl ⟨by rfl, ?_⟩) ?_ ?_; rotate_left; (intro w'; go_simp; with_reducible rfl); rotate_left; (simp only [Act.put, List.setIfInBounds_toArray, List.set_cons_zero, List.set_cons_succ, i64_w, i32_w]; rfl)
 refine pure_ (i := 3) (N := some 47) (v := ?_) (a' := ?_) #[true, true, true, true, false, false, false, false, false, false, false, false, false, false, false, false, false, false] rfl rfl (any_of HT_.out (by kernel_rfl)) (fun _ _ _ h => h) (Or.inl ⟨by rfl, ?_⟩) ?_ ?_; rotate_left; (intro w'; go_simp; with_reducible rfl); rotate_left; (simp only [Act.put, List.setIfInBounds_toArray, List.set_cons_zero, List.set_cons_succ, i64_w, i32_w]; rfl)
 refine pure_ (i := 4) (N := some 48) (v := ?_) (a' := ?_) #[true, true, true, true, true, false, false, false, false, false, false, false, false, false, false, false, false, false] rfl rfl (any_of HT_.out (by kernel_rfl)) (fun _ _ _ h => h) (Or.inl ⟨by rfl, ?_⟩) ?_ ?_; rotate_left; (intro w'; go_simp; with_reducible rfl); rotate_left; (simp only [Act.put, List.setIfInBounds_toArray, List.set_cons_zero, List.set_cons_succ, i64_w, i32_w]; rfl)
 refine pure_ (i := 6) (N := some 50) (v := ?_) (a' := ?_) #[true, true, true, true, true, false, true, false, false, false, false, false, false, false, false, false, false, false] rfl rfl (any_of HT_.out (by kernel_rfl)) (fun _ _ _ h => h) (Or.inl ⟨by rfl, ?_⟩) ?_ ?_; rotate_left; (intro w'; go_simp; with_reducible rfl); rotate_left; (simp only [Act.put, List.setIfInBounds_toArray, List.set_cons_zero, List.set_cons_succ, i64_w, i32_w]; rfl)
 refine pure_ (i := 7) (N := some 51) (v := ?_) (a' := ?_) #[true, true, true, true, true, false, true, true, false, false, false, false, false, false, false, false, false, false] rfl rfl (any_of HT_.out (by kernel_rfl)) (fun _ _ _ h => h) (Or.inl ⟨by rfl, ?_⟩) ?_ ?_; rotate_left; (intro w'; go_simp; with_reducible rfl); rotate_left; (simp only [Act.put, List.setIfInBounds_toArray, List.set_cons_zero, List.set_cons_succ, i64_w, i32_w]; rfl)
 refine pure_ (i := 8) (N := some 52) (v := ?_) (a' := ?_) #[true, true, true, true, true, false, true, true, true, false, false, false, false, false, false, false, false, false] rfl rfl (any_of HT_.out (by kernel_rfl)) (fun _ _ _ h => h) (Or.inl ⟨by rfl, ?_⟩) ?_ ?_; rotate_left; (intro w'; go_simp; with_reducible rfl); rotate_left; (simp only [Act.put, List.setIfInBounds_toArray, List.set_cons_zero, List.set_cons_succ, i64_w, i32_w]; rfl)
 refine pure_ (i := 9) (N := some 53) (v := ?_) (a' := ?_) #[true, true, true, true, true, false, true, true, true, true, false, false, false, false, false, false, false, false] rfl rfl (any_of HT_.out (by kernel_rfl)) (fun _ _ _ h => h) (Or.inl ⟨by rfl, ?_⟩) ?_ ?_; rotate_left; (intro w'; go_simp; with_reducible rfl); rotate_left; (simp only [Act.put, List.setIfInBounds_toArray, List.set_cons_zero, List.set_cons_succ, i64_w, i32_w]; rfl)
 refine take_ (i := 5) (N := some 49) (v := ?_) (a' := ?_) #[true, true, true, true, true, true, true, true, true, true, false, false, false, false, false, false, false, false] rfl rfl (take_ofW HT_.out HW_.out (by kernel_rfl)) (fun _ _ _ h => h) (Or.inl ⟨by rfl, ?_⟩) hHeld ?_ ?_
 rotate_left
 ·intro w' s0
  go_simp
  with_reducible rfl
 rotate_left
 ·simp only [Act.put, List.setIfInBounds_toArray, List.set_cons_zero, List.set_cons_succ, i64_w, i32_w]
  rfl
 refine one_ (i := 10) (N := some 54) #[true, true, true, true, true, true, true, true, true, true, true, false, false, false, false, false, false, false] rfl rfl (one_of HT_.out (by kernel_rfl)) (by decide) (fun K hK => ?_)
 refine goes_ Try.func33 (by kernel_rfl) rfl #[.slice A l.length c] (by rfl) rfl rfl (by simp only [List.map_toArray, List.map_cons, List.map_nil]; rfl) ?_
 refine (model_clone.calls kc P0 A c l l _ VL.out CLONE.out).mono ?_
 rintro e w3 ⟨v3, rfl, hN, hb⟩
 obtain ⟨A3, c3, rfl⟩ := Kd.N_slice hN
 have L3 := Aside0.mk (Kd.N_reads' hN).2.1
 have FT3 := Aside0.mk (Kd.F_bound (Kd.N_F hN))
 clear hN
 have B3 := Aside0.mk hb
 have BC3 := Aside0.mk (blk_below BCd.out hb)
 have RW3 := Aside0.mk (Kd.R_below RWd.out hb)
 have BB3 := Aside0.mk (below_then HBd.out HBd.out.size hb)
 clear hb
 refine ⟨_, rfl, ?_⟩
 refine hK.out _ _ ((blk_cell BC3.out 0).trans rfl) (fun hHeld => ?_)
 clear hK K
 refine norm_ (a' := ?_) ?_ ?_
 rotate_left
 ·show Act.put _ (some 54) _ = _
  simp only [Act.put, List.setIfInBounds_toArray, List.set_cons_zero, List.set_cons_succ, i64_w, i32_w]
  rfl
 refine pure_ (i := 11) (N := some 55) (v := ?_) (a' := ?_) #[true, true, true, true, true, true, true, true, true, true, true, true, false, false, false, false, false, false] rfl rfl (any_of HT_.out (by kernel_rfl)) (fun _ _ _ h => h) (Or.inl ⟨by rfl, ?_⟩) ?_ ?_; rotate_left; (intro w'; go_simp; with_reducible rfl); rotate_left; (simp only [Act.put, List.setIfInBounds_toArray, List.set_cons_zero, List.set_cons_succ, i64_w, i32_w]; rfl)
 refine one_ (i := 12) (N := some 56) #[true, true, true, true, true, true, true, true, true, true, true, true, true, false, false, false, false, false] rfl rfl (one_of HT_.out (by kernel_rfl)) (by decide) (fun K hK => ?_)
 refine value_ (w1 := ?_) (v := ?_) (by rfl) rfl ?_ ?_
 rotate_left 2
 ·go_simp
  constructor
  ·rfl
  ·rfl
 refine hK.out _ _ ((blk_cell (blk_alloc BC3.out (.cells #[.int .i64 num, .int .i64 cmd, .int .i64 tick, .slice A3 l.length c3] 70)) 0).trans rfl) (fun hHeld => ?_)
 clear hK K
 refine norm_ (a' := ?_) ?_ ?_
 rotate_left
 ·show Act.put _ (some 56) _ = _
  simp only [Act.put, List.setIfInBounds_toArray, List.set_cons_zero, List.set_cons_succ, i64_w, i32_w]
  rfl
 refine last_ (i := 13) (N := some 57) #[true, true, true, true, true, true, true, true, true, true, true, true, true, true, false, false, false, false] rfl rfl (one_of HT_.out (by kernel_rfl)) (by decide) (fun K hK => ?_)
 refine Kd.R_append_step kSn (w0 := w0) (W := w3) w0.heap.size (by rfl) (.tmp 49) (.tmp 56) 68 70 (.agg #[.int .i64 0, .int .i64 0, .int .i64 0, .slice none 0 0]) 48 rfl Try.underlying68 infoSn rfl (by decide) (by decide) (.slice Av xs.length cv) xs (num, cmd, tick, A3, l.length, c3) [.int .i64 num, .int .i64 cmd, .int .i64 tick, .slice A3 l.length c3] (fun _ => True) (fun _ => False) rfl rfl rfl (fun _ h => h.elim) (fun _ _ => trivial) RW3.out BB3.out BB3.out.size (by omega) ?_
 intro v4 w4 hR4 hB4 hg4 hat4
 obtain ⟨A4, c4, e4⟩ := Kd.R_slice hR4
 obtain ⟨n4, hn4⟩ : ∃ n4, n4 = (xs ++ [((num, cmd, tick, A3, l.length, c3) : Sn)]).length := ⟨_, rfl⟩
 rw [← hn4] at e4
 clear hn4
 subst e4
 have R4 := Aside0.mk hR4
 have G4 := Aside0.mk hg4
 have AT4 := Aside0.mk hat4
 have BC4 := Aside0.mk ((hg4.block cb (Array.getElem?_eq_some_iff.1 BC3.out).1 (Kd.R_ne RW3.out BC3.out (by decide))).trans BC3.out)
 have hc40 : w4.cell? ⟨cb, 0, none⟩ = some (.slice Av xs.length cv) := (blk_cell BC4.out 0).trans rfl
 have hf40 : w4.frozen? ⟨cb, 0, none⟩ = false := blk_frozen BC4.out 0
 clear hR4 hB4 hg4 hat4
 refine hK.out _ _ ?_
 clear hK K
 refine norm_ (a' := ?_) ?_ ?_
 rotate_left
 ·show Act.put _ (some 57) _ = _
  simp only [Act.put, List.setIfInBounds_toArray, List.set_cons_zero, List.set_cons_succ, i64_w, i32_w]
  rfl
 refine pure_ (i := 14) (N := some 58) (v := ?_) (a' := ?_) #[true, true, true, true, true, true, true, true, true, true, true, true, true, true, true, false, false, false] rfl rfl (any_of HT_.out (by kernel_rfl)) (fun _ _ _ h => h) (Or.inl ⟨by rfl, ?_⟩) ?_ ?_; rotate_left; (intro w'; go_simp; with_reducible rfl); rotate_left; (simp only [Act.put, List.setIfInBounds_toArray, List.set_cons_zero, List.set_cons_succ, i64_w, i32_w]; rfl)
 refine pure_ (i := 15) (N := some 59) (v := ?_) (a' := ?_) #[true, true, true, true, true, true, true, true, true, true, true, true, true, true, true, true, false, false] rfl rfl (any_of HT_.out (by kernel_rfl)) (fun _ _ _ h => h) (Or.inl ⟨by rfl, ?_⟩) ?_ ?_; rotate_left; (intro w'; go_simp; with_reducible rfl); rotate_left; (simp only [Act.put, List.setIfInBounds_toArray, List.set_cons_zero, List.set_cons_succ, i64_w, i32_w]; rfl)
 refine pure_ (i := 16) (N := some 60) (v := ?_) (a' := ?_) #[true, true, true, true, true, true, true, true, true, true, true, true, true, true, true, true, true, false] rfl rfl (any_of HT_.out (by kernel_rfl)) (fun _ _ _ h => h) (Or.inl ⟨by rfl, ?_⟩) ?_ ?_; rotate_left; (intro w'; go_simp; with_reducible rfl); rotate_left; (simp only [Act.put, List.setIfInBounds_toArray, List.set_cons_zero, List.set_cons_succ, i64_w, i32_w]; rfl)
 refine last_ (i := 17) (N := none) #[true, true, true, true, true, true, true, true, true, true, true, true, true, true, true, true, true, true] rfl rfl (one_of HT_.out (by kernel_rfl)) (by decide) (fun K hK => ?_)
 refine skip_ (w1 := ?_) (by rfl) rfl ?_ ?_
 rotate_left
 ·go_simp
  rfl
 refine hK.out _ _ ?_
 clear hK K
 refine done_ (done_of HT_.out (by kernel_rfl)) ?_
 have hmd : Aside0 (mm ≠ cb ∧ some mm ≠ (Value.slice Av xs.length cv).ownBlock ∧ mb ≠ cb ∧ some mb ≠ (Value.slice Av xs.length cv).ownBlock) := ⟨by
  obtain ⟨D, hD, _⟩ := H2.out.map
  obtain ⟨es, cl, hmb, _⟩ := hD
  refine ⟨fun e => ?_, Kd.R_ne CL.out.row H2.out.model (by decide), fun e => ?_, fun e => ?_⟩
  ·have h1 := H2.out.model; rw [e, CL.out.blk] at h1; injection h1 with h1; injection h1 with _ h1 _; cases h1
  ·rw [e, CL.out.blk] at hmb; cases hmb
  ·obtain ⟨_, _, cs, h1⟩ := row_at CL.out.row e.symm
   rw [h1] at hmb; cases hmb⟩
 have VO : Aside0 (∀ q, (Value.slice Av xs.length cv).ownBlock = some q → q < w2.heap.size) := ⟨fun q hq => (row_at CL.out.row hq).2.1⟩
 have CBL : Aside0 (cb < w2.heap.size) := ⟨blk_lt CL.out.blk⟩
 have MBL : Aside0 (mb < w2.heap.size) := ⟨by obtain ⟨D, ⟨es, cl, h1, _⟩, _⟩ := H2.out.map; exact blk_lt h1⟩
 have hS3 : Aside0 (w2.heap.size ≤ w3.heap.size) := ⟨by have := B3.out.size; simpa using this⟩
 have FOK : Aside0 (∀ k, ((P0 k ∨ w2.drew.heap.size ≤ k) ∧ k < w3.heap.size) → k ≠ cb ∧ k ≠ mb ∧ some k ≠ (Value.slice Av xs.length cv).ownBlock) := ⟨fun k hk => by
  rcases hk.1 with h1 | h1
  ·exact ⟨PPC.out cb TG.out k h1, (PP.out k h1).2.1, fun e => (PP.out k h1).2.2 e.symm⟩
  ·have h2 : w2.heap.size ≤ k := by simpa using h1
   refine ⟨fun e => ?_, fun e => ?_, fun e => ?_⟩
   ·have := CBL.out; omega
   ·have := MBL.out; omega
   ·have := VO.out k e.symm; omega⟩
 have FT4 := Aside0.mk (Kd.F_grown FT3.out G4.out (fun k hk => (FOK.out k hk).2.2))
 have CH4 : Aside0 (Chg w2 w4 (fun i => i = cb ∨ i = mb ∨ some i = (Value.slice Av xs.length cv).ownBlock)) := ⟨((Chg.of_below (below_drew (Below.refl _ w2)) _).trans (Chg.of_below B3.out _)).trans (Chg.of_grown G4.out (fun i hi => .inr (.inr hi)))⟩
 have OM4 : Aside0 (w4.ownsMap Try.prog 3 ptrE mb n D) := ⟨((((DM.out.kept (grown_below B2.out) (by simp)).drew).kept (grown_below B3.out) (by simp)).kept G4.out hmd.out.2.2.2)⟩
 have MM4 : Aside0 (w4.heap[mm]? = some (.cells #[.map (some mb)] 40 (0, 0))) := ⟨(G4.out.block mm (blk_lt (blk_below (blk_drew H2.out.model) B3.out)) hmd.out.2.1).trans (blk_below (blk_drew H2.out.model) B3.out)⟩
 have NE4 : Aside0 (∀ q, (Value.slice A4 n4 c4).ownBlock = some q → q ≠ cb ∧ q ≠ mb) := ⟨fun q hq => ⟨(fun e => by
  obtain ⟨_, _, cs, h1⟩ := row_at R4.out hq
  rw [e, BC4.out] at h1; injection h1 with h1; injection h1 with _ h1 _; cases h1), (fun e => by
  obtain ⟨_, _, cs, h1⟩ := row_at R4.out hq
  obtain ⟨es, cl, hmb, _⟩ := OM4.out
  rw [e, hmb] at h1; cases h1)⟩⟩
 have BC5 : Aside0 ((w4.setCell ⟨cb, 0, none⟩ (.slice A4 n4 c4)).heap[cb]? = some (.cells #[.slice A4 n4 c4, .int .i64 g] 74 (0, 0))) := ⟨by simpa using blk_set BC4.out 0 (.slice A4 n4 c4)⟩
 have MM5 : Aside0 ((w4.setCell ⟨cb, 0, none⟩ (.slice A4 n4 c4)).heap[mm]? = some (.cells #[.map (some mb)] 40 (0, 0))) := ⟨(Below.heap_setCell _ _ _ _ hmd.out.1).trans MM4.out⟩
 have OM5 : Aside0 ((w4.setCell ⟨cb, 0, none⟩ (.slice A4 n4 c4)).ownsMap Try.prog 3 ptrE mb n D) := ⟨OM4.out.setCell hmd.out.2.2.1 _⟩
 have R5 : Aside0 (Kd.R kSn 70 (w4.setCell ⟨cb, 0, none⟩ (.slice A4 n4 c4)) w0.heap.size (fun _ => True) (.slice A4 n4 c4) (xs ++ [(num, cmd, tick, A3, l.length, c3)])) := ⟨Kd.R_mono (Kd.R_move (row_only R4.out) (fun q hq => Below.heap_setCell _ _ _ _ (NE4.out q hq).1)) (fun _ _ => trivial)⟩
 have FT5 := Aside0.mk (Kd.F_far (p := ⟨cb, 0, none⟩) FT4.out (fun k hk => (FOK.out k hk).1) (.slice A4 n4 c4))
 have SZ5 : Aside0 (w4.heap.size ≤ (w4.setCell ⟨cb, 0, none⟩ (.slice A4 n4 c4)).heap.size) := ⟨by simp⟩
 have CH5 := Aside0.mk (CH4.out.trans (Chg.set w4 ⟨cb, 0, none⟩ (.slice A4 n4 c4) (.inl rfl)))
 clear hc20 hc21 hmc2 hc40 hf40 hmc0
 generalize (w4.setCell ⟨cb, 0, none⟩ (.slice A4 n4 c4)) = w5 at BC5 MM5 OM5 R5 CH5 FT5 SZ5 ⊢
 have hc51 : w5.cell? ⟨cb, 1, none⟩ = some (.int .i64 g) := (blk_cell BC5.out 1).trans rfl
 have hf51 : w5.frozen? ⟨cb, 1, none⟩ = false := blk_frozen BC5.out 1
 have BC6 : Aside0 ((w5.setCell ⟨cb, 1, none⟩ (.int .i64 num)).heap[cb]? = some (.cells #[.slice A4 n4 c4, .int .i64 num] 74 (0, 0))) := ⟨by simpa using blk_set BC5.out 1 (.int .i64 num)⟩
 have hm6 : (w5.setCell ⟨cb, 1, none⟩ (.int .i64 num)).cell? ⟨mm, 0, none⟩ = some (.map (some mb)) := (blk_cell ((Below.heap_setCell _ _ _ _ hmd.out.1).trans MM5.out) 0).trans rfl
 have OM6 := Aside0.mk (OM5.out.setCell (a := ⟨cb, 1, none⟩) hmd.out.2.2.1 (.int .i64 num))
 have R6 := Aside0.mk (Kd.R_mono (ok' := fun _ => True) (Kd.R_move (w1 := w5.setCell ⟨cb, 1, none⟩ (.int .i64 num)) (row_only R5.out) (fun q hq => Below.heap_setCell _ _ _ _ (NE4.out q hq).1)) (fun _ _ => trivial))
 have FT6 := Aside0.mk (Kd.F_far (p := ⟨cb, 1, none⟩) FT5.out (fun k hk => (FOK.out k hk).1) (.int .i64 num))
 have SZ6 : Aside0 (w4.heap.size ≤ (w5.setCell ⟨cb, 1, none⟩ (.int .i64 num)).heap.size) := ⟨by simpa using SZ5.out⟩
 have CH6 := Aside0.mk (CH5.out.trans (Chg.set w5 ⟨cb, 1, none⟩ (.int .i64 num) (.inl rfl)))
 go_upto_region 13 with (fail)
 generalize (w5.setCell ⟨cb, 1, none⟩ (.int .i64 num)) = w6 at BC6 hm6 OM6 R6 CH6 FT6 SZ6 ⊢
 go_wp2_with (at_mapUpdate; refine wpList_mapUpdate_own _ rfl _ _ _ 38 rfl 3 63 (int_keyed Try.underlying3) Try.underlying38 ptrE mb n D rfl OM6.out (Nat.lt_of_lt_of_le hn (by decide)) _ _ (.int .i64 k) rfl rfl (int_key hk) (.lit (.int .i64 (cb : Int))) [] rfl ?_; intro w7 hown7 hgrow7)
 go_ret
 refine ⟨rfl, w2, cb, .slice A4 n4 c4, (A3, l.length, c3), B2.out, CL.out, TG.out, CH6.out.trans (Chg.of_grown hgrow7 (fun i hi => .inr (.inl (by injection hi)))), hown7, ?_, ?_, ?_, rfl, L3.out, ?_⟩
 ·exact (hgrow7.block cb (blk_lt BC6.out) (fun e => hmd.out.2.2.1 (by injection e with e; exact e.symm))).trans BC6.out
 ·refine Kd.R_mono (Kd.R_move (row_only R6.out) (fun q hq => hgrow7.block q (row_at R6.out hq).2.1 (fun e => (NE4.out q hq).2 (by injection e)))) (fun _ _ => trivial)
 ·rcases AT4.out with e | ⟨b, e, hb⟩
  ·exact .inl e
  ·exact .inr ⟨b, e, Nat.le_trans (by have := B3.out.size; simpa using this) hb⟩
 ·have hsz : w3.heap.size ≤ w7.heap.size := by
   have h1 := CH6.out
   have h2 := hgrow7.size
   have h3 := G4.out.size
   have h4 := SZ6.out
   omega
  refine Kd.F_mono (Kd.F_grown FT6.out hgrow7 (fun k hk e => (FOK.out k hk).2.1 (by injection e))) (fun k hk => ?_)
  rcases hk.1 with h1 | h1
  ·exact .inl h1
  ·have h2 : w2.heap.size ≤ k := by simpa using h1
   refine .inr ⟨h2, Nat.lt_of_lt_of_le hk.2 hsz, fun e => ?_⟩
   rcases AT4.out with e1 | ⟨b, e1, hb⟩
   ·have := VO.out k (by rw [← e1]; exact e); omega
   ·have : k = b := by have := e.symm.trans e1; injection this
    have := hk.2; omega
end Go.Proofs.Ytmlgfgmgolgjbaa.X
end

/-! ## mTake2 -/
section
namespace Go.Proofs.Ytmlgfgmgolgjbaa.X
open Go.RowKit Go.Maps Go.Proofs.YtmlgfgmgolgjbaaW.PrintWords Go.Proofs.YtmlgfgmgolgjbaaW.PrintLast Go.Proofs.YtmlgfgmgolgjbaaW.PrintMore
set_option linter.unusedVariables false
set_option linter.unusedSimpArgs false
/-- What a client has: its snapshots, its greatest number. -/
def getC (C : List Cl) (k : Int) : List Sn × Int := match clOf C k with | some c => (c.xs, c.g) | none => ([], 0)
theorem getC_of {C C' : List Cl} {k : Int} (h : clOf C' k = clOf C k) : getC C' k = getC C k := by unfold getC; rw [h]
/-- What a step of the model leaves as it was: all but clients, rows of snapshots, and the map. -/
def Spares (mb : Nat) (w w' : World) : Prop := w.heap.size ≤ w'.heap.size ∧ ∀ (i : Nat) (o : Obj), w.heap[i]? = some o → i ≠ mb → (∀ cs, o ≠ .cells cs 74 (0, 0)) → (∀ cs, o ≠ .cells cs 70 (0, 0)) → w'.heap[i]? = some o
theorem Spares.of_below {mb : Nat} {w w' : World} (h : Below w.heap.size w w') : Spares mb w w' := ⟨h.size, fun i o hi _ _ _ => blk_below hi h⟩
theorem Spares.trans {mb : Nat} {a b c : World} (h : Spares mb a b) (k : Spares mb b c) : Spares mb a c := ⟨Nat.le_trans h.1 k.1, fun i o hi h1 h2 h3 => k.2 i o (h.2 i o hi h1 h2 h3) h1 h2 h3⟩
theorem Spares.of_chg {w0 w w1 w' : World} {mb cb : Nat} {v : Value} {xs : List Sn} {g : Int} (hb : Below w.heap.size w w1) (hc : CliAt w0 w1 cb v xs g) (h : Chg w1 w' (fun i => i = cb ∨ i = mb ∨ some i = v.ownBlock)) : Spares mb w w' := by
 refine ⟨Nat.le_trans hb.size h.size, fun i o hi h1 h2 h3 => ?_⟩
 have hi1 := blk_below hi hb
 refine (h.block i (blk_lt hi1) ?_).trans hi1
 rintro (rfl | e | e)
 ·exact h2 _ (by have := hi1.symm.trans hc.blk; injection this)
 ·exact h1 e
 ·obtain ⟨_, _, cs, h4⟩ := row_at hc.row e.symm
  exact h3 cs (by have := hi1.symm.trans h4; injection this)
theorem off_took {mb : Nat} {C : List Cl} {w w1 w' : World} {cb : Nat} {v : Value} {c0 : Cl} {f : Cl → Bool} (hsz : w.heap.size ≤ w1.heap.size) (hsz' : w1.heap.size ≤ w'.heap.size) (hc0 : c0.b = cb) (hcb : ∀ q, Off mb C w q → q ≠ cb) (hv : c0.v.ownBlock = v.ownBlock ∨ ∃ b, c0.v.ownBlock = some b ∧ w1.heap.size ≤ b) (hvo : ∀ q, Off mb C w q → v.ownBlock ≠ some q) :
  ∀ q, Off mb C w q → Off mb (c0 :: C.filter f) w' q := by
 intro q hq
 refine ⟨by have := hq.1; omega, hq.2.1, fun c hc => ?_⟩
 rcases List.mem_cons.1 hc with rfl | hc
 ·refine ⟨by rw [hc0]; exact hcb q hq, fun e => ?_⟩
  rcases hv with e1 | ⟨b, e1, hb⟩
  ·exact hvo q hq (e1 ▸ e)
  ·have : q = b := by have := e.symm.trans e1; injection this
   have := hq.1; omega
 ·exact hq.2.2 c (List.mem_filter.1 hc).1
theorem off_fresh {mb : Nat} {C : List Cl} {w1 w' : World} {c0 : Cl} {f : Cl → Bool} (hcb : c0.b < w1.heap.size) (hmb : mb < w1.heap.size) (hC : ∀ c ∈ C, c.b < w1.heap.size ∧ ∀ q, c.v.ownBlock = some q → q < w1.heap.size) :
  ∀ q, w1.heap.size ≤ q → q < w'.heap.size → c0.v.ownBlock ≠ some q → Off mb (c0 :: C.filter f) w' q := by
 intro q h1 h2 h3
 refine ⟨h2, by omega, fun c hc => ?_⟩
 rcases List.mem_cons.1 hc with rfl | hc
 ·exact ⟨by omega, h3⟩
 ·obtain ⟨g1, g2⟩ := hC c (List.mem_filter.1 hc).1
  exact ⟨by omega, fun e => by have := g2 q e; omega⟩
/-- What a step of the model comes to: what it leaves, and that what was none of its blocks is none still. -/
structure Went (mb : Nat) (C C' : List Cl) (w w' : World) : Prop where
 spares : Spares mb w w'
 off : ∀ k, Off mb C w k → w'.heap[k]? = w.heap[k]? ∧ Off mb C' w' k
theorem Went.of_below {mb : Nat} {C : List Cl} {w w' : World} (h : Below w.heap.size w w') : Went mb C C w w' := ⟨Spares.of_below h, fun k hk => ⟨h.block k hk.1, hk.after h.size⟩⟩
theorem Went.trans {mb : Nat} {C D E : List Cl} {a b c : World} (h : Went mb C D a b) (k : Went mb D E b c) : Went mb C E a c :=
 ⟨h.spares.trans k.spares, fun q hq => by obtain ⟨h1, h2⟩ := h.off q hq; obtain ⟨h3, h4⟩ := k.off q h2; exact ⟨h3.trans h1, h4⟩⟩
/-- The tree of a snapshot made just now. -/
def NewTree (P0 : Nat → Prop) (mb : Nat) (C' : List Cl) (w w' : World) (t : Option Addr × Nat × Nat) (l : List S89) : Prop := t.2.1 = l.length ∧ l.length ≤ t.2.2 ∧ Kd.F k89 w' (fun k => P0 k ∨ (w.heap.size ≤ k ∧ Off mb C' w' k)) t.1 l.length l
theorem NewTree.at {P0 : Nat → Prop} {mb : Nat} {C C' : List Cl} {w w' : World} {t : Option Addr × Nat × Nat} {l : List S89} (h : NewTree P0 mb C' w w' t l) (hP : ∀ k, P0 k → Off mb C w k) (hw : Went mb C C' w w') : TreeAt mb C' w' t l :=
 ⟨h.1, h.2.1, Kd.F_mono h.2.2 (fun k hk => hk.elim (fun h1 => (hw.off k (hP k h1)).2) (fun h1 => h1.2))⟩
theorem of_hit {w0 w : World} {mm mb n : Nat} {C : List Cl} (h : Held w0 w mm mb n C) {k : Int} (hk : (Lit.int .i64 k).wf = true) {c : Cl} (hc : clOf C k = some c) (W : World) (hW : Below w.heap.size w W) :
  Calls Try.prog 28 #[.pointer (some ⟨mm, 0, none⟩), .int .i64 k] W fun e w1 => ∃ cb, e = .returned (.pointer (some ⟨cb, 0, none⟩)) ∧ Below W.heap.size W w1 ∧ CliAt w0 w1 cb c.v c.xs c.g ∧ cb = c.b := by
 refine (model_of.hit (h.after hW) hk hc).mono ?_
 rintro e w1 ⟨rfl, rfl⟩
 have h1 := h.after hW
 have hm := (clOf_some hc).1
 exact ⟨c.b, rfl, Below.refl _ _, ⟨(h1.blk c hm).1, (h1.blk c hm).2, h1.row c hm⟩, rfl⟩
theorem of_miss {w0 w : World} {mm mb n : Nat} {C : List Cl} (h : Held w0 w mm mb n C) {k : Int} (hk : (Lit.int .i64 k).wf = true) (hc : clOf C k = none) (W : World) (hW : Below w.heap.size w W) :
  Calls Try.prog 28 #[.pointer (some ⟨mm, 0, none⟩), .int .i64 k] W fun e w1 => ∃ cb, e = .returned (.pointer (some ⟨cb, 0, none⟩)) ∧ Below W.heap.size W w1 ∧ CliAt w0 w1 cb (.slice none 0 0) [] 0 ∧ w.heap.size ≤ cb := by
 refine (model_of.miss (h.after hW) hk hc).mono ?_
 rintro e w1 ⟨rfl, rfl⟩
 have h1 := h.after hW
 exact ⟨W.heap.size, rfl, (Below.refl _ W).alloc (Nat.le_refl _) _, ⟨h1.below.size, heap_alloc_new W _, Kd.R_nil _ _ _ _ _⟩, hW.size⟩
theorem model_Take.calls {w0 w : World} {mm mb n : Nat} {C : List Cl} (h : Held w0 w mm mb n C) (hn : n < 1000000) {k num cmd tick : Int} (hk : (Lit.int .i64 k).wf = true) (A : Option Addr) (c : Nat) (l : List S89) (P0 : Nat → Prop) (hP : ∀ k, P0 k → Off mb C w k) (hC : Kd.F k89 w P0 A l.length l) (hc : l.length ≤ c) (kf kc : Nat)
  (hfit : model_fits.f kf k num cmd tick l = some 0) (hclone : model_clone.f kc l = some l) (hg : (getC C k).2 < num) (hx : (getC C k).1.length < 64) :
  Calls Try.prog 15 #[.pointer (some ⟨mm, 0, none⟩), .int .i64 k, .int .i64 num, .int .i64 cmd, .int .i64 tick, .slice A l.length c] w fun e w' => e = .returned (.int .i64 0) ∧ ∃ C' t, Held w0 w' mm mb (n + 1) C' ∧ getC C' k = ((getC C k).1 ++ [(num, cmd, tick, t)], num) ∧ (∀ k', k' ≠ k → clOf C' k' = clOf C k') ∧ Went mb C C' w w' ∧ NewTree P0 mb C' w w' t l := by
 obtain ⟨D, hD, hDl⟩ := h.map
 have hget : ∀ (cb : Nat) (v' : Value) (xs' : List Sn), getC (⟨k, cb, v', xs', num⟩ :: C.filter fun c => decide (c.key ≠ k)) k = (xs', num) := by
  intro cb v' xs'
  have e1 : clOf (⟨k, cb, v', xs', num⟩ :: C.filter fun c => decide (c.key ≠ k)) k = some ⟨k, cb, v', xs', num⟩ := by unfold clOf; rw [List.find?_cons_of_pos (by simp)]
  unfold getC
  rw [e1]
 have hoth : ∀ (cb : Nat) (v' : Value) (xs' : List Sn) (k' : Int), k' ≠ k → clOf (⟨k, cb, v', xs', num⟩ :: C.filter fun c => decide (c.key ≠ k)) k' = clOf C k' := by
  intro cb v' xs' k' e
  unfold clOf
  rw [List.find?_cons_of_neg (by simpa using fun e1 : k = k' => e e1.symm), find_filter_keep]
  intro c hc
  have : c.key = k' := by simpa using hc
  simp [this, e]
 have hmb : mb < w.heap.size := by obtain ⟨es, cl, h1, _⟩ := hD; exact blk_lt h1
 have hall : ∀ c ∈ C, c.b < w.heap.size ∧ ∀ q, c.v.ownBlock = some q → q < w.heap.size := fun c hc => ⟨blk_lt (h.blk c hc).2, fun q hq => (row_at (h.row c hc) hq).2.1⟩
 have fin : ∀ (w1 w' : World) (cb : Nat) (v v' : Value) (xs xs' : List Sn) (g : Int) (t : Option Addr × Nat × Nat), Below w.heap.size w w1 → CliAt w0 w1 cb v xs g → (∀ q, Off mb C w q → q ≠ cb) → (∀ q, Off mb C w q → v.ownBlock ≠ some q) → Chg w1 w' (fun i => i = cb ∨ i = mb ∨ some i = v.ownBlock) → (v'.ownBlock = v.ownBlock ∨ ∃ b, v'.ownBlock = some b ∧ w1.heap.size ≤ b) → t.2.1 = l.length → l.length ≤ t.2.2 → Kd.F k89 w' (fun k => P0 k ∨ (w1.heap.size ≤ k ∧ k < w'.heap.size ∧ v'.ownBlock ≠ some k)) t.1 l.length l →
   Went mb C (⟨k, cb, v', xs', num⟩ :: C.filter fun c => decide (c.key ≠ k)) w w' ∧ NewTree P0 mb (⟨k, cb, v', xs', num⟩ :: C.filter fun c => decide (c.key ≠ k)) w w' t l := by
  intro w1 w' cb v v' xs xs' g t hb hat hcb hvo hch hown h1 h2 hF
  have hb1 := hb.size
  have hb2 := hch.size
  refine ⟨⟨Spares.of_chg hb hat hch, fun q hq => ⟨?_, off_took (c0 := ⟨k, cb, v', xs', num⟩) hb1 hb2 rfl hcb hown hvo q hq⟩⟩, h1, h2, Kd.F_mono hF (fun q hq => ?_)⟩
  ·refine (hch.block q (by have := hq.1; omega) ?_).trans (hb.block q hq.1)
   rintro (e | e | e)
   ·exact hcb q hq e
   ·exact hq.2.1 e
   ·exact hvo q hq e.symm
  ·rcases hq with hq | ⟨g1, g2, g3⟩
   ·exact .inl hq
   ·exact .inr ⟨by omega, off_fresh (c0 := ⟨k, cb, v', xs', num⟩) (blk_lt hat.blk) (by omega) (fun c hc => ⟨by have := (hall c hc).1; omega, fun q hq => by have := (hall c hc).2 q hq; omega⟩) q g1 g2 g3⟩
 cases hcl : clOf C k with
 | some cl =>
  have e1 : getC C k = (cl.xs, cl.g) := by unfold getC; rw [hcl]
  have hm := (clOf_some hcl).1
  rw [e1] at hg hx ⊢
  refine (model_Take.core h hD hn hk A c l P0 hC hc kf kc hfit hclone hg hx (fun cb => cb = cl.b) (fun q hq => ⟨(hP q hq).1, (hP q hq).2.1, ((hP q hq).2.2 cl hm).2⟩) (fun cb e q hq => e ▸ ((hP q hq).2.2 cl hm).1) (fun W hW => of_hit h hk hcl W hW)).mono ?_
  rintro e w' ⟨rfl, w1, cb, v', t, hb, hat, rfl, hch, hom, hblk, hrow, hown, ht1, ht2, htF⟩
  obtain ⟨f1, f2⟩ := fin w1 w' cl.b cl.v v' cl.xs (cl.xs ++ [(num, cmd, tick, t)]) cl.g t hb hat (fun q hq => (hq.2.2 cl hm).1) (fun q hq => (hq.2.2 cl hm).2) hch hown ht1 ht2 htF
  exact ⟨rfl, _, t, (h.after hb).took hk hat.ge (.inl ⟨cl, hcl, rfl, rfl⟩) ⟨_, hat.blk⟩ (hD.kept (grown_below hb) (by simp)) hDl hom hblk hrow hown hch, hget _ _ _, hoth _ _ _, f1, f2⟩
 | none =>
  have e1 : getC C k = ([], 0) := by unfold getC; rw [hcl]
  rw [e1] at hg hx ⊢
  refine (model_Take.core h hD hn hk A c l P0 hC hc kf kc hfit hclone hg hx (fun cb => w.heap.size ≤ cb) (fun q hq => ⟨(hP q hq).1, (hP q hq).2.1, by simp [Value.ownBlock]⟩) (fun cb e q hq => by have := (hP q hq).1; omega) (fun W hW => of_miss h hk hcl W hW)).mono ?_
  rintro e w' ⟨rfl, w1, cb, v', t, hb, hat, hge, hch, hom, hblk, hrow, hown, ht1, ht2, htF⟩
  obtain ⟨f1, f2⟩ := fin w1 w' cb (.slice none 0 0) v' [] ([] ++ [(num, cmd, tick, t)]) 0 t hb hat (fun q hq => by have := hq.1; omega) (fun q hq => by simp [Value.ownBlock]) hch hown ht1 ht2 htF
  exact ⟨rfl, _, t, (h.after hb).took hk hat.ge (.inr ⟨hcl, fun d hd e => by have := blk_lt (h.blk d hd).2; omega, rfl⟩) ⟨_, hat.blk⟩ (hD.kept (grown_below hb) (by simp)) hDl hom hblk hrow hown hch, hget _ _ _, hoth _ _ _, f1, f2⟩
end Go.Proofs.Ytmlgfgmgolgjbaa.X
end

/-! ## mBack -/
section
namespace Go.Proofs.Ytmlgfgmgolgjbaa.X
open Go.RowKit Go.Shelf Go.Maps Go.Proofs.YtmlgfgmgolgjbaaW.PrintWords Go.Proofs.YtmlgfgmgolgjbaaW.PrintLast Go.Proofs.YtmlgfgmgolgjbaaW.PrintMore
set_option linter.unusedVariables false
set_option linter.unusedSimpArgs false
attribute [local go_sem] Oper.semAt_some
/-- What is handed over in a round: the place, the snapshot, its tree's slice. -/
structure Bk where
  i : Nat
  s : Sn
  A : Option Addr
  n : Nat
  c : Nat
instance : Inhabited Bk := ⟨⟨0, (0, 0, 0, none, 0, 0), none, 0, 0⟩⟩
def encBk (x : Bk) : Array Value := #[.int .i64 (x.i : Int), .agg #[.int .i64 x.s.1, .int .i64 x.s.2.1, .int .i64 x.s.2.2.1, .slice x.A x.n x.c]]
def upto {α : Type} (f : Nat → α) (k : Nat) : List α := (List.range k).map f
theorem upto_succ {α : Type} (f : Nat → α) (k : Nat) : upto f (k + 1) = upto f k ++ [f k] := by simp [upto, List.range_succ]
theorem upto_length {α : Type} (f : Nat → α) (k : Nat) : (upto f k).length = k := by simp [upto]
theorem at_Sn {w : World} {A : Option Addr} {n : Nat} {xs : List Sn} (h : Kd.C kSn w A n xs) (i : Nat) (h1 : i < n) (z : Sn) : ∃ ad At nt ct, A = some ad ∧ w.cell? (ad.add (i * 4)) = some (.int .i64 (xs.getD i z).1) ∧ w.cell? ⟨(ad.add (i * 4)).block, (ad.add (i * 4)).off + 1, none⟩ = some (.int .i64 (xs.getD i z).2.1) ∧
  w.cell? ⟨(ad.add (i * 4)).block, (ad.add (i * 4)).off + 2, none⟩ = some (.int .i64 (xs.getD i z).2.2.1) ∧ w.cell? ⟨(ad.add (i * 4)).block, (ad.add (i * 4)).off + 3, none⟩ = some (.slice At nt ct) := by
 obtain ⟨ad, c, e, _, hK, hc0⟩ := Kd.C_get h z (i : Int) (Int.natCast_nonneg i) (Int.ofNat_lt.2 h1)
 rw [Int.toNat_natCast] at hK hc0
 have hc : ∀ j u, c[j]? = some u → w.cell? (ad.add (i * 4 + j)) = some u := hc0
 obtain rfl : c = _ := hK
 exact ⟨ad, _, _, _, e, hc 0 _ rfl, by rw [← add_field _ _ 1 (by omega)]; exact hc 1 _ rfl, by rw [← add_field _ _ 2 (by omega)]; exact hc 2 _ rfl, by rw [← add_field _ _ 3 (by omega)]; exact hc 3 _ rfl⟩
/-- The cells of place i, as they are handed over. -/
def CellsAt (W : World) (A : Option Addr) (x : Bk) : Prop := ∃ ad, A = some ad ∧ W.cell? (ad.add (x.i * 4)) = some (.int .i64 x.s.1) ∧ W.cell? ⟨(ad.add (x.i * 4)).block, (ad.add (x.i * 4)).off + 1, none⟩ = some (.int .i64 x.s.2.1) ∧
  W.cell? ⟨(ad.add (x.i * 4)).block, (ad.add (x.i * 4)).off + 2, none⟩ = some (.int .i64 x.s.2.2.1) ∧ W.cell? ⟨(ad.add (x.i * 4)).block, (ad.add (x.i * 4)).off + 3, none⟩ = some (.slice x.A x.n x.c)
theorem CellsAt.below {n₀ : Nat} {W W' : World} {A : Option Addr} {x : Bk} (h : CellsAt W A x) (hb : Below n₀ W W') (hlt : ∀ ad, A = some ad → ad.block < n₀) : CellsAt W' A x := by
 obtain ⟨ad, rfl, h0, h1, h2, h3⟩ := h
 have := hlt ad rfl
 have hb_ : (ad.add (x.i * 4)).block < n₀ := by rw [add_block]; exact this
 exact ⟨ad, rfl, (hb.cell hb_).trans h0, (hb.cell (p := ⟨(ad.add (x.i * 4)).block, _, none⟩) hb_).trans h1, (hb.cell (p := ⟨(ad.add (x.i * 4)).block, _, none⟩) hb_).trans h2, (hb.cell (p := ⟨(ad.add (x.i * 4)).block, _, none⟩) hb_).trans h3⟩
set_option maxRecDepth 100000 in
set_option maxHeartbeats 2000000 in
theorem backward1_in (n l Bs n₀ len cap : Nat) (hn : 1 ≤ n) (A : Option Addr) (f : Nat → Bk) (hf : ∀ j, j < len → (f j).i = len - 1 - j) (hreach : len < 100000) (hlt : ∀ ad, A = some ad → ad.block < n₀) (J Jx : List Bk → World → Prop)
  (hY : ∀ pre x W, J pre W → pre.length < len → YieldAt Fence.wide (n - 1) Try.prog l (encBk x) W fun e W' =>
   (e = .returned (.bool true) ∧ J (pre ++ [x]) W' ∧ Below n₀ W W') ∨ (e = .returned (.bool false) ∧ Jx (pre ++ [x]) W'))
  (W : World) (hBn : Bs < n₀) (hBs : W.cell? ⟨Bs, 0, none⟩ = some (.slice A len cap)) (hc : ∀ j, j < len → CellsAt W A (f j)) (h0 : J [] W) :
  CallsIn Fence.wide n Try.prog 42 #[.func (.yield l) #[] #[], .pointer (some ⟨Bs, 0, none⟩)] W fun e W' => (∃ v, e = .returned v) ∧
   ((∃ ys, ys = upto f len ∧ J ys W') ∨ (∃ pre, (∃ k, k ≤ len ∧ pre = upto f k) ∧ Jx pre W')) := by
 refine callsIn_of_wp Try.func42 rfl trivial ?_ rfl
 simp only [Try.ntmps42, List.size_toArray, List.length_cons, List.length_nil, Nat.reduceAdd, Nat.reduceSub, Array.replicate_succ, Array.replicate_zero, List.push_toArray, List.append_toArray, List.nil_append, List.cons_append]
 gi_wp2
 gi_loopw [3] (fun i wr => ∃ (m : Nat) (q : Int), m ≤ len ∧ i = .int .i64 q ∧ q = (m : Int) - 1 ∧ J (upto f (len - m)) wr ∧ Below n₀ W wr)
  (fun i _ => (intOf i + 1).toNat)
 case atStart => exact ⟨len, _, Nat.le_refl _, rfl, rfl, by rw [Nat.sub_self]; exact h0, Below.refl _ _⟩
 case round =>
  obtain ⟨m, q, hm, rfl, hq, hJs, hnx⟩ := hrel
  have hbs := (hnx.cell (p := ⟨Bs, 0, none⟩) hBn).trans hBs
  cases m with
  | zero =>
   have d1_ : decide (q ≥ 0) = false := decide_eq_false (by omega)
   have d2_ : decide (0 ≤ q) = false := decide_eq_false (by omega)
   clear hq
   gi_wp2
   go_end0
   exact ⟨⟨_, rfl⟩, .inl ⟨_, rfl, by simpa using hJs⟩⟩
  | succ m =>
   obtain rfl : q = (m : Int) := by omega
   clear hq
   obtain ⟨ad, rfl, hc0, hc1, hc2, hc3⟩ := (hc (len - 1 - m) (by omega)).below hnx hlt
   have hi : (f (len - 1 - m)).i = m := by rw [hf _ (by omega)]; omega
   rw [hi] at hc0 hc1 hc2 hc3
   have hy0 := hY _ (f (len - 1 - m)) wr hJs (by rw [upto_length]; omega)
   unfold encBk at hy0
   rw [hi] at hy0
   obtain ⟨fn, tmps, assign, body, hy, hR⟩ := hy0
   have hml : (m : Int) < (len : Int) := by omega
   have p_ := eq_true (Int.natCast_nonneg m)
   have q_ := eq_true hml
   gi_wp2
   refine hR.mono ?_
   have e1 : upto f (len - (m + 1)) ++ [f (len - 1 - m)] = upto f (len - m) := by
    rw [show len - m = (len - (m + 1)) + 1 by omega, upto_succ, show len - 1 - m = len - (m + 1) by omega]
   rw [e1]
   rintro e W3 (⟨rfl, hJ3, hk3⟩ | ⟨rfl, hJx3⟩)
   ·clear hc0 hc1 hc2 hc3 hy hR hbs e1
    gi_wp2
    go_roundw
    case rel => exact ⟨m, _, by omega, rfl, rfl, hJ3, hnx.trans hk3⟩
    case measure => simp [intOf] <;> omega
   ·clear hc0 hc1 hc2 hc3 hy hR hbs e1
    gi_wp2
    refine bodyPost_ret (results_none rfl _ _ _) rfl ?_
    exact ⟨⟨_, rfl⟩, .inr ⟨_, ⟨len - m, by omega, rfl⟩, hJx3⟩⟩
/-- What comes backwards: the snapshots, the last one first. -/
theorem backward_stops (n : Nat) (hn : 1 ≤ n) (Bs n₀ len cap : Nat) (A : Option Addr) (xs : List Sn) (hl : xs.length = len) (hreach : len < 100000) (w : World) (hBs : Bs < n₀) (hn₀ : n₀ ≤ w.heap.size) (hlt : ∀ ad, A = some ad → ad.block < n₀)
  (hc : w.cell? ⟨Bs, 0, none⟩ = some (.slice A len cap)) (hC : Kd.C kSn w A len xs) :
  SeqStopsK Fence.wide n Try.prog 42 #[.pointer (some ⟨Bs, 0, none⟩)] encBk (Below n₀) (fun ys => ys.map (fun x => x.s) = xs.reverse) (fun pre => ∃ q, (pre.map fun x => x.s) = xs.reverse.take q) len w := fun l J Jx W hW _ _ hY h0 => by
 have hz : ∀ j, j < len → ∃ x : Bk, x.i = len - 1 - j ∧ x.s = xs.getD (len - 1 - j) (0, 0, 0, none, 0, 0) ∧ CellsAt w A x := by
  intro j hj
  obtain ⟨ad, At, nt, ct, e, h0, h1, h2, h3⟩ := at_Sn hC (len - 1 - j) (by omega) (0, 0, 0, none, 0, 0)
  exact ⟨⟨len - 1 - j, xs.getD (len - 1 - j) (0, 0, 0, none, 0, 0), At, nt, ct⟩, rfl, rfl, ad, e, h0, h1, h2, h3⟩
 obtain ⟨f, hf⟩ := Go.Deep.choose_lt hz
 have hup : ∀ q, q ≤ len → (upto f q).map (fun x => x.s) = xs.reverse.take q := by
  intro q hq
  apply List.ext_getElem
  ·simp [upto]; omega
  ·intro i h1 h2
   have hi : i < q := by simpa [upto] using h1
   have e1 : ((upto f q).map fun x => x.s)[i] = (f i).s := by simp [upto]
   rw [e1, (hf i (by omega)).2.1, List.getElem_take, List.getElem_reverse, List.getD_eq_getElem?_getD, List.getElem?_eq_getElem (by omega)]
   simp only [Option.getD_some]
   congr 1
   omega
 have hWn := hW.mono hn₀
 refine (backward1_in n l Bs n₀ len cap hn A f (fun j hj => (hf j hj).1) hreach hlt J Jx hY W hBs ((hWn.cell (p := ⟨Bs, 0, none⟩) hBs).trans hc) (fun j hj => (hf j hj).2.2.below hWn hlt) h0).mono ?_
 rintro e W' ⟨he, ⟨ys, rfl, hj⟩ | ⟨pre, ⟨q, hq, rfl⟩, hj⟩⟩
 ·exact ⟨he, .inl ⟨_, by show (upto f len).map (fun x => x.s) = xs.reverse; rw [hup len (Nat.le_refl _), List.take_of_length_le (by rw [List.length_reverse]; omega)], hj⟩⟩
 ·exact ⟨he, .inr ⟨_, ⟨q, hup q hq⟩, hj⟩⟩
set_option maxRecDepth 100000 in
theorem backward.calls (A : Option Addr) (n c : Nat) (w : World) : Calls Try.prog 29 #[.slice A n c] w fun e w' => e = .returned (.func (.func 42) #[] #[.pointer (some ⟨w.heap.size, 0, none⟩)]) ∧ w' = w.alloc (.cells #[.slice A n c] 68) := by
 go_enter Try.func29, Try.ntmps29
 go_wp2
 go_ret
 exact ⟨rfl, rfl⟩
end Go.Proofs.Ytmlgfgmgolgjbaa.X
end

/-! ## mBackup -/
section
namespace Go.Proofs.Ytmlgfgmgolgjbaa.X
open Go.RowKit Go.Shelf Go.Maps Go.Proofs.YtmlgfgmgolgjbaaW.PrintWords Go.Proofs.YtmlgfgmgolgjbaaW.PrintLast Go.Proofs.YtmlgfgmgolgjbaaW.PrintMore
set_option linter.unusedVariables false
set_option linter.unusedSimpArgs false
attribute [local go_sem] Oper.semAt_some
set_option maxHeartbeats 1000000 in
set_option maxRecDepth 100000 in
/-- What does not fit is told so. -/
theorem model_Backup.bad {w0 w : World} {mm mb n : Nat} {C : List Cl} (h : Held w0 w mm mb n C) {k cmd tick : Int} (A : Option Addr) (c : Nat) (l : List S89) (hC : Kd.C k89 w A l.length l) (hc : l.length ≤ c) (kf : Nat) {e0 : Int}
  (hfit : model_fits.f kf k 1 cmd tick l = some e0) (he : e0 ≠ 0) :
  Calls Try.prog 10 #[.pointer (some ⟨mm, 0, none⟩), .int .i64 k, .int .i64 cmd, .int .i64 tick, .slice A l.length c] w fun e w' => e = .returned (.tuple #[.int .i64 0, .int .i64 e0]) ∧ Below w.heap.size w w' := by
 have H := Aside0.mk h
 have HC := Aside0.mk hC
 have FIT := Aside0.mk hfit
 have b1 : (e0 != 0) = true := bne_iff_ne.mpr he
 clear h hC hfit he
 have h3 := Aside0.mk (three_new w (.cells #[.int .i64 cmd] 3) (.cells #[.int .i64 0] 3) (.cells #[.int .i64 0] 32))
 have hB3 : Aside0 (Below w.heap.size w (((w.alloc (.cells #[.int .i64 cmd] 3)).alloc (.cells #[.int .i64 0] 3)).alloc (.cells #[.int .i64 0] 32))) := ⟨(((Below.refl _ w).alloc (Nat.le_refl _) _).alloc (by simp) _).alloc (by simp; omega) _⟩
 go_enter Try.func10, Try.ntmps10
 go_wp2_with (first
  | (go_at_call 26; refine (model_none.calls mm mb _ (H.out.after hB3.out).model).mono ?_; rintro e w1 ⟨rfl, rfl⟩; have hc0 := (blk_cell h3.out.1 0).trans (rfl : _ = some (Value.int .i64 cmd)))
  | (go_at_call 27; refine (model_fits.calls kf k 1 cmd tick A c l e0 _ (Kd.C_below HC.out hB3.out) hc FIT.out).mono ?_; rintro e w1 ⟨rfl, hb⟩; have B1 := Aside0.mk (below_step hB3.out hb); have hc1 : w1.cell? ⟨w.heap.size + 1, 0, none⟩ = some (.int .i64 0) := (blk_cell (blk_below h3.out.2.1 hb) 0).trans rfl; have hc2 : w1.cell? ⟨w.heap.size + 1 + 1, 0, none⟩ = some (.int .i64 0) := (blk_cell (blk_below h3.out.2.2 hb) 0).trans rfl; have hf1 : w1.frozen? ⟨w.heap.size + 1, 0, none⟩ = false := blk_frozen (blk_below h3.out.2.1 hb) 0; have hf2 : w1.frozen? ⟨w.heap.size + 1 + 1, 0, none⟩ = false := blk_frozen (blk_below h3.out.2.2 hb) 0; clear hb))
 exact bodyPost_ret (v := .tuple #[.int .i64 0, .int .i64 e0]) (by simp [results, Try.results10, go_sem, hc1, hc2, hf1, hf2]) rfl ⟨rfl, (B1.out.setCell (by simp) _).setCell (by simp; omega) _⟩
end Go.Proofs.Ytmlgfgmgolgjbaa.X
end

/-! ## mBackup2 -/
section
namespace Go.Proofs.Ytmlgfgmgolgjbaa.X
open Go.RowKit Go.Shelf Go.Maps Go.Proofs.YtmlgfgmgolgjbaaW.PrintWords Go.Proofs.YtmlgfgmgolgjbaaW.PrintLast Go.Proofs.YtmlgfgmgolgjbaaW.PrintMore
set_option linter.unusedVariables false
set_option linter.unusedSimpArgs false
attribute [local go_sem] Oper.semAt_some
set_option pp.deepTerms true
set_option pp.maxSteps 1000000
/-- The number of the last snapshot of a command. -/
def lastCmd (xs : List Sn) (cmd : Int) : Option Int := (xs.reverse.find? fun s => decide (s.2.1 = cmd)).map fun s => s.1
/-- The results' boxes, the command's. -/
def Boxes (w W : World) (cmd a b : Int) : Prop := (Boxed W w.heap.size 3 (.int .i64 cmd) ∧ Boxed W (w.heap.size + 1) 3 (.int .i64 a)) ∧ Boxed W (w.heap.size + 1 + 1) 32 (.int .i64 b)
theorem Boxed.below {W W' : World} {B : Nat} {t : TypeId} {v : Value} (h : Boxed W B t v) (hb : Below W.heap.size W W') : Boxed W' B t v := blk_below h hb
theorem Boxes.below {w W W' : World} {cmd a b : Int} (h : Boxes w W cmd a b) (hb : Below W.heap.size W W') : Boxes w W' cmd a b := ⟨⟨Boxed.below h.1.1 hb, Boxed.below h.1.2 hb⟩, Boxed.below h.2 hb⟩
theorem boxes_own {β : Type} {w : World} {cmd a b : Int} {B : Nat} : OwnFrom B (fun (_ : β) W => Boxes w W cmd a b) :=
 OwnFrom.and (OwnFrom.and (Own.from (boxed_own _ _ (fun (_ : β) => Value.int .i64 cmd)) _) (Own.from (boxed_own _ _ (fun (_ : β) => Value.int .i64 a)) _)) (Own.from (boxed_own _ _ (fun (_ : β) => Value.int .i64 b)) _)
/-- Other blocks turn; the model's stay. -/
theorem Held.keep {w0 w w' : World} {mm mb n : Nat} {C : List Cl} (h : Held w0 w mm mb n C) (hb : Below w0.heap.size w0 w') (hk : ∀ (i : Nat) (o : Obj), w.heap[i]? = some o → ((∃ es cl, o = .map es cl) ∨ (∃ cs, o = .cells cs 74 (0, 0)) ∨ (∃ cs, o = .cells cs 70 (0, 0)) ∨ ∃ cs, o = .cells cs 40 (0, 0)) → w'.heap[i]? = some o) : Held w0 w' mm mb n C where
 below := hb
 mm_ge := h.mm_ge
 mb_ge := h.mb_ge
 model := hk _ _ h.model (.inr (.inr (.inr ⟨_, rfl⟩)))
 map := by
  obtain ⟨D, ⟨es, cl, h1, h2⟩, h3⟩ := h.map
  exact ⟨D, ⟨es, cl, hk _ _ h1 (.inl ⟨_, _, rfl⟩), h2⟩, h3⟩
 blk := fun c hc => ⟨(h.blk c hc).1, hk _ _ (h.blk c hc).2 (.inr (.inl ⟨_, rfl⟩))⟩
 row := fun c hc => Kd.R_mono (Kd.R_move (row_only (h.row c hc)) (fun q hq => by
  obtain ⟨_, _, cs, h1⟩ := row_at (h.row c hc) hq
  rw [h1]
  exact hk _ _ h1 (.inr (.inr (.inl ⟨_, rfl⟩))))) (fun _ _ => trivial)
 apart := h.apart
theorem cells_kept {X Y : World} {row : Option Nat} {B : Nat} {cs : Array Value} {t : TypeId} {fr : Nat × Nat} (h : X.heap[B]? = some (.cells cs t fr)) (hg : X.grownBy Y row) (hr : ∀ r, row = some r → ∃ o : Obj, X.heap[r]? = some o ∧ o.isCells = false) : Y.heap[B]? = some (.cells cs t fr) :=
 (hg.block B (blk_lt h) (fun e => by
  obtain ⟨o, h1, h2⟩ := hr B e.symm
  rw [h] at h1
  injection h1 with h1
  subst h1
  cases h2)).trans h
theorem last_none {xs : List Sn} {cmd : Int} {ys : List Bk} (h : ys.map (fun x => x.s) = xs.reverse) (hn : ∀ x ∈ ys, x.s.2.1 ≠ cmd) : lastCmd xs cmd = none := by
 unfold lastCmd
 rw [← h, List.find?_eq_none.2]
 ·rfl
 ·intro s hs
  obtain ⟨x, hx, rfl⟩ := List.mem_map.1 hs
  simpa using hn x hx
theorem last_some {xs : List Sn} {cmd : Int} {ini : List Bk} {last : Bk} {q : Nat} (h : (ini ++ [last]).map (fun x => x.s) = xs.reverse.take q) (hn : ∀ x ∈ ini, x.s.2.1 ≠ cmd) (hl : last.s.2.1 = cmd) : lastCmd xs cmd = some last.s.1 := by
 unfold lastCmd
 rw [← List.take_append_drop q xs.reverse, ← h, List.map_append, List.append_assoc, List.find?_append, List.find?_eq_none.2]
 ·simp [hl]
 ·intro s hs
  obtain ⟨x, hx, rfl⟩ := List.mem_map.1 hs
  simpa using hn x hx
set_option maxHeartbeats 4000000 in
set_option maxRecDepth 100000 in
theorem model_Backup.core {w0 w : World} {mm mb n : Nat} {C : List Cl} (h : Held w0 w mm mb n C) (hn : n < 1000000) {k cmd tick : Int} (hk : (Lit.int .i64 k).wf = true) (A : Option Addr) (c : Nat) (l : List S89) (P0 : Nat → Prop) (hP : ∀ k, P0 k → Off mb C w k) (hC : Kd.F k89 w P0 A l.length l) (hc : l.length ≤ c) (kf kf2 kc : Nat)
  (hfit : model_fits.f kf k 1 cmd tick l = some 0) {xs : List Sn} {g : Int} (hget : getC C k = (xs, g)) (hfit2 : model_fits.f kf2 k (g + 1) cmd tick l = some 0) (hclone : model_clone.f kc l = some l) (hg0 : 0 ≤ g) (hg : g < 1000000) (hx : xs.length < 64)
  (v : Value) (Tg : Nat → Prop)
  (hof : ∀ W, Below w.heap.size w W → Calls Try.prog 28 #[.pointer (some ⟨mm, 0, none⟩), .int .i64 k] W fun e w1 => ∃ cb, e = .returned (.pointer (some ⟨cb, 0, none⟩)) ∧ Below W.heap.size W w1 ∧ CliAt w0 w1 cb v xs g ∧ Tg cb) :
  Calls Try.prog 10 #[.pointer (some ⟨mm, 0, none⟩), .int .i64 k, .int .i64 cmd, .int .i64 tick, .slice A l.length c] w fun e w' =>
   (∃ num, lastCmd xs cmd = some num ∧ e = .returned (.tuple #[.int .i64 num, .int .i64 0]) ∧ Below w.heap.size w w') ∨
   (lastCmd xs cmd = none ∧ e = .returned (.tuple #[.int .i64 (g + 1), .int .i64 0]) ∧ ∃ C' t, Held w0 w' mm mb (n + 1) C' ∧ getC C' k = (xs ++ [(g + 1, cmd, tick, t)], g + 1) ∧ (∀ k', k' ≠ k → clOf C' k' = clOf C k') ∧ Went mb C C' w w' ∧ NewTree P0 mb C' w w' t l) := by
 have H := Aside0.mk h
 have HC := Aside0.mk hC
 have FIT := Aside0.mk hfit
 have FIT2 := Aside0.mk hfit2
 have CLONE := Aside0.mk hclone
 have OF := Aside0.mk hof
 have PP := Aside0.mk hP
 have GET := Aside0.mk hget
 clear h hC hfit hfit2 hclone hof hget hP
 refine (callsIn_wide (n := 3)).1 ?_
 refine callsIn_of_wp_marks Try.func10 rfl trivial ?_ rfl
 simp only [Try.ntmps10, List.size_toArray, List.length_cons, List.length_nil, Nat.reduceAdd, Nat.reduceSub, Array.replicate_succ, Array.replicate_zero, List.push_toArray, List.append_toArray, List.nil_append, List.cons_append]
 have h3 := Aside0.mk (three_new w (.cells #[.int .i64 cmd] 3) (.cells #[.int .i64 0] 3) (.cells #[.int .i64 0] 32))
 have hB3 : Aside0 (Below w.heap.size w (((w.alloc (.cells #[.int .i64 cmd] 3)).alloc (.cells #[.int .i64 0] 3)).alloc (.cells #[.int .i64 0] 32))) := ⟨(((Below.refl _ w).alloc (Nat.le_refl _) _).alloc (by simp) _).alloc (by simp; omega) _⟩
 have BX3 : Aside0 (Boxes w (((w.alloc (.cells #[.int .i64 cmd] 3)).alloc (.cells #[.int .i64 0] 3)).alloc (.cells #[.int .i64 0] 32)) cmd 0 0) := ⟨⟨h3.out.1, h3.out.2.1⟩, h3.out.2.2⟩
 have hsz3 : (((w.alloc (.cells #[.int .i64 cmd] 3)).alloc (.cells #[.int .i64 0] 3)).alloc (.cells #[.int .i64 0] 32)).heap.size = w.heap.size + 3 := by simp
 gi_wp2_with (first
  | (refine ⟨trivial, ?_⟩; gi_at_call 26; refine (callsIn_wide.2 (model_none.calls mm mb _ (H.out.after hB3.out).model)).mono ?_; rintro e w1 ⟨rfl, rfl⟩; have hc0 := BX3.out.1.1.cell)
  | (refine ⟨trivial, ?_⟩; gi_at_call 27; refine (callsIn_wide.2 (model_fits.calls kf k 1 cmd tick A c l 0 _ (Kd.C_below (Kd.F_now HC.out) hB3.out) hc FIT.out)).mono ?_; rintro e w1 ⟨rfl, hb⟩; have B1 := Aside0.mk (below_step hB3.out hb); have BX1 := Aside0.mk (BX3.out.below hb); have hs1 : w.heap.size + 3 ≤ w1.heap.size := (by have := hb.size; omega); clear hb)
  | (refine ⟨trivial, ?_⟩; gi_at_call 28; refine (callsIn_wide.2 (OF.out _ B1.out)).mono ?_; rintro e w2 ⟨cb, rfl, hb, hcl, ht⟩; obtain ⟨Av, cv, hv⟩ := Kd.R_slice hcl.row; subst hv; have B2 := Aside0.mk (below_step B1.out hb); have BX2 := Aside0.mk (BX1.out.below hb); have hs2 : w.heap.size + 3 ≤ w2.heap.size := (by have := hb.size; omega); have CL := Aside0.mk hcl; have TG := Aside0.mk ht; have hcb0 : w2.cell? ⟨cb, 0, none⟩ = some (.slice Av xs.length cv) := (blk_cell CL.out.blk 0).trans rfl; have hcb1 : w2.cell? ⟨cb, 1, none⟩ = some (.int .i64 g) := (blk_cell CL.out.blk 1).trans rfl; clear hb hcl ht)
  | (refine ⟨trivial, ?_⟩; gi_at_call 29; refine (callsIn_wide.2 (backward.calls _ _ _ _)).mono ?_; rintro e w3 ⟨rfl, rfl⟩))
 have CRW := Aside0.mk (Kd.C_alloc (Kd.R_reads' CL.out.row).2.2 (.cells #[.slice Av xs.length cv] 68))
 have LT3 : Aside0 (∀ ad : Addr, Av = some ad → ad.block < (w2.alloc (.cells #[.slice Av xs.length cv] 68)).heap.size) := ⟨fun ad e => by
  have hr := CL.out.row
  subst e
  obtain ⟨g_, rfl⟩ := Kd.R_head hr
  have := (row_at hr (k := g_) (by simp [Value.ownBlock])).2.1
  simp
  omega⟩
 have BN3 := Aside0.mk (Boxed.new w2 68 (.slice Av xs.length cv))
 have BX4 := Aside0.mk (BX2.out.below (below_alloc (Below.refl _ w2) (.cells #[.slice Av xs.length cv] 68)))
 have B4 := Aside0.mk (below_alloc B2.out (.cells #[.slice Av xs.length cv] 68))
 have CB4 := Aside0.mk (blk_alloc CL.out.blk (.cells #[.slice Av xs.length cv] 68))
 have hs4 : (w2.alloc (.cells #[.slice Av xs.length cv] 68)).heap.size = w2.heap.size + 1 := World.size_alloc _ _
 clear hcb0 hcb1 hc0
 generalize (w2.alloc (.cells #[.slice Av xs.length cv] 68)) = w4 at CRW LT3 BN3 BX4 B4 CB4 hs4 ⊢
 refine wpIn_rangeFunc_ownH rfl (by decide) (gf := 42) (lb := #[.pointer (some ⟨w2.heap.size, 0, none⟩)]) rfl trivial (enters_of Try.func42 (by kernel_rfl) rfl)
  (backward_stops 2 (by decide) w2.heap.size w4.heap.size xs.length cv Av xs rfl (by omega) w4 (by omega) (Nat.le_refl _) LT3.out BN3.out.cell CRW.out) belowK_t (belowK_b (Nat.le_refl _)) (Below.refl _ _) (fun _ => rfl)
  (fun pre W => (∀ x ∈ pre, x.s.2.1 ≠ cmd) ∧ Below w4.heap.size w4 W)
  (fun c pre W => ((c = .ret ∧ ∃ ini last, pre = ini ++ [last] ∧ (∀ x ∈ ini, x.s.2.1 ≠ cmd) ∧ last.s.2.1 = cmd ∧ Boxes w W cmd last.s.1 0) ∧ Below w.heap.size w W))
  (OwnFrom.and (fun s X Y row hs _ _ => hs) (ownFrom_below (Nat.le_refl _) (Nat.le_refl _)))
  (fun c => OwnFrom.and (fun s X Y row hs hg hr => by obtain ⟨hc, ini, last, e1, e2, e3, e4⟩ := hs; exact ⟨hc, ini, last, e1, e2, e3, boxes_own (B := w4.heap.size) () X Y row e4 hg hr⟩) (ownFrom_below (Nat.le_refl _) (by omega)))
  ⟨(fun x hx => by cases hx), Below.refl _ _⟩
  (fun x a' W => ∃ Bx, w4.heap.size ≤ Bx ∧ W.heap[Bx]? = some (.cells #[.int .i64 x.s.1, .int .i64 x.s.2.1, .int .i64 x.s.2.2.1, .slice x.A x.n x.c] 70 (0, 0)) ∧ a' = { tmps := #[.pointer (some ⟨mm, 0, none⟩), .int .i64 k, .int .i64 cmd, .int .i64 tick, .slice A l.length c, undef, undef, .pointer (some ⟨w.heap.size, 0, none⟩), undef, undef, .pointer (some ⟨w.heap.size + 1, 0, none⟩), .pointer (some ⟨w.heap.size + 1 + 1, 0, none⟩), .int .i64 0, .pointer (some ⟨cb, 0, none⟩), undef, .pointer (some ⟨Bx, 0, none⟩), undef, undef, .pointer (some ⟨mm, 0, none⟩), .bool false, .int .i64 k, .int .i64 cmd, .int .i64 tick, .slice A l.length c, .int .i64 0, .int .i64 0, .bool false, undef, .pointer (some ⟨mm, 0, none⟩), .int .i64 k, .pointer (some ⟨cb, 0, none⟩), .pointer (some ⟨cb, 0, none⟩), .pointer (some ⟨cb, 0, none⟩), .pointer (some ⟨cb, 0, none⟩), .pointer (some ⟨cb, 0, none⟩), .slice Av xs.length cv, .func (.func 42) #[] #[.pointer (some ⟨w2.heap.size, 0, none⟩)], .int .i64 (x.i : Int), .agg #[.int .i64 x.s.1, .int .i64 x.s.2.1, .int .i64 x.s.2.2.1, .slice x.A x.n x.c], undef, undef, undef, undef, undef, undef, undef, undef, undef, undef, undef, undef, undef, undef, undef, undef, undef, undef, undef, undef, undef, undef, undef, undef, undef, undef, undef], defers := [] })
  (fun x a' u X Y row hs hg hr => by obtain ⟨Bx, h1, h2, h3⟩ := hs; exact ⟨Bx, h1, cells_kept h2 hg (fun r e => (hr r e).2), h3⟩)
  ?assign ?body ?done ?stop
 case assign =>
  rintro l_ pre x W K ⟨hp, hB⟩ hK
  simp only [encBk]
  gi_wp2
  exact hK _ _ ((KeepsOthers.alloc _ _).from _) ((Below.refl _ W).alloc hB.size _) ⟨hp, hB.alloc hB.size _⟩ ⟨W.heap.size, hB.size, heap_alloc_new W _, rfl⟩
 case body =>
  rintro l_ pre x a' W hl_ ⟨r_, hr_⟩ ⟨hp, hB⟩ ⟨Bx, hBx, hbx, rfl⟩ hlt_
  have hBX := BX4.out.below hB
  have hx0 : W.cell? ⟨Bx, 0, none⟩ = some (.int .i64 x.s.1) := (blk_cell hbx 0).trans rfl
  have hx1 : W.cell? ⟨Bx, 1, none⟩ = some (.int .i64 x.s.2.1) := (blk_cell hbx 1).trans rfl
  have hcm := hBX.1.1.cell
  have h1c := hBX.1.2.cell
  have h1f := hBX.1.2.frozen
  have h2c := hBX.2.cell
  have h2f := hBX.2.frozen
  have HB_ := Aside0.mk hB
  have HX_ := Aside0.mk hBX
  have HP_ := Aside0.mk hp
  clear hB hBX hbx hr_ hp
  by_cases he : x.s.2.1 = cmd
  ·have b1 : (x.s.2.1 == cmd) = true := by rw [he]; exact beq_self_eq_true _
   have HE_ := Aside0.mk he
   clear he
   gi_wp2
   exact ⟨((KeepsOthers.setCell _ _ _).trans (KeepsOthers.setCell _ _ _)).from _, ⟨rfl, pre, x, rfl, HP_.out, HE_.out, ⟨⟨(HX_.out.1.1.other (by simp) _).other (by simp; omega) _, (HX_.out.1.2.set _).other (by simp) _⟩, (HX_.out.2.other (by simp) _).set _⟩⟩, ((B4.out.trans (HB_.out.mono (by omega))).setCell (by simp) _).setCell (by simp; omega) _⟩
  ·have b1 : (x.s.2.1 == cmd) = false := by simpa using he
   have HE_ := Aside0.mk he
   clear he
   gi_wp2
   exact ⟨KeepsFrom.refl _ _, Below.refl _ _, fun y hy => (List.mem_append.1 hy).elim (HP_.out y) (fun e => by rw [List.mem_singleton.1 e]; exact HE_.out), HB_.out⟩
 case done =>
  rintro D ys W hD hS ⟨hp, hB⟩ hK
  have LN := Aside0.mk (last_none hS hp)
  have HBW := Aside0.mk (B4.out.trans (hB.mono (by omega)))
  have HXW := Aside0.mk (BX4.out.below hB)
  have HKW := Aside0.mk hK
  have hcb1 : W.cell? ⟨cb, 1, none⟩ = some (.int .i64 g) := (blk_cell (blk_below CB4.out hB) 1).trans rfl
  have hcm := HXW.out.1.1.cell
  have hDw : w4.heap.size ≤ D := hD
  have HMB : Aside0 (∃ es cl, W.heap[mb]? = some (.map es cl)) := ⟨by obtain ⟨D_, ⟨es, cl, h1, _⟩, _⟩ := (H.out.after HBW.out).map; exact ⟨es, cl, h1⟩⟩
  have NB : Aside0 ((w.heap.size ≠ mb ∧ w.heap.size + 1 ≠ mb) ∧ w.heap.size + 1 + 1 ≠ mb ∧ D ≠ mb) := ⟨by
   obtain ⟨es, cl, hm⟩ := HMB.out
   refine ⟨⟨fun e => ?_, fun e => ?_⟩, fun e => ?_, fun e => ?_⟩
   ·have h1 := HXW.out.1.1; unfold Boxed at h1; rw [e, hm] at h1; cases h1
   ·have h1 := HXW.out.1.2; unfold Boxed at h1; rw [e, hm] at h1; cases h1
   ·have h1 := HXW.out.2; unfold Boxed at h1; rw [e, hm] at h1; cases h1
   ·have h1 := HKW.out; rw [e, hm] at h1; cases h1⟩
  have g1 : (g == 2147483647) = false := by simp; omega
  have g2 : 0 ≤ g + 1 := by omega
  clear hS hp hB hK
  gi_wp2_with (refine ⟨trivial, ?_⟩; gi_at_call 15; refine (callsIn_wide.2 (model_Take.calls (H.out.after HBW.out) hn hk A c l P0 (fun q hq => (PP.out q hq).after HBW.out.size) (Kd.F_below HC.out HBW.out) hc kf2 kc FIT2.out CLONE.out (by rw [GET.out]; show g < g + 1; omega) (by rw [GET.out]; exact hx))).mono ?_; rintro e w9 ⟨rfl, C', t, hH, hg1, hg2, hwn, hnt⟩; have hsp := hwn.spares; have WN := Aside0.mk hwn; have NT := Aside0.mk hnt; clear hwn hnt; have HH := Aside0.mk hH; have HG1 := Aside0.mk hg1; have HG2 := Aside0.mk hg2; have SP := Aside0.mk hsp; have BX9 : Aside0 (Boxes w w9 cmd 0 0) := ⟨⟨⟨hsp.2 _ _ HXW.out.1.1 NB.out.1.1 (by simp) (by simp), hsp.2 _ _ HXW.out.1.2 NB.out.1.2 (by simp) (by simp)⟩, hsp.2 _ _ HXW.out.2 NB.out.2.1 (by simp) (by simp)⟩⟩; have h1c := BX9.out.1.2.cell; have h1f := BX9.out.1.2.frozen; have h2c := BX9.out.2.cell; have h2f := BX9.out.2.frozen; clear hH hg1 hg2 hsp)
  have hK9 : w9.heap[D]? = some (.deferred (some [])) := SP.out.2 D _ HKW.out NB.out.2.2 (by simp) (by simp)
  have hKf := ((KeepsOthers.setCell w9 ⟨w.heap.size + 1, 0, none⟩ (.int .i64 (g + 1))).trans (KeepsOthers.setCell _ ⟨w.heap.size + 1 + 1, 0, none⟩ (.int .i64 0))).same D _ hK9 rfl
  refine ⟨by simp, .inl ⟨_, _, rfl, run_takeDeferred hKf, ?_⟩⟩
  have hBXf : Boxes w ((w9.setCell ⟨w.heap.size + 1, 0, none⟩ (.int .i64 (g + 1))).setCell ⟨w.heap.size + 1 + 1, 0, none⟩ (.int .i64 0)) cmd (g + 1) 0 := ⟨⟨(BX9.out.1.1.other (by simp) _).other (by simp; omega) _, (BX9.out.1.2.set _).other (by simp) _⟩, (BX9.out.2.other (by simp) _).set _⟩
  have hsame : ∀ (i : Nat) (o : Obj), w9.heap[i]? = some o → i ≠ w.heap.size + 1 → i ≠ w.heap.size + 1 + 1 → i ≠ D → (((w9.setCell ⟨w.heap.size + 1, 0, none⟩ (.int .i64 (g + 1))).setCell ⟨w.heap.size + 1 + 1, 0, none⟩ (.int .i64 0)).putObj D (.deferred none)).heap[i]? = some o := fun i o hi n1 n2 n3 =>
   (World.putObj_heap_other (fun e => n3 (by first | exact e | exact e.symm))).trans ((Below.heap_setCell _ _ _ _ n2).trans ((Below.heap_setCell _ _ _ _ n1).trans hi))
  have hwl : w0.heap.size ≤ w.heap.size := H.out.below.size
  generalize hWf : ((w9.setCell ⟨w.heap.size + 1, 0, none⟩ (.int .i64 (g + 1))).setCell ⟨w.heap.size + 1 + 1, 0, none⟩ (.int .i64 0)) = wf at hKf hBXf hsame ⊢
  have hbf : Below w0.heap.size w0 wf := by rw [← hWf]; exact (HH.out.below.setCell (by simp; omega) _).setCell (by simp; omega) _
  have c1_ : (wf.putObj D (.deferred none)).heap[w.heap.size + 1]? = some (.cells #[.int .i64 (g + 1)] 3 (0, 0)) := (World.putObj_heap_other (by omega)).trans hBXf.1.2
  have c2_ : (wf.putObj D (.deferred none)).heap[w.heap.size + 1 + 1]? = some (.cells #[.int .i64 0] 32 (0, 0)) := (World.putObj_heap_other (by omega)).trans hBXf.2
  have c3_ := (blk_cell c1_ 0).trans (rfl : _ = some (Value.int .i64 (g + 1)))
  have c4_ := (blk_cell c2_ 0).trans (rfl : _ = some (Value.int .i64 0))
  refine ⟨.tuple #[.int .i64 (g + 1), .int .i64 0], by simp [results, Try.results10, go_sem, c3_, c4_], .inr ⟨LN.out, rfl, C', t, HH.out.keep (hbf.trans ((belowK_b (w := w) (Nat.le_refl _) wf D _ _ (by omega) hKf rfl rfl).mono hwl)) (fun i o hi hkind => hsame i o hi (fun e => ?_) (fun e => ?_) (fun e => ?_)), by rw [HG1.out, GET.out], HG2.out, ⟨⟨?_, ?_⟩, ?_⟩, NT.out.1, NT.out.2.1, ?_⟩⟩
  ·have h1 := BX9.out.1.2; unfold Boxed at h1; rw [← e, hi] at h1
   rcases hkind with ⟨_, _, rfl⟩ | ⟨_, rfl⟩ | ⟨_, rfl⟩ | ⟨_, rfl⟩ <;> simp at h1
  ·have h1 := BX9.out.2; unfold Boxed at h1; rw [← e, hi] at h1
   rcases hkind with ⟨_, _, rfl⟩ | ⟨_, rfl⟩ | ⟨_, rfl⟩ | ⟨_, rfl⟩ <;> simp at h1
  ·rw [e, hK9] at hi
   rcases hkind with ⟨_, _, rfl⟩ | ⟨_, rfl⟩ | ⟨_, rfl⟩ | ⟨_, rfl⟩ <;> simp at hi
  ·have h1 := SP.out.1
   have h2 := HBW.out.size
   have h3 : w9.heap.size = (wf.putObj D (.deferred none)).heap.size := by rw [← hWf]; simp
   omega
  ·intro i o hi n1 n2 n3
   have hlt := blk_lt hi
   exact hsame i o (SP.out.2 i o (blk_below hi HBW.out) n1 n2 n3) (by omega) (by omega) (by omega)
  ·intro q hq
   have hqW : Off mb C W q := hq.after HBW.out.size
   obtain ⟨f1, f2⟩ := WN.out.off q hqW
   have hlt := hq.1
   refine ⟨?_, ?_⟩
   ·obtain ⟨o, ho⟩ : ∃ o, w9.heap[q]? = some o := ⟨_, Array.getElem?_eq_getElem f2.1⟩
    rw [hsame q o ho (by omega) (by omega) (by omega), ← ho, f1, HBW.out.block q hlt]
   ·have h3 : w9.heap.size = (wf.putObj D (.deferred none)).heap.size := by rw [← hWf]; simp
    exact ⟨by have := f2.1; omega, f2.2⟩
  ·have h3 : w9.heap.size = (wf.putObj D (.deferred none)).heap.size := by rw [← hWf]; simp
   have hDW : D < W.heap.size := blk_lt HKW.out
   have hWw := HBW.out.size
   have hBW2 : w.heap.size + 1 + 1 < W.heap.size := blk_lt HXW.out.2
   refine Kd.F_mono (Kd.F_step NT.out.2.2 (fun q hq hlt => ?_)) (fun q hq => ?_)
   ·obtain ⟨o, ho⟩ : ∃ o, w9.heap[q]? = some o := ⟨_, Array.getElem?_eq_getElem hlt⟩
    rw [ho]
    rcases hq with hq | hq
    ·have := (PP.out q hq).1
     exact hsame q o ho (by omega) (by omega) (by omega)
    ·have := hq.1
     exact hsame q o ho (by omega) (by omega) (by omega)
   ·rcases hq with hq | hq
    ·exact .inl hq
    ·exact .inr ⟨by omega, by have := hq.2.1; omega, hq.2.2⟩
 case stop =>
  rintro D c_ pre W hD ⟨q, hq⟩ ⟨⟨rfl, ini, last, e1, e2, e3, hbx⟩, hB⟩ hK
  subst e1
  gi_wp2
  refine ⟨by simp, .inl ⟨_, _, rfl, run_takeDeferred hK, ?_⟩⟩
  have hw4 : w4.heap.size ≤ D := hD
  have c1_ : (W.putObj D (.deferred none)).heap[w.heap.size + 1]? = some (.cells #[.int .i64 last.s.1] 3 (0, 0)) := (World.putObj_heap_other (by omega)).trans hbx.1.2
  have c2_ : (W.putObj D (.deferred none)).heap[w.heap.size + 1 + 1]? = some (.cells #[.int .i64 0] 32 (0, 0)) := (World.putObj_heap_other (by omega)).trans hbx.2
  have c3_ := (blk_cell c1_ 0).trans (rfl : _ = some (Value.int .i64 last.s.1))
  have c4_ := (blk_cell c2_ 0).trans (rfl : _ = some (Value.int .i64 0))
  exact ⟨.tuple #[.int .i64 last.s.1, .int .i64 0], by simp [results, Try.results10, go_sem, c3_, c4_], .inl ⟨last.s.1, last_some hq e2 e3, rfl, hB.trans (belowK_b (w := w) (Nat.le_refl _) W D _ _ (by omega) hK rfl rfl)⟩⟩
end Go.Proofs.Ytmlgfgmgolgjbaa.X
end

/-! ## mBackup3 -/
section
namespace Go.Proofs.Ytmlgfgmgolgjbaa.X
open Go.RowKit Go.Shelf Go.Maps Go.Proofs.YtmlgfgmgolgjbaaW.PrintWords Go.Proofs.YtmlgfgmgolgjbaaW.PrintLast Go.Proofs.YtmlgfgmgolgjbaaW.PrintMore
set_option linter.unusedVariables false
set_option linter.unusedSimpArgs false
theorem model_Backup.calls {w0 w : World} {mm mb n : Nat} {C : List Cl} (h : Held w0 w mm mb n C) (hn : n < 1000000) {k cmd tick : Int} (hk : (Lit.int .i64 k).wf = true) (A : Option Addr) (c : Nat) (l : List S89) (P0 : Nat → Prop) (hP : ∀ k, P0 k → Off mb C w k) (hC : Kd.F k89 w P0 A l.length l) (hc : l.length ≤ c) (kf kf2 kc : Nat)
  (hfit : model_fits.f kf k 1 cmd tick l = some 0) {xs : List Sn} {g : Int} (hget : getC C k = (xs, g)) (hfit2 : model_fits.f kf2 k (g + 1) cmd tick l = some 0) (hclone : model_clone.f kc l = some l) (hg0 : 0 ≤ g) (hg : g < 1000000) (hx : xs.length < 64) :
  Calls Try.prog 10 #[.pointer (some ⟨mm, 0, none⟩), .int .i64 k, .int .i64 cmd, .int .i64 tick, .slice A l.length c] w fun e w' =>
   (∃ num, lastCmd xs cmd = some num ∧ e = .returned (.tuple #[.int .i64 num, .int .i64 0]) ∧ Below w.heap.size w w') ∨
   (lastCmd xs cmd = none ∧ e = .returned (.tuple #[.int .i64 (g + 1), .int .i64 0]) ∧ ∃ C' t, Held w0 w' mm mb (n + 1) C' ∧ getC C' k = (xs ++ [(g + 1, cmd, tick, t)], g + 1) ∧ (∀ k', k' ≠ k → clOf C' k' = clOf C k') ∧ Went mb C C' w w' ∧ NewTree P0 mb C' w w' t l) := by
 cases hcl : clOf C k with
 | some cl =>
  have e1 : getC C k = (cl.xs, cl.g) := by unfold getC; rw [hcl]
  rw [hget] at e1
  obtain ⟨rfl, rfl⟩ := Prod.mk.inj e1
  exact model_Backup.core h hn hk A c l P0 hP hC hc kf kf2 kc hfit hget hfit2 hclone hg0 hg hx cl.v (fun cb => cb = cl.b) (fun W hW => of_hit h hk hcl W hW)
 | none =>
  have e1 : getC C k = ([], 0) := by unfold getC; rw [hcl]
  rw [hget] at e1
  obtain ⟨rfl, rfl⟩ := Prod.mk.inj e1
  exact model_Backup.core h hn hk A c l P0 hP hC hc kf kf2 kc hfit hget hfit2 hclone hg0 hg hx (.slice none 0 0) (fun cb => w.heap.size ≤ cb) (fun W hW => of_miss h hk hcl W hW)
def toL (s : Sn) : S61 := ⟨s.1, s.2.2.1, s.2.1, true⟩
end Go.Proofs.Ytmlgfgmgolgjbaa.X
end

/-! ## mList -/
section
namespace Go.Proofs.Ytmlgfgmgolgjbaa.X
open Go.RowKit Go.Maps Go.Proofs.YtmlgfgmgolgjbaaW.PrintWords Go.Proofs.YtmlgfgmgolgjbaaW.PrintLast Go.Proofs.YtmlgfgmgolgjbaaW.PrintMore
set_option linter.unusedVariables false
set_option linter.unusedSimpArgs false
theorem infoL : (Try.prog.info? 61).map (fun i => (i.zero, i.size, i.bytes)) = some (some (.agg #[.int .i64 0, .int .i64 0, .int .i64 0, .bool false]), 4, 32) := by kernel_rfl
set_option maxHeartbeats 2000000 in
set_option maxRecDepth 100000 in
theorem model_List.core {w0 w : World} {mm mb n : Nat} {C : List Cl} (h : Held w0 w mm mb n C) {k : Int} (xs : List Sn) (hx : xs.length < 1000) (v : Value) (g : Int) (Tg : Nat → Prop)
  (hof : ∀ W, Below w.heap.size w W → Calls Try.prog 28 #[.pointer (some ⟨mm, 0, none⟩), .int .i64 k] W fun e w1 => ∃ cb, e = .returned (.pointer (some ⟨cb, 0, none⟩)) ∧ Below W.heap.size W w1 ∧ CliAt w0 w1 cb v xs g ∧ Tg cb)
  (hrow : ∀ (W : World) (A : Option Addr) (c : Nat), v = .slice A xs.length c → Below w.heap.size w W → Kd.C kSn W A xs.length xs) :
  Calls Try.prog 11 #[.pointer (some ⟨mm, 0, none⟩), .int .i64 k] w fun e w' => ∃ v', e = .returned v' ∧ Kd.R k61 61 w' w.heap.size (fun _ => True) v' (xs.map toL) ∧ Below w.heap.size w w' := by
 have H := Aside0.mk h
 have OF := Aside0.mk hof
 have RW := Aside0.mk hrow
 clear h hof hrow
 go_enter Try.func11, Try.ntmps11
 go_wp2_with (first
  | (go_at_call 26; refine (model_none.calls mm mb _ H.out.model).mono ?_; rintro e w1 ⟨rfl, hw⟩; obtain rfl : w = w1 := hw.symm; clear hw)
  | (go_at_call 28; refine (OF.out _ (Below.refl _ _)).mono ?_; rintro e w2 ⟨cb, rfl, hb, hcl, ht⟩; obtain ⟨Av, cv, hv⟩ := Kd.R_slice hcl.row; have RV := Aside0.mk (fun W hW => RW.out W Av cv hv hW); subst hv; have B2 := Aside0.mk hb; have hcb0 : w2.cell? ⟨cb, 0, none⟩ = some (.slice Av xs.length cv) := (blk_cell hcl.blk 0).trans rfl; clear hb hcl ht))
 have R0 := Aside0.mk (Kd.R_nil k61 61 w2 w.heap.size (fun _ => True))
 clear hcb0 RW
 go_loopw [5, 18] (fun v5 v18 wr => ∃ i : Nat, v18 = .int .i64 (i : Int) ∧ i ≤ xs.length ∧ Aside0 (Kd.R k61 61 wr w.heap.size (fun _ => True) v5 ((xs.take i).map toL)) ∧ Aside0 (Below w.heap.size w wr)) (fun _ v18 _ => xs.length - (intOf v18).toNat)
 case atStart => exact ⟨0, rfl, Nat.zero_le _, by simpa using R0, B2⟩
 case round =>
  obtain ⟨i, rfl, hil, HR, HB⟩ := hrel
  by_cases hlt : i < xs.length
  ·have b1 : decide (i < xs.length) = true := decide_eq_true hlt
   obtain ⟨ad, At, nt, ct, rfl, hx0, hx1, hx2, hx3⟩ := at_Sn (RV.out _ HB.out) i hlt (0, 0, 0, none, 0, 0)
   have es : xs.getD i (0, 0, 0, none, 0, 0) = xs[i] := by rw [List.getD_eq_getElem?_getD, List.getElem?_eq_getElem hlt]; rfl
   rw [es] at hx0 hx1 hx2
   have p_ := eq_true (Int.natCast_nonneg i)
   have q_ : ((i : Int) < (xs.length : Int)) = True := eq_true (by omega)
   obtain ⟨s, hs⟩ : ∃ s, s = xs[i] := ⟨_, rfl⟩
   rw [← hs] at hx0 hx1 hx2
   have HS := Aside0.mk hs
   clear es hs
   have hlen : ((xs.take i).map toL).length = i := by rw [List.length_map, List.length_take]; omega
   have HL := Aside0.mk hlen
   have hl64 : i < 1000 := by omega
   clear hlen
   go_wp2_with ((with_reducible refine gate_builtin (b := .append) (xs := #[.tmp 22, .tmp 30]) rfl ?_); at_builtin; refine Kd.R_append k61 (w0 := w) (W := wr.alloc (.cells #[.int .i64 s.1, .int .i64 s.2.1, .int .i64 s.2.2.1, .slice At nt ct] 70)) w.heap.size rfl (.tmp 22) (.tmp 30) 35 61 (.agg #[.int .i64 0, .int .i64 0, .int .i64 0, .bool false]) 32 rfl Try.underlying35 infoL rfl (by decide) (by decide) u5 ((xs.take i).map toL) (toL s) [.int .i64 s.1, .int .i64 s.2.2.1, .int .i64 s.2.1, .bool true] (fun _ => True) (fun _ => False) rfl (by first | rfl | (simp [Act.eval]; done)) ?aP (fun _ hk => hk.elim) (fun _ _ => trivial) ?aO ?aB ?aS ?aL ?_; (case aP => exact k61_mkM _ _ _ (toL s)); (case aO => exact (Kd.R_alloc HR.out _)); (case aB => exact (below_alloc HB.out _)); (case aS => exact (below_alloc HB.out _).size); (case aL => rw [HL.out]; omega); intro v1 w9 hR hB hg hat; have HR9 := Aside0.mk hR; have HB9 := Aside0.mk hB; clear hR hB hg hat)
   go_roundw
   case rel =>
    refine ⟨i + 1, by congr 1, by omega, ⟨?_⟩, HB9⟩
    have e1 : (xs.take (i + 1)).map toL = (xs.take i).map toL ++ [toL s] := by rw [List.take_succ_eq_append_getElem hlt, List.map_append, ← HS.out]; rfl
    rw [e1]
    exact HR9.out
   case measure => simp [intOf]; omega
  ·have b1 : decide (i < xs.length) = false := decide_eq_false hlt
   have HR2 : Aside0 (Kd.R k61 61 wr w.heap.size (fun _ => True) u5 (xs.map toL)) := ⟨by have := HR.out; rwa [List.take_of_length_le (by omega)] at this⟩
   obtain ⟨A5, c5, e5⟩ := Kd.R_slice HR2.out
   subst e5
   go_wp2
   go_ret
   exact ⟨_, rfl, HR2.out, HB.out⟩
theorem model_List.calls {w0 w : World} {mm mb n : Nat} {C : List Cl} (h : Held w0 w mm mb n C) {k : Int} (hk : (Lit.int .i64 k).wf = true) {xs : List Sn} {g : Int} (hget : getC C k = (xs, g)) (hx : xs.length < 1000) :
  Calls Try.prog 11 #[.pointer (some ⟨mm, 0, none⟩), .int .i64 k] w fun e w' => ∃ v', e = .returned v' ∧ Kd.R k61 61 w' w.heap.size (fun _ => True) v' (xs.map toL) ∧ Below w.heap.size w w' := by
 cases hcl : clOf C k with
 | some cl =>
  have e1 : getC C k = (cl.xs, cl.g) := by unfold getC; rw [hcl]
  rw [hget] at e1
  obtain ⟨rfl, rfl⟩ := Prod.mk.inj e1
  refine model_List.core h cl.xs hx cl.v cl.g (fun cb => cb = cl.b) (fun W hW => of_hit h hk hcl W hW) (fun W A c e hW => ?_)
  have hr := h.row cl (clOf_some hcl).1
  rw [e] at hr
  exact Kd.C_below (Kd.R_reads' hr).2.2 hW
 | none =>
  have e1 : getC C k = ([], 0) := by unfold getC; rw [hcl]
  rw [hget] at e1
  obtain ⟨rfl, rfl⟩ := Prod.mk.inj e1
  refine model_List.core h [] hx (.slice none 0 0) 0 (fun cb => w.heap.size ≤ cb) (fun W hW => of_miss h hk hcl W hW) (fun W A c e hW => ?_)
  injection e with e1 e2 e3
  subst e1
  exact Kd.C_nil _ _
set_option maxRecDepth 100000 in
theorem model_Greatest.calls {w0 w : World} {mm mb n : Nat} {C : List Cl} (h : Held w0 w mm mb n C) {k : Int} (hk : (Lit.int .i64 k).wf = true) {xs : List Sn} {g : Int} (hget : getC C k = (xs, g)) :
  Calls Try.prog 17 #[.pointer (some ⟨mm, 0, none⟩), .int .i64 k] w fun e w' => e = .returned (.int .i64 g) ∧ Below w.heap.size w w' := by
 have key : ∀ (v : Value) (Tg : Nat → Prop), (∀ W, Below w.heap.size w W → Calls Try.prog 28 #[.pointer (some ⟨mm, 0, none⟩), .int .i64 k] W fun e w1 => ∃ cb, e = .returned (.pointer (some ⟨cb, 0, none⟩)) ∧ Below W.heap.size W w1 ∧ CliAt w0 w1 cb v xs g ∧ Tg cb) →
   Calls Try.prog 17 #[.pointer (some ⟨mm, 0, none⟩), .int .i64 k] w fun e w' => e = .returned (.int .i64 g) ∧ Below w.heap.size w w' := by
  intro v Tg hof
  have H := Aside0.mk h
  have OF := Aside0.mk hof
  clear h hof hget
  go_enter Try.func17, Try.ntmps17
  go_wp2_with (first
   | (go_at_call 26; refine (model_none.calls mm mb _ H.out.model).mono ?_; rintro e w1 ⟨rfl, hw⟩; obtain rfl : w = w1 := hw.symm; clear hw)
   | (go_at_call 28; refine (OF.out _ (Below.refl _ _)).mono ?_; rintro e w2 ⟨cb, rfl, hb, hcl, ht⟩; have B2 := Aside0.mk hb; have hcb1 : w2.cell? ⟨cb, 1, none⟩ = some (.int .i64 g) := (blk_cell hcl.blk 1).trans rfl; clear hb hcl ht))
  go_ret
  exact ⟨rfl, B2.out⟩
 cases hcl : clOf C k with
 | some cl =>
  have e1 : getC C k = (cl.xs, cl.g) := by unfold getC; rw [hcl]
  rw [hget] at e1
  obtain ⟨rfl, rfl⟩ := Prod.mk.inj e1
  exact key cl.v (fun cb => cb = cl.b) (fun W hW => of_hit h hk hcl W hW)
 | none =>
  have e1 : getC C k = ([], 0) := by unfold getC; rw [hcl]
  rw [hget] at e1
  obtain ⟨rfl, rfl⟩ := Prod.mk.inj e1
  exact key (.slice none 0 0) (fun cb => w.heap.size ≤ cb) (fun W hW => of_miss h hk hcl W hW)
end Go.Proofs.Ytmlgfgmgolgjbaa.X
end

/-! ## Satchellaw30Long -/
section
namespace Go.Proofs.Ytmlgfgmgolgjbaa.X
open Go.RowKit Go.Proofs.YtmlgfgmgolgjbaaW.PrintWords Go.Proofs.YtmlgfgmgolgjbaaW.PrintLast Go.Proofs.YtmlgfgmgolgjbaaW.PrintMore
attribute [local go_sem] max2_int min2_int max_two min_two max_three min_three max_four min_four   -- for this text's walks alone
set_option linter.unusedVariables false
set_option linter.unusedSimpArgs false

attribute [local go_sem] str_gtr fld_fault0 fld_fault1
/-! ### satchellaw30_long: function 9 -/

end Go.Proofs.Ytmlgfgmgolgjbaa.X
end

/-! ## Satchellaw30Sample -/
section
namespace Go.Proofs.Ytmlgfgmgolgjbaa.X
open Go.RowKit Go.Proofs.YtmlgfgmgolgjbaaW.PrintWords Go.Proofs.YtmlgfgmgolgjbaaW.PrintLast Go.Proofs.YtmlgfgmgolgjbaaW.PrintMore
attribute [local go_sem] max2_int min2_int max_two min_two max_three min_three max_four min_four   -- for this text's walks alone
set_option linter.unusedVariables false
set_option linter.unusedSimpArgs false

attribute [local go_sem] str_gtr fld_fault0 fld_fault1
/-! ### satchellaw30_sample: function 36 -/
def satchellaw30_sample.f  : Option ((List (S89))) := some (([(⟨(⟨#[97]⟩ : ByteArray), 1, 0, ([] : List Int), (⟨#[]⟩ : ByteArray)⟩ : S89)] : List (S89)))
set_option maxHeartbeats 8000000 in
set_option maxRecDepth 100000 in
theorem satchellaw30_sample.calls  (r : List (S89)) (w : World) (h : satchellaw30_sample.f  = some r) :
  Calls Try.prog 36 #[] w fun e w' => ∃ v0_ : Value, e = .returned (v0_) ∧ Kd.S k89 89 w' w.heap.size (fun _ => True) v0_ r ∧ Below w.heap.size w w' := by
 have hu89 := Try.underlying89
 have HB := Aside0.mk (Below.refl w.heap.size w)
 have H : (some (([(⟨(⟨#[97]⟩ : ByteArray), 1, 0, ([] : List Int), (⟨#[]⟩ : ByteArray)⟩ : S89)] : List (S89)))) = some r := h
 clear h
 obtain ⟨y152, hy152⟩ : ∃ y_ : List (S89), y_ = (([(⟨(⟨#[97]⟩ : ByteArray), 1, 0, ([] : List Int), (⟨#[]⟩ : ByteArray)⟩ : S89)] : List (S89))) := ⟨_, rfl⟩
 replace H : (some y152) = some r := by first | (rw [hy152]; with_reducible exact H) | (have H2_ := (Option.bind_some _ _).symm.trans H; rw [hy152]; with_reducible exact H2_) | (have H2_ := (Option.bind_some _ _).symm.trans H; with_reducible exact H2_) | with_reducible exact H | (rw [hy152]; exact H) | exact H
 have Ny152 := Aside0.mk hy152
 clear hy152
 obtain rfl := Option.some.inj H
 go_enter Try.func36, Try.ntmps36
 go_wp2_with (first | ((with_reducible refine gate_dst (N := 2) rfl ?_); refine Kd.S_lit k89 _ 89 ?hg (N := 2) ?hd (xs := ([(⟨(⟨#[97]⟩ : ByteArray), 1, 0, ([] : List Int), (⟨#[]⟩ : ByteArray)⟩ : S89)] : List (S89))) (inner := [.string (⟨#[97]⟩ : ByteArray), .int .i64 1, .int .i64 0, .slice none 0 0, .string (⟨#[]⟩ : ByteArray)]) (ok := fun _ => True) (okp := fun _ => True) ?hr ?hp (fun _ hk => hk) trivial (Below.refl _ _) (Nat.le_refl _) (by simp) ?_; (case hd => rfl); (case hg => rfl); (case hr => first | (go_simp; done) | (go_simp; rfl)); (case hp => exact (Reps.c5 (show Kd.M k89 _ _ _ (⟨(⟨#[97]⟩ : ByteArray), 1, 0, ([] : List Int), (⟨#[]⟩ : ByteArray)⟩ : S89) [.string (⟨#[97]⟩ : ByteArray), .int .i64 1, .int .i64 0, .slice none 0 0, .string (⟨#[]⟩ : ByteArray)] from (k89_mkM _ _ _ (⟨(⟨#[97]⟩ : ByteArray), 1, 0, ([] : List Int), (⟨#[]⟩ : ByteArray)⟩ : S89) (Kd.R_nil _ _ _ _ _))) (Reps.none _ _))); intro v153 w1 ho2 hb hg_ hnew_; clear hg_ hnew_; (first | rw [← Ny152.out] at ho2 | (simp only [Int.reduceToNat] at ho2; rw [← Ny152.out] at ho2)); have n0_ := Aside0.mk (Kd.S_lower ho2 (below_size (by repeat (first | (with_reducible first | exact HB.out | apply below_alloc | apply pw_below_drewN | apply below_drew1) | exact HB.out)))); have n1_ := Aside0.mk (below_step (by repeat (first | (with_reducible first | exact HB.out | apply below_alloc | apply pw_below_drewN | apply below_drew1) | exact HB.out)) hb); clear HB; have HO154 := n0_; have HB := n1_; clear n0_ n1_; clear hb ho2))
 go_ret
 exact ⟨_, by first | rfl | (simp [errW_none, errW_some] <;> rfl) | (simp [*, errW_none, errW_some] <;> rfl) | (simp [bt, *]; done) | (simp_all [bt]; done), by (with_reducible repeat (first | apply Kd.S_alloc | apply Kd.S_drewN | apply Kd.S_drew)); exact HO154.out, by repeat (first | (with_reducible first | exact HB.out | apply below_alloc | apply pw_below_drewN | apply below_drew1) | exact HB.out)⟩

end Go.Proofs.Ytmlgfgmgolgjbaa.X
end

/-! ## Eq61 -/
section
namespace Go.Proofs.Ytmlgfgmgolgjbaa.X
open Go.RowKit Go.Proofs.YtmlgfgmgolgjbaaW.PrintWords Go.Proofs.YtmlgfgmgolgjbaaW.PrintLast Go.Proofs.YtmlgfgmgolgjbaaW.PrintMore
attribute [local go_sem] max2_int min2_int max_two min_two max_three min_three max_four min_four   -- for this text's walks alone
set_option linter.unusedVariables false
set_option linter.unusedSimpArgs false

attribute [local go_sem] str_gtr fld_fault0 fld_fault1
theorem eqA61 (d : Nat) (w : World) (x0 y0 : Int) (x1 y1 : Int) (x2 y2 : Int) (x3 y3 : Bool) :
  (Op.equalIn (d + 2) 61 (.agg #[.int .i64 x0, .int .i64 x1, .int .i64 x2, .bool x3]) (.agg #[.int .i64 y0, .int .i64 y1, .int .i64 y2, .bool y3])).run Try.prog w = .ok (x0 == y0 && (x1 == y1 && (x2 == y2 && (x3 == y3)))) w := by
 refine eqA_of Try.underlying61 (by kernel_rfl) ?_
 refine eqf_cons (by rfl) (by go_simp; rfl) (by go_simp; rfl) (by go_simp) ?_
 refine eqf_cons (by rfl) (by go_simp; rfl) (by go_simp; rfl) (by go_simp) ?_
 refine eqf_cons (by rfl) (by go_simp; rfl) (by go_simp; rfl) (by go_simp) ?_
 exact eqf_last (by rfl) (by go_simp; rfl) (by go_simp; rfl) (by go_simp)
end Go.Proofs.Ytmlgfgmgolgjbaa.X
end

/-! ## SatchelkitSameListed -/
section
namespace Go.Proofs.Ytmlgfgmgolgjbaa.X
open Go.RowKit Go.Proofs.YtmlgfgmgolgjbaaW.PrintWords Go.Proofs.YtmlgfgmgolgjbaaW.PrintLast Go.Proofs.YtmlgfgmgolgjbaaW.PrintMore
attribute [local go_sem] max2_int min2_int max_two min_two max_three min_three max_four min_four   -- for this text's walks alone
set_option linter.unusedVariables false
set_option linter.unusedSimpArgs false

attribute [local go_sem] str_gtr fld_fault0 fld_fault1
attribute [local go_sem high] eqA61
/-! ### satchelkit_SameListed: function 12 -/
def satchelkit_SameListed.l0 : Nat → List (S61) → List (S61) → Int → Option (Bool)
 | 0, _, _, _ => none
 | k + 1, x0, x1, x5 => if x5 < (x0.length : Int) then (if 0 ≤ x5 then (if x5 < (x1.length : Int) then (if (!(((rd_T61 x0 x5).f0) == ((rd_T61 x1 x5).f0)) || (!(((rd_T61 x0 x5).f1) == ((rd_T61 x1 x5).f1)) || (!(((rd_T61 x0 x5).f2) == ((rd_T61 x1 x5).f2)) || (!(((rd_T61 x0 x5).f3) == ((rd_T61 x1 x5).f3)))))) = true then (some false) else (satchelkit_SameListed.l0 k x0 x1 (wrap64 (x5 + 1)))) else (none)) else (none)) else (some true)
def satchelkit_SameListed.f (k : Nat) (l0 : List (S61)) (l1 : List (S61)) : Option (Bool) := if (l0.length : Int) = (l1.length : Int) then (satchelkit_SameListed.l0 k l0 l1 0) else (some false)
theorem satchelkit_SameListed.mono_l : ∀ k, (∀ y0 y1 y2, LeO (satchelkit_SameListed.l0 k y0 y1 y2) (satchelkit_SameListed.l0 (k + 1) y0 y1 y2))
 | 0 => fun _ _ _ r h => by simp [satchelkit_SameListed.l0] at h
 | k + 1 => by
  have ih0 := satchelkit_SameListed.mono_l k
  ·intro y0 y1 y2
   unfold satchelkit_SameListed.l0
   repeat' first
   | (with_reducible exact ih0 _ _ _)
   | (with_reducible exact LeO.refl _)
   | (with_reducible exact LeO.none _)
   | (with_reducible refine LeO.ite ?_ ?_)
   | (with_reducible refine LeO.bind ?_ (fun _ => ?_))
   | exact ih0 _ _ _
   | exact LeO.none _
   | refine LeO.ite ?_ ?_
   | refine LeO.bind ?_ (fun _ => ?_)
theorem satchelkit_SameListed.mono : ∀ a0 a1 k, LeO (satchelkit_SameListed.f k a0 a1) (satchelkit_SameListed.f (k + 1) a0 a1) := by
 intro a0 a1 k
 have ih0 := satchelkit_SameListed.mono_l k
 unfold satchelkit_SameListed.f
 repeat' first
   | (with_reducible exact ih0 _ _ _)
   | (with_reducible exact LeO.refl _)
   | (with_reducible exact LeO.none _)
   | (with_reducible refine LeO.ite ?_ ?_)
   | (with_reducible refine LeO.bind ?_ (fun _ => ?_))
   | exact ih0 _ _ _
   | exact LeO.none _
   | refine LeO.ite ?_ ?_
   | refine LeO.bind ?_ (fun _ => ?_)
set_option maxHeartbeats 8000000 in
set_option maxRecDepth 100000 in
theorem satchelkit_SameListed.calls (k : Nat) (A0 : Option Addr) (c0 : Nat) (l0 : List (S61)) (A1 : Option Addr) (c1 : Nat) (l1 : List (S61)) (r : Bool) (w : World) (hr0 : Kd.C k61 w A0 l0.length l0) (hc0 : l0.length ≤ c0) (hr1 : Kd.C k61 w A1 l1.length l1) (hc1 : l1.length ≤ c1) (h : satchelkit_SameListed.f k l0 l1 = some r) :
  Calls Try.prog 12 #[.slice A0 l0.length c0, .slice A1 l1.length c1] w fun e w' => e = .returned (.bool r) ∧ Drawn0 w w' := by
 have hu61 := Try.underlying61
 have HR0 := Aside0.mk hr0
 have HC0 := Aside0.mk hc0
 clear hr0 hc0
 have HR1 := Aside0.mk hr1
 have HC1 := Aside0.mk hc1
 clear hr1 hc1
 have H : (if (l0.length : Int) = (l1.length : Int) then (satchelkit_SameListed.l0 k l0 l1 0) else (some false)) = some r := h
 clear h
 by_cases c3 : (l0.length : Int) = (l1.length : Int)
 ·rw [if_pos c3] at H
  have c3b0 : ((l0.length : Int) == (l1.length : Int)) = true := beq_iff_eq.mpr c3
  have c3b1 : ((l0.length : Int) != (l1.length : Int)) = false := bne_eq_false_iff_eq.mpr c3
  have c3b2 : (l0.length == l1.length) = true := by first | simpa using c3 | (simp at c3 ⊢; omega)
  clear c3
  have H' := Aside0.mk H
  clear H
  go_enter Try.func12, Try.ntmps12
  go_wp2
  repeat (go_quiet (fail); try go_wp2)
  go_loopg [5] k (fun kq v5 w' => ∃ (x5_1 : Int), v5 = .int .i64 x5_1 ∧ Aside0 (satchelkit_SameListed.l0 kq l0 l1 x5_1 = some r) ∧ Aside0 (kq ≤ k) ∧ Drawn0 w w')
  case atStart => exact ⟨(0), (by first | rfl | (simp; done) | (simp [*]; done)), H', ⟨Nat.le_refl _⟩, by repeat (first | exact Drawn0.refl _ | apply Drawn0.step)⟩
  case round =>
   clear H'
   try clear c1
   try clear p2
   try clear c3
   try clear c3b0
   try clear c3b1
   try clear c3b2
   obtain ⟨x5_1, rfl, HA, HK1, ⟨m1, rfl⟩⟩ := hrel
   cases gk with
   | zero => exact absurd HA.out (by simp [satchelkit_SameListed.l0])
   | succ k1 =>
    have H := HA.out
    clear HA
    simp only [satchelkit_SameListed.l0] at H
    by_cases c4 : x5_1 < (l0.length : Int)
    ·rw [if_pos c4] at H
     have c4b0 : decide (x5_1 < (l0.length : Int)) = true := decide_eq_true c4
     clear c4
     by_cases c5 : 0 ≤ x5_1
     ·rw [if_pos c5] at H
      have c5b0 : decide (0 ≤ x5_1) = true := decide_eq_true c5
      clear c5
      by_cases c6 : x5_1 < (l1.length : Int)
      ·rw [if_pos c6] at H
       have c6b0 : decide (x5_1 < (l1.length : Int)) = true := decide_eq_true c6
       clear c6
       by_cases c7 : (!(((rd_T61 l0 x5_1).f0) == ((rd_T61 l1 x5_1).f0)) || (!(((rd_T61 l0 x5_1).f1) == ((rd_T61 l1 x5_1).f1)) || (!(((rd_T61 l0 x5_1).f2) == ((rd_T61 l1 x5_1).f2)) || (!(((rd_T61 l0 x5_1).f3) == ((rd_T61 l1 x5_1).f3)))))) = true
       ·rw [if_pos c7] at H
        have c7b0 : (!(((rd_T61 l0 x5_1).f0) == ((rd_T61 l1 x5_1).f0)) || (!(((rd_T61 l0 x5_1).f1) == ((rd_T61 l1 x5_1).f1)) || (!(((rd_T61 l0 x5_1).f2) == ((rd_T61 l1 x5_1).f2)) || (!(((rd_T61 l0 x5_1).f3) == ((rd_T61 l1 x5_1).f3)))))) = true := c7
        clear c7
        obtain rfl := Option.some.inj H
        have p101 : 0 ≤ (x5_1 : Int) := of_decide_eq_true (by first | (with_reducible assumption) | assumption)
        have q101 : x5_1 < (l0.length : Int) := of_decide_eq_true (by first | (with_reducible assumption) | assumption)
        obtain ⟨ad101, e101, hx101_0, hx101_1, hx101_2, hx101_3⟩ := at_T61 HR0.out x5_1 p101 q101
        cases e101
        replace p101 := eq_true p101
        replace q101 := eq_true q101
        have p102 : 0 ≤ (x5_1 : Int) := of_decide_eq_true (by first | (with_reducible assumption) | assumption)
        have q102 : x5_1 < (l1.length : Int) := of_decide_eq_true (by first | (with_reducible assumption) | assumption)
        obtain ⟨ad102, e102, hx102_0, hx102_1, hx102_2, hx102_3⟩ := at_T61 HR1.out x5_1 p102 q102
        cases e102
        replace p102 := eq_true p102
        replace q102 := eq_true q102
        go_wp2
        repeat (go_quiet (fail); try go_wp2)
        go_ret
        exact ⟨by first | rfl | (simp; done) | (simp [*]; done), by repeat (first | exact Drawn0.refl _ | apply Drawn0.step)⟩
       ·rw [if_neg c7] at H
        have c7b0 : (!(((rd_T61 l0 x5_1).f0) == ((rd_T61 l1 x5_1).f0)) || (!(((rd_T61 l0 x5_1).f1) == ((rd_T61 l1 x5_1).f1)) || (!(((rd_T61 l0 x5_1).f2) == ((rd_T61 l1 x5_1).f2)) || (!(((rd_T61 l0 x5_1).f3) == ((rd_T61 l1 x5_1).f3)))))) = false := by simpa using c7
        clear c7
        have H' := Aside0.mk H
        clear H
        have p101 : 0 ≤ (x5_1 : Int) := of_decide_eq_true (by first | (with_reducible assumption) | assumption)
        have q101 : x5_1 < (l0.length : Int) := of_decide_eq_true (by first | (with_reducible assumption) | assumption)
        obtain ⟨ad101, e101, hx101_0, hx101_1, hx101_2, hx101_3⟩ := at_T61 HR0.out x5_1 p101 q101
        cases e101
        replace p101 := eq_true p101
        replace q101 := eq_true q101
        have p102 : 0 ≤ (x5_1 : Int) := of_decide_eq_true (by first | (with_reducible assumption) | assumption)
        have q102 : x5_1 < (l1.length : Int) := of_decide_eq_true (by first | (with_reducible assumption) | assumption)
        obtain ⟨ad102, e102, hx102_0, hx102_1, hx102_2, hx102_3⟩ := at_T61 HR1.out x5_1 p102 q102
        cases e102
        replace p102 := eq_true p102
        replace q102 := eq_true q102
        go_wp2
        repeat (go_quiet (fail); try go_wp2)
        go_roundg k1
        case measure => have := HK1.out; omega
        case rel => exact ⟨(wrap64 (x5_1 + 1)), (by first | rfl | (simp; done) | (simp [*]; done)), H', ⟨by have := HK1.out; omega⟩, by repeat (first | exact Drawn0.refl _ | apply Drawn0.step)⟩
      ·rw [if_neg c6] at H
       exact absurd H (by simp)
     ·rw [if_neg c5] at H
      exact absurd H (by simp)
    ·rw [if_neg c4] at H
     have c4b0 : decide (x5_1 < (l0.length : Int)) = false := decide_eq_false c4
     clear c4
     obtain rfl := Option.some.inj H
     go_wp2
     repeat (go_quiet (fail); try go_wp2)
     go_ret
     exact ⟨by first | rfl | (simp; done) | (simp [*]; done), by repeat (first | exact Drawn0.refl _ | apply Drawn0.step)⟩
 ·rw [if_neg c3] at H
  have c3b0 : ((l0.length : Int) == (l1.length : Int)) = false := beq_eq_false_iff_ne.mpr c3
  have c3b1 : ((l0.length : Int) != (l1.length : Int)) = true := bne_iff_ne.mpr c3
  have c3b2 : (l0.length == l1.length) = false := by first | simpa using c3 | (simp at c3 ⊢; omega)
  obtain rfl := Option.some.inj H
  go_enter Try.func12, Try.ntmps12
  go_wp2
  repeat (go_quiet (fail); try go_wp2)
  go_ret
  exact ⟨by first | rfl | (simp; done) | (simp [*]; done), by repeat (first | exact Drawn0.refl _ | apply Drawn0.step)⟩

end Go.Proofs.Ytmlgfgmgolgjbaa.X
end

/-! ## mPlain -/
section
namespace Go.Proofs.Ytmlgfgmgolgjbaa.X
open Go.RowKit Go.Proofs.YtmlgfgmgolgjbaaW.PrintWords Go.Proofs.YtmlgfgmgolgjbaaW.PrintLast Go.Proofs.YtmlgfgmgolgjbaaW.PrintMore
set_option linter.unusedVariables false
set_option linter.unusedSimpArgs false

def Fits (l : List (S89)) : Prop := ∀ e ∈ l, e.f3.length < 140737488355328
theorem fits_rd {l : List (S89)} (h : Fits l) {i : Nat} (hi : i < l.length) : (rd_T89 l (i : Int)).f3.length < 140737488355328 := by rw [rd_at l i hi]; exact h _ (List.getElem_mem hi)
theorem mclone_l0 (l : List (S89)) (hl : l.length < 1000000) (hf : Fits l) : ∀ (m i : Nat), i + m = l.length → Ev (fun k => model_clone.l0 k l (l.length : Int) (i : Int)) l
 | 0, i, h => by
  refine Ev.shift ?_
  simp only [model_clone.l0]
  exact Ev.ifn (by omega) (Ev.const _)
 | m + 1, i, h => by
  have hi : i < l.length := by omega
  refine Ev.shift ?_
  simp only [model_clone.l0]
  refine Ev.ifp (by omega) (Ev.ifp (by omega) (Ev.ifp (by omega) ?_))
  have hc : slices_Clone_byte_byte.f (rd_T89 l (i : Int)).f3 = some (rd_T89 l (i : Int)).f3 := by
   unfold slices_Clone_byte_byte.f
   have := fits_rd hf hi
   first | rfl | (rw [if_pos this]) | (simp [this])
  rw [hc]
  simp only [Option.bind_some]
  have hs : l.set ((i : Int)).toNat (⟨(rd_T89 l (i : Int)).f0, (rd_T89 l (i : Int)).f1, (rd_T89 l (i : Int)).f2, (rd_T89 l (i : Int)).f3, (rd_T89 l (i : Int)).f4⟩ : S89) = l := by
   rw [Int.toNat_natCast, rd_at l i hi]
   exact List.set_getElem_self hi
  rw [hs, wrap_id _ (by omega)]
  exact mclone_l0 l hl hf m (i + 1) (by omega)
theorem mclone_ev (l : List (S89)) (hl : l.length < 1000000) (hf : Fits l) : Ev (fun k => model_clone.f k l) l := by
 simp only [model_clone.f]
 have h1 : api_Entry_48.f l = some l := by
  unfold api_Entry_48.f
  rw [if_pos (by omega)]
 rw [h1]
 simp only [Option.bind_some]
 exact mclone_l0 l hl hf l.length 0 (by omega)
theorem same_l0 (l : List (S61)) (hl : l.length < 1000000) : ∀ (m i : Nat), i + m = l.length → Ev (fun k => satchelkit_SameListed.l0 k l l (i : Int)) true
 | 0, i, h => by
  refine Ev.shift ?_
  simp only [satchelkit_SameListed.l0]
  exact Ev.ifn (by omega) (Ev.const _)
 | m + 1, i, h => by
  refine Ev.shift ?_
  simp only [satchelkit_SameListed.l0]
  refine Ev.ifp (by omega) (Ev.ifp (by omega) (Ev.ifp (by omega) (Ev.ifn (by simp) ?_)))
  rw [wrap_id _ (by omega)]
  exact same_l0 l hl m (i + 1) (by omega)
theorem same_ev (l : List (S61)) (hl : l.length < 1000000) : Ev (fun k => satchelkit_SameListed.f k l l) true := by
 simp only [satchelkit_SameListed.f]
 exact Ev.ifp (by trivial) (same_l0 l hl l.length 0 (by omega))
/-- What fits: told by its parts. -/
def fitsV (a0 a1 a2 a3 : Int) (l : List (S89)) : Int := if 1 ≤ a0 ∧ a0 ≤ 2147483647 ∧ 1 ≤ a1 ∧ a1 ≤ 2147483647 ∧ 1 ≤ a2 ∧ a2 ≤ 2147483647 ∧ 0 ≤ a3 ∧ a3 ≤ 2147483647 then (if (treeV l).1 = 0 then 0 else 2) else 5
theorem within_f (n low : Int) : model_within.f n low = some (decide (low ≤ n ∧ n ≤ 2147483647)) := by
 unfold model_within.f
 by_cases h1 : low ≤ n <;> by_cases h2 : n ≤ 2147483647 <;> simp [h1, h2, Int.not_le.1, Int.not_lt]
theorem fits_ev (a0 a1 a2 a3 : Int) (l : List (S89)) : Ev (fun k => model_fits.f k a0 a1 a2 a3 l) (fitsV a0 a1 a2 a3 l) := by
 have hj : ∀ b : Bool, Ev (fun k => model_fits.j0 k l b) (if b = true then 5 else if (treeV l).1 = 0 then 0 else 2) := by
  intro b
  refine Ev.shift ?_
  simp only [model_fits.j0]
  cases b with
  | true => exact Ev.ifp rfl (Ev.const _)
  | false =>
   refine Ev.ifn (by simp) (Ev.bind (tree_ev l) ?_)
   by_cases h : (treeV l).1 = 0
   ·have e : (if (false : Bool) = true then (5 : Int) else if (treeV l).1 = 0 then 0 else 2) = 0 := by simp [h]
    rw [e]; exact Ev.ifp h (Ev.const _)
   ·have e : (if (false : Bool) = true then (5 : Int) else if (treeV l).1 = 0 then 0 else 2) = 2 := by simp [h]
    rw [e]; exact Ev.ifn h (Ev.const _)
 simp only [model_fits.f, within_f, Option.bind_some]
 by_cases h0 : 1 ≤ a0 ∧ a0 ≤ 2147483647
 ·refine Ev.ifp (decide_eq_true h0) ?_
  by_cases h1 : 1 ≤ a1 ∧ a1 ≤ 2147483647
  ·refine Ev.ifp (decide_eq_true h1) ?_
   by_cases h2 : 1 ≤ a2 ∧ a2 ≤ 2147483647
   ·refine Ev.ifp (decide_eq_true h2) ?_
    have h3 := hj (!decide (0 ≤ a3 ∧ a3 ≤ 2147483647))
    by_cases h4 : 0 ≤ a3 ∧ a3 ≤ 2147483647
    ·rw [decide_eq_true h4] at h3 ⊢
     rw [show fitsV a0 a1 a2 a3 l = (if (treeV l).1 = 0 then 0 else 2) by unfold fitsV; rw [if_pos (by omega)]]
     exact h3
    ·rw [decide_eq_false h4] at h3 ⊢
     rw [show fitsV a0 a1 a2 a3 l = 5 by unfold fitsV; rw [if_neg (by omega)]]
     exact h3
   ·rw [show fitsV a0 a1 a2 a3 l = 5 by unfold fitsV; rw [if_neg (by omega)]]
    exact Ev.ifn (by simpa using h2) (hj true)
  ·rw [show fitsV a0 a1 a2 a3 l = 5 by unfold fitsV; rw [if_neg (by omega)]]
   exact Ev.ifn (by simpa using h1) (hj true)
 ·rw [show fitsV a0 a1 a2 a3 l = 5 by unfold fitsV; rw [if_neg (by omega)]]
  exact Ev.ifn (by simpa using h0) (hj true)
end Go.Proofs.Ytmlgfgmgolgjbaa.X
end

/-! ## mAwake -/
section
namespace Go.Proofs.Ytmlgfgmgolgjbaa.X
open Go.RowKit Go.Maps Go.Proofs.YtmlgfgmgolgjbaaW.PrintWords Go.Proofs.YtmlgfgmgolgjbaaW.PrintLast Go.Proofs.YtmlgfgmgolgjbaaW.PrintMore
set_option linter.unusedVariables false
set_option linter.unusedSimpArgs false
/-- What the model's step asks, and that a snapshot of the command is there. -/
theorem model_Backup.hit {w0 w : World} {mm mb n : Nat} {C : List Cl} (h : Held w0 w mm mb n C) (hn : n < 1000000) {k cmd tick : Int} (hk : (Lit.int .i64 k).wf = true) (A : Option Addr) (c : Nat) (l : List S89) (P0 : Nat → Prop) (hP : ∀ k, P0 k → Off mb C w k) (hC : Kd.F k89 w P0 A l.length l) (hc : l.length ≤ c) (hf : Fits l) (hl : l.length < 1000000)
  (hfit : fitsV k 1 cmd tick l = 0) {xs : List Sn} {g : Int} (hget : getC C k = (xs, g)) (hg0 : 0 ≤ g) (hg : g < 1000000) (hx : xs.length < 64) {num : Int} (hlast : lastCmd xs cmd = some num) :
  Calls Try.prog 10 #[.pointer (some ⟨mm, 0, none⟩), .int .i64 k, .int .i64 cmd, .int .i64 tick, .slice A l.length c] w fun e w' => e = .returned (.tuple #[.int .i64 num, .int .i64 0]) ∧ Below w.heap.size w w' := by
 have hfit2 : fitsV k (g + 1) cmd tick l = 0 := by
  unfold fitsV at hfit ⊢
  split at hfit
  ·rename_i h1
   rw [if_pos (by omega)]
   exact hfit
  ·cases hfit
 obtain ⟨kf, h1⟩ := fits_ev k 1 cmd tick l
 obtain ⟨kf2, h2⟩ := fits_ev k (g + 1) cmd tick l
 obtain ⟨kc, h3⟩ := mclone_ev l hl hf
 rw [hfit] at h1
 rw [hfit2] at h2
 refine (model_Backup.calls h hn hk A c l P0 hP hC hc kf kf2 kc (h1 kf (Nat.le_refl _)) hget (h2 kf2 (Nat.le_refl _)) (h3 kc (Nat.le_refl _)) hg0 hg hx).mono ?_
 rintro e w' (⟨num', e1, rfl, hb⟩ | ⟨e1, _⟩)
 ·rw [hlast] at e1
  obtain rfl := Option.some.inj e1
  exact ⟨rfl, hb⟩
 ·rw [hlast] at e1
  cases e1
theorem model_Backup.miss {w0 w : World} {mm mb n : Nat} {C : List Cl} (h : Held w0 w mm mb n C) (hn : n < 1000000) {k cmd tick : Int} (hk : (Lit.int .i64 k).wf = true) (A : Option Addr) (c : Nat) (l : List S89) (P0 : Nat → Prop) (hP : ∀ k, P0 k → Off mb C w k) (hC : Kd.F k89 w P0 A l.length l) (hc : l.length ≤ c) (hf : Fits l) (hl : l.length < 1000000)
  (hfit : fitsV k 1 cmd tick l = 0) {xs : List Sn} {g : Int} (hget : getC C k = (xs, g)) (hg0 : 0 ≤ g) (hg : g < 1000000) (hx : xs.length < 64) (hlast : lastCmd xs cmd = none) :
  Calls Try.prog 10 #[.pointer (some ⟨mm, 0, none⟩), .int .i64 k, .int .i64 cmd, .int .i64 tick, .slice A l.length c] w fun e w' => e = .returned (.tuple #[.int .i64 (g + 1), .int .i64 0]) ∧
   ∃ C' t, Held w0 w' mm mb (n + 1) C' ∧ getC C' k = (xs ++ [(g + 1, cmd, tick, t)], g + 1) ∧ (∀ k', k' ≠ k → clOf C' k' = clOf C k') ∧ Went mb C C' w w' ∧ NewTree P0 mb C' w w' t l := by
 have hfit2 : fitsV k (g + 1) cmd tick l = 0 := by
  unfold fitsV at hfit ⊢
  split at hfit
  ·rename_i h1
   rw [if_pos (by omega)]
   exact hfit
  ·cases hfit
 obtain ⟨kf, h1⟩ := fits_ev k 1 cmd tick l
 obtain ⟨kf2, h2⟩ := fits_ev k (g + 1) cmd tick l
 obtain ⟨kc, h3⟩ := mclone_ev l hl hf
 rw [hfit] at h1
 rw [hfit2] at h2
 refine (model_Backup.calls h hn hk A c l P0 hP hC hc kf kf2 kc (h1 kf (Nat.le_refl _)) hget (h2 kf2 (Nat.le_refl _)) (h3 kc (Nat.le_refl _)) hg0 hg hx).mono ?_
 rintro e w' (⟨num', e1, _⟩ | ⟨_, rfl, r⟩)
 ·rw [hlast] at e1
  cases e1
 ·exact ⟨rfl, r⟩
def sampleT : List S89 := [(⟨(⟨#[97]⟩ : ByteArray), 1, 0, ([] : List Int), (⟨#[]⟩ : ByteArray)⟩ : S89)]
theorem sample_f : satchellaw30_sample.f = some sampleT := rfl
theorem sample_fits : Fits sampleT := fun e he => by
 obtain rfl := List.mem_singleton.1 he
 decide
theorem sample_tree : (treeV sampleT).1 = 0 := by
 have h1 : tree_Check.f 30 sampleT = some (0, 0) := by kernel_rfl
 have h2 := Ev.of_mono (g := fun k => tree_Check.f k sampleT) (fun k => tree_Check.mono sampleT k) h1
 have h3 := Ev.uniq h2 (tree_ev sampleT)
 rw [← h3]
theorem seven : (Lit.int .i64 7).wf = true := by decide
theorem eight : (Lit.int .i64 8).wf = true := by decide
theorem Held.off_new {w0 w w' : World} {mm mb n : Nat} {C : List Cl} (h : Held w0 w mm mb n C) {k : Nat} (h1 : w.heap.size ≤ k) (h2 : k < w'.heap.size) : Off mb C w' k := by
 obtain ⟨D, ⟨es, cl, hm, _⟩, _⟩ := h.map
 have hmb := blk_lt hm
 refine ⟨h2, by omega, fun c hc => ⟨?_, fun e => ?_⟩⟩
 ·have := blk_lt (h.blk c hc).2; omega
 ·have := (row_at (h.row c hc) e).2.1; omega
set_option maxRecDepth 100000 in
theorem backs.hit {w0 w : World} {mm mb n : Nat} {C : List Cl} (h : Held w0 w mm mb n C) (hn : n < 1000000) {cmd : Int} (hc1 : 1 ≤ cmd) (hc2 : cmd ≤ 1000) {xs : List Sn} {g : Int} (hget : getC C 7 = (xs, g)) (hg0 : 0 ≤ g) (hg : g < 1000000) (hx : xs.length < 64) {num : Int} (hlast : lastCmd xs cmd = some num) :
  Calls Try.prog 19 #[.pointer (some ⟨mm, 0, none⟩), .int .i64 cmd, .int .i64 num] w fun e w' => e = .returned (.bool true) ∧ Below w.heap.size w w' := by
 have H := Aside0.mk h
 have GET := Aside0.mk hget
 have LAST := Aside0.mk hlast
 have HF : Aside0 (fitsV 7 1 cmd 5 sampleT = 0) := ⟨by unfold fitsV; rw [if_pos (by omega), if_pos sample_tree]⟩
 clear h hget hlast
 go_enter Try.func19, Try.ntmps19
 go_wp2_with (first
  | (go_at_call 36; refine (satchellaw30_sample.calls _ _ sample_f).mono ?_; rintro e w1 ⟨v1, rfl, hS, hb⟩; obtain ⟨A1, c1, rfl⟩ := Kd.R_slice (Kd.S_R hS); have R1 := Aside0.mk (Kd.R_reads' (Kd.S_R hS)); have F1 := Aside0.mk (Kd.F_mono (Kd.S_F (Kd.S_bound hS)) (ok' := fun k => w.heap.size ≤ k ∧ k < w1.heap.size) (fun k hk => ⟨hk.2.1, hk.2.2.1⟩)); have OF1 : Aside0 (∀ k, (w.heap.size ≤ k ∧ k < w1.heap.size) → Off mb C w1 k) := ⟨fun k hk => H.out.off_new hk.1 hk.2⟩; have B1 := Aside0.mk hb; clear hS hb)
  | (go_at_call 10; refine (model_Backup.hit (H.out.after B1.out) hn seven A1 c1 sampleT _ OF1.out F1.out R1.out.2.1 sample_fits (by decide) HF.out GET.out hg0 hg hx LAST.out).mono ?_; rintro e w2 ⟨rfl, hb⟩; have B2 := Aside0.mk (below_step B1.out hb); clear hb))
 go_ret
 exact ⟨by simp, B2.out⟩
set_option maxRecDepth 100000 in
theorem backs.miss {w0 w : World} {mm mb n : Nat} {C : List Cl} (h : Held w0 w mm mb n C) (hn : n < 1000000) {cmd : Int} (hc1 : 1 ≤ cmd) (hc2 : cmd ≤ 1000) {xs : List Sn} {g : Int} (hget : getC C 7 = (xs, g)) (hg0 : 0 ≤ g) (hg : g < 1000000) (hx : xs.length < 64) (hlast : lastCmd xs cmd = none) :
  Calls Try.prog 19 #[.pointer (some ⟨mm, 0, none⟩), .int .i64 cmd, .int .i64 (g + 1)] w fun e w' => e = .returned (.bool true) ∧
   ∃ C' t, Held w0 w' mm mb (n + 1) C' ∧ getC C' 7 = (xs ++ [(g + 1, cmd, 5, t)], g + 1) ∧ (∀ k', k' ≠ 7 → clOf C' k' = clOf C k') ∧ Went mb C C' w w' ∧ TreeAt mb C' w' t sampleT := by
 have H := Aside0.mk h
 have GET := Aside0.mk hget
 have LAST := Aside0.mk hlast
 have HF : Aside0 (fitsV 7 1 cmd 5 sampleT = 0) := ⟨by unfold fitsV; rw [if_pos (by omega), if_pos sample_tree]⟩
 clear h hget hlast
 go_enter Try.func19, Try.ntmps19
 go_wp2_with (first
  | (go_at_call 36; refine (satchellaw30_sample.calls _ _ sample_f).mono ?_; rintro e w1 ⟨v1, rfl, hS, hb⟩; obtain ⟨A1, c1, rfl⟩ := Kd.R_slice (Kd.S_R hS); have R1 := Aside0.mk (Kd.R_reads' (Kd.S_R hS)); have F1 := Aside0.mk (Kd.F_mono (Kd.S_F (Kd.S_bound hS)) (ok' := fun k => w.heap.size ≤ k ∧ k < w1.heap.size) (fun k hk => ⟨hk.2.1, hk.2.2.1⟩)); have OF1 : Aside0 (∀ k, (w.heap.size ≤ k ∧ k < w1.heap.size) → Off mb C w1 k) := ⟨fun k hk => H.out.off_new hk.1 hk.2⟩; have B1 := Aside0.mk hb; clear hS hb)
  | (go_at_call 10; refine (model_Backup.miss (H.out.after B1.out) hn seven A1 c1 sampleT _ OF1.out F1.out R1.out.2.1 sample_fits (by decide) HF.out GET.out hg0 hg hx LAST.out).mono ?_; rintro e w2 ⟨rfl, C', t, hH, g1, g2, g3, g4⟩; have HH := Aside0.mk hH; have G1 := Aside0.mk g1; have G2 := Aside0.mk g2; have G3 := Aside0.mk ((Went.of_below B1.out).trans g3); have G4 := Aside0.mk (g4.at OF1.out g3); clear hH g1 g2 g3 g4))
 go_ret
 exact ⟨by simp, C', t, HH.out, G1.out, G2.out, G3.out, G4.out⟩
/-- A row of two of what is listed, read out of its block. -/
theorem row2_L {W : World} {g : Nat} (a b : S61) (h : W.heap[g]? = some (.cells #[.int .i64 a.f0, .int .i64 a.f1, .int .i64 a.f2, .bool a.f3, .int .i64 b.f0, .int .i64 b.f1, .int .i64 b.f2, .bool b.f3] 61 (0, 0))) : Kd.C k61 W (some ⟨g, 0, none⟩) 2 [a, b] := by
 refine ⟨rfl, by decide, fun _ => ⟨⟨g, 0, none⟩, rfl, fun j p hj => ?_⟩⟩
 have key : ∀ n, W.cell? ((⟨g, 0, none⟩ : Addr).add n) = (#[.int .i64 a.f0, .int .i64 a.f1, .int .i64 a.f2, .bool a.f3, .int .i64 b.f0, .int .i64 b.f1, .int .i64 b.f2, .bool b.f3] : Array Value)[n]? := by
  intro n
  have e : (⟨g, 0, none⟩ : Addr).add n = ⟨g, n, none⟩ := by
   unfold Addr.add
   split
   ·rename_i h0; rw [h0]
   ·simp
  rw [e]
  exact blk_cell h n
 match j with
 | 0 =>
  obtain rfl := Option.some.inj hj
  refine ⟨[.int .i64 a.f0, .int .i64 a.f1, .int .i64 a.f2, .bool a.f3], rfl, k61_mk W a, fun i u hu => ?_⟩
  show W.cell? ((⟨g, 0, none⟩ : Addr).add (_ * 4 + i)) = some u
  rw [key]
  match i with
  | 0 => exact hu
  | 1 => exact hu
  | 2 => exact hu
  | 3 => exact hu
  | i + 4 => simp at hu
 | 1 =>
  obtain rfl := Option.some.inj hj
  refine ⟨[.int .i64 b.f0, .int .i64 b.f1, .int .i64 b.f2, .bool b.f3], rfl, k61_mk W b, fun i u hu => ?_⟩
  show W.cell? ((⟨g, 0, none⟩ : Addr).add (_ * 4 + i)) = some u
  rw [key]
  match i with
  | 0 => exact hu
  | 1 => exact hu
  | 2 => exact hu
  | 3 => exact hu
  | i + 4 => simp at hu
 | j + 2 => cases hj
theorem backs.miss' {w0 w : World} {mm mb n : Nat} {C : List Cl} (h : Held w0 w mm mb n C) (hn : n < 1000000) {cmd num : Int} (hc1 : 1 ≤ cmd) (hc2 : cmd ≤ 1000) {xs : List Sn} {g : Int} (hget : getC C 7 = (xs, g)) (hg0 : 0 ≤ g) (hg : g < 1000000) (hx : xs.length < 64) (hlast : lastCmd xs cmd = none) (hnum : g + 1 = num) :
  Calls Try.prog 19 #[.pointer (some ⟨mm, 0, none⟩), .int .i64 cmd, .int .i64 num] w fun e w' => e = .returned (.bool true) ∧
   ∃ C' t, Held w0 w' mm mb (n + 1) C' ∧ getC C' 7 = (xs ++ [(num, cmd, 5, t)], num) ∧ (∀ k', k' ≠ 7 → clOf C' k' = clOf C k') ∧ Went mb C C' w w' ∧ TreeAt mb C' w' t sampleT := by
 subst hnum
 exact backs.miss h hn hc1 hc2 hget hg0 hg hx hlast
set_option maxHeartbeats 1000000 in
set_option maxRecDepth 100000 in
theorem awake.calls (w : World) : Calls Try.prog 7 #[] w fun e w' => e = .returned (.bool true) ∧ Below w.heap.size w w' := by
 obtain ⟨ks, hks⟩ := same_ev [(⟨1, 5, 3, true⟩ : S61), ⟨2, 5, 4, true⟩] (by decide)
 have SAME := Aside0.mk (hks ks (Nat.le_refl _))
 clear hks
 have GATE1 := Aside0.mk True.intro
 go_enter Try.func7, Try.ntmps7
 go_wp2_with (first
  | (go_at_call 8; have G_ := GATE1; refine (model_New.calls _).mono ?_; rintro e w1 ⟨rfl, hw⟩; have H1 := Aside0.mk (hw ▸ Held.new (Below.refl w.heap.size w)); clear hw G_ GATE1)
  | (go_at_call 19; have G_ := H1; refine (backs.miss' H1.out (by decide) (by decide) (by decide) (xs := []) (g := 0) rfl (by decide) (by decide) (by decide) rfl rfl).mono ?_; rintro e w2 ⟨rfl, C2, t2, hH, g1, g2, _⟩; have H2 := Aside0.mk hH; have G12 := Aside0.mk g1; have G22 := Aside0.mk g2; clear hH g1 g2 G_ H1)
  | (go_at_call 19; have G_ := H2; refine (backs.hit H2.out (by decide) (by decide) (by decide) G12.out (by decide) (by decide) (by simp) (num := 1) rfl).mono ?_; rintro e w3 ⟨rfl, hb⟩; have H3 := Aside0.mk (H2.out.after hb); clear hb G_ H2)
  | (go_at_call 19; have G_ := H3; refine (backs.miss' H3.out (by decide) (by decide) (by decide) G12.out (by decide) (by decide) (by simp) rfl rfl).mono ?_; rintro e w4 ⟨rfl, C4, t4, hH, g1, g2, _⟩; have H4 := Aside0.mk hH; have G14 := Aside0.mk g1; have G24 := Aside0.mk (show getC C4 8 = ([], 0) from (getC_of (g2 8 (by decide))).trans (getC_of (G22.out 8 (by decide)))); clear hH g1 g2 G_ H3)
  | (go_at_call 11; refine (model_List.calls H4.out seven G14.out (by simp)).mono ?_; rintro e w5 ⟨v5, rfl, hR, hb⟩; obtain ⟨A5, c5, rfl⟩ := Kd.R_slice hR; have R5 := Aside0.mk (Kd.R_reads' hR); have H5 := Aside0.mk (H4.out.after hb); clear hR hb)
  | (go_at_call 12; refine (satchelkit_SameListed.calls ks A5 c5 [(⟨1, 5, 3, true⟩ : S61), ⟨2, 5, 4, true⟩] _ 2 [(⟨1, 5, 3, true⟩ : S61), ⟨2, 5, 4, true⟩] true _ (Kd.C_alloc R5.out.2.2 _) R5.out.2.1 (row2_L ⟨1, 5, 3, true⟩ ⟨2, 5, 4, true⟩ (heap_alloc_new w5 _)) (Nat.le_refl _) SAME.out).mono ?_; rintro e w6 ⟨rfl, hd⟩; have H6 := Aside0.mk (H5.out.after (below_step (below_alloc (Below.refl _ w5) _) (Drawn0.below hd))); clear hd)
  | (go_at_call 17; refine (model_Greatest.calls H6.out eight G24.out).mono ?_; rintro e w7 ⟨rfl, hb⟩; have H7 := Aside0.mk (H6.out.after hb); clear hb))
 go_ret
 exact ⟨rfl, H7.out.below⟩
end Go.Proofs.Ytmlgfgmgolgjbaa.X
end

/-! ## mDrop -/
section
namespace Go.Proofs.Ytmlgfgmgolgjbaa.X
open Go.RowKit Go.Maps Go.Proofs.YtmlgfgmgolgjbaaW.PrintWords Go.Proofs.YtmlgfgmgolgjbaaW.PrintLast Go.Proofs.YtmlgfgmgolgjbaaW.PrintMore
set_option linter.unusedVariables false
set_option linter.unusedSimpArgs false
def zSn : Sn := (0, 0, 0, none, 0, 0)
/-- The cells of place i. -/
theorem at_SnX {w : World} {A : Option Addr} {n : Nat} {xs : List Sn} (h : Kd.C kSn w A n xs) (i : Nat) (h1 : i < n) (z : Sn) : ∃ ad, A = some ad ∧ w.cell? (ad.add (i * 4)) = some (.int .i64 (xs.getD i z).1) ∧ w.cell? ⟨(ad.add (i * 4)).block, (ad.add (i * 4)).off + 1, none⟩ = some (.int .i64 (xs.getD i z).2.1) ∧
  w.cell? ⟨(ad.add (i * 4)).block, (ad.add (i * 4)).off + 2, none⟩ = some (.int .i64 (xs.getD i z).2.2.1) ∧ w.cell? ⟨(ad.add (i * 4)).block, (ad.add (i * 4)).off + 3, none⟩ = some (.slice (xs.getD i z).2.2.2.1 (xs.getD i z).2.2.2.2.1 (xs.getD i z).2.2.2.2.2) := by
 obtain ⟨ad, c, e, _, hK, hc0⟩ := Kd.C_get h z (i : Int) (Int.natCast_nonneg i) (Int.ofNat_lt.2 h1)
 rw [Int.toNat_natCast] at hK hc0
 have hc : ∀ j u, c[j]? = some u → w.cell? (ad.add (i * 4 + j)) = some u := hc0
 obtain rfl : c = _ := hK
 exact ⟨ad, e, hc 0 _ rfl, by rw [← add_field _ _ 1 (by omega)]; exact hc 1 _ rfl, by rw [← add_field _ _ 2 (by omega)]; exact hc 2 _ rfl, by rw [← add_field _ _ 3 (by omega)]; exact hc 3 _ rfl⟩
theorem getD_at (l : List Sn) (i : Nat) (h : i < l.length) (z : Sn) : l.getD i z = l[i] := by
 rw [List.getD_eq_getElem?_getD, List.getElem?_eq_getElem h]; rfl
theorem zeroCells_succ (z : Array Value) (m : Nat) (hz : 0 < z.size) : (Builtin.zeroCells z (m + 1)).toList = z.toList ++ (Builtin.zeroCells z m).toList := by
 apply List.ext_getElem?
 intro i
 simp only [Builtin.zeroCells, Array.toList_map, Array.toList_range, List.getElem?_map, List.getElem?_append]
 have hs : (m + 1) * z.size = z.size + m * z.size := by rw [Nat.succ_mul, Nat.add_comm]
 rcases Nat.lt_or_ge i z.size with h1 | h1
 ·rw [if_pos (by simpa using h1), List.getElem?_range (by omega)]
  simp [Nat.mod_eq_of_lt h1, h1]
 ·rw [if_neg (by simpa using h1)]
  rcases Nat.lt_or_ge i (z.size + m * z.size) with h2 | h2
  ·rw [List.getElem?_range (by omega), List.getElem?_range (by simp; omega)]
   simp only [Option.map_some, Array.length_toList, Option.some.injEq]
   rw [Nat.mod_eq_sub_mod h1]
  ·rw [List.getElem?_eq_none (by simp; omega), List.getElem?_eq_none (by simp; omega)]
theorem setCells_append (b : Nat) : ∀ (l1 l2 : List Value) (o : Nat) (w : World), World.setCells w b o (l1 ++ l2) = World.setCells (World.setCells w b o l1) b (o + l1.length) l2
 | [], _, _, _ => rfl
 | v :: r, l2, o, w => by
  rw [List.cons_append, World.setCells, World.setCells, setCells_append b r l2 (o + 1), List.length_cons, show o + 1 + r.length = o + (r.length + 1) by omega]
/-- The cells of snapshot i, all at once. -/
theorem sn_set {W : World} {base n cap g i : Nat} {ok : Nat → Prop} {xs : List Sn} (h : Kd.R kSn 70 W base ok (.slice (some ⟨g, 0, none⟩) n cap) xs) (hi : i < n) {x : Sn} {seg : List Value} (hF : snCells x seg) :
  Kd.R kSn 70 (W.setCells g (i * 4) seg) base ok (.slice (some ⟨g, 0, none⟩) n cap) (xs.set i x) ∧ W.grownBy (W.setCells g (i * 4) seg) (some g) := by
 obtain ⟨c, hcl, _, hcc, _⟩ := Kd.R_elem h zSn (i : Int) (by omega) (by omega)
 have hl : seg.length = 4 := by rw [show seg = _ from hF]; rfl
 have hcl4 : c.length = 4 := hcl
 have hs : c.take 0 ++ seg ++ c.drop (0 + seg.length) = seg := by
  rw [Nat.zero_add, hl, ← hcl4, List.drop_length]
  simp
 have := Kd.R_seg h (i : Int) (by omega) (by omega) (seg := seg) (j := 0) (okp := fun _ => False) hcl hcc (by rw [hl]; exact Nat.le_refl 4) (x' := x) (by rw [hs]; exact hF) (fun _ hk => hk.elim)
 exact (by simpa using this : Kd.R kSn 70 (W.setCells g (i * kSn.sz) seg) base ok (.slice (some ⟨g, 0, none⟩) n cap) (xs.set i x) ∧ W.grownBy (W.setCells g (i * kSn.sz) seg) (some g))
def zeroSn : Array Value := #[.int .i64 0, .int .i64 0, .int .i64 0, .slice none 0 0]
theorem sn_zero {base n cap g : Nat} {ok : Nat → Prop} : ∀ (m i : Nat) (W : World) (xs : List Sn), Kd.R kSn 70 W base ok (.slice (some ⟨g, 0, none⟩) n cap) xs → i + m = n →
  Kd.R kSn 70 (W.setCells g (i * 4) (Builtin.zeroCells zeroSn m).toList) base ok (.slice (some ⟨g, 0, none⟩) n cap) (xs.take i ++ List.replicate m zSn) ∧ W.grownBy (W.setCells g (i * 4) (Builtin.zeroCells zeroSn m).toList) (some g)
 | 0, i, W, xs, h, he => by
  have hl := (Kd.R_reads' h).1
  have e1 : (Builtin.zeroCells zeroSn 0).toList = [] := by simp [Builtin.zeroCells]
  rw [e1, show i = xs.length by omega, List.take_length]
  exact ⟨by simpa [World.setCells] using h, World.grownBy.refl _ _⟩
 | m + 1, i, W, xs, h, he => by
  have hl := (Kd.R_reads' h).1
  obtain ⟨h1, g1⟩ := sn_set h (show i < n by omega) (x := zSn) (seg := zeroSn.toList) rfl
  obtain ⟨h2, g2⟩ := sn_zero m (i + 1) _ _ h1 (by omega)
  rw [zeroCells_succ zeroSn m (by decide), setCells_append]
  have e1 : i * 4 + zeroSn.toList.length = (i + 1) * 4 := by show i * 4 + 4 = _; omega
  rw [e1]
  have e2 : (xs.set i zSn).take (i + 1) ++ List.replicate m zSn = xs.take i ++ List.replicate (m + 1) zSn := by
   rw [List.take_add_one, List.take_set_of_le (Nat.le_refl i), List.getElem?_set_self (by omega)]
   simp [List.replicate_succ]
  rw [e2] at h2
  exact ⟨h2, g1.trans g2⟩
set_option maxRecDepth 100000 in
theorem sn_clear (w : World) (ty : TypeId) {base n cap g i : Nat} {ok : Nat → Prop} {xs : List Sn} (h : Kd.R kSn 70 w base ok (.slice (some ⟨g, 0, none⟩) n cap) xs) (hi : i < n) (c : Nat) :
  (Builtin.clear_ #[68] ty #[.slice (some ⟨g, i * 4, none⟩) (n - i) c]).run Try.prog w = .ok (.tuple #[]) (w.setCells g (i * 4) (Builtin.zeroCells zeroSn (n - i)).toList) := by
 have hv : ∀ w, (zeroValue 70).run Try.prog w = .ok (.agg zeroSn) w := fun w => rfl
 have hl : (Builtin.zeroCells zeroSn (n - i)).toList.length = (n - i) * 4 := by simp [Builtin.zeroCells]; rfl
 have hat : ∀ j, j < (n - i) * 4 → (w.cell? ⟨g, i * 4 + j, none⟩).isSome = true ∧ w.frozen? ⟨g, i * 4 + j, none⟩ = false := by
  intro j hj
  obtain ⟨c, hcl, _, hcc, hfr⟩ := Kd.R_elem h zSn ((i + j / 4 : Nat) : Int) (by omega) (by omega)
  have hcl' : c.length = 4 := hcl
  have h1 := hcc (j % 4) _ (List.getElem?_eq_getElem (by omega))
  have h2 := hfr (j % 4)
  have e : ((i + j / 4 : Nat) : Int).toNat * kSn.sz + j % 4 = i * 4 + j := by
   show ((i + j / 4 : Nat) : Int).toNat * 4 + j % 4 = i * 4 + j
   rw [Int.toNat_natCast]; omega
  rw [e] at h1 h2
  exact ⟨by rw [h1]; rfl, h2⟩
 have hst := run_storeCells_cells (P := Try.prog) g (i * 4) (Builtin.zeroCells zeroSn (n - i)).toList 0 w (by intro j hj; rw [hl] at hj; rw [Nat.add_zero]; exact (hat j hj).1) (by intro j hj; rw [hl] at hj; rw [Nat.add_zero]; exact (hat j hj).2) (by
  intro v hv'
  simp only [Builtin.zeroCells, Array.toList_map, List.mem_map] at hv'
  obtain ⟨q, _, rfl⟩ := hv'
  have hq : q % zeroSn.size < 4 := Nat.mod_lt _ (by decide)
  generalize q % zeroSn.size = y at hq
  match y, hq with
  | 0, _ => rfl
  | 1, _ => rfl
  | 2, _ => rfl
  | 3, _ => rfl)
 rw [Nat.add_zero] at hst
 obtain ⟨m, hm⟩ : ∃ m, n - i = m + 1 := ⟨n - i - 1, by omega⟩
 rw [hm] at hst ⊢
 simp [Builtin.clear_, run_underlying Try.underlying68, hv, Value.cells, hst]
/-- What stands at the round's start: i are kept of the first j. -/
structure KeptSn (n : Int) (l0 cur : List Sn) (i j : Nat) : Prop where
 len : cur.length = l0.length
 ij : i < j
 jn : j ≤ l0.length
 front : cur.take i = (l0.take j).filter fun s => decide (s.1 ≠ n)
 back : cur.drop j = l0.drop j
theorem KeptSn.start {n : Int} {l0 : List Sn} {i : Nat} (h1 : i < l0.length) (h2 : (l0.getD i zSn).1 = n) (h3 : ∀ j : Nat, j < i → (l0.getD j zSn).1 ≠ n) : KeptSn n l0 l0 i (i + 1) := by
 refine ⟨rfl, by omega, by omega, ?_, rfl⟩
 rw [getD_at l0 i h1] at h2
 rw [List.take_add_one, List.getElem?_eq_getElem h1, List.filter_append]
 have e1 : (l0.take i).filter (fun s => decide (s.1 ≠ n)) = l0.take i := by
  refine List.filter_eq_self.2 fun x hx => ?_
  obtain ⟨j, hj, rfl⟩ := List.getElem_of_mem hx
  rw [List.length_take] at hj
  rw [List.getElem_take, ← getD_at l0 j (by omega) zSn]
  simpa using h3 j (by omega)
 rw [e1]
 simp [h2]
theorem KeptSn.at_ {n : Int} {l0 cur : List Sn} {i j : Nat} (h : KeptSn n l0 cur i j) (hj : j < l0.length) : cur[j]? = l0[j]? := by
 have h1 := congrArg (fun l => l[0]?) h.back
 simpa [List.getElem?_drop] using h1
theorem KeptSn.skip {n : Int} {l0 cur : List Sn} {i j : Nat} (h : KeptSn n l0 cur i j) (hj : j < l0.length) (hg : (l0.getD j zSn).1 = n) : KeptSn n l0 cur i (j + 1) := by
 have h1 := h.ij
 refine ⟨h.len, by omega, by omega, ?_, ?_⟩
 ·rw [getD_at l0 j hj] at hg
  rw [h.front, List.take_add_one, List.getElem?_eq_getElem hj, List.filter_append]
  simp [hg]
 ·rw [← List.drop_drop, ← List.drop_drop, h.back]
theorem KeptSn.keep {n : Int} {l0 cur : List Sn} {i j : Nat} (h : KeptSn n l0 cur i j) (hj : j < l0.length) (hg : (l0.getD j zSn).1 ≠ n) : KeptSn n l0 (cur.set i (l0.getD j zSn)) (i + 1) (j + 1) := by
 have h1 := h.ij
 have h2 := h.len
 rw [getD_at l0 j hj] at hg ⊢
 refine ⟨by simpa using h.len, by omega, by omega, ?_, ?_⟩
 ·rw [List.take_add_one, List.take_set_of_le (Nat.le_refl i), List.getElem?_set_self (by omega), h.front, List.take_add_one, List.getElem?_eq_getElem hj, List.filter_append]
  simp [hg]
 ·rw [List.drop_set_of_lt (by omega), ← List.drop_drop, ← List.drop_drop, h.back]
theorem firstSn (n : Int) (l0 : List Sn) : (∀ j : Nat, j < l0.length → (l0.getD j zSn).1 ≠ n) ∨ ∃ i : Nat, i < l0.length ∧ (l0.getD i zSn).1 = n ∧ ∀ j : Nat, j < i → (l0.getD j zSn).1 ≠ n := by
 have h : ∀ m, m ≤ l0.length → (∀ j : Nat, j < m → (l0.getD j zSn).1 ≠ n) ∨ ∃ i : Nat, i < l0.length ∧ (l0.getD i zSn).1 = n ∧ ∀ j : Nat, j < i → (l0.getD j zSn).1 ≠ n := by
  intro m
  induction m with
  | zero => exact fun _ => .inl fun j hj => by omega
  | succ m ih =>
   intro hn
   rcases ih (by omega) with h | h
   ·by_cases hg : (l0.getD m zSn).1 = n
    ·exact .inr ⟨m, by omega, hg, h⟩
    ·refine .inl fun j hj => ?_
     rcases Nat.lt_or_ge j m with h1 | h1
     ·exact h j h1
     ·rw [show j = m by omega]; exact hg
   ·exact .inr h
 exact h _ (Nat.le_refl _)
theorem filterSn_all {n : Int} {l0 : List Sn} (h : ∀ j : Nat, j < l0.length → (l0.getD j zSn).1 ≠ n) : l0.filter (fun s => decide (s.1 ≠ n)) = l0 := by
 refine List.filter_eq_self.2 fun x hx => ?_
 obtain ⟨j, hj, rfl⟩ := List.getElem_of_mem hx
 rw [← getD_at l0 j hj zSn]
 simpa using h j hj
set_option maxRecDepth 100000 in
theorem sn_at1.calls (s : Sn) (n : Int) (sb : Nat) (b : Bool) (w : World) (hbx : w.heap[sb]? = some (.cells #[.int .i64 n] 3 (0, 0))) (hb : (s.1 == n) = b) :
  Calls Try.prog 47 #[.agg #[.int .i64 s.1, .int .i64 s.2.1, .int .i64 s.2.2.1, .slice s.2.2.2.1 s.2.2.2.2.1 s.2.2.2.2.2], .pointer (some ⟨sb, 0, none⟩)] w fun e w' => e = .returned (.bool b) ∧ Below w.heap.size w w' := by
 have hc : ∀ o, (w.alloc o).cell? ⟨sb, 0, none⟩ = some (.int .i64 n) := fun o => blk_cell (blk_alloc hbx o) 0
 clear hbx
 go_enter Try.func47, Try.ntmps47
 go_wp2
 go_ret
 exact ⟨by first | exact congrArg _ (congrArg _ hb) | simp [hb], by repeat (first | (with_reducible first | exact Below.refl _ _ | apply below_alloc | apply pw_below_drewN | apply below_drew1) | exact Below.refl _ _)⟩
set_option maxHeartbeats 4000000 in
set_option maxRecDepth 100000 in
theorem sn_IndexFunc_at.calls (A0 : Option Addr) (c0 : Nat) (l0 : List Sn) (n : Int) (sb : Nat) (w : World) (hr0 : Kd.C kSn w A0 l0.length l0) (hlen : l0.length < 1152921504606846976) (hbx : w.heap[sb]? = some (.cells #[.int .i64 n] 3 (0, 0))) :
  Calls Try.prog 46 #[.slice A0 l0.length c0, .func (.func 47) #[] #[.pointer (some ⟨sb, 0, none⟩)]] w fun e w' => ((∃ i : Nat, i < l0.length ∧ (l0.getD i zSn).1 = n ∧ (∀ j : Nat, j < i → (l0.getD j zSn).1 ≠ n) ∧ e = .returned (.int .i64 (i : Int))) ∨ ((∀ j : Nat, j < l0.length → (l0.getD j zSn).1 ≠ n) ∧ e = .returned (.int .i64 (-1)))) ∧ Below w.heap.size w w' := by
 have HR0 := Aside0.mk hr0
 have HX := Aside0.mk hbx
 clear hr0 hbx
 go_enter Try.func46, Try.ntmps46
 go_wp2
 go_loopw [8] (fun v8 wr => ∃ (i : Nat), v8 = .int .i64 (i : Int) ∧ i ≤ l0.length ∧ Aside0 (∀ j : Nat, j < i → (l0.getD j zSn).1 ≠ n) ∧ Aside0 (Below w.heap.size w wr)) (fun v8 _ => l0.length - (intOf v8).toNat)
 case atStart => exact ⟨0, rfl, by omega, ⟨fun j hj => by omega⟩, ⟨Below.refl _ _⟩⟩
 case round =>
  obtain ⟨i, rfl, hil, HJ, HB⟩ := hrel
  by_cases c1 : i < l0.length
  ·have d1 : decide (i < l0.length) = true := decide_eq_true c1
   have p : (0 : Int) ≤ (i : Int) := by omega
   have q : (i : Int) < (l0.length : Int) := by omega
   obtain ⟨ad, e, hx0, hx1, hx2, hx3⟩ := at_SnX (Kd.C_below HR0.out HB.out) i c1 zSn
   cases e
   obtain ⟨s, hs⟩ : ∃ s, l0.getD i zSn = s := ⟨_, rfl⟩
   rw [hs] at hx0 hx1 hx2 hx3
   have HS := Aside0.mk hs
   clear hs
   obtain ⟨b, hb0⟩ : ∃ b, (s.1 == n) = b := ⟨_, rfl⟩
   have HB0 := Aside0.mk hb0
   clear hb0
   cases b with
   | false =>
    go_wp2_with (go_at_call 47; refine (sn_at1.calls s n sb false _ (blk_below HX.out HB.out) HB0.out).mono ?_; rintro e w2 ⟨rfl, hb⟩; have HB2 := Aside0.mk (below_then HB.out HB.out.size hb); clear hb HB)
    go_roundw
    case rel => exact ⟨i + 1, by congr 1, by omega, ⟨fun j hj => by
     rcases Nat.lt_or_ge j i with h1 | h1
     ·exact HJ.out j h1
     ·rw [show j = i by omega, HS.out]; simpa using HB0.out⟩, HB2⟩
    case measure => simp [intOf]; omega
   | true =>
    go_wp2_with (go_at_call 47; refine (sn_at1.calls s n sb true _ (blk_below HX.out HB.out) HB0.out).mono ?_; rintro e w2 ⟨rfl, hb⟩; have HB2 := Aside0.mk (below_then HB.out HB.out.size hb); clear hb HB)
    go_ret
    exact ⟨.inl ⟨i, c1, by rw [HS.out]; simpa using HB0.out, HJ.out, rfl⟩, HB2.out⟩
  ·have d1 : decide (i < l0.length) = false := decide_eq_false c1
   go_wp2
   go_ret
   exact ⟨.inr ⟨fun j hj => HJ.out j (by omega), rfl⟩, HB.out⟩
theorem sn_IndexFunc_at.at_ (A0 : Option Addr) (c0 : Nat) (l0 : List Sn) (n : Int) (sb i : Nat) (w : World) (hr0 : Kd.C kSn w A0 l0.length l0) (hlen : l0.length < 1152921504606846976) (hbx : w.heap[sb]? = some (.cells #[.int .i64 n] 3 (0, 0))) (h1 : i < l0.length) (h2 : (l0.getD i zSn).1 = n) (h3 : ∀ j : Nat, j < i → (l0.getD j zSn).1 ≠ n) :
  Calls Try.prog 46 #[.slice A0 l0.length c0, .func (.func 47) #[] #[.pointer (some ⟨sb, 0, none⟩)]] w fun e w' => e = .returned (.int .i64 (i : Int)) ∧ Below w.heap.size w w' := by
 refine (sn_IndexFunc_at.calls A0 c0 l0 n sb w hr0 hlen hbx).mono ?_
 rintro e w1 ⟨⟨i1, h4, h5, h6, rfl⟩ | ⟨h4, rfl⟩, hb⟩
 ·rcases Nat.lt_trichotomy i i1 with h7 | h7 | h7
  ·exact absurd h2 (h6 i h7)
  ·rw [h7]; exact ⟨rfl, hb⟩
  ·exact absurd h5 (h3 i1 h7)
 ·exact absurd h2 (h4 i h1)
theorem sn_IndexFunc_at.none_ (A0 : Option Addr) (c0 : Nat) (l0 : List Sn) (n : Int) (sb : Nat) (w : World) (hr0 : Kd.C kSn w A0 l0.length l0) (hlen : l0.length < 1152921504606846976) (hbx : w.heap[sb]? = some (.cells #[.int .i64 n] 3 (0, 0))) (h3 : ∀ j : Nat, j < l0.length → (l0.getD j zSn).1 ≠ n) :
  Calls Try.prog 46 #[.slice A0 l0.length c0, .func (.func 47) #[] #[.pointer (some ⟨sb, 0, none⟩)]] w fun e w' => e = .returned (.int .i64 (-1)) ∧ Below w.heap.size w w' := by
 refine (sn_IndexFunc_at.calls A0 c0 l0 n sb w hr0 hlen hbx).mono ?_
 rintro e w1 ⟨⟨i1, h4, h5, h6, rfl⟩ | ⟨h4, rfl⟩, hb⟩
 ·exact absurd h5 (h3 i1 h4)
 ·exact ⟨rfl, hb⟩
set_option maxRecDepth 100000 in
theorem sn_drop1.calls (s : Sn) (n : Int) (sb : Nat) (b : Bool) (w : World) (hbx : w.heap[sb]? = some (.cells #[.int .i64 n] 3 (0, 0))) (hb : (s.1 == n) = b) :
  Calls Try.prog 45 #[.agg #[.int .i64 s.1, .int .i64 s.2.1, .int .i64 s.2.2.1, .slice s.2.2.2.1 s.2.2.2.2.1 s.2.2.2.2.2], .pointer (some ⟨sb, 0, none⟩)] w fun e w' => e = .returned (.bool b) ∧ Below w.heap.size w w' := by
 have hc : ∀ o, (w.alloc o).cell? ⟨sb, 0, none⟩ = some (.int .i64 n) := fun o => blk_cell (blk_alloc hbx o) 0
 clear hbx
 go_enter Try.func45, Try.ntmps45
 go_wp2
 go_ret
 exact ⟨by first | exact congrArg _ (congrArg _ hb) | simp [hb], by repeat (first | (with_reducible first | exact Below.refl _ _ | apply below_alloc | apply pw_below_drewN | apply below_drew1) | exact Below.refl _ _)⟩
set_option maxHeartbeats 4000000 in
set_option maxRecDepth 100000 in
theorem sn_IndexFunc_drop.calls (A0 : Option Addr) (c0 : Nat) (l0 : List Sn) (n : Int) (sb : Nat) (w : World) (hr0 : Kd.C kSn w A0 l0.length l0) (hlen : l0.length < 1152921504606846976) (hbx : w.heap[sb]? = some (.cells #[.int .i64 n] 3 (0, 0))) :
  Calls Try.prog 46 #[.slice A0 l0.length c0, .func (.func 45) #[] #[.pointer (some ⟨sb, 0, none⟩)]] w fun e w' => ((∃ i : Nat, i < l0.length ∧ (l0.getD i zSn).1 = n ∧ (∀ j : Nat, j < i → (l0.getD j zSn).1 ≠ n) ∧ e = .returned (.int .i64 (i : Int))) ∨ ((∀ j : Nat, j < l0.length → (l0.getD j zSn).1 ≠ n) ∧ e = .returned (.int .i64 (-1)))) ∧ Below w.heap.size w w' := by
 have HR0 := Aside0.mk hr0
 have HX := Aside0.mk hbx
 clear hr0 hbx
 go_enter Try.func46, Try.ntmps46
 go_wp2
 go_loopw [8] (fun v8 wr => ∃ (i : Nat), v8 = .int .i64 (i : Int) ∧ i ≤ l0.length ∧ Aside0 (∀ j : Nat, j < i → (l0.getD j zSn).1 ≠ n) ∧ Aside0 (Below w.heap.size w wr)) (fun v8 _ => l0.length - (intOf v8).toNat)
 case atStart => exact ⟨0, rfl, by omega, ⟨fun j hj => by omega⟩, ⟨Below.refl _ _⟩⟩
 case round =>
  obtain ⟨i, rfl, hil, HJ, HB⟩ := hrel
  by_cases c1 : i < l0.length
  ·have d1 : decide (i < l0.length) = true := decide_eq_true c1
   have p : (0 : Int) ≤ (i : Int) := by omega
   have q : (i : Int) < (l0.length : Int) := by omega
   obtain ⟨ad, e, hx0, hx1, hx2, hx3⟩ := at_SnX (Kd.C_below HR0.out HB.out) i c1 zSn
   cases e
   obtain ⟨s, hs⟩ : ∃ s, l0.getD i zSn = s := ⟨_, rfl⟩
   rw [hs] at hx0 hx1 hx2 hx3
   have HS := Aside0.mk hs
   clear hs
   obtain ⟨b, hb0⟩ : ∃ b, (s.1 == n) = b := ⟨_, rfl⟩
   have HB0 := Aside0.mk hb0
   clear hb0
   cases b with
   | false =>
    go_wp2_with (go_at_call 45; refine (sn_drop1.calls s n sb false _ (blk_below HX.out HB.out) HB0.out).mono ?_; rintro e w2 ⟨rfl, hb⟩; have HB2 := Aside0.mk (below_then HB.out HB.out.size hb); clear hb HB)
    go_roundw
    case rel => exact ⟨i + 1, by congr 1, by omega, ⟨fun j hj => by
     rcases Nat.lt_or_ge j i with h1 | h1
     ·exact HJ.out j h1
     ·rw [show j = i by omega, HS.out]; simpa using HB0.out⟩, HB2⟩
    case measure => simp [intOf]; omega
   | true =>
    go_wp2_with (go_at_call 45; refine (sn_drop1.calls s n sb true _ (blk_below HX.out HB.out) HB0.out).mono ?_; rintro e w2 ⟨rfl, hb⟩; have HB2 := Aside0.mk (below_then HB.out HB.out.size hb); clear hb HB)
    go_ret
    exact ⟨.inl ⟨i, c1, by rw [HS.out]; simpa using HB0.out, HJ.out, rfl⟩, HB2.out⟩
  ·have d1 : decide (i < l0.length) = false := decide_eq_false c1
   go_wp2
   go_ret
   exact ⟨.inr ⟨fun j hj => HJ.out j (by omega), rfl⟩, HB.out⟩
theorem sn_IndexFunc_drop.at_ (A0 : Option Addr) (c0 : Nat) (l0 : List Sn) (n : Int) (sb i : Nat) (w : World) (hr0 : Kd.C kSn w A0 l0.length l0) (hlen : l0.length < 1152921504606846976) (hbx : w.heap[sb]? = some (.cells #[.int .i64 n] 3 (0, 0))) (h1 : i < l0.length) (h2 : (l0.getD i zSn).1 = n) (h3 : ∀ j : Nat, j < i → (l0.getD j zSn).1 ≠ n) :
  Calls Try.prog 46 #[.slice A0 l0.length c0, .func (.func 45) #[] #[.pointer (some ⟨sb, 0, none⟩)]] w fun e w' => e = .returned (.int .i64 (i : Int)) ∧ Below w.heap.size w w' := by
 refine (sn_IndexFunc_drop.calls A0 c0 l0 n sb w hr0 hlen hbx).mono ?_
 rintro e w1 ⟨⟨i1, h4, h5, h6, rfl⟩ | ⟨h4, rfl⟩, hb⟩
 ·rcases Nat.lt_trichotomy i i1 with h7 | h7 | h7
  ·exact absurd h2 (h6 i h7)
  ·rw [h7]; exact ⟨rfl, hb⟩
  ·exact absurd h5 (h3 i1 h7)
 ·exact absurd h2 (h4 i h1)
theorem sn_IndexFunc_drop.none_ (A0 : Option Addr) (c0 : Nat) (l0 : List Sn) (n : Int) (sb : Nat) (w : World) (hr0 : Kd.C kSn w A0 l0.length l0) (hlen : l0.length < 1152921504606846976) (hbx : w.heap[sb]? = some (.cells #[.int .i64 n] 3 (0, 0))) (h3 : ∀ j : Nat, j < l0.length → (l0.getD j zSn).1 ≠ n) :
  Calls Try.prog 46 #[.slice A0 l0.length c0, .func (.func 45) #[] #[.pointer (some ⟨sb, 0, none⟩)]] w fun e w' => e = .returned (.int .i64 (-1)) ∧ Below w.heap.size w w' := by
 refine (sn_IndexFunc_drop.calls A0 c0 l0 n sb w hr0 hlen hbx).mono ?_
 rintro e w1 ⟨⟨i1, h4, h5, h6, rfl⟩ | ⟨h4, rfl⟩, hb⟩
 ·exact absurd h5 (h3 i1 h4)
 ·exact ⟨rfl, hb⟩
set_option maxHeartbeats 8000000 in
set_option maxRecDepth 100000 in
theorem sn_DeleteFunc.calls (base : Nat) (ok : Nat → Prop) (A0 : Option Addr) (c0 : Nat) (l0 : List Sn) (n : Int) (sb : Nat) (w : World) (ho : Kd.R kSn 70 w base ok (.slice A0 l0.length c0) l0) (hlen : l0.length < 1152921504606846976) (hbx : w.heap[sb]? = some (.cells #[.int .i64 n] 3 (0, 0))) :
  Calls Try.prog 44 #[.slice A0 l0.length c0, .func (.func 45) #[] #[.pointer (some ⟨sb, 0, none⟩)]] w fun e w' => ∃ v, e = .returned v ∧ Kd.R kSn 70 w' base ok v (l0.filter fun s => decide (s.1 ≠ n)) ∧ v.ownBlock = (Value.slice A0 l0.length c0).ownBlock ∧ Chg w w' (fun i => some i = (Value.slice A0 l0.length c0).ownBlock) := by
 have hc0 := (Kd.R_reads' ho).2.1
 have HO := Aside0.mk ho
 have HX := Aside0.mk hbx
 clear ho hbx
 rcases firstSn n l0 with hn | ⟨i0, hi1, hi2, hi3⟩
 ·have HN := Aside0.mk hn
  clear hn
  go_enter Try.func44, Try.ntmps44
  go_wp2_with (go_at_call 46; refine (sn_IndexFunc_drop.none_ A0 c0 l0 n sb _ (Kd.R_reads' HO.out).2.2 hlen HX.out HN.out).mono ?_; rintro e w1 ⟨rfl, hb⟩; have HB := Aside0.mk hb; clear hb)
  go_ret
  refine ⟨_, rfl, ?_, rfl, Chg.of_below HB.out _⟩
  rw [filterSn_all HN.out]
  exact Kd.R_below HO.out HB.out
 ·have HI2 := Aside0.mk hi2
  have HI3 := Aside0.mk hi3
  have HK0 := Aside0.mk (KeptSn.start hi1 hi2 hi3)
  clear hi2 hi3
  obtain ⟨g, cap, eA, hgb, hgl, cellsG, hgc⟩ := Kd.R_form HO.out (by omega)
  injection eA with ea en ec
  subst ea ec
  clear en
  have hSN : some sb ≠ (Value.slice (some ⟨g, 0, none⟩) l0.length c0).ownBlock := Kd.R_ne HO.out HX.out (by decide)
  have HSN := Aside0.mk hSN
  clear hSN hgc
  have HSg : Aside0 (some g = (Value.slice (some ⟨g, 0, none⟩) l0.length c0).ownBlock) := ⟨by simp [Value.ownBlock]⟩
  have d0 : ((i0 : Int) == -1) = false := beq_eq_false_iff_ne.mpr (by omega)
  go_enter Try.func44, Try.ntmps44
  go_wp2_with (go_at_call 46; refine (sn_IndexFunc_drop.at_ _ c0 l0 n sb i0 _ (Kd.R_reads' HO.out).2.2 hlen HX.out hi1 HI2.out HI3.out).mono ?_; rintro e w1 ⟨rfl, hb⟩; have HB := Aside0.mk hb; clear hb)
  have HO1 := Aside0.mk (Kd.R_below HO.out HB.out)
  have HC1 := Aside0.mk (Chg.of_below HB.out (fun i => some i = (Value.slice (some ⟨g, 0, none⟩) l0.length c0).ownBlock))
  go_loopw [5, 6] (fun v5 v6 wr => ∃ (i j : Nat) (cur : List Sn), v5 = .int .i64 (i : Int) ∧ v6 = .int .i64 (j : Int) ∧ Aside0 (KeptSn n l0 cur i j) ∧ Aside0 (Kd.R kSn 70 wr base ok (.slice (some ⟨g, 0, none⟩) l0.length c0) cur) ∧ Aside0 (Chg w wr (fun i => some i = (Value.slice (some ⟨g, 0, none⟩) l0.length c0).ownBlock))) (fun _ v6 _ => l0.length - (intOf v6).toNat)
  case atStart => exact ⟨i0, i0 + 1, l0, rfl, by congr 1, HK0, HO1, HC1⟩
  case round =>
   clear HO1 HC1 HB HI2 HI3 HK0 d0
   obtain ⟨i, j, cur, rfl, rfl, HK, HO1, HC1⟩ := hrel
   have hij : i < j := HK.out.ij
   have hjn : j ≤ l0.length := HK.out.jn
   have HX1 := Aside0.mk ((HC1.out.block sb (blk_lt HX.out) HSN.out).trans HX.out)
   by_cases c1 : j < l0.length
   ·have d1 : decide (j < l0.length) = true := decide_eq_true c1
    have p : (0 : Int) ≤ (j : Int) := Int.natCast_nonneg j
    have q : (j : Int) < (l0.length : Int) := Int.ofNat_lt.2 c1
    obtain ⟨c, hcl, hM, hcc, hfr⟩ := Kd.R_elem HO1.out zSn (j : Int) p q
    have hxx : cur.getD ((j : Int)).toNat zSn = l0.getD j zSn := by
     rw [getD_at l0 j c1, Int.toNat_natCast, List.getD_eq_getElem?_getD, HK.out.at_ c1, List.getElem?_eq_getElem c1]
     rfl
    rw [hxx] at hM
    obtain ⟨s, hs⟩ : ∃ s, l0.getD j zSn = s := ⟨_, rfl⟩
    rw [hs] at hM
    have HS := Aside0.mk hs
    clear hxx hfr hcl hs
    obtain rfl : c = _ := hM
    rw [Int.toNat_natCast] at hcc
    have hx0 : wr.cell? ⟨g, j * 4, none⟩ = some (.int .i64 s.1) := hcc 0 _ rfl
    have hx1 : wr.cell? ⟨g, j * 4 + 1, none⟩ = some (.int .i64 s.2.1) := hcc 1 _ rfl
    have hx2 : wr.cell? ⟨g, j * 4 + 2, none⟩ = some (.int .i64 s.2.2.1) := hcc 2 _ rfl
    have hx3 : wr.cell? ⟨g, j * 4 + 3, none⟩ = some (.slice s.2.2.2.1 s.2.2.2.2.1 s.2.2.2.2.2) := hcc 3 _ rfl
    clear hcc
    obtain ⟨b, hb0⟩ : ∃ b, (s.1 == n) = b := ⟨_, rfl⟩
    have HB0 := Aside0.mk hb0
    clear hb0
    cases b with
    | true =>
     go_wp2_with (first | ((with_reducible refine gate_dst (N := 7) rfl ?_); refine box_event ?hg (N := 7) ?hd (cs := #[.int .i64 0, .int .i64 0, .int .i64 0, .slice none 0 0]) (t := 70) ?hr ?_; (case hd => rfl); (case hg => rfl); (case hr => first | (go_simp; done) | (go_simp; rfl)); intro gb hg w9 hbox hb; have HBr := Aside0.mk hb; have BK := Aside0.mk hbox; have GE := Aside0.mk (show wr.heap.size ≤ gb by rw [hg]; exact Nat.le_refl _); clear hb hbox hg; have hcz0 : w9.cell? ⟨gb, 0, none⟩ = some (.int .i64 0) := (blk_cell BK.out 0).trans rfl; have hfz0 := blk_frozen BK.out 0 ; have hcz1 : w9.cell? ⟨gb, 1, none⟩ = some (.int .i64 0) := (blk_cell BK.out 1).trans rfl; have hfz1 := blk_frozen BK.out 1 ; have hcz2 : w9.cell? ⟨gb, 2, none⟩ = some (.int .i64 0) := (blk_cell BK.out 2).trans rfl; have hfz2 := blk_frozen BK.out 2 ; have hcz3 : w9.cell? ⟨gb, 3, none⟩ = some (.slice none 0 0) := (blk_cell BK.out 3).trans rfl; have hfz3 := blk_frozen BK.out 3) | (go_at_call 45; refine (sn_drop1.calls s n sb true _ (blk_below HX1.out (show Below wr.heap.size wr _ from (by repeat (with_reducible first | exact HBr.out | refine below_set ?_ GE.out)))) HB0.out).mono ?_; rintro e w2 ⟨rfl, hb⟩; have n0_ := Aside0.mk (blk_below (g := gb) (o := .cells #[.int .i64 s.1, .int .i64 s.2.1, .int .i64 s.2.2.1, .slice s.2.2.2.1 s.2.2.2.2.1 s.2.2.2.2.2] 70 (0, 0)) (by refine blk_put (cs := #[.int .i64 s.1, .int .i64 s.2.1, .int .i64 s.2.2.1, .slice none 0 0]) ?_ 3 _ rfl; refine blk_put (cs := #[.int .i64 s.1, .int .i64 s.2.1, .int .i64 0, .slice none 0 0]) ?_ 2 _ rfl; refine blk_put (cs := #[.int .i64 s.1, .int .i64 0, .int .i64 0, .slice none 0 0]) ?_ 1 _ rfl; refine blk_put (cs := #[.int .i64 0, .int .i64 0, .int .i64 0, .slice none 0 0]) ?_ 0 _ rfl; with_reducible exact BK.out) hb); have n1_ := Aside0.mk (show Below wr.heap.size wr w2 from below_step (by repeat (with_reducible first | exact HBr.out | refine below_set ?_ GE.out)) hb); clear BK HBr hb; have BK := n0_; have HBr := n1_; clear n0_ n1_))
     go_roundw
     case rel => exact ⟨i, j + 1, cur, rfl, by congr 1, ⟨HK.out.skip c1 (by rw [HS.out]; simpa using HB0.out)⟩, ⟨Kd.R_below HO1.out HBr.out⟩, ⟨HC1.out.trans (Chg.of_below HBr.out _)⟩⟩
     case measure => simp [intOf]; omega
    | false =>
     go_wp2_with (first | ((with_reducible refine gate_dst (N := 7) rfl ?_); refine box_event ?hg (N := 7) ?hd (cs := #[.int .i64 0, .int .i64 0, .int .i64 0, .slice none 0 0]) (t := 70) ?hr ?_; (case hd => rfl); (case hg => rfl); (case hr => first | (go_simp; done) | (go_simp; rfl)); intro gb hg w9 hbox hb; have HBr := Aside0.mk hb; have BK := Aside0.mk hbox; have GE := Aside0.mk (show wr.heap.size ≤ gb by rw [hg]; exact Nat.le_refl _); clear hb hbox hg; have hcz0 : w9.cell? ⟨gb, 0, none⟩ = some (.int .i64 0) := (blk_cell BK.out 0).trans rfl; have hfz0 := blk_frozen BK.out 0 ; have hcz1 : w9.cell? ⟨gb, 1, none⟩ = some (.int .i64 0) := (blk_cell BK.out 1).trans rfl; have hfz1 := blk_frozen BK.out 1 ; have hcz2 : w9.cell? ⟨gb, 2, none⟩ = some (.int .i64 0) := (blk_cell BK.out 2).trans rfl; have hfz2 := blk_frozen BK.out 2 ; have hcz3 : w9.cell? ⟨gb, 3, none⟩ = some (.slice none 0 0) := (blk_cell BK.out 3).trans rfl; have hfz3 := blk_frozen BK.out 3) | (go_at_call 45; refine (sn_drop1.calls s n sb false _ (blk_below HX1.out (show Below wr.heap.size wr _ from (by repeat (with_reducible first | exact HBr.out | refine below_set ?_ GE.out)))) HB0.out).mono ?_; rintro e w2 ⟨rfl, hb⟩; have n0_ := Aside0.mk (blk_below (g := gb) (o := .cells #[.int .i64 s.1, .int .i64 s.2.1, .int .i64 s.2.2.1, .slice s.2.2.2.1 s.2.2.2.2.1 s.2.2.2.2.2] 70 (0, 0)) (by refine blk_put (cs := #[.int .i64 s.1, .int .i64 s.2.1, .int .i64 s.2.2.1, .slice none 0 0]) ?_ 3 _ rfl; refine blk_put (cs := #[.int .i64 s.1, .int .i64 s.2.1, .int .i64 0, .slice none 0 0]) ?_ 2 _ rfl; refine blk_put (cs := #[.int .i64 s.1, .int .i64 0, .int .i64 0, .slice none 0 0]) ?_ 1 _ rfl; refine blk_put (cs := #[.int .i64 0, .int .i64 0, .int .i64 0, .slice none 0 0]) ?_ 0 _ rfl; with_reducible exact BK.out) hb); have n1_ := Aside0.mk (show Below wr.heap.size wr w2 from below_step (by repeat (with_reducible first | exact HBr.out | refine below_set ?_ GE.out)) hb); clear BK HBr hb; have BK := n0_; have HBr := n1_; clear n0_ n1_; have HO2 := Aside0.mk (Kd.R_below HO1.out HBr.out); obtain ⟨c2, hcl2, hM2, hcc2, hfr2⟩ := Kd.R_elem HO2.out zSn (i : Int) (by omega) (by omega); obtain rfl : c2 = _ := hM2; rw [Int.toNat_natCast] at hcc2 hfr2; have hy0 := hcc2 0 _ rfl; have hf0 := hfr2 0; have hy1 := hcc2 1 _ rfl; have hf1 := hfr2 1; have hy2 := hcc2 2 _ rfl; have hf2 := hfr2 2; have hy3 := hcc2 3 _ rfl; have hf3 := hfr2 3; simp only [show kSn.sz = 4 from rfl, Nat.add_zero] at hy0 hy1 hy2 hy3 hf0 hf1 hf2 hf3; clear hcc2 hfr2 hcl2; have hcy0 : w2.cell? ⟨gb, 0, none⟩ = some (.int .i64 s.1) := (blk_cell BK.out 0).trans rfl; have hcy1 : w2.cell? ⟨gb, 1, none⟩ = some (.int .i64 s.2.1) := (blk_cell BK.out 1).trans rfl; have hcy2 : w2.cell? ⟨gb, 2, none⟩ = some (.int .i64 s.2.2.1) := (blk_cell BK.out 2).trans rfl; have hcy3 : w2.cell? ⟨gb, 3, none⟩ = some (.slice s.2.2.2.1 s.2.2.2.2.1 s.2.2.2.2.2) := (blk_cell BK.out 3).trans rfl) | ((with_reducible refine gate_store (t := 70) (p := 33) rfl ?_); refine store_event (t := 70) (p := 33) (v := ?vo_) (w1 := ((((w2.setCell ⟨g, i * 4, none⟩ (.int .i64 s.1)).setCell ⟨g, i * 4 + 1, none⟩ (.int .i64 s.2.1)).setCell ⟨g, i * 4 + 2, none⟩ (.int .i64 s.2.2.1)).setCell ⟨g, i * 4 + 3, none⟩ (.slice s.2.2.2.1 s.2.2.2.2.1 s.2.2.2.2.2))) ?hg ?ho ?hn ?hr ?_; (case ho => rfl); (case hg => rfl); (case hn => rfl); (case hr => first | (go_simp; done) | (go_simp; rfl)); intro w3 hw; obtain ⟨hN3, hG3⟩ := sn_set HO2.out (show i < l0.length by omega) (x := s) (seg := [.int .i64 s.1, .int .i64 s.2.1, .int .i64 s.2.2.1, .slice s.2.2.2.1 s.2.2.2.2.1 s.2.2.2.2.2]) rfl; have HO3 := Aside0.mk (by rw [hw]; exact hN3 : Kd.R kSn 70 w3 base ok (.slice (some ⟨g, 0, none⟩) l0.length c0) (cur.set i s)); have HC3 := Aside0.mk (show Chg w w3 (fun i => some i = (Value.slice (some ⟨g, 0, none⟩) l0.length c0).ownBlock) by rw [hw]; exact (HC1.out.trans (Chg.of_below HBr.out _)).trans (((((Chg.refl w2 _).trans (Chg.set _ _ _ HSg.out)).trans (Chg.set _ _ _ HSg.out)).trans (Chg.set _ _ _ HSg.out)).trans (Chg.set _ _ _ HSg.out))); clear hN3 hG3 hw))
     go_roundw
     case rel => exact ⟨i + 1, j + 1, _, by congr 1, by congr 1, ⟨HS.out ▸ HK.out.keep c1 (by rw [HS.out]; simpa using HB0.out)⟩, HO3, HC3⟩
     case measure => simp [intOf]; omega
   ·have d1 : decide (j < l0.length) = false := decide_eq_false c1
    have hin : i < l0.length := by omega
    obtain ⟨hNz, hGz⟩ := sn_zero (l0.length - i) i wr cur HO1.out (by omega)
    have HNz := Aside0.mk hNz
    have HGz := Aside0.mk hGz
    clear hNz hGz
    have hclr := sn_clear wr 0 HO1.out hin (c0 - i)
    have h5 : i ≤ c0 := by omega
    go_wp2
    go_ret
    refine ⟨_, rfl, ?_, by simp [Value.ownBlock], HC1.out.trans (Chg.of_grown HGz.out (fun k hk => by rw [hk]; exact HSg.out))⟩
    have e1 : (l0.filter fun s => decide (s.1 ≠ n)) = (cur.take i ++ List.replicate (l0.length - i) zSn).take i := by
     have e2 : (cur.take i).length = i := by rw [List.length_take, HK.out.len]; omega
     rw [List.take_append_of_le_length (by omega), List.take_of_length_le (by omega), HK.out.front, show j = l0.length by omega, List.take_length]
    have e3 := Kd.R_take HNz.out (m := i) (by rw [List.length_append, List.length_take, HK.out.len, List.length_replicate]; omega)
    rw [e1]
    exact e3
end Go.Proofs.Ytmlgfgmgolgjbaa.X
end

/-! ## mShelf -/
section
namespace Go.Proofs.Ytmlgfgmgolgjbaa.X
open Go.RowKit Go.Maps Go.Proofs.YtmlgfgmgolgjbaaW.PrintWords Go.Proofs.YtmlgfgmgolgjbaaW.PrintLast Go.Proofs.YtmlgfgmgolgjbaaW.PrintMore
set_option linter.unusedVariables false
set_option linter.unusedSimpArgs false
set_option maxRecDepth 100000 in
theorem shelf_at.at_ {cb c : Nat} {A : Option Addr} {xs : List Sn} {g n : Int} {i : Nat} {w : World} (hblk : w.heap[cb]? = some (.cells #[.slice A xs.length c, .int .i64 g] 74 (0, 0))) (hC : Kd.C kSn w A xs.length xs) (hlen : xs.length < 1000) (h1 : i < xs.length) (h2 : (xs.getD i zSn).1 = n) (h3 : ∀ j : Nat, j < i → (xs.getD j zSn).1 ≠ n) :
  Calls Try.prog 32 #[.pointer (some ⟨cb, 0, none⟩), .int .i64 n] w fun e w' => e = .returned (.int .i64 (i : Int)) ∧ Below w.heap.size w w' := by
 have hc0 : (w.alloc (.cells #[.int .i64 n] 3)).cell? ⟨cb, 0, none⟩ = some (.slice A xs.length c) := (blk_cell (blk_alloc hblk _) 0).trans rfl
 have HC := Aside0.mk (Kd.C_below hC (below_alloc (Below.refl _ w) (.cells #[.int .i64 n] 3)))
 have HX := Aside0.mk (heap_alloc_new w (.cells #[.int .i64 n] 3))
 have HB := Aside0.mk (below_alloc (Below.refl w.heap.size w) (.cells #[.int .i64 n] 3))
 have H2 := Aside0.mk h2
 have H3 := Aside0.mk h3
 clear hblk hC h2 h3
 go_enter Try.func32, Try.ntmps32
 go_wp2_with (go_at_call 46; refine (sn_IndexFunc_at.at_ A c xs n w.heap.size i _ HC.out (by omega) HX.out h1 H2.out H3.out).mono ?_; rintro e w1 ⟨rfl, hb⟩; have B1 := Aside0.mk (below_step HB.out hb); clear hb)
 go_ret
 exact ⟨rfl, B1.out⟩
set_option maxRecDepth 100000 in
theorem shelf_at.none_ {cb c : Nat} {A : Option Addr} {xs : List Sn} {g n : Int} {w : World} (hblk : w.heap[cb]? = some (.cells #[.slice A xs.length c, .int .i64 g] 74 (0, 0))) (hC : Kd.C kSn w A xs.length xs) (hlen : xs.length < 1000) (h3 : ∀ j : Nat, j < xs.length → (xs.getD j zSn).1 ≠ n) :
  Calls Try.prog 32 #[.pointer (some ⟨cb, 0, none⟩), .int .i64 n] w fun e w' => e = .returned (.int .i64 (-1)) ∧ Below w.heap.size w w' := by
 have hc0 : (w.alloc (.cells #[.int .i64 n] 3)).cell? ⟨cb, 0, none⟩ = some (.slice A xs.length c) := (blk_cell (blk_alloc hblk _) 0).trans rfl
 have HC := Aside0.mk (Kd.C_below hC (below_alloc (Below.refl _ w) (.cells #[.int .i64 n] 3)))
 have HX := Aside0.mk (heap_alloc_new w (.cells #[.int .i64 n] 3))
 have HB := Aside0.mk (below_alloc (Below.refl w.heap.size w) (.cells #[.int .i64 n] 3))
 have H3 := Aside0.mk h3
 clear hblk hC h3
 go_enter Try.func32, Try.ntmps32
 go_wp2_with (go_at_call 46; refine (sn_IndexFunc_at.none_ A c xs n w.heap.size _ HC.out (by omega) HX.out H3.out).mono ?_; rintro e w1 ⟨rfl, hb⟩; have B1 := Aside0.mk (below_step HB.out hb); clear hb)
 go_ret
 exact ⟨rfl, B1.out⟩
set_option maxHeartbeats 1000000 in
set_option maxRecDepth 100000 in
theorem shelf_drop.calls {cb c base : Nat} {A : Option Addr} {xs : List Sn} {g n : Int} {w : World} {ok : Nat → Prop} (hblk : w.heap[cb]? = some (.cells #[.slice A xs.length c, .int .i64 g] 74 (0, 0))) (hR : Kd.R kSn 70 w base ok (.slice A xs.length c) xs) (hlen : xs.length < 1000) :
  Calls Try.prog 31 #[.pointer (some ⟨cb, 0, none⟩), .int .i64 n] w fun e w' => (∃ v, e = .returned v) ∧ ∃ v', w'.heap[cb]? = some (.cells #[v', .int .i64 g] 74 (0, 0)) ∧ Kd.R kSn 70 w' base (fun _ => True) v' (xs.filter fun s => decide (s.1 ≠ n)) ∧ v'.ownBlock = (Value.slice A xs.length c).ownBlock ∧ Chg w w' (fun i => i = cb ∨ some i = (Value.slice A xs.length c).ownBlock) := by
 have hc0 : (w.alloc (.cells #[.int .i64 n] 3)).cell? ⟨cb, 0, none⟩ = some (.slice A xs.length c) := (blk_cell (blk_alloc hblk _) 0).trans rfl
 have BK := Aside0.mk (blk_alloc hblk (.cells #[.int .i64 n] 3))
 have HR := Aside0.mk (Kd.R_below hR (below_alloc (Below.refl _ w) (.cells #[.int .i64 n] 3)))
 have HX := Aside0.mk (heap_alloc_new w (.cells #[.int .i64 n] 3))
 have HB := Aside0.mk (below_alloc (Below.refl w.heap.size w) (.cells #[.int .i64 n] 3))
 have HNE := Aside0.mk (Kd.R_ne hR hblk (by decide))
 clear hblk hR
 go_enter Try.func31, Try.ntmps31
 go_wp2_with (go_at_call 44; refine (sn_DeleteFunc.calls base _ A c xs n w.heap.size _ HR.out (by omega) HX.out).mono ?_; rintro e w2 ⟨v, rfl, hR2, ho2, hch⟩; have CH2 := Aside0.mk hch; have R2 := Aside0.mk hR2; have O2 := Aside0.mk ho2; obtain ⟨A2, c2, e2⟩ := Kd.R_slice hR2; obtain ⟨n2, hn2⟩ : ∃ n2, n2 = (xs.filter fun s => decide (s.1 ≠ n)).length := ⟨_, rfl⟩; rw [← hn2] at e2; clear hn2; subst e2; have BK2 := Aside0.mk ((hch.block cb (blk_lt BK.out) HNE.out).trans BK.out); have hc20 : w2.cell? ⟨cb, 0, none⟩ = some (.slice A xs.length c) := (blk_cell BK2.out 0).trans rfl; have hf20 : w2.frozen? ⟨cb, 0, none⟩ = false := blk_frozen BK2.out 0; clear hR2 ho2 hch)
 go_end0
 refine ⟨⟨_, rfl⟩, .slice A2 n2 c2, by simpa using blk_set BK2.out 0 (.slice A2 n2 c2), ?_, O2.out, ?_⟩
 ·refine Kd.R_mono (Kd.R_move (row_only R2.out) (fun q hq => Below.heap_setCell _ _ _ _ (fun e => ?_))) (fun _ _ => trivial)
  exact HNE.out (by rw [← O2.out, hq]; exact congrArg some e.symm)
 ·exact ((Chg.of_below HB.out _).trans ⟨CH2.out.os, CH2.out.tape, CH2.out.output, CH2.out.size, fun i hi hn => CH2.out.block i hi (fun e => hn (.inr e))⟩).trans (Chg.set w2 ⟨cb, 0, none⟩ (.slice A2 n2 c2) (.inl rfl))
end Go.Proofs.Ytmlgfgmgolgjbaa.X
end

/-! ## mGet -/
section
namespace Go.Proofs.Ytmlgfgmgolgjbaa.X
open Go.RowKit Go.Maps Go.Proofs.YtmlgfgmgolgjbaaW.PrintWords Go.Proofs.YtmlgfgmgolgjbaaW.PrintLast Go.Proofs.YtmlgfgmgolgjbaaW.PrintMore
set_option linter.unusedVariables false
set_option linter.unusedSimpArgs false
theorem clOf_new (C : List Cl) (k : Int) (c0 : Cl) (h : c0.key = k) : clOf (c0 :: C.filter fun c => decide (c.key ≠ k)) k = some c0 := by
 unfold clOf
 rw [List.find?_cons_of_pos (by simpa using h)]
theorem clOf_rest (C : List Cl) (k : Int) (c0 : Cl) (h : c0.key = k) {k' : Int} (hk : k' ≠ k) : clOf (c0 :: C.filter fun c => decide (c.key ≠ k)) k' = clOf C k' := by
 unfold clOf
 rw [List.find?_cons_of_neg (by simp only [h, decide_eq_true_eq]; exact fun e => hk e.symm), find_filter_keep]
 intro c hc
 have : c.key = k' := by simpa using hc
 simp [this, hk]
/-- A client's row is cut; nothing else turns. -/
theorem Held.cut {w0 w1 w' : World} {mm mb n : Nat} {C : List Cl} (h : Held w0 w1 mm mb n C) {k : Int} {cl : Cl} (hcl : clOf C k = some cl) {v' : Value} {xs' : List Sn}
  (hblk : w'.heap[cl.b]? = some (.cells #[v', .int .i64 cl.g] 74 (0, 0))) (hrow : Kd.R kSn 70 w' w0.heap.size (fun _ => True) v' xs') (hown : v'.ownBlock = cl.v.ownBlock) (hchg : Chg w1 w' (fun i => i = cl.b ∨ some i = cl.v.ownBlock)) :
  Held w0 w' mm mb n (⟨k, cl.b, v', xs', cl.g⟩ :: C.filter fun c => decide (c.key ≠ k)) ∧ Went mb C (⟨k, cl.b, v', xs', cl.g⟩ :: C.filter fun c => decide (c.key ≠ k)) w1 w' := by
 obtain ⟨hm, hkey⟩ := clOf_some hcl
 obtain ⟨hge, hcb⟩ := h.blk cl hm
 obtain ⟨D, ⟨es, clm, hmb, hrest⟩, hDl⟩ := h.map
 have hv : ∀ i, some i = cl.v.ownBlock → w0.heap.size ≤ i ∧ ∃ cs, w1.heap[i]? = some (.cells cs 70 (0, 0)) := by
  intro i hi
  obtain ⟨a1, _, a2⟩ := row_at (h.row cl hm) hi.symm
  exact ⟨a1, a2⟩
 have hoth : ∀ c ∈ C, c.key ≠ k → c.b ≠ cl.b ∧ ∀ q, c.v.ownBlock = some q → cl.v.ownBlock ≠ some q := fun c hc hne => h.apart c hc cl hm (by rw [hkey]; exact hne)
 have hmem : ∀ c, c ∈ C.filter (fun c => decide (c.key ≠ k)) → c ∈ C ∧ c.key ≠ k := fun c hc => by
  obtain ⟨a1, a2⟩ := List.mem_filter.1 hc
  exact ⟨a1, by simpa using a2⟩
 have hlt : ∀ {i : Nat} {o : Obj}, w1.heap[i]? = some o → i < w1.heap.size := fun e => (Array.getElem?_eq_some_iff.1 e).1
 have hkeep : ∀ {i : Nat} {o : Obj}, w1.heap[i]? = some o → i ≠ cl.b → some i ≠ cl.v.ownBlock → w'.heap[i]? = some o := fun e a1 a3 => (hchg.block _ (hlt e) (by rintro (e1 | e1); exact a1 e1; exact a3 e1)).trans e
 have hmb1 : mb ≠ cl.b := fun e => by rw [e, hcb] at hmb; cases hmb
 have hmb2 : some mb ≠ cl.v.ownBlock := fun e => by obtain ⟨_, cs, e2⟩ := hv mb e; rw [e2] at hmb; cases hmb
 refine ⟨⟨?_, h.mm_ge, h.mb_ge, ?_, ?_, ?_, ?_, ?_⟩, ⟨?_, ?_⟩⟩
 ·refine hchg.below h.below (fun i hi => ?_)
  rcases hi with rfl | hi
  ·exact hge
  ·exact (hv i hi).1
 ·refine hkeep h.model (fun e => ?_) (fun e => ?_)
  ·have := h.model; rw [e, hcb] at this; injection this with this; injection this with _ this _; cases this
  ·obtain ⟨_, cs, e2⟩ := hv mm e
   have := h.model; rw [e2] at this; injection this with this; injection this with _ this _; cases this
 ·refine ⟨D, ⟨es, clm, hkeep hmb hmb1 hmb2, hrest⟩, fun k' hk' z => ?_⟩
  rw [hDl k' hk' z]
  by_cases e : k' = k
  ·subst e
   rw [hcl, clOf_new C k' _ rfl]
  ·rw [clOf_rest C k _ rfl e]
 ·intro c hc
  rcases List.mem_cons.1 hc with rfl | hc
  ·exact ⟨hge, hblk⟩
  ·obtain ⟨hc, hne⟩ := hmem c hc
   refine ⟨(h.blk c hc).1, hkeep (h.blk c hc).2 (hoth c hc hne).1 (fun e => ?_)⟩
   obtain ⟨_, cs, e2⟩ := hv c.b e
   have := (h.blk c hc).2; rw [e2] at this; injection this with this; injection this with _ this _; cases this
 ·intro c hc
  rcases List.mem_cons.1 hc with rfl | hc
  ·exact hrow
  ·obtain ⟨hc, hne⟩ := hmem c hc
   refine Kd.R_mono (Kd.R_move (row_only (h.row c hc)) (fun q hq => ?_)) (fun _ _ => trivial)
   obtain ⟨_, a2, cs, a3⟩ := row_at (h.row c hc) hq
   rw [a3]
   refine hkeep a3 (fun e => ?_) (fun e => (hoth c hc hne).2 q hq e.symm)
   rw [e, hcb] at a3; injection a3 with a3; injection a3 with _ a3 _; cases a3
 ·intro c hc d hd hne
  rcases List.mem_cons.1 hc with rfl | hc
  ·rcases List.mem_cons.1 hd with rfl | hd
   ·exact absurd rfl hne
   ·obtain ⟨hd, hnd⟩ := hmem d hd
    exact ⟨fun e => (hoth d hd hnd).1 e.symm, fun q hq hq2 => (hoth d hd hnd).2 q hq2 (hown ▸ hq)⟩
  ·obtain ⟨hc, hnc⟩ := hmem c hc
   rcases List.mem_cons.1 hd with rfl | hd
   ·exact ⟨(hoth c hc hnc).1, fun q hq hq2 => (hoth c hc hnc).2 q hq (hown ▸ hq2)⟩
   ·obtain ⟨hd, hnd⟩ := hmem d hd
    exact h.apart c hc d hd hne
 ·refine ⟨hchg.size, fun i o hi h1 h2 h3 => hkeep hi (fun e => ?_) (fun e => ?_)⟩
  ·rw [e, hcb] at hi; exact h2 _ (by injection hi with hi; exact hi.symm)
  ·obtain ⟨_, cs, e2⟩ := hv i e
   rw [e2] at hi; exact h3 cs (by injection hi with hi; exact hi.symm)
 ·intro q hq
  have hq3 := hq.2.2 cl hm
  refine ⟨hchg.block q hq.1 (by rintro (e | e); exact hq3.1 e; exact hq3.2 e.symm), ?_⟩
  exact off_took (w := w1) (w1 := w1) (v := cl.v) (c0 := ⟨k, cl.b, v', xs', cl.g⟩) (Nat.le_refl _) hchg.size rfl (fun q hq => (hq.2.2 cl hm).1) (.inl hown) (fun q hq => (hq.2.2 cl hm).2) q hq
set_option maxHeartbeats 1000000 in
set_option maxRecDepth 100000 in
theorem model_Get.hit {w0 w : World} {mm mb N : Nat} {C : List Cl} (h : Held w0 w mm mb N C) {k n : Int} (hk : (Lit.int .i64 k).wf = true) {cl : Cl} (hcl : clOf C k = some cl) (hlen : cl.xs.length < 1000) {i : Nat} (h1 : i < cl.xs.length) (h2 : (cl.xs.getD i zSn).1 = n) (h3 : ∀ j : Nat, j < i → (cl.xs.getD j zSn).1 ≠ n)
  {l : List S89} (ht : TreeAt mb C w (cl.xs.getD i zSn).2.2.2 l) {kc : Nat} (hclone : model_clone.f kc l = some l) :
  Calls Try.prog 14 #[.pointer (some ⟨mm, 0, none⟩), .int .i64 k, .int .i64 n] w fun e w' => ∃ v, e = .returned (.tuple #[v, .int .i64 0]) ∧ Kd.N k89 89 w' w.heap.size (fun _ => True) v l ∧ Below w.heap.size w w' := by
 obtain ⟨hm, hkey⟩ := clOf_some hcl
 have hblk := (h.blk cl hm).2
 have hrow := h.row cl hm
 obtain ⟨kk, b, v, xs, g⟩ := cl
 dsimp only at *
 obtain ⟨A, c, rfl⟩ := Kd.R_slice hrow
 have HC := Aside0.mk (Kd.R_reads' hrow).2.2
 have H := Aside0.mk h
 have HCL := Aside0.mk hcl
 have H2 := Aside0.mk h2
 have H3 := Aside0.mk h3
 have BK := Aside0.mk hblk
 have CLN := Aside0.mk hclone
 have HT := Aside0.mk ht
 have i0 : decide ((i : Int) < 0) = false := decide_eq_false (by omega)
 have p_ : (0 : Int) ≤ (i : Int) := Int.natCast_nonneg i
 have q_ : (i : Int) < (xs.length : Int) := Int.ofNat_lt.2 h1
 have hlen' : xs.length < 1000 := hlen
 have h1' : i < xs.length := h1
 clear h hcl h2 h3 hclone ht hblk hrow hlen h1 hm hkey
 go_enter Try.func14, Try.ntmps14
 go_wp2_with (first
  | (go_at_call 26; refine (model_none.calls mm mb _ H.out.model).mono ?_; rintro e w1 ⟨rfl, hw⟩; obtain rfl : w = w1 := hw.symm; clear hw)
  | (go_at_call 28; refine (model_of.hit H.out hk HCL.out).mono ?_; rintro e w1 ⟨rfl, hw⟩; obtain rfl : w = w1 := hw.symm; clear hw)
  | (go_at_call 32; refine (shelf_at.at_ BK.out HC.out hlen' h1' H2.out H3.out).mono ?_; rintro e w2 ⟨rfl, hb⟩; have B2 := Aside0.mk hb; have hc20 : w2.cell? ⟨b, 0, none⟩ = some (.slice A xs.length c) := (blk_cell (blk_below BK.out hb) 0).trans rfl; obtain ⟨ad, rfl, hx0, hx1, hx2, hx3⟩ := at_SnX (Kd.C_below HC.out hb) i h1' zSn; have TR := Aside0.mk (show TreeAt mb C w2 (xs.getD i zSn).2.2.2 l from HT.out.after hb); generalize (xs.getD i zSn).2.2.2 = t at hx3 TR; obtain ⟨A3, n3, c3⟩ := t; obtain rfl : n3 = l.length := TR.out.1; clear hx0 hx1 hx2 hb)
  | (go_at_call 33; refine (model_clone.calls kc (fun _ => True) A3 c3 l l _ (Kd.V_mono (Kd.V_mk TR.out.2.1 TR.out.2.2) (fun _ _ => trivial)) CLN.out).mono ?_; rintro e w3 ⟨v3, rfl, hN, hb⟩; have N3 := Aside0.mk (Kd.N_lower (Kd.N_mono hN (fun _ _ => trivial)) B2.out.size); have B3 := Aside0.mk (below_step B2.out hb); clear hN hb))
 go_ret2
 exact ⟨_, rfl, N3.out, B3.out⟩
set_option maxHeartbeats 1000000 in
set_option maxRecDepth 100000 in
theorem model_Get.core {w0 w : World} {mm mb N : Nat} {C : List Cl} (h : Held w0 w mm mb N C) {k n : Int} (xs : List Sn) (hx : xs.length < 1000) (v : Value) (g : Int) (Tg : Nat → Prop) (h3 : ∀ j : Nat, j < xs.length → (xs.getD j zSn).1 ≠ n)
  (hof : ∀ W, Below w.heap.size w W → Calls Try.prog 28 #[.pointer (some ⟨mm, 0, none⟩), .int .i64 k] W fun e w1 => ∃ cb, e = .returned (.pointer (some ⟨cb, 0, none⟩)) ∧ Below W.heap.size W w1 ∧ CliAt w0 w1 cb v xs g ∧ Tg cb) :
  Calls Try.prog 14 #[.pointer (some ⟨mm, 0, none⟩), .int .i64 k, .int .i64 n] w fun e w' => e = .returned (.tuple #[.slice none 0 0, .int .i64 6]) ∧ Below w.heap.size w w' := by
 have H := Aside0.mk h
 have OF := Aside0.mk hof
 have H3 := Aside0.mk h3
 clear h hof h3
 go_enter Try.func14, Try.ntmps14
 go_wp2_with (first
  | (go_at_call 26; refine (model_none.calls mm mb _ H.out.model).mono ?_; rintro e w1 ⟨rfl, hw⟩; obtain rfl : w = w1 := hw.symm; clear hw)
  | (go_at_call 28; refine (OF.out _ (Below.refl _ _)).mono ?_; rintro e w2 ⟨cb, rfl, hb, hcl, ht⟩; obtain ⟨Av, cv, hv⟩ := Kd.R_slice hcl.row; subst hv; have B2 := Aside0.mk hb; have CL := Aside0.mk hcl; clear hb hcl ht)
  | (go_at_call 32; refine (shelf_at.none_ CL.out.blk (Kd.R_reads' CL.out.row).2.2 hx H3.out).mono ?_; rintro e w3 ⟨rfl, hb⟩; have B3 := Aside0.mk (below_step B2.out hb); clear hb))
 go_ret2
 exact ⟨rfl, B3.out⟩
theorem model_Get.miss {w0 w : World} {mm mb N : Nat} {C : List Cl} (h : Held w0 w mm mb N C) {k n : Int} (hk : (Lit.int .i64 k).wf = true) {xs : List Sn} {g : Int} (hget : getC C k = (xs, g)) (hx : xs.length < 1000) (h3 : ∀ j : Nat, j < xs.length → (xs.getD j zSn).1 ≠ n) :
  Calls Try.prog 14 #[.pointer (some ⟨mm, 0, none⟩), .int .i64 k, .int .i64 n] w fun e w' => e = .returned (.tuple #[.slice none 0 0, .int .i64 6]) ∧ Below w.heap.size w w' := by
 cases hcl : clOf C k with
 | some cl =>
  have e1 : getC C k = (cl.xs, cl.g) := by unfold getC; rw [hcl]
  rw [hget] at e1
  obtain ⟨rfl, rfl⟩ := Prod.mk.inj e1
  exact model_Get.core h cl.xs hx cl.v cl.g (fun cb => cb = cl.b) h3 (fun W hW => of_hit h hk hcl W hW)
 | none =>
  have e1 : getC C k = ([], 0) := by unfold getC; rw [hcl]
  rw [hget] at e1
  obtain ⟨rfl, rfl⟩ := Prod.mk.inj e1
  exact model_Get.core h [] hx (.slice none 0 0) 0 (fun cb => w.heap.size ≤ cb) h3 (fun W hW => of_miss h hk hcl W hW)
set_option maxHeartbeats 1000000 in
set_option maxRecDepth 100000 in
theorem model_Forget.hit {w0 w : World} {mm mb N : Nat} {C : List Cl} (h : Held w0 w mm mb N C) {k n : Int} (hk : (Lit.int .i64 k).wf = true) {cl : Cl} (hcl : clOf C k = some cl) (hlen : cl.xs.length < 1000) (hn1 : 1 ≤ n) (hn2 : n ≤ cl.g) :
  Calls Try.prog 16 #[.pointer (some ⟨mm, 0, none⟩), .int .i64 k, .int .i64 n] w fun e w' => e = .returned (.int .i64 0) ∧ ∃ v', Held w0 w' mm mb N (⟨k, cl.b, v', cl.xs.filter fun s => decide (s.1 ≠ n), cl.g⟩ :: C.filter fun c => decide (c.key ≠ k)) ∧ Went mb C (⟨k, cl.b, v', cl.xs.filter fun s => decide (s.1 ≠ n), cl.g⟩ :: C.filter fun c => decide (c.key ≠ k)) w w' := by
 obtain ⟨hm, hkey⟩ := clOf_some hcl
 have hblk := (h.blk cl hm).2
 have hrow := h.row cl hm
 obtain ⟨kk, b, v, xs, g⟩ := cl
 dsimp only at *
 obtain ⟨A, c, rfl⟩ := Kd.R_slice hrow
 have HR := Aside0.mk hrow
 have H := Aside0.mk h
 have HCL := Aside0.mk hcl
 have BK := Aside0.mk hblk
 have hc1 : w.cell? ⟨b, 1, none⟩ = some (.int .i64 g) := (blk_cell hblk 1).trans rfl
 have d1 : decide (n < 1) = false := decide_eq_false (by omega)
 have hn2' : n ≤ g := hn2
 have d2 : decide (n > g) = false := decide_eq_false (by omega)
 have d3 : decide (g < n) = false := decide_eq_false (by omega)
 have hlen' : xs.length < 1000 := hlen
 clear h hcl hblk hrow hlen hm hkey hn2
 go_enter Try.func16, Try.ntmps16
 go_wp2_with (first
  | (go_at_call 26; refine (model_none.calls mm mb _ H.out.model).mono ?_; rintro e w1 ⟨rfl, hw⟩; obtain rfl : w = w1 := hw.symm; clear hw)
  | (go_at_call 28; refine (model_of.hit H.out hk HCL.out).mono ?_; rintro e w1 ⟨rfl, hw⟩; obtain rfl : w = w1 := hw.symm; clear hw)
  | (go_at_call 31; refine (shelf_drop.calls (n := n) BK.out HR.out hlen').mono ?_; rintro e w2 ⟨⟨ve, rfl⟩, v', hb2, hr2, ho2, hch⟩; have CUT := Aside0.mk (H.out.cut HCL.out hb2 hr2 ho2 hch); clear hb2 hr2 ho2 hch))
 go_ret
 exact ⟨rfl, v', CUT.out.1, CUT.out.2⟩
set_option maxHeartbeats 1000000 in
set_option maxRecDepth 100000 in
theorem model_Forget.core {w0 w : World} {mm mb N : Nat} {C : List Cl} (h : Held w0 w mm mb N C) {k n : Int} (xs : List Sn) (v : Value) (g : Int) (Tg : Nat → Prop) (hn : n < 1 ∨ g < n)
  (hof : ∀ W, Below w.heap.size w W → Calls Try.prog 28 #[.pointer (some ⟨mm, 0, none⟩), .int .i64 k] W fun e w1 => ∃ cb, e = .returned (.pointer (some ⟨cb, 0, none⟩)) ∧ Below W.heap.size W w1 ∧ CliAt w0 w1 cb v xs g ∧ Tg cb) :
  Calls Try.prog 16 #[.pointer (some ⟨mm, 0, none⟩), .int .i64 k, .int .i64 n] w fun e w' => e = .returned (.int .i64 6) ∧ Below w.heap.size w w' := by
 have H := Aside0.mk h
 have OF := Aside0.mk hof
 clear h hof
 by_cases hn1 : n < 1
 ·have d1 : decide (n < 1) = true := decide_eq_true hn1
  clear hn hn1
  go_enter Try.func16, Try.ntmps16
  go_wp2_with (first
   | (go_at_call 26; refine (model_none.calls mm mb _ H.out.model).mono ?_; rintro e w1 ⟨rfl, hw⟩; obtain rfl : w = w1 := hw.symm; clear hw)
   | (go_at_call 28; refine (OF.out _ (Below.refl _ _)).mono ?_; rintro e w2 ⟨cb, rfl, hb, hcl, ht⟩; have B2 := Aside0.mk hb; have hc1 : w2.cell? ⟨cb, 1, none⟩ = some (.int .i64 g) := (blk_cell hcl.blk 1).trans rfl; clear hb hcl ht))
  go_ret
  exact ⟨rfl, B2.out⟩
 ·have d1 : decide (n < 1) = false := decide_eq_false hn1
  have hg : g < n := by omega
  have d2 : decide (n > g) = true := decide_eq_true hg
  have d3 : decide (g < n) = true := decide_eq_true hg
  clear hn hn1
  go_enter Try.func16, Try.ntmps16
  go_wp2_with (first
   | (go_at_call 26; refine (model_none.calls mm mb _ H.out.model).mono ?_; rintro e w1 ⟨rfl, hw⟩; obtain rfl : w = w1 := hw.symm; clear hw)
   | (go_at_call 28; refine (OF.out _ (Below.refl _ _)).mono ?_; rintro e w2 ⟨cb, rfl, hb, hcl, ht⟩; have B2 := Aside0.mk hb; have hc1 : w2.cell? ⟨cb, 1, none⟩ = some (.int .i64 g) := (blk_cell hcl.blk 1).trans rfl; clear hb hcl ht))
  go_ret
  exact ⟨rfl, B2.out⟩
theorem model_Forget.miss {w0 w : World} {mm mb N : Nat} {C : List Cl} (h : Held w0 w mm mb N C) {k n : Int} (hk : (Lit.int .i64 k).wf = true) {xs : List Sn} {g : Int} (hget : getC C k = (xs, g)) (hn : n < 1 ∨ g < n) :
  Calls Try.prog 16 #[.pointer (some ⟨mm, 0, none⟩), .int .i64 k, .int .i64 n] w fun e w' => e = .returned (.int .i64 6) ∧ Below w.heap.size w w' := by
 cases hcl : clOf C k with
 | some cl =>
  have e1 : getC C k = (cl.xs, cl.g) := by unfold getC; rw [hcl]
  rw [hget] at e1
  obtain ⟨rfl, rfl⟩ := Prod.mk.inj e1
  exact model_Forget.core h cl.xs cl.v cl.g (fun cb => cb = cl.b) hn (fun W hW => of_hit h hk hcl W hW)
 | none =>
  have e1 : getC C k = ([], 0) := by unfold getC; rw [hcl]
  rw [hget] at e1
  obtain ⟨rfl, rfl⟩ := Prod.mk.inj e1
  exact model_Forget.core h [] (.slice none 0 0) 0 (fun cb => w.heap.size ≤ cb) hn (fun W hW => of_miss h hk hcl W hW)
end Go.Proofs.Ytmlgfgmgolgjbaa.X
end

/-! ## RetainWithin -/
section
namespace Go.Proofs.Ytmlgfgmgolgjbaa.X
open Go.RowKit Go.Proofs.YtmlgfgmgolgjbaaW.PrintWords Go.Proofs.YtmlgfgmgolgjbaaW.PrintLast Go.Proofs.YtmlgfgmgolgjbaaW.PrintMore
attribute [local go_sem] max2_int min2_int max_two min_two max_three min_three max_four min_four   -- for this text's walks alone
set_option linter.unusedVariables false
set_option linter.unusedSimpArgs false

attribute [local go_sem] str_gtr fld_fault0 fld_fault1
/-! ### retain_within: function 72 -/
def retain_within.f (a0 : Int) (a1 : Int) (a2 : Int) : Option (Bool) := if a0 ≥ a1 then (some (decide (a0 ≤ a2))) else (some false)
set_option maxHeartbeats 8000000 in
set_option maxRecDepth 100000 in
theorem retain_within.calls (a0 : Int) (a1 : Int) (a2 : Int) (r : Bool) (w : World) (h : retain_within.f a0 a1 a2 = some r) :
  Calls Try.prog 72 #[.int .i64 a0, .int .i64 a1, .int .i64 a2] w fun e w' => e = .returned (.bool r) ∧ Drawn0 w w' := by
 have H : (if a0 ≥ a1 then (some (decide (a0 ≤ a2))) else (some false)) = some r := h
 clear h
 by_cases c4 : a0 ≥ a1
 ·rw [if_pos c4] at H
  have c4b0 : decide (a1 ≤ a0) = true := decide_eq_true c4
  clear c4
  obtain rfl := Option.some.inj H
  go_enter Try.func72, Try.ntmps72
  go_wp2
  go_ret
  exact ⟨by first | rfl | (simp; done) | (simp [*]; done), by repeat (first | exact Drawn0.refl _ | apply Drawn0.step)⟩
 ·rw [if_neg c4] at H
  have c4b0 : decide (a1 ≤ a0) = false := decide_eq_false c4
  clear c4
  obtain rfl := Option.some.inj H
  go_enter Try.func72, Try.ntmps72
  go_wp2
  go_ret
  exact ⟨by first | rfl | (simp; done) | (simp [*]; done), by repeat (first | exact Drawn0.refl _ | apply Drawn0.step)⟩

end Go.Proofs.Ytmlgfgmgolgjbaa.X
end

/-! ## RetainCheck -/
section
namespace Go.Proofs.Ytmlgfgmgolgjbaa.X
open Go.RowKit Go.Proofs.YtmlgfgmgolgjbaaW.PrintWords Go.Proofs.YtmlgfgmgolgjbaaW.PrintLast Go.Proofs.YtmlgfgmgolgjbaaW.PrintMore
attribute [local go_sem] max2_int min2_int max_two min_two max_three min_three max_four min_four   -- for this text's walks alone
set_option linter.unusedVariables false
set_option linter.unusedSimpArgs false

attribute [local go_sem] str_gtr fld_fault0 fld_fault1
/-! ### retain_Check: function 58 -/
def retain_Check.f (a0_0 : Int) (a0_1 : Int) (a0_2 : Int) : Option (Int) := (retain_within.f a0_0 0 64).bind fun t161 => (if t161 = true then ((retain_within.f a0_2 0 64).bind fun t162 => (if t162 = true then ((retain_within.f a0_1 0 2147483647).bind fun t163 => (if t163 = true then (some 0) else (some 5))) else (some 5))) else (some 5))
set_option maxHeartbeats 8000000 in
set_option maxRecDepth 100000 in
theorem retain_Check.calls (a0_0 : Int) (a0_1 : Int) (a0_2 : Int) (r : Int) (w : World) (h : retain_Check.f a0_0 a0_1 a0_2 = some r) :
  Calls Try.prog 58 #[.agg #[.int .i64 a0_0, .int .i64 a0_1, .int .i64 a0_2]] w fun e w' => e = .returned (.int .i64 r) ∧ Below w.heap.size w w' := by
 have hu29 := Try.underlying29
 have HB := Aside0.mk (Below.refl w.heap.size w)
 have H : ((retain_within.f a0_0 0 64).bind fun t161 => (if t161 = true then ((retain_within.f a0_2 0 64).bind fun t162 => (if t162 = true then ((retain_within.f a0_1 0 2147483647).bind fun t163 => (if t163 = true then (some 0) else (some 5))) else (some 5))) else (some 5))) = some r := h
 clear h
 replace H := Option.bind_eq_some_iff.mp H
 obtain ⟨t161, A20, H⟩ := H
 replace H : (if t161 = true then ((retain_within.f a0_2 0 64).bind fun t162 => (if t162 = true then ((retain_within.f a0_1 0 2147483647).bind fun t163 => (if t163 = true then (some 0) else (some 5))) else (some 5))) else (some 5)) = some r := H
 have A2 := Aside0.mk A20
 clear A20
 by_cases c3 : t161 = true
 ·subst c3
  have H1 : ((retain_within.f a0_2 0 64).bind fun t162 => (if t162 = true then ((retain_within.f a0_1 0 2147483647).bind fun t163 => (if t163 = true then (some 0) else (some 5))) else (some 5))) = some r := by rw [if_pos rfl] at H; exact H
  clear H
  have H := H1
  clear H1
  replace H := Option.bind_eq_some_iff.mp H
  obtain ⟨t162, A40, H⟩ := H
  replace H : (if t162 = true then ((retain_within.f a0_1 0 2147483647).bind fun t163 => (if t163 = true then (some 0) else (some 5))) else (some 5)) = some r := H
  have A4 := Aside0.mk A40
  clear A40
  by_cases c5 : t162 = true
  ·subst c5
   have H1 : ((retain_within.f a0_1 0 2147483647).bind fun t163 => (if t163 = true then (some 0) else (some 5))) = some r := by rw [if_pos rfl] at H; exact H
   clear H
   have H := H1
   clear H1
   replace H := Option.bind_eq_some_iff.mp H
   obtain ⟨t163, A60, H⟩ := H
   replace H : (if t163 = true then (some 0) else (some 5)) = some r := H
   have A6 := Aside0.mk A60
   clear A60
   by_cases c7 : t163 = true
   ·subst c7
    have H1 : (some 0) = some r := by rw [if_pos rfl] at H; exact H
    clear H
    have H := H1
    clear H1
    obtain rfl := Option.some.inj H
    go_enter Try.func58, Try.ntmps58
    go_wp2_with (first | ((with_reducible refine gate_dst (N := 1) rfl ?_); refine box_event ?hg (N := 1) ?hd (cs := #[.int .i64 a0_0, .int .i64 a0_1, .int .i64 a0_2]) (t := 29) ?hr ?_; (case hd => rfl); (case hg => rfl); (case hr => first | (go_simp; done) | (go_simp; rfl)); intro gb160 hg w8 hbox hb; have n0_ := Aside0.mk (below_step (by repeat (first | (with_reducible first | exact HB.out | apply below_alloc | apply pw_below_drewN | apply below_drew1) | exact HB.out)) hb); have n1_ := Aside0.mk (hbox); have n2_ := Aside0.mk ((by rw [hg]; exact (below_size (by repeat (first | (with_reducible first | exact HB.out | apply below_alloc | apply pw_below_drewN | apply below_drew1) | exact HB.out))) : w.heap.size ≤ gb160)); have n3_ := Aside0.mk ((by rw [hg]; exact (below_size (by repeat (first | (with_reducible first | exact HB.out | apply below_alloc | apply pw_below_drewN | apply below_drew1) | exact HB.out))) : w.heap.size ≤ gb160)); clear HB; have HB := n0_; have BK160 := n1_; have GW160 := n2_; have GE160 := n3_; clear n0_ n1_ n2_ n3_; clear hb hbox hg; have hcz9_0 : w8.cell? ⟨gb160, 0, none⟩ = some (.int .i64 a0_0) := (blk_cell BK160.out 0).trans rfl; have hcz9_1 : w8.cell? ⟨gb160, 1, none⟩ = some (.int .i64 a0_1) := (blk_cell BK160.out 1).trans rfl; have hcz9_2 : w8.cell? ⟨gb160, 2, none⟩ = some (.int .i64 a0_2) := (blk_cell BK160.out 2).trans rfl; have hfz9_0 := blk_frozen BK160.out 0; have hfz9_1 := blk_frozen BK160.out 1; have hfz9_2 := blk_frozen BK160.out 2) | ((with_reducible refine gate_callee (f := 72) rfl ?_); refine goesL_ (some 5) rfl rfl Try.func72 (by kernel_rfl) rfl #[.int .i64 a0_0, .int .i64 0, .int .i64 64] rfl (by (try simp only [List.map_toArray, List.map_cons, List.map_nil]); first | done | rfl | (simp only [List.length_drop, List.length_take]; rfl)) ?_; (with_reducible refine (retain_within.calls a0_0 0 64 true _ A2.out).mono ?_); rintro e w' ⟨rfl, ⟨nd, rfl⟩⟩; refine ⟨_, rfl, ?_⟩) | (go_at_call 72; (with_reducible refine (retain_within.calls a0_2 0 64 true _ A4.out).mono ?_); rintro e w' ⟨rfl, ⟨nd, rfl⟩⟩) | (go_at_call 72; (with_reducible refine (retain_within.calls a0_1 0 2147483647 true _ A6.out).mono ?_); rintro e w' ⟨rfl, ⟨nd, rfl⟩⟩))
    go_ret
    exact ⟨by first | rfl | (simp [errW_none, errW_some] <;> rfl) | (simp [*, errW_none, errW_some] <;> rfl) | (simp [bt, *]; done) | (simp_all [bt]; done), by repeat (first | (with_reducible first | exact HB.out | apply below_alloc | apply pw_below_drewN | apply below_drew1 | refine below_set ?_ GE160.out) | exact HB.out)⟩
   ·replace c7 := Bool.eq_false_iff.mpr c7
    subst c7
    have H1 : (some 5) = some r := by rw [if_neg (show ¬ (false = true) by decide)] at H; exact H
    clear H
    have H := H1
    clear H1
    obtain rfl := Option.some.inj H
    go_enter Try.func58, Try.ntmps58
    go_wp2_with (first | ((with_reducible refine gate_dst (N := 1) rfl ?_); refine box_event ?hg (N := 1) ?hd (cs := #[.int .i64 a0_0, .int .i64 a0_1, .int .i64 a0_2]) (t := 29) ?hr ?_; (case hd => rfl); (case hg => rfl); (case hr => first | (go_simp; done) | (go_simp; rfl)); intro gb160 hg w10 hbox hb; have n0_ := Aside0.mk (below_step (by repeat (first | (with_reducible first | exact HB.out | apply below_alloc | apply pw_below_drewN | apply below_drew1) | exact HB.out)) hb); have n1_ := Aside0.mk (hbox); have n2_ := Aside0.mk ((by rw [hg]; exact (below_size (by repeat (first | (with_reducible first | exact HB.out | apply below_alloc | apply pw_below_drewN | apply below_drew1) | exact HB.out))) : w.heap.size ≤ gb160)); have n3_ := Aside0.mk ((by rw [hg]; exact (below_size (by repeat (first | (with_reducible first | exact HB.out | apply below_alloc | apply pw_below_drewN | apply below_drew1) | exact HB.out))) : w.heap.size ≤ gb160)); clear HB; have HB := n0_; have BK160 := n1_; have GW160 := n2_; have GE160 := n3_; clear n0_ n1_ n2_ n3_; clear hb hbox hg; have hcz11_0 : w10.cell? ⟨gb160, 0, none⟩ = some (.int .i64 a0_0) := (blk_cell BK160.out 0).trans rfl; have hcz11_1 : w10.cell? ⟨gb160, 1, none⟩ = some (.int .i64 a0_1) := (blk_cell BK160.out 1).trans rfl; have hcz11_2 : w10.cell? ⟨gb160, 2, none⟩ = some (.int .i64 a0_2) := (blk_cell BK160.out 2).trans rfl; have hfz11_0 := blk_frozen BK160.out 0; have hfz11_1 := blk_frozen BK160.out 1; have hfz11_2 := blk_frozen BK160.out 2) | ((with_reducible refine gate_callee (f := 72) rfl ?_); refine goesL_ (some 5) rfl rfl Try.func72 (by kernel_rfl) rfl #[.int .i64 a0_0, .int .i64 0, .int .i64 64] rfl (by (try simp only [List.map_toArray, List.map_cons, List.map_nil]); first | done | rfl | (simp only [List.length_drop, List.length_take]; rfl)) ?_; (with_reducible refine (retain_within.calls a0_0 0 64 true _ A2.out).mono ?_); rintro e w' ⟨rfl, ⟨nd, rfl⟩⟩; refine ⟨_, rfl, ?_⟩) | (go_at_call 72; (with_reducible refine (retain_within.calls a0_2 0 64 true _ A4.out).mono ?_); rintro e w' ⟨rfl, ⟨nd, rfl⟩⟩) | (go_at_call 72; (with_reducible refine (retain_within.calls a0_1 0 2147483647 false _ A6.out).mono ?_); rintro e w' ⟨rfl, ⟨nd, rfl⟩⟩))
    go_ret
    exact ⟨by first | rfl | (simp [errW_none, errW_some] <;> rfl) | (simp [*, errW_none, errW_some] <;> rfl) | (simp [bt, *]; done) | (simp_all [bt]; done), by repeat (first | (with_reducible first | exact HB.out | apply below_alloc | apply pw_below_drewN | apply below_drew1 | refine below_set ?_ GE160.out) | exact HB.out)⟩
  ·replace c5 := Bool.eq_false_iff.mpr c5
   subst c5
   have H1 : (some 5) = some r := by rw [if_neg (show ¬ (false = true) by decide)] at H; exact H
   clear H
   have H := H1
   clear H1
   obtain rfl := Option.some.inj H
   go_enter Try.func58, Try.ntmps58
   go_wp2_with (first | ((with_reducible refine gate_dst (N := 1) rfl ?_); refine box_event ?hg (N := 1) ?hd (cs := #[.int .i64 a0_0, .int .i64 a0_1, .int .i64 a0_2]) (t := 29) ?hr ?_; (case hd => rfl); (case hg => rfl); (case hr => first | (go_simp; done) | (go_simp; rfl)); intro gb160 hg w12 hbox hb; have n0_ := Aside0.mk (below_step (by repeat (first | (with_reducible first | exact HB.out | apply below_alloc | apply pw_below_drewN | apply below_drew1) | exact HB.out)) hb); have n1_ := Aside0.mk (hbox); have n2_ := Aside0.mk ((by rw [hg]; exact (below_size (by repeat (first | (with_reducible first | exact HB.out | apply below_alloc | apply pw_below_drewN | apply below_drew1) | exact HB.out))) : w.heap.size ≤ gb160)); have n3_ := Aside0.mk ((by rw [hg]; exact (below_size (by repeat (first | (with_reducible first | exact HB.out | apply below_alloc | apply pw_below_drewN | apply below_drew1) | exact HB.out))) : w.heap.size ≤ gb160)); clear HB; have HB := n0_; have BK160 := n1_; have GW160 := n2_; have GE160 := n3_; clear n0_ n1_ n2_ n3_; clear hb hbox hg; have hcz13_0 : w12.cell? ⟨gb160, 0, none⟩ = some (.int .i64 a0_0) := (blk_cell BK160.out 0).trans rfl; have hcz13_1 : w12.cell? ⟨gb160, 1, none⟩ = some (.int .i64 a0_1) := (blk_cell BK160.out 1).trans rfl; have hcz13_2 : w12.cell? ⟨gb160, 2, none⟩ = some (.int .i64 a0_2) := (blk_cell BK160.out 2).trans rfl; have hfz13_0 := blk_frozen BK160.out 0; have hfz13_1 := blk_frozen BK160.out 1; have hfz13_2 := blk_frozen BK160.out 2) | ((with_reducible refine gate_callee (f := 72) rfl ?_); refine goesL_ (some 5) rfl rfl Try.func72 (by kernel_rfl) rfl #[.int .i64 a0_0, .int .i64 0, .int .i64 64] rfl (by (try simp only [List.map_toArray, List.map_cons, List.map_nil]); first | done | rfl | (simp only [List.length_drop, List.length_take]; rfl)) ?_; (with_reducible refine (retain_within.calls a0_0 0 64 true _ A2.out).mono ?_); rintro e w' ⟨rfl, ⟨nd, rfl⟩⟩; refine ⟨_, rfl, ?_⟩) | (go_at_call 72; (with_reducible refine (retain_within.calls a0_2 0 64 false _ A4.out).mono ?_); rintro e w' ⟨rfl, ⟨nd, rfl⟩⟩))
   go_ret
   exact ⟨by first | rfl | (simp [errW_none, errW_some] <;> rfl) | (simp [*, errW_none, errW_some] <;> rfl) | (simp [bt, *]; done) | (simp_all [bt]; done), by repeat (first | (with_reducible first | exact HB.out | apply below_alloc | apply pw_below_drewN | apply below_drew1 | refine below_set ?_ GE160.out) | exact HB.out)⟩
 ·replace c3 := Bool.eq_false_iff.mpr c3
  subst c3
  have H1 : (some 5) = some r := by rw [if_neg (show ¬ (false = true) by decide)] at H; exact H
  clear H
  have H := H1
  clear H1
  obtain rfl := Option.some.inj H
  go_enter Try.func58, Try.ntmps58
  go_wp2_with (first | ((with_reducible refine gate_dst (N := 1) rfl ?_); refine box_event ?hg (N := 1) ?hd (cs := #[.int .i64 a0_0, .int .i64 a0_1, .int .i64 a0_2]) (t := 29) ?hr ?_; (case hd => rfl); (case hg => rfl); (case hr => first | (go_simp; done) | (go_simp; rfl)); intro gb160 hg w14 hbox hb; have n0_ := Aside0.mk (below_step (by repeat (first | (with_reducible first | exact HB.out | apply below_alloc | apply pw_below_drewN | apply below_drew1) | exact HB.out)) hb); have n1_ := Aside0.mk (hbox); have n2_ := Aside0.mk ((by rw [hg]; exact (below_size (by repeat (first | (with_reducible first | exact HB.out | apply below_alloc | apply pw_below_drewN | apply below_drew1) | exact HB.out))) : w.heap.size ≤ gb160)); have n3_ := Aside0.mk ((by rw [hg]; exact (below_size (by repeat (first | (with_reducible first | exact HB.out | apply below_alloc | apply pw_below_drewN | apply below_drew1) | exact HB.out))) : w.heap.size ≤ gb160)); clear HB; have HB := n0_; have BK160 := n1_; have GW160 := n2_; have GE160 := n3_; clear n0_ n1_ n2_ n3_; clear hb hbox hg; have hcz15_0 : w14.cell? ⟨gb160, 0, none⟩ = some (.int .i64 a0_0) := (blk_cell BK160.out 0).trans rfl; have hcz15_1 : w14.cell? ⟨gb160, 1, none⟩ = some (.int .i64 a0_1) := (blk_cell BK160.out 1).trans rfl; have hcz15_2 : w14.cell? ⟨gb160, 2, none⟩ = some (.int .i64 a0_2) := (blk_cell BK160.out 2).trans rfl; have hfz15_0 := blk_frozen BK160.out 0; have hfz15_1 := blk_frozen BK160.out 1; have hfz15_2 := blk_frozen BK160.out 2) | ((with_reducible refine gate_callee (f := 72) rfl ?_); refine goesL_ (some 5) rfl rfl Try.func72 (by kernel_rfl) rfl #[.int .i64 a0_0, .int .i64 0, .int .i64 64] rfl (by (try simp only [List.map_toArray, List.map_cons, List.map_nil]); first | done | rfl | (simp only [List.length_drop, List.length_take]; rfl)) ?_; (with_reducible refine (retain_within.calls a0_0 0 64 false _ A2.out).mono ?_); rintro e w' ⟨rfl, ⟨nd, rfl⟩⟩; refine ⟨_, rfl, ?_⟩))
  go_ret
  exact ⟨by first | rfl | (simp [errW_none, errW_some] <;> rfl) | (simp [*, errW_none, errW_some] <;> rfl) | (simp [bt, *]; done) | (simp_all [bt]; done), by repeat (first | (with_reducible first | exact HB.out | apply below_alloc | apply pw_below_drewN | apply below_drew1 | refine below_set ?_ GE160.out) | exact HB.out)⟩

end Go.Proofs.Ytmlgfgmgolgjbaa.X
end
