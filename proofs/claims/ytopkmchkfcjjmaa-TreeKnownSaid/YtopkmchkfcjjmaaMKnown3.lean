/- Functions, one behind the other: a plain Lean function for each, and the proof that the call comes to its answer, whatever the world (conditions: what the arguments read as); and plain laws of them. -/
import Derived.Test.YtopkmchkfcjjmaaMKnown2
import Derived.Lib.LazyBuf
import Derived.Laws.Append
import Derived.Lib.Overlaps
import Derived.Lib.AppendZeros
import Derived.Lib.JoinLaws
import Derived.Laws.Externs
import Derived.Laws.IdiomCopy
import Derived.Deep.RegionLaw
import Derived.Shelf.Spec.SlicesInsertGrow
import Derived.Deep.RegionWith
import Derived.StillTailTactics
import Derived.Laws.Entries
/-! ## SlicesCloneByteByte -/
section
namespace Go.Proofs.Ytopkmchkfcjjmaa.X
open Go.RowKit Go.Proofs.YtopkmchkfcjjmaaW.PrintWords Go.Proofs.YtopkmchkfcjjmaaW.PrintLast Go.Proofs.YtopkmchkfcjjmaaW.PrintMore
attribute [local go_sem] max2_int min2_int max_two min_two max_three min_three max_four min_four   -- for this text's walks alone
set_option linter.unusedVariables false
set_option linter.unusedSimpArgs false

attribute [local go_sem] str_gtr fld_fault0 fld_fault1
/-! ### slices_Clone_byte_byte: function 64 -/
def slices_Clone_byte_byte.f (l0 : List Int) : Option (List Int) := if l0.length < 140737488355328 then some l0 else none
/-- All cells of a row's block, its room too, hold bytes. -/
def Full8 (w : World) (v : Value) : Prop := ∀ g, v.ownBlock = some g → ∃ cur : Array Value, w.heap[g]? = some (.cells cur 5 (0, 0)) ∧ ∀ u ∈ cur.toList, ∃ z : Int, u = .int .u8 z
theorem Full8.nil (w : World) : Full8 w (.slice none 0 0) := fun g hg => by simp [Value.ownBlock] at hg
theorem Full8.step {w w1 : World} {v : Value} (h : Full8 w v) (hm : ∀ k, v.ownBlock = some k → k < w.heap.size → w1.heap[k]? = w.heap[k]?) : Full8 w1 v := fun g hg => by
 obtain ⟨cur, h1, h2⟩ := h g hg
 exact ⟨cur, (hm g hg (blk_lt h1)).trans h1, h2⟩
theorem Full8.below {w w1 : World} {v : Value} (h : Full8 w v) (hb : Below w.heap.size w w1) : Full8 w1 v := h.step fun k _ hk => hb.block k hk
theorem Full8.far {w : World} {v : Value} (h : Full8 w v) {p : Addr} (hp : ∀ k, v.ownBlock = some k → k ≠ p.block) (u : Value) : Full8 (w.setCell p u) v := h.step fun k hk _ => Below.heap_setCell w p u k (hp k hk)
/-- A row of whole numbers out of the block that it owns. -/
theorem own_to_R {w : World} {base e n : Nat} {k : IntKind} {v : Value} {xs : List Int} (hn : xs.length = n) (h : w.ownsRow base e 1 v n (nums k xs)) : Kd.R (Kd.int k) e w base (fun _ => True) v xs := by
 subst hn
 exact Kd.R_of_own h (fun _ _ => trivial)
set_option maxHeartbeats 8000000 in
set_option maxRecDepth 100000 in
theorem slices_Clone_byte_byte.calls2 (A0 : Option Addr) (c0 : Nat) (l0 : List Int) (r : List Int) (w : World) (hr0 : Kd.C (Kd.int .u8) w A0 l0.length l0) (hc0 : l0.length ≤ c0) (h : slices_Clone_byte_byte.f l0 = some r) :
  Calls Try.prog 64 #[.slice A0 l0.length c0] w fun e w' => ∃ v0_ : Value, e = .returned (v0_) ∧ Kd.R (Kd.int .u8) 5 w' w.heap.size (fun _ => True) v0_ r ∧ Full8 w' v0_ ∧ Below w.heap.size w w' := by
 unfold slices_Clone_byte_byte.f at h
 by_cases c2 : l0.length < 140737488355328
 ·rw [if_pos c2] at h
  obtain rfl := Option.some.inj h
  clear h
  cases A0 with
  | none =>
   have hl : l0 = [] := by
    obtain ⟨_, _, h3⟩ := hr0
    rcases Nat.eq_zero_or_pos l0.length with h0 | h0
    ·exact List.eq_nil_of_length_eq_zero h0
    ·obtain ⟨ad, h4, _⟩ := h3 h0
     cases h4
   subst hl
   clear hr0 hc0
   have heq := fun (w : World) => run_eql_slice_nil w 29 5 none 0 c0 Try.underlying29
   go_enter Try.func64, Try.ntmps64
   go_wp2
   go_ret
   exact ⟨_, rfl, Kd.R_nil _ _ _ _ _, Full8.nil _, Below.refl _ _⟩
  | some ad =>
   obtain ⟨i0, hi, hz0, hz1, hz2⟩ := info_parts info5
   by_cases hl : l0 = []
   ·subst hl
    have hap := run_append_room_cells (P := Try.prog) (w.alloc (.cells #[] 5)) 29 29 5 i0 Try.underlying29 hi w.heap.size 0 0 0 ad 0 c0 [] (by simp) (fun j u hj => by simp at hj) (fun u hu => by simp at hu) (by omega) (fun j hj => by simp at hj) (fun j hj => by simp at hj)
    have HAP := Aside0.mk hap
    clear hap hr0 hc0
    have HAP2 : (Builtin.append_ #[29, 29] 29 #[.slice (some ⟨w.heap.size, 0, none⟩) 0 0, .slice (some ad) 0 c0]).run Try.prog (w.alloc (.cells #[] 5)) = .ok (.slice (some ⟨w.heap.size, 0, none⟩) 0 0) (w.alloc (.cells #[] 5)) := HAP.out
    have HAP := Aside0.mk HAP2
    clear HAP2
    have heq := fun (w : World) => run_eql_slice_nil w 29 5 (some ad) 0 c0 Try.underlying29
    go_enter Try.func64, Try.ntmps64
    go_wp2_with ((with_reducible refine gate_builtin (b := .append) (xs := #[.tmp 5, .tmp 6]) rfl ?_); refine append_event (v := .slice (some ⟨w.heap.size, 0, none⟩) 0 0) (w1 := w.alloc (.cells #[] 5)) rfl (.tmp 5) (.tmp 6) 29 29 rfl _ _ rfl rfl HAP.out ?_)
    go_ret
    have hnew := heap_alloc_new w (.cells #[] 5)
    refine ⟨_, rfl, own_to_R (xs := ([] : List Int)) rfl (by rw [show (.cells #[] 5 : Obj) = .cells #[] 5 (0, 0) from rfl] at hnew; exact ⟨rfl, .inr ⟨w.heap.size, 0, #[], rfl, Nat.le_refl _, hnew, Nat.le_refl _, by decide, rfl, rfl⟩⟩), fun g hg => ?_, (Below.refl _ _).alloc (Nat.le_refl _) _⟩
    obtain rfl := Option.some.inj hg
    exact ⟨#[], hnew, fun u hu => by simp at hu⟩
   ·have hpos : 0 < l0.length := List.length_pos_iff.2 hl
    obtain ⟨ad', e, hcell⟩ := hr0.2.2 hpos
    obtain rfl := Option.some.inj e
    have hnews : ∀ j u, (nums .u8 l0)[j]? = some u → (w.alloc (.cells #[] 5)).cell? (ad.add j) = some u := by
     intro j u hj
     have hjl : j < l0.length := by have := (List.getElem?_eq_some_iff.1 hj).1; rwa [nums_length] at this
     have hu : u = .int .u8 l0[j] := by
      unfold nums at hj
      rw [List.getElem?_map, List.getElem?_eq_getElem hjl] at hj
      exact (Option.some.inj hj).symm
     subst hu
     obtain ⟨c, h1, h2, h3⟩ := hcell j l0[j] (List.getElem?_eq_getElem hjl)
     have h4 := h3 0 (.int .u8 l0[j]) (by rw [h2]; rfl)
     rw [show j * (Kd.int .u8).sz + 0 = j from by show j * 1 + 0 = j; omega] at h4
     rw [show (w.alloc (.cells #[] 5)).cell? (ad.add j) = w.cell? (ad.add j) from ((Below.refl _ w).alloc (Nat.le_refl _) (.cells #[] 5)).cell (World.block_lt_of_cell? w _ h4)]
     exact h4
    have hap := run_append_grow (P := Try.prog) (w.alloc (.cells #[] 5)) 29 29 5 i0 (.int .u8 0) Try.underlying29 hi hz0 ⟨w.heap.size, 0, none⟩ 0 0 [] (by simp) (fun j u hj => by simp at hj) ad l0.length c0 (nums .u8 l0) (by rw [nums_length, hz1, Nat.mul_one]) hnews (by omega) (by omega) (growslice_fits (by omega) (by rw [hz2]; omega))
    obtain ⟨gc, hgc⟩ : ∃ gc, gc = grownCap (w.alloc (.cells #[] 5)) (0 + l0.length) 0 5 := ⟨_, rfl⟩
    have hge : l0.length ≤ gc := by rw [hgc]; have := grownCap_ge (w.alloc (.cells #[] 5)) (0 + l0.length) 0 5; omega
    have hmx : gc ≤ maxLen := by rw [hgc]; exact grownCap_le_maxLen _ _ _ _ (by unfold maxLen; omega)
    rw [← hgc] at hap
    obtain ⟨cur, hcur⟩ : ∃ cur : Array Value, cur = ([] : List Value).toArray ++ (nums .u8 l0).toArray ++ Builtin.zeroCells (Value.int .u8 0).cells (gc - (0 + l0.length)) := ⟨_, rfl⟩
    rw [← hcur] at hap
    have hsz : cur.size = gc := by rw [hcur]; simp [nums_length, size_zeroCells, Value.cells]; omega
    have htk : cur.toList.take l0.length = nums .u8 l0 := by
     rw [hcur]
     simp only [Array.toList_append, List.nil_append]
     rw [List.take_left' (by rw [nums_length])]
    have hfull : ∀ u ∈ cur.toList, ∃ z : Int, u = .int .u8 z := by
     intro u hu
     rw [hcur] at hu
     simp only [Array.toList_append, List.nil_append, List.mem_append] at hu
     rcases hu with hu | hu
     ·obtain ⟨z, _, rfl⟩ := List.mem_map.1 hu
      exact ⟨z, rfl⟩
     ·simp only [Builtin.zeroCells, Array.toList_map, List.mem_map] at hu
      obtain ⟨q, _, rfl⟩ := hu
      refine ⟨0, ?_⟩
      simp [Value.cells, Nat.mod_one]
    clear hcur hgc
    have HAP := Aside0.mk hap
    have HGE := Aside0.mk hge
    have HMX := Aside0.mk hmx
    have HSZ := Aside0.mk hsz
    have HTK := Aside0.mk htk
    have HFL := Aside0.mk hfull
    clear hap hge hmx hsz htk hfull hr0 hc0 hcell hnews
    have hap : (Builtin.append_ #[29, 29] 29 #[.slice (some ⟨w.heap.size, 0, none⟩) 0 0, .slice (some ad) l0.length c0]).run Try.prog (w.alloc (.cells #[] 5)) = .ok (.slice (some ⟨w.heap.size + 1, 0, none⟩) l0.length gc) ((w.alloc (.cells #[] 5)).drew.alloc (.cells cur 5)) := by
     have h := HAP.out
     rw [Nat.zero_add, World.size_alloc] at h
     exact h
    replace HAP := Aside0.mk hap
    clear hap
    have heq := fun (w : World) => run_eql_slice_nil w 29 5 (some ad) l0.length c0 Try.underlying29
    go_enter Try.func64, Try.ntmps64
    go_wp2_with ((with_reducible refine gate_builtin (b := .append) (xs := #[.tmp 5, .tmp 6]) rfl ?_); refine append_event (v := .slice (some ⟨w.heap.size + 1, 0, none⟩) l0.length gc) (w1 := (w.alloc (.cells #[] 5)).drew.alloc (.cells cur 5)) rfl (.tmp 5) (.tmp 6) 29 29 rfl _ _ rfl rfl HAP.out ?_)
    go_ret
    have hnew : ((w.alloc (.cells #[] 5)).drew.alloc (.cells cur 5)).heap[w.heap.size + 1]? = some (.cells cur 5 (0, 0)) := by
     have h := heap_alloc_new (w.alloc (.cells #[] 5)).drew (.cells cur 5)
     rwa [show (w.alloc (.cells #[] 5)).drew.heap.size = w.heap.size + 1 from World.size_alloc _ _] at h
    refine ⟨_, rfl, own_to_R (xs := l0) rfl ⟨by rw [nums_length, Nat.mul_one], .inr ⟨w.heap.size + 1, gc, cur, rfl, by omega, hnew, HGE.out, HMX.out, by rw [HSZ.out, Nat.mul_one], by rw [Nat.mul_one]; exact HTK.out⟩⟩, fun g hg => ?_, ((below_drew ((Below.refl _ w).alloc (Nat.le_refl _) _)).alloc (by show w.heap.size ≤ (w.alloc _).heap.size; simp) _)⟩
    obtain rfl := Option.some.inj hg
    exact ⟨cur, hnew, HFL.out⟩
 ·rw [if_neg c2] at h
  cases h
theorem slices_Clone_byte_byte.calls (A0 : Option Addr) (c0 : Nat) (l0 : List Int) (r : List Int) (w : World) (hr0 : Kd.C (Kd.int .u8) w A0 l0.length l0) (hc0 : l0.length ≤ c0) (h : slices_Clone_byte_byte.f l0 = some r) :
  Calls Try.prog 64 #[.slice A0 l0.length c0] w fun e w' => ∃ v0_ : Value, e = .returned (v0_) ∧ Kd.R (Kd.int .u8) 5 w' w.heap.size (fun _ => True) v0_ r ∧ Below w.heap.size w w' :=
 (slices_Clone_byte_byte.calls2 A0 c0 l0 r w hr0 hc0 h).mono fun e w' ⟨v, h1, h2, _, h4⟩ => ⟨v, h1, h2, h4⟩

end Go.Proofs.Ytopkmchkfcjjmaa.X
end

/-! ## TreeClone -/
section
namespace Go.Proofs.Ytopkmchkfcjjmaa.X
open Go.RowKit Go.Proofs.YtopkmchkfcjjmaaW.PrintWords Go.Proofs.YtopkmchkfcjjmaaW.PrintLast Go.Proofs.YtopkmchkfcjjmaaW.PrintMore
attribute [local go_sem] max2_int min2_int max_two min_two max_three min_three max_four min_four   -- for this text's walks alone
set_option linter.unusedVariables false
set_option linter.unusedSimpArgs false

attribute [local go_sem] str_gtr fld_fault0 fld_fault1
/-! ### tree_clone: function 41 -/
def tree_clone.l0 : Nat → List (S31) → Int → Int → Option ((List (S31)))
 | 0, _, _, _ => none
 | k + 1, x3, x8, x9 => if x9 < x8 then (if 0 ≤ x9 then (if x9 < (x3.length : Int) then ((slices_Clone_byte_byte.f ((rd_T31 x3 x9).f3)).bind fun t140 => (tree_clone.l0 k (x3.set (x9 : Int).toNat (⟨(rd_T31 x3 x9).f0, (rd_T31 x3 x9).f1, (rd_T31 x3 x9).f2, t140, (rd_T31 x3 x9).f4⟩ : S31)) x8 (wrap64 (x9 + 1)))) else (none)) else (none)) else (some x3)
def tree_clone.f (k : Nat) (l0 : List (S31)) : Option ((List (S31))) := (api_Entry_55.f l0).bind fun t136 => (tree_clone.l0 k t136 (t136.length : Int) 0)
theorem tree_clone.mono_l : ∀ k, (∀ y0 y1 y2, LeO (tree_clone.l0 k y0 y1 y2) (tree_clone.l0 (k + 1) y0 y1 y2))
 | 0 => fun _ _ _ r h => by simp [tree_clone.l0] at h
 | k + 1 => by
  have ih0 := tree_clone.mono_l k
  ·intro y0 y1 y2
   unfold tree_clone.l0
   repeat' first
   | (with_reducible exact ih0 _ _ _)
   | (with_reducible exact LeO.refl _)
   | (with_reducible exact LeO.none _)
   | (with_reducible refine LeO.ite ?_ ?_)
   | (with_reducible refine LeO.bind ?_ (fun _ => ?_))
   | exact ih0 _ _ _
   | exact LeO.none _
   | refine LeO.ite ?_ ?_
   | refine LeO.bind ?_ (fun _ => ?_)
theorem tree_clone.mono : ∀ a0 k, LeO (tree_clone.f k a0) (tree_clone.f (k + 1) a0) := by
 intro a0 k
 have ih0 := tree_clone.mono_l k
 unfold tree_clone.f
 repeat' first
   | (with_reducible exact ih0 _ _ _)
   | (with_reducible exact LeO.refl _)
   | (with_reducible exact LeO.none _)
   | (with_reducible refine LeO.ite ?_ ?_)
   | (with_reducible refine LeO.bind ?_ (fun _ => ?_))
   | exact ih0 _ _ _
   | exact LeO.none _
   | refine LeO.ite ?_ ?_
   | refine LeO.bind ?_ (fun _ => ?_)
/-- Of the first i entries of a row the bytes are rows of the call's own, each apart from the others. -/
def OwnUpTo (w : World) (base : Nat) (A : Option Addr) (l : List (S31)) (i : Int) : Prop :=
 ∃ f : Nat → Nat, ∀ ad : Addr, A = some ad → ∀ j : Nat, (j : Int) < i → j < l.length → ∃ vj : Value, w.cell? ⟨ad.block, ad.off + (j * 5 + 3), none⟩ = some vj ∧ Kd.R (Kd.int .u8) 5 w base (fun k => k ≠ ad.block ∧ f k = j) vj (rd_T31 l (j : Int)).f3 ∧ Full8 w vj
/-- Of a row's entries the bytes' blocks hold bytes, their room too. -/
def FullRow (w : World) (v : Value) (l : List (S31)) : Prop := ∀ (ad : Addr) (n c : Nat), v = .slice (some ad) n c → ∀ j : Nat, j < l.length → ∃ vj : Value, w.cell? ⟨ad.block, ad.off + (j * 5 + 3), none⟩ = some vj ∧ Full8 w vj
theorem OwnUpTo.start (w : World) (base : Nat) (A : Option Addr) (l : List (S31)) : OwnUpTo w base A l 0 := ⟨fun _ => 0, fun ad _ j hj => by omega⟩
theorem OwnUpTo.below {w w1 : World} {base : Nat} {A : Option Addr} {l : List (S31)} {i : Int} (h : OwnUpTo w base A l i) (hb : Below w.heap.size w w1) : OwnUpTo w1 base A l i := by
 obtain ⟨f, h⟩ := h
 refine ⟨f, fun ad ha j hj hl => ?_⟩
 obtain ⟨vj, hc, hr, hf⟩ := h ad ha j hj hl
 exact ⟨vj, (hb.cell (World.block_lt_of_cell? w _ hc)).trans hc, Kd.R_below hr hb, hf.below hb⟩
theorem rd_set_same (l : List (S31)) (i : Nat) (x : S31) (h : i < l.length) : rd_T31 (l.set i x) (i : Int) = x := by
 unfold rd_T31
 rw [Int.toNat_natCast, List.getD_eq_getElem?_getD, List.getElem?_set_self h]
 rfl
theorem rd_set_other (l : List (S31)) (i j : Nat) (x : S31) (h : i ≠ j) : rd_T31 (l.set i x) (j : Int) = rd_T31 l (j : Int) := by
 unfold rd_T31
 rw [Int.toNat_natCast, List.getD_eq_getElem?_getD, List.getElem?_set_ne h, List.getD_eq_getElem?_getD]
/-- One entry more: its bytes' copy is stored. -/
theorem OwnUpTo.step {wr w : World} {base g : Nat} {l : List (S31)} {i : Int} {v u : Value} {x : S31} (h : OwnUpTo wr base (some ⟨g, 0, none⟩) l i) (hb : Below wr.heap.size wr w) (hv : Kd.R (Kd.int .u8) 5 w wr.heap.size (fun _ => True) v x.f3) (hfu : Full8 w v)
  (hg : g < wr.heap.size) (h0 : 0 ≤ i) (hbase : base ≤ wr.heap.size) (hc : w.cell? ⟨g, i.toNat * 5 + 3, none⟩ = some u) : OwnUpTo (w.setCell ⟨g, i.toNat * 5 + 3, none⟩ v) base (some ⟨g, 0, none⟩) (l.set i.toNat x) (i + 1) := by
 obtain ⟨f, h⟩ := h
 refine ⟨fun k => if wr.heap.size ≤ k then i.toNat else f k, fun ad ha j hj hl => ?_⟩
 obtain rfl := Option.some.inj ha
 rw [List.length_set] at hl
 by_cases e : j = i.toNat
 ·subst e
  refine ⟨v, ?_, ?_, hfu.far (p := ⟨g, i.toNat * 5 + 3, none⟩) (fun k hk e => by have := Kd.R_base hv k hk; have e2 : k = g := e; omega) v⟩
  ·rw [Nat.zero_add]
   exact World.cell?_setCell_same' w ⟨g, i.toNat * 5 + 3, none⟩ v (by rw [hc]; rfl)
  ·rw [rd_set_same l i.toNat x hl]
   have h1 := Kd.R_mono (ok' := fun k => k ≠ g ∧ (if wr.heap.size ≤ k then i.toNat else f k) = i.toNat) (Kd.R_bound hv) (fun k hk => ⟨fun e => by have := hk.2.1; omega, if_pos hk.2.1⟩)
   exact Kd.R_lower (Kd.R_far (p := ⟨g, i.toNat * 5 + 3, none⟩) h1 (fun k hk => hk.1) v) hbase
 ·obtain ⟨vj, hcj, hr, hf⟩ := h ⟨g, 0, none⟩ rfl j (by omega) hl
  refine ⟨vj, ?_, ?_, (hf.below hb).far (p := ⟨g, i.toNat * 5 + 3, none⟩) (fun k hk => (hr.1 k hk).1) v⟩
  ·show (w.setCell ⟨g, i.toNat * 5 + 3, none⟩ v).cell? ⟨g, 0 + (j * 5 + 3), none⟩ = some vj
   rw [World.cell?_setCell_other w ⟨g, i.toNat * 5 + 3, none⟩ ⟨g, 0 + (j * 5 + 3), none⟩ v (fun e2 => e (by injection e2; omega))]
   exact (hb.cell (World.block_lt_of_cell? wr _ hcj)).trans hcj
  ·rw [rd_set_other l i.toNat j x (fun e2 => e e2.symm)]
   have h1 := Kd.R_below (Kd.R_mono (ok' := fun k => k ≠ g ∧ (if wr.heap.size ≤ k then i.toNat else f k) = j) (Kd.R_bound hr) (fun k hk => ⟨hk.1.1, by have := hk.2.2.1; rw [if_neg (by omega)]; exact hk.1.2⟩)) hb
   exact Kd.R_far (p := ⟨g, i.toNat * 5 + 3, none⟩) h1 (fun k hk => hk.1) v
/-- All of them: a row whose entries' bytes are the call's own, each apart. -/
theorem OwnUpTo.done {w : World} {base n c : Nat} {ok : Nat → Prop} {A : Option Addr} {l : List (S31)} {i : Int} (hN : Kd.N k31 31 w base ok (.slice A n c) l) (hO : OwnUpTo w base A l i) (hi : (l.length : Int) ≤ i) : Kd.S k31 31 w base (fun k => base ≤ k) (.slice A n c) l := by
 obtain ⟨f, hO⟩ := hO
 have hbase := Kd.N_base hN
 have hget : ∀ ad, A = some ad → ∀ j, j < l.length → _ := fun ad ha j hj => hO ad ha j (by omega) hj
 have hn := (Kd.N_reads' hN).1
 obtain ⟨h0, rows, hrl, hR, hF⟩ := hN
 obtain ⟨hr0, inner, hown, hreps⟩ := hR
 have hlz : l.zipIdx.length = l.length := List.length_zipIdx
 refine ⟨f, fun k hk => hbase k hk, inner, by rw [hlz, ← hrl]; exact hown, by rw [hlz, ← hrl]; exact hreps.1, fun j p hj => ?_⟩
 have hjl : j < l.length := by rw [← hlz]; exact (List.getElem?_eq_some_iff.1 hj).1
 have hp : p = (l[j], j) := by
  rw [List.getElem?_zipIdx, Nat.zero_add, List.getElem?_eq_getElem hjl] at hj
  exact (Option.some.inj hj).symm
 subst hp
 have hjr : j < rows.length := by omega
 have hrow := hreps.2 j rows[j] (List.getElem?_eq_getElem hjr)
 obtain ⟨hch, hlen, _⟩ := hrow
 have hFK := hF j l[j] rows[j] (List.getElem?_eq_getElem hjl) (List.getElem?_eq_getElem hjr)
 obtain ⟨A3, c3, hcs, _, _⟩ := k31_openF hFK
 -- where the row lies
 rcases hown.2 with ⟨hv, hz⟩ | ⟨g, cap, cur, hv, hg, hh, hnc, hcm, hcs2, htk⟩
 ·exact absurd hjr (by omega)
 ·injection hv with hA _ _
  obtain ⟨vj, hc, hRj, _⟩ := hget ⟨g, 0, none⟩ hA j hjl
  have hcell : w.cell? ⟨g, 0 + (j * 5 + 3), none⟩ = some (.slice A3 l[j].f3.length c3) := by
   rw [Nat.zero_add, blk_cell hh]
   have e1 : ((inner.drop (j * 5)).take 5)[3]? = some (.slice A3 l[j].f3.length c3) := by
    show ((inner.drop (j * (Kd.raw k31.sz).sz)).take (Kd.raw k31.sz).sz)[3]? = _
    rw [hch, hcs]; rfl
   rw [List.getElem?_take_of_lt (by omega), List.getElem?_drop, ← htk, List.getElem?_take_of_lt (by have : rows.length * 5 = rows.length * (Kd.raw k31.sz).sz := rfl; omega), Array.getElem?_toList] at e1
   exact e1
  have hvj : vj = .slice A3 l[j].f3.length c3 := Option.some.inj (hc.symm.trans hcell)
  show k31.M w base (fun k => (base ≤ k ∧ some k ≠ (Value.slice A n c).ownBlock) ∧ f k = j) l[j] ((inner.drop (j * 5)).take 5)
  rw [show (inner.drop (j * 5)).take 5 = rows[j] from hch, hcs]
  refine k31_mkM w base _ l[j] ?_
  rw [← hvj]
  rw [show rd_T31 l (j : Int) = l[j] by unfold rd_T31; rw [Int.toNat_natCast, List.getD_eq_getElem?_getD, List.getElem?_eq_getElem hjl]; rfl] at hRj
  refine Kd.R_mono (Kd.R_bound hRj) (fun k hk => ⟨⟨hk.2.1, ?_⟩, hk.1.2⟩)
  rw [hA]
  intro e
  exact hk.1.1 (Option.some.inj e)
theorem OwnUpTo.full {w : World} {base n c : Nat} {A : Option Addr} {l : List (S31)} {i : Int} (hO : OwnUpTo w base A l i) (hi : (l.length : Int) ≤ i) : FullRow w (.slice A n c) l := by
 obtain ⟨f, hO⟩ := hO
 intro ad n' c' he j hj
 injection he with he _ _
 obtain ⟨vj, hc, _, hf⟩ := hO ad he j (by omega) hj
 exact ⟨vj, hc, hf⟩
theorem FullRow.below {w w1 : World} {v : Value} {l : List (S31)} (h : FullRow w v l) (hb : Below w.heap.size w w1) : FullRow w1 v l := fun ad n c he j hj => by
 obtain ⟨vj, hc, hf⟩ := h ad n c he j hj
 exact ⟨vj, (hb.cell (World.block_lt_of_cell? w _ hc)).trans hc, hf.below hb⟩
set_option maxHeartbeats 8000000 in
set_option maxRecDepth 100000 in
theorem tree_clone.calls2 (k : Nat) (A0 : Option Addr) (c0 : Nat) (l0 : List (S31)) (r : List (S31)) (w : World) (hr0 : Kd.C k31 w A0 l0.length l0) (hc0 : l0.length ≤ c0) (h : tree_clone.f k l0 = some r) :
  Calls Try.prog 41 #[.slice A0 l0.length c0] w fun e w' => ∃ v0_ : Value, e = .returned (v0_) ∧ Kd.S k31 31 w' w.heap.size (fun _ => True) v0_ r ∧ FullRow w' v0_ r ∧ Below w.heap.size w w' := by
 obtain ⟨P0_, hs0⟩ : ∃ P0_ : Nat → Prop, Kd.V k31 31 w w.heap.size (fun k_ => P0_ k_) (.slice A0 l0.length c0) l0 := ⟨fun k => k < w.heap.size, Kd.V_mk hc0 (Kd.C_F k31_heap hr0)⟩
 clear hr0
 clear hc0
 have HO0 := Aside0.mk (show Kd.V k31 31 w w.heap.size (fun k_ => (P0_ k_ ∨ w.heap.size ≤ k_)) (.slice A0 l0.length c0) l0 from Kd.V_mono hs0 (fun k_ hk => .inl hk))
 have HB := Aside0.mk (Below.refl w.heap.size w)
 have H : ((api_Entry_55.f l0).bind fun t136 => (tree_clone.l0 k t136 (t136.length : Int) 0)) = some r := h
 clear h
 replace H := Option.bind_eq_some_iff.mp H
 obtain ⟨t136, A20, H⟩ := H
 replace H : (tree_clone.l0 k t136 (t136.length : Int) 0) = some r := H
 have A2 := Aside0.mk A20
 clear A20
 have H' := Aside0.mk H
 clear H
 go_enter Try.func41, Try.ntmps41
 go_wp2_with (first | ((with_reducible refine gate_callee (f := 55) rfl ?_); refine goesL_ (some 6) rfl rfl Try.func55 (by kernel_rfl) rfl #[.slice A0 l0.length c0] rfl (by (try simp only [List.map_toArray, List.map_cons, List.map_nil]); first | done | rfl | (simp only [List.length_drop, List.length_take]; rfl)) ?_; (with_reducible refine (api_Entry_55.calls (fun k_ => (P0_ k_ ∨ w.heap.size ≤ k_)) _ _ l0 t136 _ ?side1 A2.out).mono ?_); (case side1 => exact HO0.out); rintro e w3 ⟨v137, rfl, ho0, hb⟩; refine ⟨_, rfl, ?_⟩; have n0_ := Aside0.mk (Kd.V_elder' (by (with_reducible repeat (first | apply Kd.V_alloc | apply Kd.V_drewN | apply Kd.V_drew)); exact HO0.out) (by first | exact Kd.N_base ho0 | exact Kd.S_base ho0) hb); have n1_ := Aside0.mk (Kd.N_lower (Kd.N_mono (ok' := fun k_ => (P0_ k_ ∨ w.heap.size ≤ k_)) ho0 (fun k_ hk_ => Or.elim hk_ (fun hs_ => hs_) (fun hn_ => (.inr (Nat.le_trans (below_size (by repeat (first | (with_reducible first | exact HB.out | apply below_alloc | apply pw_below_drewN | apply below_drew1) | exact HB.out))) hn_))))) (below_size (by repeat (first | (with_reducible first | exact HB.out | apply below_alloc | apply pw_below_drewN | apply below_drew1) | exact HB.out)))); have n2_ := Aside0.mk (below_step (by repeat (first | (with_reducible first | exact HB.out | apply below_alloc | apply pw_below_drewN | apply below_drew1) | exact HB.out)) hb); clear HO0; clear HB; have HO0 := n0_; have HO138 := n1_; have HB := n2_; clear n0_ n1_ n2_; (try clear hb); (try clear hb2); (try clear hk); (try clear hi); (try clear ho0); obtain ⟨Ao4, co4, eo4⟩ := Kd.N_slice HO138.out; subst eo4))
 go_loopg [9] k (fun kq v9 w' => ∃ (x3_1 : List (S31)) (x9_1 : Int), v9 = .int .i64 x9_1 ∧ Aside0 (tree_clone.l0 kq x3_1 (t136.length : Int) x9_1 = some r) ∧ Aside0 (kq ≤ k) ∧ Aside0 (Kd.N k31 31 w' w.heap.size (fun k_ => (P0_ k_ ∨ w.heap.size ≤ k_)) (.slice Ao4 t136.length co4) x3_1) ∧ Aside0 (OwnUpTo w' w.heap.size Ao4 x3_1 x9_1) ∧ Aside0 (Below w.heap.size w w'))
 case atStart => exact ⟨(t136), (0), (by first | rfl | (simp; done) | (simp [*]; done)), H', ⟨Nat.le_refl _⟩, ⟨by (with_reducible repeat (first | apply Kd.N_alloc | apply Kd.N_drewN | apply Kd.N_drew)); exact HO138.out⟩, ⟨OwnUpTo.start _ _ _ _⟩, ⟨by repeat (first | (with_reducible first | exact HB.out | apply below_alloc | apply pw_below_drewN | apply below_drew1) | exact HB.out)⟩⟩
 case round =>
  clear H'
  try clear p2
  try clear c4
  obtain ⟨x3_1, x9_1, rfl, HA, HK1, HO_3, HOW, HB⟩ := hrel
  have HBW := Aside0.mk (below_size HB.out)
  have KN := HO_3
  have hl3_1 := (Kd.N_reads' HO_3.out).1
  rw [hl3_1] at HO_3
  (try simp only [hl3_1])
  cases gk with
  | zero => exact absurd HA.out (by simp [tree_clone.l0])
  | succ k1 =>
   have H := HA.out
   clear HA
   simp only [tree_clone.l0] at H
   by_cases c5 : x9_1 < (t136.length : Int)
   ·rw [if_pos c5] at H
    have c5b0 : decide (x9_1 < (t136.length : Int)) = true := decide_eq_true c5
    have c5b0z : decide (x9_1 < (x3_1.length : Int)) = true := by rw [← hl3_1]; exact c5b0
    have c5b0z : decide (x9_1 < (x3_1.length : Int)) = true := by rw [← hl3_1]; exact c5b0
    clear c5
    by_cases c6 : 0 ≤ x9_1
    ·rw [if_pos c6] at H
     have c6b0 : decide (0 ≤ x9_1) = true := decide_eq_true c6
     clear c6
     by_cases c7 : x9_1 < (x3_1.length : Int)
     ·rw [if_pos c7] at H
      have c7b0 : decide (x9_1 < (x3_1.length : Int)) = true := decide_eq_true c7
      clear c7
      replace H := Option.bind_eq_some_iff.mp H
      obtain ⟨t140, A80, H⟩ := H
      replace H : (tree_clone.l0 k1 (x3_1.set (x9_1 : Int).toNat (⟨(rd_T31 x3_1 x9_1).f0, (rd_T31 x3_1 x9_1).f1, (rd_T31 x3_1 x9_1).f2, t140, (rd_T31 x3_1 x9_1).f4⟩ : S31)) (t136.length : Int) (wrap64 (x9_1 + 1))) = some r := H
      have A8 := Aside0.mk A80
      clear A80
      obtain ⟨y143, hy143⟩ : ∃ y_ : List (S31), y_ = (x3_1.set (x9_1 : Int).toNat (⟨(rd_T31 x3_1 x9_1).f0, (rd_T31 x3_1 x9_1).f1, (rd_T31 x3_1 x9_1).f2, t140, (rd_T31 x3_1 x9_1).f4⟩ : S31)) := ⟨_, rfl⟩
      replace H : (tree_clone.l0 k1 y143 (t136.length : Int) (wrap64 (x9_1 + 1))) = some r := by first | (rw [hy143]; with_reducible exact H) | (have H2_ := (Option.bind_some _ _).symm.trans H; rw [hy143]; with_reducible exact H2_) | (have H2_ := (Option.bind_some _ _).symm.trans H; with_reducible exact H2_) | with_reducible exact H | (rw [hy143]; exact H) | exact H
      have Ny143 := Aside0.mk hy143
      clear hy143
      have H' := Aside0.mk H
      clear H
      have p139 : 0 ≤ (x9_1 : Int) := of_decide_eq_true (by first | (with_reducible assumption) | assumption)
      have q139 : x9_1 < (x3_1.length : Int) := of_decide_eq_true (by first | (with_reducible assumption) | assumption)
      obtain ⟨ad139, A139_3, c139_3, e139, hx139_0, hx139_1, hx139_2, hx139_3, hx139_4, hl139_3, hi139_3⟩ := at_T31 (Kd.N_reads' HO_3.out).2.2 x9_1 p139 q139
      cases e139
      obtain ⟨ce139, hce139, hMe139, hcc139⟩ := Kd.N_get HO_3.out z31 x9_1 p139 (by first | exact q139 | exact of_decide_eq_true (by first | (with_reducible assumption) | assumption) | (have e_ := (Kd.N_reads' HO_3.out).1; omega))
      obtain ⟨ua139_3, uc139_3, rfl, ul139_3, ge139_3⟩ := k31_openF hMe139
      have hv139_3 := hcc139 3 _ rfl
      rw [add_field _ _ 3 (by omega)] at hv139_3
      replace hv139_3 := Option.some.inj (hv139_3.symm.trans hx139_3)
      injection hv139_3 with hva_ hvn_ hvc_
      rw [hva_] at ge139_3
      rw [hvc_] at ul139_3
      have HL139_3 := Aside0.mk (show Kd.V (Kd.int .u8) 5 _ w.heap.size _ _ ((rd_T31 x3_1 x9_1).f3) from Kd.V_mk ul139_3 ge139_3)
      clear hva_ hvn_ hvc_ ge139_3 ul139_3
      clear hcc139 hce139
      have HR139_3 := Aside0.mk hi139_3
      have HC139_3 := Aside0.mk hl139_3
      clear hi139_3 hl139_3
      replace p139 := eq_true p139
      replace q139 := eq_true q139
      go_wp2_with (first | ((with_reducible refine gate_callee (f := 64) rfl ?_); refine goesL_ (some 19) rfl rfl Try.func64 (by kernel_rfl) rfl #[.slice A139_3 ((rd_T31 x3_1 x9_1).f3).length c139_3] rfl (by (try simp only [List.map_toArray, List.map_cons, List.map_nil]); first | done | rfl | (simp only [List.length_drop, List.length_take]; rfl)) ?_; (with_reducible refine (slices_Clone_byte_byte.calls2 _ _ ((rd_T31 x3_1 x9_1).f3) t140 _ ?side1 ?side2 A8.out).mono ?_); (case side1 => repeat (first | exact (by repeat (first | (with_reducible exact HR139_3.out) | (with_reducible refine Kd.C_alloc ?_ _) | (with_reducible refine Kd.C_drewN ?_ _) | (with_reducible refine Kd.C_drew ?_) | exact HR139_3.out)) | (with_reducible refine Kd.C_alloc ?_ _) | (with_reducible refine Kd.C_drewN ?_ _) | (with_reducible refine Kd.C_drew ?_))); (case side2 => exact HC139_3.out); rintro e w10 ⟨v141, rfl, ho0, hfu0, hb⟩; have KF := Aside0.mk hfu0; clear hfu0; refine ⟨_, rfl, ?_⟩; have KR := Aside0.mk ho0; have KB := Aside0.mk hb; have n0_ := Aside0.mk (Kd.N_elder' (by (with_reducible repeat (first | apply Kd.N_alloc | apply Kd.N_drewN | apply Kd.N_drew)); exact HO_3.out) (Kd.R_base ho0) hb); have n1_ := Aside0.mk (Kd.V_elder' (by (with_reducible repeat (first | apply Kd.V_alloc | apply Kd.V_drewN | apply Kd.V_drew)); exact HL139_3.out) (Kd.R_base ho0) hb); have n2_ := Aside0.mk (Kd.R_lower (Kd.R_newM (M := fun k_ => (w.heap.size ≤ k_)) ho0 (below_size (by repeat (first | (with_reducible first | exact HB.out | apply below_alloc | apply pw_below_drewN | apply below_drew1) | exact HB.out))) (fun k_ h_ => h_)) (below_size (by repeat (first | (with_reducible first | exact HB.out | apply below_alloc | apply pw_below_drewN | apply below_drew1) | exact HB.out)))); have n3_ := Aside0.mk (Kd.C_below (by repeat (first | (with_reducible exact HR139_3.out) | (with_reducible refine Kd.C_alloc ?_ _) | (with_reducible refine Kd.C_drewN ?_ _) | (with_reducible refine Kd.C_drew ?_) | exact HR139_3.out)) hb); have n4_ := Aside0.mk (below_step (by repeat (first | (with_reducible first | exact HB.out | apply below_alloc | apply pw_below_drewN | apply below_drew1) | exact HB.out)) hb); clear HO_3; clear HL139_3; clear HR139_3; clear HB; have HO_3 := n0_; have HL139_3 := n1_; have HO142 := n2_; have HR139_3 := n3_; have HB := n4_; clear n0_ n1_ n2_ n3_ n4_; (try clear hb); (try clear hb2); (try clear hk); (try clear hi); (try clear ho0); have p9 : 0 ≤ (x9_1 : Int) := of_decide_eq_true (by first | (with_reducible assumption) | assumption); have q9 : (x9_1 : Int) < ((x3_1.length : Int) : Int) := of_decide_eq_true (by first | (with_reducible assumption) | assumption); obtain ⟨go9, co9, eo9, gb9, gl9, cl9, HG9⟩ := Kd.N_form HO_3.out (by omega); (first | cases eo9 | (injection eo9 with ea_ en_ ec_; (first | subst ea_ | (injection ea_ with ea_; subst ea_)); subst ec_; clear en_)); have GB9 := Aside0.mk gb9; have GL9 := Aside0.mk (show go9 < wr.heap.size from by obtain ⟨g_, c_, e_, _, l_, _⟩ := Kd.N_form KN.out (by omega); injection e_ with a_ _ _; injection a_ with a_; injection a_ with b_ _ _; rw [b_]; exact l_); have GG9 := Aside0.mk HG9; clear gb9 gl9 HG9; (first | simp only [add_plain] at hx139_0 | skip); (first | simp only [add_plain] at hx139_1 | skip); (first | simp only [add_plain] at hx139_2 | skip); (first | simp only [add_plain] at hx139_3 | skip); (first | simp only [add_plain] at hx139_4 | skip); obtain ⟨ce9, hcl9, hM9, hcc9, hfr9⟩ := Kd.N_elem HO_3.out z31 (x9_1 : Int) p9 q9; obtain ⟨ua9_3, uc9_3, rfl, ul9_3, ge9_3⟩ := k31_openF hM9; have hx9_0 : w10.cell? ⟨go9, (x9_1 : Int).toNat * 5, none⟩ = some (.string ((rd_T31 x3_1 x9_1).f0)) := hcc9 0 _ rfl; have hx9_1 : w10.cell? ⟨go9, (x9_1 : Int).toNat * 5 + 1, none⟩ = some (.int .i64 ((rd_T31 x3_1 x9_1).f1)) := hcc9 1 _ rfl; have hx9_2 : w10.cell? ⟨go9, (x9_1 : Int).toNat * 5 + 2, none⟩ = some (.int .i64 ((rd_T31 x3_1 x9_1).f2)) := hcc9 2 _ rfl; have hx9_3 : w10.cell? ⟨go9, (x9_1 : Int).toNat * 5 + 3, none⟩ = some (.slice ua9_3 ((rd_T31 x3_1 x9_1).f3).length uc9_3) := hcc9 3 _ rfl; have hx9_4 : w10.cell? ⟨go9, (x9_1 : Int).toNat * 5 + 4, none⟩ = some (.string ((rd_T31 x3_1 x9_1).f4)) := hcc9 4 _ rfl; have HX3 := Aside0.mk hx9_3; have hf9_0 : w10.frozen? ⟨go9, (x9_1 : Int).toNat * 5, none⟩ = false := hfr9 0; have hf9_1 : w10.frozen? ⟨go9, (x9_1 : Int).toNat * 5 + 1, none⟩ = false := hfr9 1; have hf9_2 : w10.frozen? ⟨go9, (x9_1 : Int).toNat * 5 + 2, none⟩ = false := hfr9 2; have hf9_3 : w10.frozen? ⟨go9, (x9_1 : Int).toNat * 5 + 3, none⟩ = false := hfr9 3; have hf9_4 : w10.frozen? ⟨go9, (x9_1 : Int).toNat * 5 + 4, none⟩ = false := hfr9 4; clear hcl9 hcc9 hfr9 hM9; replace p9 := eq_true p9; replace q9 := eq_true q9; have HX11 := Aside0.mk (show Kd.N k31 31 w10 w.heap.size (fun k_ => (P0_ k_ ∨ w.heap.size ≤ k_)) (.slice (some ⟨go9, 0, none⟩) x3_1.length co4) x3_1 from (by (with_reducible repeat (first | apply Kd.N_alloc | apply Kd.N_drewN | apply Kd.N_drew)); exact Kd.N_mono HO_3.out (fun _ hk => hk.1))); obtain ⟨ce11, hcl11, hM11, hcc11, hfr11⟩ := Kd.N_elem HX11.out z31 (x9_1 : Int) (of_decide_eq_true (by first | (with_reducible assumption) | assumption)) (by have h_ : (x9_1 : Int) < ((x3_1.length : Int) : Int) := of_decide_eq_true (by first | (with_reducible assumption) | assumption); first | exact h_ | (have e_ := (Kd.N_reads' HO_3.out).1; omega) | simpa using h_); obtain ⟨ua11_3, uc11_3, rfl, ul11_3, ge11_3⟩ := k31_openF hM11; have HP11 := Kd.N_seg HX11.out (x9_1 : Int) (of_decide_eq_true (by first | (with_reducible assumption) | assumption)) (by have h_ : (x9_1 : Int) < ((x3_1.length : Int) : Int) := of_decide_eq_true (by first | (with_reducible assumption) | assumption); first | exact h_ | (have e_ := (Kd.N_reads' HO_3.out).1; omega) | simpa using h_) (seg := [v141]) (j := 3) hcl11 hcc11 (show 4 ≤ 5 from by decide) (x' := (⟨(rd_T31 x3_1 x9_1).f0, (rd_T31 x3_1 x9_1).f1, (rd_T31 x3_1 x9_1).f2, t140, (rd_T31 x3_1 x9_1).f4⟩ : S31)) (entry_mkFv _ _ (⟨(rd_T31 x3_1 x9_1).f0, (rd_T31 x3_1 x9_1).f1, (rd_T31 x3_1 x9_1).f2, t140, (rd_T31 x3_1 x9_1).f4⟩ : S31) _ (Kd.R_mono (ok' := (fun k_ => ((fun k_ => (P0_ k_ ∨ w.heap.size ≤ k_))) k_ ∧ k_ ≠ go9)) (Kd.R_apart' (HO142.out) (Kd.N_typed HO_3.out) (by decide)) (fun k_ hk => ⟨(.inr (hk.1.1)), fun e_ => (hk.2) (by rw [e_]; rfl)⟩))) (fun _ hk => hk); have hx11_3 := hcc11 3 _ rfl; (try simp only [show (k31).sz = 5 from rfl, Nat.mul_one, Nat.add_zero] at hx11_3); have hf11_3 := hfr11 3; (try simp only [show (k31).sz = 5 from rfl, Nat.mul_one, Nat.add_zero] at hf11_3); clear hcl11 hcc11 hfr11 hM11) | ((with_reducible refine gate_store (t := 29) (p := 21) rfl ?_); refine store_event (t := 29) (p := 21) (v := ?vo_w12) (w1 := (w10.setCell ⟨go9, (x9_1 : Int).toNat * 5 + 3, none⟩ (v141))) ?hg ?ho ?hn ?hr ?_; (case ho => rfl); (case hg => rfl); (case hn => rfl); (case hr => first | (obtain ⟨A_, c_, rfl⟩ := Kd.R_slice HO142.out; first | (go_simp; done) | (go_simp; rfl)) | (go_simp; done) | (go_simp; rfl)); intro w12 hw; have hg : w10.grownBy w12 (some go9) := (by rw [hw]; exact HP11.2); have HOW2 := Aside0.mk (show OwnUpTo w12 w.heap.size (some ⟨go9, 0, none⟩) y143 (x9_1 + 1) from by rw [hw, Ny143.out]; exact OwnUpTo.step HOW.out KB.out KR.out KF.out GL9.out (of_decide_eq_true (by first | (with_reducible assumption) | assumption)) HBW.out HX3.out); have hp_ : Kd.N k31 31 w12 w.heap.size (fun k_ => (P0_ k_ ∨ w.heap.size ≤ k_)) (.slice (some ⟨go9, 0, none⟩) x3_1.length co4) y143 := (by rw [hw, Ny143.out]; exact HP11.1); clear HP11; have n0_ := Aside0.mk (hp_); have n1_ := Aside0.mk (Kd.V_afterv (v := (.slice (some ⟨go9, 0, none⟩) x3_1.length co4)) (v1 := (.slice (some ⟨go9, 0, none⟩) x3_1.length co4)) (ok := (fun k_ => (P0_ k_ ∨ w.heap.size ≤ k_) ∧ some k_ ≠ (v141 : Value).ownBlock)) (by (with_reducible repeat (first | apply Kd.V_alloc | apply Kd.V_drewN | apply Kd.V_drew)); exact Kd.V_mono HL139_3.out (fun _ hk => ⟨⟨hk.1.1, hk.2⟩, hk.1.2⟩)) hg (.inl rfl)); have n2_ := Aside0.mk ((by rw [hw]; exact below_set (HB.out) GB9.out : Below w.heap.size w w12)); clear HO_3; clear HL139_3; clear HB; clear HO142; have HO_3 := n0_; have HL139_3 := n1_; have HB := n2_; clear n0_ n1_ n2_; clear hg hw hp_))
      (try simp only [← hl3_1])
      go_roundg k1
      case measure => have := HK1.out; omega
      case rel => exact ⟨(y143), (wrap64 (x9_1 + 1)), (by first | rfl | (simp; done) | (simp [*]; done)), H', ⟨by have := HK1.out; omega⟩, ⟨by (try simp only [hl3_1]); (with_reducible repeat (first | apply Kd.N_alloc | apply Kd.N_drewN | apply Kd.N_drew)); exact HO_3.out⟩, ⟨by rw [show wrap64 (x9_1 + 1) = x9_1 + 1 from by have := Kd.C_max (Kd.N_reads' KN.out).2.2; unfold wrap64; have q_ : x9_1 < (x3_1.length : Int) := of_decide_eq_true (by first | (with_reducible assumption) | assumption); have p_ : 0 ≤ x9_1 := of_decide_eq_true (by first | (with_reducible assumption) | assumption); omega]; exact HOW2.out⟩, ⟨by repeat (first | (with_reducible first | exact HB.out | apply below_alloc | apply pw_below_drewN | apply below_drew1) | exact HB.out)⟩⟩
     ·rw [if_neg c7] at H
      exact absurd H (by simp)
    ·rw [if_neg c6] at H
     exact absurd H (by simp)
   ·rw [if_neg c5] at H
    have c5b0 : decide (x9_1 < (t136.length : Int)) = false := decide_eq_false c5
    have c5b0z : decide (x9_1 < (x3_1.length : Int)) = false := by rw [← hl3_1]; exact c5b0
    have c5b0z : decide (x9_1 < (x3_1.length : Int)) = false := by rw [← hl3_1]; exact c5b0
    clear c5
    obtain rfl := Option.some.inj H
    go_wp2
    go_ret
    exact ⟨_, rfl, Kd.S_mono (OwnUpTo.done HO_3.out HOW.out (by have := (Kd.N_reads' HO_3.out).1; have q_ := of_decide_eq_false c5b0; omega)) (fun _ _ => trivial), OwnUpTo.full HOW.out (by have := (Kd.N_reads' HO_3.out).1; have q_ := of_decide_eq_false c5b0; omega), HB.out⟩
theorem tree_clone.calls (k : Nat) (A0 : Option Addr) (c0 : Nat) (l0 : List (S31)) (r : List (S31)) (w : World) (hr0 : Kd.C k31 w A0 l0.length l0) (hc0 : l0.length ≤ c0) (h : tree_clone.f k l0 = some r) :
  Calls Try.prog 41 #[.slice A0 l0.length c0] w fun e w' => ∃ v0_ : Value, e = .returned (v0_) ∧ Kd.S k31 31 w' w.heap.size (fun _ => True) v0_ r ∧ Below w.heap.size w w' :=
 (tree_clone.calls2 k A0 c0 l0 r w hr0 hc0 h).mono fun e w' ⟨v, h1, h2, _, h4⟩ => ⟨v, h1, h2, h4⟩

end Go.Proofs.Ytopkmchkfcjjmaa.X
end

/-! ## Insert -/
section
namespace Go.Proofs.Ytopkmchkfcjjmaa.X
open Go.RowKit Go.Proofs.YtopkmchkfcjjmaaW.PrintWords Go.Proofs.YtopkmchkfcjjmaaW.PrintLast Go.Proofs.YtopkmchkfcjjmaaW.PrintMore
set_option linter.unusedVariables false
set_option linter.unusedSimpArgs false
/-- A builtin copy of elements of k cells. -/
theorem run_copy_cells_k {P : Program} (w : World) (dT sT ty elem : TypeId) (b o dLen dCap : Nat) (a : Addr) (sLen sCap k : Nat) (cs : List Value)
  (hu : P.underlying dT = some (.slice elem)) (hs : (P.info? elem).map (·.size) = some k) (hn : cs.length = Nat.min sLen dLen * k)
  (hsrc : ∀ j v, cs[j]? = some v → w.cell? (a.add j) = some v) (hc : ∀ j, j < cs.length → (w.cell? ⟨b, o + j, none⟩).isSome = true) (hf : ∀ j, j < cs.length → w.frozen? ⟨b, o + j, none⟩ = false) (h1 : ∀ v ∈ cs, v.oneCell' = true) :
  (Builtin.copy_ #[dT, sT] ty #[.slice (some ⟨b, o, none⟩) dLen dCap, .slice (some a) sLen sCap]).run P w = .ok (goInt (Nat.min sLen dLen)) (w.setCells b o cs) := by
 have hl := run_loadCells_list (P := P) w a cs hsrc
 have hst := run_storeCells_cells (P := P) b o cs 0 w (by simpa using hc) (by simpa using hf) h1
 rw [hn] at hl
 cases hq : P.info? elem with
 | none => simp [hq] at hs
 | some i =>
  have hi : i.size = k := by simpa [hq] using hs
  simp [Builtin.copy_, run_underlying hu, Builtin.lenOf, Builtin.firstCells, sizeOf, typeInfo, hq, hi, hl, hst]
set_option maxHeartbeats 4000000 in
set_option maxRecDepth 100000 in
/-- There is room, and something stands behind the place: in place. -/
theorem insert_shift (b n c i vb : Nat) (cs vs : List Value) (w : World) (hi : i < n) (hroom : n + 1 ≤ c) (hc63 : c ≤ 9223372036854775807) (hn63 : n < 1000000) (hvb : vb ≠ b)
  (hcl : cs.length = n * 5) (hvl : vs.length = 5)
  (hcs : ∀ j v, cs[j]? = some v → w.cell? ⟨b, j, none⟩ = some v) (hsp : ∀ j, j < (n + 1) * 5 → (w.cell? ⟨b, j, none⟩).isSome = true) (hfz : ∀ j, j < (n + 1) * 5 → w.frozen? ⟨b, j, none⟩ = false)
  (hvs : ∀ j v, vs[j]? = some v → w.cell? ⟨vb, j, none⟩ = some v) (h1c : ∀ v ∈ cs, v.oneCell' = true) (h1v : ∀ v ∈ vs, v.oneCell' = true)
  (tA tB : TypeId) (kA kB : Nat) (hsa : w.shape? vb = some (tA, kA)) (hsb : w.shape? b = some (tB, kB)) (hkB : kB ≠ 0) (hfa : w.frozen? ⟨vb, 0, none⟩ = false) (hfe : w.frozen? ⟨vb, kA, none⟩ = false) :
  Calls Try.prog 56 #[.slice (some ⟨b, 0, none⟩) n c, .int .i64 i, .slice (some ⟨vb, 0, none⟩) 1 1] w fun e w' =>
   e = .returned (.slice (some ⟨b, 0, none⟩) (n + 1) c) ∧ w' = (w.drew.setCells b ((i + 1) * 5) (cs.drop (i * 5))).setCells b (i * 5) vs := by
 obtain ⟨i0, hi0, hz0, hzs, hzb⟩ := info_parts info31
 have hsz : (Try.prog.info? 31).map (·.size) = some 5 := by rw [hi0]; simp [hzs]
 have hz2 : ¬ ((i : Int) = (n : Int)) := by omega
 have hov : ∀ lb cb, (callFunc 73 #[.slice (some ⟨vb, 0, none⟩) 1 1, .slice (some ⟨b, (i + 1) * 5, none⟩) lb cb]).run Try.prog w = .ok (.value (.bool false)) w := fun lb cb => by
  rw [run_callFunc_extern Try.func73 (by kernel_rfl) (by kernel_rfl) (by kernel_rfl) (e := Extern.SlicesOverlaps.overlaps #[22, 22] #[4]) (by kernel_rfl),
   Lib.run_overlaps_apart w 22 4 31 Try.underlying22 5 (fun w => by simp [sizeOf, typeInfo, hi0, hzs]) ⟨vb, 0, none⟩ ⟨b, (i + 1) * 5, none⟩ 1 1 lb cb hvb tA tB kA kB hsa hsb hkB hfa hfe]
  rfl
 have hdl : (cs.drop (i * 5)).length = (n - i) * 5 := by rw [List.length_drop, hcl, Nat.sub_mul]
 have hw1 : IntKind.i64.wrap ((i : Int) + 1) = (i : Int) + 1 := by rw [IntKind.wrap_i64]; omega
 have hb1 : (0 : Int) ≤ (i : Int) + 1 := by omega
 have hin : i ≤ n := by omega
 have htn : ((i : Int) + 1).toNat = i + 1 := by omega
 have hb2 : ¬ (c = i + 1) := by omega
 have hb3 : (i : Int) ≤ (n : Int) + 1 := by omega
 have hb4 : ¬ (c = i) := by omega
 have hb5 : (i : Int) + 1 ≤ (n : Int) + 1 := by omega
 have hcp1 : ∀ ty dc sc, (Builtin.copy_ #[22, 22] ty #[.slice (some ⟨b, (i + 1) * 5, none⟩) (n - i) dc, .slice (some ⟨b, i * 5, none⟩) (n + 1 - i) sc]).run Try.prog w.drew = .ok (goInt (Nat.min (n + 1 - i) (n - i))) (w.drew.setCells b ((i + 1) * 5) (cs.drop (i * 5))) := fun ty dc sc =>
  run_copy_cells_k w.drew _ _ ty 31 b ((i + 1) * 5) (n - i) dc ⟨b, i * 5, none⟩ (n + 1 - i) sc 5 (cs.drop (i * 5)) Try.underlying22 hsz (by rw [hdl]; congr 1; simp only [Nat.min_def]; split <;> omega)
   (fun j v hj => by rw [Addr.add_lit]; exact hcs (i * 5 + j) v (by rwa [List.getElem?_drop] at hj))
   (fun j hj => hsp _ (by omega)) (fun j hj => hfz _ (by omega)) (fun v hv => h1c v (List.mem_of_mem_drop hv))
 obtain ⟨W1, hW1⟩ : ∃ W1, W1 = w.drew.setCells b ((i + 1) * 5) (cs.drop (i * 5)) := ⟨_, rfl⟩
 have hsp1 : ∀ k, k < (n + 1) * 5 → (W1.cell? ⟨b, k, none⟩).isSome = true := fun k hk => by
  rw [hW1]
  exact isSome_setCells b (cs.drop (i * 5)) ((i + 1) * 5) w.drew (fun j hj => hsp _ (by rw [hdl] at hj; omega)) k (hsp k hk)
 have hcp2 : ∀ (W : World), (∀ x, W.cell? x = W1.cell? x) → (∀ x, W.frozen? x = W1.frozen? x) → ∀ ty dc, (Builtin.copy_ #[22, 22] ty #[.slice (some ⟨b, i * 5, none⟩) (n + 1 - i) dc, .slice (some ⟨vb, 0, none⟩) 1 1]).run Try.prog W = .ok (goInt (Nat.min 1 (n + 1 - i))) (W.setCells b (i * 5) vs) := fun W hWc hWf ty dc =>
  run_copy_cells_k W _ _ ty 31 b (i * 5) (n + 1 - i) dc ⟨vb, 0, none⟩ 1 1 5 vs Try.underlying22 hsz (by rw [hvl, show Nat.min 1 (n + 1 - i) = 1 from Nat.min_eq_left (by omega)])
   (fun j v hj => by
    rw [Addr.add_lit, hWc, hW1, World.cell?_setCells_out b _ _ _ _ (fun h _ => absurd h hvb), Nat.zero_add]
    exact hvs j v hj)
   (fun j hj => by rw [hWc]; exact hsp1 _ (by omega)) (fun j hj => by rw [hWf, hW1, World.frozen?_setCells]; exact hfz _ (by omega)) h1v
 rw [← hW1] at hcp1
 go_enter Try.func56, Try.ntmps56
 go_wp2_with (simp only [hov])
 go_region_law (refine step_copy_runI rfl _ _ 22 22 rfl _ _ (by simp [Act.eval, Act.put]) (by simp [Act.eval, Act.put]) (hcp1 _ _ _) ?_)
 go_wp2_with (at_builtin; refine wpList_copy_runI _ rfl _ _ 22 22 rfl _ _ rfl rfl (hcp2 _ (fun _ => rfl) (fun _ => rfl) _ _) ?_)
 go_ret
 first | exact ⟨rfl, rfl⟩ | exact ⟨rfl, by rw [hW1]⟩
set_option maxHeartbeats 4000000 in
set_option maxRecDepth 100000 in
/-- There is no room, and something stands behind the place: a new row. -/
theorem insert_grow (b n i vb : Nat) (cs vs : List Value) (w : World) (hi : i < n) (hn63 : n < 1000000)
  (hcl : cs.length = n * 5) (hvl : vs.length = 5)
  (hcs : ∀ j v, cs[j]? = some v → w.cell? ⟨b, j, none⟩ = some v)
  (hvs : ∀ j v, vs[j]? = some v → w.cell? ⟨vb, j, none⟩ = some v) (h1c : ∀ v ∈ cs, v.oneCell' = true) (h1v : ∀ v ∈ vs, v.oneCell' = true) :
  Calls Try.prog 56 #[.slice (some ⟨b, 0, none⟩) n n, .int .i64 i, .slice (some ⟨vb, 0, none⟩) 1 1] w fun e w' => ∃ (G : Nat) (ROW : Array Value), n + 1 ≤ G ∧ G ≤ maxLen ∧ ROW.size = G * 5 ∧ ROW.toList.take (i * 5) = cs.take (i * 5) ∧
   e = .returned (.slice (some ⟨w.heap.size, 0, none⟩) (n + 1) G) ∧
   w' = (((w.alloc (.cells ROW 31)).drew.setCells w.heap.size (i * 5) vs).drew).setCells w.heap.size ((i + 1) * 5) (cs.drop (i * 5)) := by
 obtain ⟨i0, hi0, hz0, hzs, hzb⟩ := info_parts info31
 have hsz : (Try.prog.info? 31).map (·.size) = some 5 := by rw [hi0]; simp [hzs]
 have hz2 : ¬ ((i : Int) = (n : Int)) := by omega
 have hz3 : (n : Int) < (n : Int) + 1 := by omega
 have hbw : b < w.heap.size := block_lt_of_cell (hcs 0 _ (List.getElem?_eq_getElem (by omega)))
 have hvw : vb < w.heap.size := block_lt_of_cell (hvs 0 _ (List.getElem?_eq_getElem (by omega)))
 have hkk : (n : Int) + 1 - (i : Int) = ((n + 1 - i : Nat) : Int) := by omega
 have hik : i + (n + 1 - i) = n + 1 := by omega
 have hold : (Builtin.firstCells i0.size i (.slice (some ⟨b, 0, none⟩) i n)).run Try.prog w.drew = .ok (cs.take (i * 5)).toArray w.drew := by
  rw [hzs]
  exact run_firstCells_some w.drew 5 i ⟨b, 0, none⟩ i n (cs.take (i * 5)) (by rw [List.length_take]; omega) (fun j v hj => by
   rw [Addr.add_lit, Nat.zero_add]
   rw [List.getElem?_take] at hj
   split at hj
   ·exact hcs j v hj
   ·cases hj)
 obtain ⟨z, hz⟩ : ∃ z : Value, z = .agg #[.string (⟨#[]⟩ : ByteArray), .int .i64 0, .int .i64 0, .slice none 0 0, .string (⟨#[]⟩ : ByteArray)] := ⟨_, rfl⟩
 have hzc : z.cells.size = 5 := by rw [hz]; rfl
 have hz0' : i0.zero = some z := by rw [hz]; exact hz0
 have hrz : ∀ ty, (Builtin.append_ #[22, 3] ty #[.slice (some ⟨b, 0, none⟩) i n, .int .i64 ((n : Int) + 1 - (i : Int))]).run Try.prog w =
   .ok (.slice (some ⟨w.heap.size, 0, none⟩) (n + 1) (grownCap w (n + 1) n 31)) (w.drew.alloc (.cells ((cs.take (i * 5)).toArray ++ Builtin.zeroCells z.cells (n + 1 - i) ++ Builtin.zeroCells z.cells (grownCap w (n + 1) n 31 - (n + 1))) 31)) := fun ty => by
  have h := Lib.run_append_grow_zeros w 22 3 ty 31 i0 _ .i64 .i64 Try.underlying22 Try.underlying3 hi0 hz0' (some ⟨b, 0, none⟩) i n (cs.take (i * 5)) hold (n + 1 - i) (by omega) (by omega) (by omega) (by omega) (by rw [hzb]; omega) (by rw [hzb, hik]; exact growslice_fits (by omega) (by omega))
  rw [hik] at h
  rw [hkk]
  exact h
 have hGn : n + 1 ≤ grownCap w (n + 1) n 31 := grownCap_ge w _ _ _
 have hGm : grownCap w (n + 1) n 31 ≤ maxLen := grownCap_le_maxLen w (n + 1) n 31 (by unfold maxLen; omega)
 generalize grownCap w (n + 1) n 31 = G at hrz hGn hGm
 obtain ⟨ROW, hROW⟩ : ∃ ROW : Array Value, ROW = (cs.take (i * 5)).toArray ++ Builtin.zeroCells z.cells (n + 1 - i) ++ Builtin.zeroCells z.cells (G - (n + 1)) := ⟨_, rfl⟩
 rw [← hROW] at hrz
 have hRl : ROW.size = G * 5 := by
  rw [hROW]
  simp only [Array.size_append, size_zeroCells, hzc, List.size_toArray, List.length_take, hcl]
  omega
 have hRt : ROW.toList.take (i * 5) = cs.take (i * 5) := by
  rw [hROW, Array.append_assoc, Array.toList_append]
  rw [List.take_left' (by simp [hcl]; omega)]
 refine Calls.mono (R := fun e w' => e = .returned (.slice (some ⟨w.heap.size, 0, none⟩) (n + 1) G) ∧ w' = (((w.alloc (.cells ROW 31)).drew.setCells w.heap.size (i * 5) vs).drew).setCells w.heap.size ((i + 1) * 5) (cs.drop (i * 5))) ?_ (fun e w' h => ⟨G, ROW, hGn, hGm, hRl, hRt, h.1, h.2⟩)
 obtain ⟨W1, hW1⟩ : ∃ W1, W1 = w.drew.alloc (.cells ROW 31) := ⟨_, rfl⟩
 rw [← hW1] at hrz
 have hN : ∀ j, j < (n + 1) * 5 → (W1.cell? ⟨w.heap.size, j, none⟩).isSome = true := fun j hj => by
  rw [hW1, World.cell?_alloc_at (w := w.drew) ROW _ w.heap.size j rfl, Array.getElem?_eq_getElem (by omega)]; rfl
 have hNf : ∀ j, W1.frozen? ⟨w.heap.size, j, none⟩ = false := fun j => by rw [hW1]; exact World.frozen?_alloc_at (w := w.drew) ROW _ w.heap.size j rfl
 have hOb : ∀ j v, w.cell? ⟨b, j, none⟩ = some v → W1.cell? ⟨b, j, none⟩ = some v := fun j v h => by rw [hW1, World.cell?_alloc_past (w := w.drew) _ b j hbw]; exact h
 have hOv : ∀ j v, w.cell? ⟨vb, j, none⟩ = some v → W1.cell? ⟨vb, j, none⟩ = some v := fun j v h => by rw [hW1, World.cell?_alloc_past (w := w.drew) _ vb j hvw]; exact h
 have hcpA : ∀ (W : World), (∀ x, W.cell? x = W1.cell? x) → (∀ x, W.frozen? x = W1.frozen? x) → ∀ ty dc, (Builtin.copy_ #[22, 22] ty #[.slice (some ⟨w.heap.size, i * 5, none⟩) (n + 1 - i) dc, .slice (some ⟨vb, 0, none⟩) 1 1]).run Try.prog W = .ok (goInt (Nat.min 1 (n + 1 - i))) (W.setCells w.heap.size (i * 5) vs) := fun W hWc hWf ty dc =>
  run_copy_cells_k W _ _ ty 31 w.heap.size (i * 5) (n + 1 - i) dc ⟨vb, 0, none⟩ 1 1 5 vs Try.underlying22 hsz (by rw [hvl, show Nat.min 1 (n + 1 - i) = 1 from Nat.min_eq_left (by omega)])
   (fun j v hj => by rw [Addr.add_lit, Nat.zero_add, hWc]; exact hOv _ v (hvs j v hj))
   (fun j hj => by rw [hWc]; exact hN _ (by omega)) (fun j hj => by rw [hWf]; exact hNf _) h1v
 have hG63 : G ≤ 9223372036854775807 := by unfold maxLen at hGm; omega
 have hGi : ¬ (G = i) := by omega
 have hGim : ¬ (G = i + 1) := by omega
 have hci : ¬ (n = i) := by omega
 have hbN : b ≠ w.heap.size := by omega
 have hdl : (cs.drop (i * 5)).length = (n - i) * 5 := by rw [List.length_drop, hcl, Nat.sub_mul]
 have hcpB : ∀ (W : World), (∀ x, W.cell? x = (W1.setCells w.heap.size (i * 5) vs).cell? x) → (∀ x, W.frozen? x = (W1.setCells w.heap.size (i * 5) vs).frozen? x) → ∀ ty dc sc, (Builtin.copy_ #[22, 22] ty #[.slice (some ⟨w.heap.size, (i + 1) * 5, none⟩) (n - i) dc, .slice (some ⟨b, i * 5, none⟩) (n - i) sc]).run Try.prog W = .ok (goInt (Nat.min (n - i) (n - i))) (W.setCells w.heap.size ((i + 1) * 5) (cs.drop (i * 5))) := fun W hWc hWf ty dc sc =>
  run_copy_cells_k W _ _ ty 31 w.heap.size ((i + 1) * 5) (n - i) dc ⟨b, i * 5, none⟩ (n - i) sc 5 (cs.drop (i * 5)) Try.underlying22 hsz (by rw [hdl]; congr 1; simp only [Nat.min_def]; split <;> omega)
   (fun j v hj => by
    rw [Addr.add_lit, hWc, World.cell?_setCells_out _ _ _ _ _ (fun h _ => absurd h hbN)]
    exact hOb _ v (hcs (i * 5 + j) v (by rwa [List.getElem?_drop] at hj)))
   (fun j hj => by rw [hWc]; exact isSome_setCells _ _ _ _ (fun t ht => hN _ (by omega)) _ (hN _ (by omega)))
   (fun j hj => by rw [hWf, World.frozen?_setCells]; exact hNf _) (fun v hv => h1c v (List.mem_of_mem_drop hv))
 subst hW1
 have hE1 : ∀ x, ((w.alloc (.cells ROW 31)).drew).cell? x = (w.drew.alloc (.cells ROW 31)).cell? x := fun x => rfl
 have hE2 : ∀ x, ((w.alloc (.cells ROW 31)).drew).frozen? x = (w.drew.alloc (.cells ROW 31)).frozen? x := fun x => rfl
 have hF1 : ∀ x, (((w.alloc (.cells ROW 31)).drew.setCells w.heap.size (i * 5) vs).drew).cell? x = ((w.drew.alloc (.cells ROW 31)).setCells w.heap.size (i * 5) vs).cell? x := fun x => rfl
 have hF2 : ∀ x, (((w.alloc (.cells ROW 31)).drew.setCells w.heap.size (i * 5) vs).drew).frozen? x = ((w.drew.alloc (.cells ROW 31)).setCells w.heap.size (i * 5) vs).frozen? x := fun x => rfl
 have hw1 : IntKind.i64.wrap ((i : Int) + 1) = (i : Int) + 1 := by rw [IntKind.wrap_i64]; omega
 have hb1 : (0 : Int) ≤ (i : Int) + 1 := by omega
 have hin : i ≤ n := by omega
 have htn : ((i : Int) + 1).toNat = i + 1 := by omega
 have hb3 : (i : Int) ≤ (n : Int) := by omega
 clear hkk hik hold hROW hRl hRt hz0 hz0' hz hzc
 go_enter Try.func56, Try.ntmps56
 go_wp2_with (first
  | (at_builtin; refine Lib.wpList_append_run _ rfl _ _ _ _ rfl _ _ rfl rfl _ _ (hrz _) ?_)
  | (at_builtin; refine wpList_copy_runI _ rfl _ _ 22 22 rfl _ _ rfl rfl (hcpA _ hE1 hE2 _ _) ?_)
  | (at_builtin; refine wpList_copy_runI _ rfl _ _ 22 22 rfl _ _ rfl rfl (hcpB _ (fun _ => rfl) (fun _ => rfl) _ _ _) ?_))
 go_region_law (refine step_copy_runI rfl _ _ 22 22 rfl (.slice (some ⟨w.heap.size, (i + 1) * 5, none⟩) (n - i) (G - (i + 1))) (.slice (some ⟨b, i * 5, none⟩) (n - i) (n - i)) (by simp [Act.eval, Act.put]) (by simp [Act.eval, Act.put]) (hcpB _ hF1 hF2 3 (G - (i + 1)) (n - i)) ?_)
 go_wp2
 go_ret
 exact ⟨rfl, rfl⟩
set_option maxHeartbeats 4000000 in
set_option maxRecDepth 100000 in
/-- At the end: an append (a nil row, too). -/
theorem insert_end (base n vb : Nat) (v : Value) (xs vs : List Value) (w : World) (hn63 : n < 1000000) (hbase : base ≤ w.heap.size) (hown : w.ownsRow base 31 5 v n xs) (hvl : vs.length = 5)
  (hvs : ∀ j v, vs[j]? = some v → w.cell? ⟨vb, j, none⟩ = some v) (h1v : ∀ v ∈ vs, v.oneCell' = true) :
  Calls Try.prog 56 #[v, .int .i64 n, .slice (some ⟨vb, 0, none⟩) 1 1] w fun e w' => ∃ v', e = .returned v' ∧ w'.ownsRow base 31 5 v' (n + 1) (xs ++ vs) ∧ w.grownBy w' v.ownBlock := by
 obtain ⟨i0, hi0, hz0, hzs, hzb⟩ := info_parts info31
 obtain ⟨A, c, rfl⟩ := own_slice hown
 have hnc : n ≤ c := by
  rcases hown.2 with ⟨h1, rfl⟩ | ⟨g, cap, cur, h1, _, _, h2, _⟩
  ·omega
  ·injection h1 with _ _ h1; omega
 have HOWN := Aside0.mk hown
 have HVS := Aside0.mk hvs
 have hcut := fun (W : World) => cut_from (P := Try.prog) 22 31 .i64 Try.underlying22 hi0 5 hzs A n c (n : Int) (by omega) (by omega) W
 clear hown hvs
 go_enter Try.func56, Try.ntmps56
 go_wp2_with (at_builtin; refine wpList_append_own _ rfl _ _ 22 rfl base 31 i0 _ 5 72 Try.underlying22 hi0 hz0 hzs hzb rfl (by decide) _ _ _ rfl HOWN.out ⟨vb, 0, none⟩ 1 1 vs rfl hvl ?c1 ?c2 ?c3 ?c4 ?c5 ?_; (case c1 => exact fun j u hj => by rw [Addr.add_lit, Nat.zero_add]; exact HVS.out j u hj); (case c2 => exact h1v); (case c3 => unfold maxLen; omega); (case c4 => omega); (case c5 => exact hbase); intro v' w1 ho hg _)
 all_goals
  go_ret
  refine ⟨_, rfl, ho, ?_⟩
  cases A <;> exact hg
/-! ### The row -/
theorem insert_list1 {cu cu1 cu2 xs vs : List Value} {i n : Nat} (hi : i < n) (h : cu.take (n * 5) = xs) (hvl : vs.length = 5) (hl : (n + 1) * 5 ≤ cu.length)
  (h1 : cu1 = cu.take ((i + 1) * 5) ++ xs.drop (i * 5) ++ cu.drop ((i + 1) * 5 + (xs.drop (i * 5)).length)) (h2 : cu2 = cu1.take (i * 5) ++ vs ++ cu1.drop (i * 5 + vs.length)) :
  cu2.take ((n + 1) * 5) = xs.take (i * 5) ++ vs ++ xs.drop (i * 5) := by
 have hxl : xs.length = n * 5 := by rw [← h, List.length_take]; omega
 have ha : cu1.take (i * 5) = xs.take (i * 5) := by
  rw [h1, List.append_assoc, List.take_append_of_le_length (by rw [List.length_take]; omega), List.take_take, ← h, List.take_take]
  congr 1; omega
 have hb : cu1.drop (i * 5 + vs.length) = xs.drop (i * 5) ++ cu.drop ((i + 1) * 5 + (xs.drop (i * 5)).length) := by
  rw [h1, List.append_assoc, List.drop_left' (by rw [List.length_take]; omega)]
 rw [h2, ha, hb, ← List.append_assoc]
 rw [List.take_left' (by rw [List.length_append, List.length_append, List.length_take, List.length_drop]; omega)]
theorem insert_list2 {ro ro1 ro2 xs vs : List Value} {i n : Nat} (hi : i < n) (hxl : xs.length = n * 5) (h : ro.take (i * 5) = xs.take (i * 5)) (hvl : vs.length = 5) (hl : (n + 1) * 5 ≤ ro.length)
  (h1 : ro1 = ro.take (i * 5) ++ vs ++ ro.drop (i * 5 + vs.length)) (h2 : ro2 = ro1.take ((i + 1) * 5) ++ xs.drop (i * 5) ++ ro1.drop ((i + 1) * 5 + (xs.drop (i * 5)).length)) :
  ro2.take ((n + 1) * 5) = xs.take (i * 5) ++ vs ++ xs.drop (i * 5) := by
 have ha : ro1.take ((i + 1) * 5) = xs.take (i * 5) ++ vs := by
  rw [h1, h, List.take_left' (by rw [List.length_append, List.length_take]; omega)]
 rw [h2, ha]
 rw [List.take_left' (by rw [List.length_append, List.length_append, List.length_take, List.length_drop]; omega)]
theorem slices_Insert.calls (base n i vb : Nat) (v : Value) (xs vs : List Value) (w : World) (hn63 : n < 1000000) (hi : i ≤ n) (hbase : base ≤ w.heap.size) (hown : w.ownsRow base 31 5 v n xs) (h1x : ∀ u ∈ xs, u.oneCell' = true)
  (hvl : vs.length = 5) (hvb : v.ownBlock ≠ some vb) (hv : w.heap[vb]? = some (.cells vs.toArray 31 (0, 0))) (h1v : ∀ u ∈ vs, u.oneCell' = true) :
  Calls Try.prog 56 #[v, .int .i64 i, .slice (some ⟨vb, 0, none⟩) 1 1] w fun e w' => ∃ v', e = .returned v' ∧ w'.ownsRow base 31 5 v' (n + 1) (xs.take (i * 5) ++ vs ++ xs.drop (i * 5)) ∧ w.grownBy w' v.ownBlock := by
 have hvs : ∀ j u, vs[j]? = some u → w.cell? ⟨vb, j, none⟩ = some u := fun j u hj => by rw [blk_cell hv]; simpa using hj
 have hxl := hown.1
 by_cases hin : i = n
 ·subst hin
  have e1 : xs.take (i * 5) = xs := List.take_of_length_le (by omega)
  have e2 : xs.drop (i * 5) = [] := List.drop_eq_nil_of_le (by omega)
  rw [e1, e2, List.append_nil]
  exact insert_end base i vb v xs vs w hn63 hbase hown hvl hvs h1v
 ·have hlt : i < n := by omega
  rcases hown.2 with ⟨_, hz⟩ | ⟨g, c, cur, hvv, hg, hh, hnc, hcm, hcs, htk⟩
  ·omega
  ·subst hvv
   have hne : vb ≠ g := fun e => hvb (by rw [e]; rfl)
   have hcs2 : ∀ j u, xs[j]? = some u → w.cell? ⟨g, j, none⟩ = some u := fun j u hj => by
    have hjl : j < n * 5 := by have := (List.getElem?_eq_some_iff.1 hj).1; omega
    rw [blk_cell hh]
    rw [← htk, List.getElem?_take_of_lt hjl, Array.getElem?_toList] at hj
    exact hj
   by_cases hroom : n + 1 ≤ c
   ·refine (insert_shift g n c i vb xs vs w hlt hroom (by unfold maxLen at hcm; omega) hn63 hne hxl hvl hcs2 (fun j hj => by rw [blk_cell hh, Array.getElem?_eq_getElem (by omega)]; rfl) (fun j _ => blk_frozen hh j) hvs h1x h1v 31 31 5 cur.size
     (by simp [World.shape?, hv, hvl]) (by simp [World.shape?, hh]) (by omega) (blk_frozen hv 0) (blk_frozen hv 5)).mono ?_
    rintro e w' ⟨rfl, rfl⟩
    obtain ⟨cur1, h1, h2, h3⟩ := setCells_row (xs.drop (i * 5)) ((i + 1) * 5) w.drew cur hh (by rw [List.length_drop]; omega)
    obtain ⟨cur2, h4, h5, h6⟩ := setCells_row vs (i * 5) _ cur1 h1 (by omega)
    have s1 := setCells_same g (xs.drop (i * 5)) ((i + 1) * 5) w.drew
    have s2 := setCells_same g vs (i * 5) (w.drew.setCells g ((i + 1) * 5) (xs.drop (i * 5)))
    refine ⟨_, rfl, ⟨?_, .inr ⟨g, c, cur2, rfl, hg, h4, hroom, hcm, by omega, ?_⟩⟩, ⟨s2.1.trans s1.1, s2.2.1.trans s1.2.1, s2.2.2.1.trans s1.2.2.1, ?_, fun k hk hr => ?_⟩⟩
    ·rw [List.length_append, List.length_append, List.length_take, List.length_drop]; omega
    ·exact insert_list1 hlt htk hvl (by rw [Array.length_toList]; omega) h3 h6
    ·rw [s2.2.2.2, s1.2.2.2]; exact Nat.le_refl _
    ·have hkg : k ≠ g := fun e => hr (by rw [e]; rfl)
     rw [setCells_far _ _ k hkg, setCells_far _ _ k hkg]
     rfl
   ·obtain rfl : c = n := by omega
    refine (insert_grow g c i vb xs vs w hlt hn63 hxl hvl hcs2 hvs h1x h1v).mono ?_
    rintro e w' ⟨G, ROW, hG, hGm, hRs, hRt, rfl, rfl⟩
    have h0 : (w.alloc (.cells ROW 31)).drew.heap[w.heap.size]? = some (.cells ROW 31 (0, 0)) := heap_alloc_new w (.cells ROW 31)
    obtain ⟨cur1, h1, h2, h3⟩ := setCells_row vs (i * 5) _ ROW h0 (by omega)
    obtain ⟨cur2, h4, h5, h6⟩ := setCells_row (xs.drop (i * 5)) ((i + 1) * 5) ((w.alloc (.cells ROW 31)).drew.setCells w.heap.size (i * 5) vs).drew cur1 h1 (by rw [List.length_drop]; omega)
    have s1 := setCells_same w.heap.size vs (i * 5) (w.alloc (.cells ROW 31)).drew
    have s2 := setCells_same w.heap.size (xs.drop (i * 5)) ((i + 1) * 5) ((w.alloc (.cells ROW 31)).drew.setCells w.heap.size (i * 5) vs).drew
    refine ⟨_, rfl, ⟨?_, .inr ⟨w.heap.size, G, cur2, rfl, hbase, h4, hG, hGm, by omega, ?_⟩⟩, ⟨s2.1.trans s1.1, s2.2.1.trans s1.2.1, s2.2.2.1.trans s1.2.2.1, ?_, fun k hk hr => ?_⟩⟩
    ·rw [List.length_append, List.length_append, List.length_take, List.length_drop]; omega
    ·exact insert_list2 hlt hxl hRt hvl (by rw [Array.length_toList]; omega) h3 h6
    ·rw [s2.2.2.2]
     show _ ≤ ((w.alloc (.cells ROW 31)).drew.setCells w.heap.size (i * 5) vs).heap.size
     rw [s1.2.2.2]
     show _ ≤ (w.alloc (.cells ROW 31)).heap.size
     simp
    ·rw [setCells_far _ _ k (by omega)]
     show ((w.alloc (.cells ROW 31)).drew.setCells w.heap.size (i * 5) vs).heap[k]? = _
     rw [setCells_far _ _ k (by omega)]
     exact Below.heap_alloc w _ k hk
end Go.Proofs.Ytopkmchkfcjjmaa.X
end

/-! ## TreePut -/
section
namespace Go.Proofs.Ytopkmchkfcjjmaa.X
open Go.RowKit Go.Proofs.YtopkmchkfcjjmaaW.PrintWords Go.Proofs.YtopkmchkfcjjmaaW.PrintLast Go.Proofs.YtopkmchkfcjjmaaW.PrintMore
attribute [local go_sem] max2_int min2_int max_two min_two max_three min_three max_four min_four   -- for this text's walks alone
set_option linter.unusedVariables false
set_option linter.unusedSimpArgs false

attribute [local go_sem] str_gtr fld_fault0 fld_fault1
/-! ### tree_Put: function 30 -/
/-- A tree with an entry at the place p (laid over the one that is there, or put in). -/
def putAt (l : List (S31)) (p : Int × Bool) (x : S31) : List (S31) := if p.2 = true then l.set p.1.toNat x else l.take p.1.toNat ++ x :: l.drop p.1.toNat
def tree_Put.f (k : Nat) (l0 : List (S31)) (a1_0 : ByteArray) (a1_1 : Int) (a1_2 : Int) (l1_3 : List Int) (a1_4 : ByteArray) : Option ((List (S31)) × Int) :=
 if l0.length < 1000000 then ((tree_Check.f k l0).bind fun c => if c.1 = 0 then ((tree_place.f k l0 a1_0).bind fun p => if 0 ≤ p.1 ∧ p.1 ≤ (l0.length : Int) ∧ (p.2 = true → p.1 < (l0.length : Int)) then
  ((tree_Check.f k (putAt l0 p ⟨a1_0, a1_1, a1_2, l1_3, a1_4⟩)).bind fun c2 => if c2.1 = 0 then ((tree_clone.f k (putAt l0 p ⟨a1_0, a1_1, a1_2, l1_3, a1_4⟩)).bind fun r => some (r, 0)) else some ([], c2.1)) else none) else some ([], c.1)) else none
theorem tree_Put.mono : ∀ l0 a1 a2 a3 a4 a5 k, LeO (tree_Put.f k l0 a1 a2 a3 a4 a5) (tree_Put.f (k + 1) l0 a1 a2 a3 a4 a5) := by
 intro l0 a1 a2 a3 a4 a5 k
 unfold tree_Put.f
 exact LeO.ite (LeO.bind (tree_Check.mono _ _) fun _ => LeO.ite (LeO.bind (tree_place.mono _ _ _) fun _ => LeO.ite (LeO.bind (tree_Check.mono _ _) fun _ => LeO.ite (LeO.bind (tree_clone.mono _ _) fun _ => LeO.refl _) (LeO.refl _)) (LeO.refl _)) (LeO.refl _)) (LeO.refl _)
set_option maxHeartbeats 8000000 in
set_option maxRecDepth 100000 in
/-- The tree's row with the entry in it, up to the second check: what is told of it there. -/
theorem tree_Put.bad (k : Nat) (A0 : Option Addr) (c0 : Nat) (l0 : List (S31)) (a1_0 : ByteArray) (a1_1 : Int) (a1_2 : Int) (A1_3 : Option Addr) (c1_3 : Nat) (l1_3 : List Int) (a1_4 : ByteArray) (r1 : List (S31)) (r2 : Int) (w : World) (hr0 : Kd.C k31 w A0 l0.length l0) (hc0 : l0.length ≤ c0) (hr1_3 : Kd.C (Kd.int .u8) w A1_3 l1_3.length l1_3) (hc1_3 : l1_3.length ≤ c1_3) (e1 e2 : Int) (hck : tree_Check.f k l0 = some (e1, e2)) (h : e1 ≠ 0) :
  Calls Try.prog 30 #[.slice A0 l0.length c0, .agg #[.string a1_0, .int .i64 a1_1, .int .i64 a1_2, .slice A1_3 l1_3.length c1_3, .string a1_4]] w fun e w' =>  e = .returned (.tuple #[.slice none 0 0, .int .i64 e1]) ∧ Below w.heap.size w w' := by
 have HC := Aside0.mk hck
 have HR0 := Aside0.mk hr0
 have d4 : (e1 != 0) = true := bne_iff_ne.mpr h
 clear hck hr0 hr1_3
 go_enter Try.func30, Try.ntmps30
 go_wp2_with (go_at_call 11; refine (tree_Check.calls k A0 c0 l0 e1 e2 _ (Kd.C_below HR0.out (below_alloc (Below.refl _ w) (.cells #[.string a1_0, .int .i64 a1_1, .int .i64 a1_2, .slice A1_3 l1_3.length c1_3, .string a1_4] 31))) hc0 HC.out).mono ?_; rintro e w2 ⟨rfl, hb⟩; have HB2 := Aside0.mk (below_step (below_alloc (Below.refl _ w) (.cells #[.string a1_0, .int .i64 a1_1, .int .i64 a1_2, .slice A1_3 l1_3.length c1_3, .string a1_4] 31)) hb); have BK2 := Aside0.mk (blk_below (heap_alloc_new w (.cells #[.string a1_0, .int .i64 a1_1, .int .i64 a1_2, .slice A1_3 l1_3.length c1_3, .string a1_4] 31)) hb); clear hb; have hx0 : w2.cell? ⟨w.heap.size, 0, none⟩ = some (.string a1_0) := (blk_cell BK2.out 0).trans rfl)
 go_ret2
 exact ⟨rfl, HB2.out⟩
set_option maxHeartbeats 8000000 in
set_option maxRecDepth 100000 in
theorem tree_Put.there_ok (k : Nat) (A0 : Option Addr) (c0 : Nat) (l0 : List (S31)) (a1_0 : ByteArray) (a1_1 : Int) (a1_2 : Int) (A1_3 : Option Addr) (c1_3 : Nat) (l1_3 : List Int) (a1_4 : ByteArray) (r1 : List (S31)) (r2 : Int) (w : World) (hr0 : Kd.C k31 w A0 l0.length l0) (hc0 : l0.length ≤ c0) (hr1_3 : Kd.C (Kd.int .u8) w A1_3 l1_3.length l1_3) (hc1_3 : l1_3.length ≤ c1_3) (e2 f1 f2 : Int) (i : Nat) (hck : tree_Check.f k l0 = some (0, e2)) (hpl : tree_place.f k l0 a1_0 = some ((i : Int), true)) (hlen : l0.length < 1000000) (hi : i < l0.length) (hc2 : tree_Check.f k (putAt l0 ((i : Int), true) (⟨a1_0, a1_1, a1_2, l1_3, a1_4⟩ : S31)) = some (0, f2)) (hcl : tree_clone.f k (putAt l0 ((i : Int), true) (⟨a1_0, a1_1, a1_2, l1_3, a1_4⟩ : S31)) = some r1) :
  Calls Try.prog 30 #[.slice A0 l0.length c0, .agg #[.string a1_0, .int .i64 a1_1, .int .i64 a1_2, .slice A1_3 l1_3.length c1_3, .string a1_4]] w fun e w' =>  ∃ v0_ : Value, e = .returned (.tuple #[v0_, .int .i64 0]) ∧ Kd.S k31 31 w' w.heap.size (fun _ => True) v0_ r1 ∧ FullRow w' v0_ r1 ∧ Below w.heap.size w w' := by
 obtain ⟨out, hout⟩ : ∃ out, out = putAt l0 ((i : Int), true) (⟨a1_0, a1_1, a1_2, l1_3, a1_4⟩ : S31) := ⟨_, rfl⟩
 rw [← hout] at hc2 hcl
 have HOUT := Aside0.mk hout
 have HC := Aside0.mk hck
 have HP := Aside0.mk hpl
 have HC2 := Aside0.mk hc2
 have HR0 := Aside0.mk hr0
 have HR1 := Aside0.mk hr1_3
 have HCL := Aside0.mk (show api_Entry_55.f l0 = some l0 by unfold api_Entry_55.f; rw [if_pos (by omega)])
 have HR := Aside0.mk hcl
 clear hcl
 clear hout hck hpl hc2 hr0 hr1_3
 go_enter Try.func30, Try.ntmps30
 go_wp2_with (first
  | (go_at_call 11; refine (tree_Check.calls k A0 c0 l0 0 e2 _ (Kd.C_below HR0.out (below_alloc (Below.refl _ w) (.cells #[.string a1_0, .int .i64 a1_1, .int .i64 a1_2, .slice A1_3 l1_3.length c1_3, .string a1_4] 31))) hc0 HC.out).mono ?_; rintro e w2 ⟨rfl, hb⟩; have HB2 := Aside0.mk (below_step (below_alloc (Below.refl _ w) (.cells #[.string a1_0, .int .i64 a1_1, .int .i64 a1_2, .slice A1_3 l1_3.length c1_3, .string a1_4] 31)) hb); have BK2 := Aside0.mk (blk_below (heap_alloc_new w (.cells #[.string a1_0, .int .i64 a1_1, .int .i64 a1_2, .slice A1_3 l1_3.length c1_3, .string a1_4] 31)) hb); clear hb; have hx0 : w2.cell? ⟨w.heap.size, 0, none⟩ = some (.string a1_0) := (blk_cell BK2.out 0).trans rfl)
  | (go_at_call 40; refine (tree_place.calls k A0 c0 l0 a1_0 (i : Int) true _ (Kd.C_below HR0.out HB2.out) hc0 HP.out).mono ?_; rintro e w3 ⟨rfl, hb⟩; have HB3 := Aside0.mk (below_step HB2.out hb); have BK3 := Aside0.mk (blk_below BK2.out hb); clear hb hx0))
 go_at_call 55
 refine (api_Entry_55.calls (fun k => k < w3.heap.size) A0 c0 l0 l0 _ (Kd.V_mk hc0 (Kd.C_F k31_heap (Kd.C_below HR0.out HB3.out))) HCL.out).mono ?_
 rintro e w4 ⟨v10, rfl, hn, hb⟩
 obtain ⟨inner, ho, h1c, hrp⟩ := N_cells hn
 have HN := Aside0.mk hn
 have HO := Aside0.mk ho
 have H1C := Aside0.mk h1c
 have HRP := Aside0.mk hrp
 have HB4 := Aside0.mk (below_step HB3.out hb)
 have HB34 := Aside0.mk hb.size
 have BK4 := Aside0.mk (blk_below BK3.out hb)
 clear hb hn ho h1c hrp
 have hx0 : w4.cell? ⟨w.heap.size, 0, none⟩ = some (.string a1_0) := (blk_cell BK4.out 0).trans rfl
 have hx1 : w4.cell? ⟨w.heap.size, 1, none⟩ = some (.int .i64 a1_1) := (blk_cell BK4.out 1).trans rfl
 have hx2 : w4.cell? ⟨w.heap.size, 2, none⟩ = some (.int .i64 a1_2) := (blk_cell BK4.out 2).trans rfl
 have hx3 : w4.cell? ⟨w.heap.size, 3, none⟩ = some (.slice A1_3 l1_3.length c1_3) := (blk_cell BK4.out 3).trans rfl
 have hx4 : w4.cell? ⟨w.heap.size, 4, none⟩ = some (.string a1_4) := (blk_cell BK4.out 4).trans rfl
 obtain ⟨g, c, rfl, hg0, hgl, hgc⟩ := Kd.N_form HN.out (by omega)
 have HG0 := Aside0.mk hg0
 have HGL := Aside0.mk hgl
 have HGC := Aside0.mk hgc
 clear hg0 hgl hgc
 have hd : (i : Int) < (l0.length : Int) := by omega
 obtain ⟨y0, hy0⟩ := Option.isSome_iff_exists.1 (own_there HO.out (i := i) (q := 0) (by omega) (by decide)).1
 have hf0 := (own_there HO.out (i := i) (q := 0) (by omega) (by decide)).2
 obtain ⟨y1, hy1⟩ := Option.isSome_iff_exists.1 (own_there HO.out (i := i) (q := 1) (by omega) (by decide)).1
 have hf1 := (own_there HO.out (i := i) (q := 1) (by omega) (by decide)).2
 obtain ⟨y2, hy2⟩ := Option.isSome_iff_exists.1 (own_there HO.out (i := i) (q := 2) (by omega) (by decide)).1
 have hf2 := (own_there HO.out (i := i) (q := 2) (by omega) (by decide)).2
 obtain ⟨y3, hy3⟩ := Option.isSome_iff_exists.1 (own_there HO.out (i := i) (q := 3) (by omega) (by decide)).1
 have hf3 := (own_there HO.out (i := i) (q := 3) (by omega) (by decide)).2
 obtain ⟨y4, hy4⟩ := Option.isSome_iff_exists.1 (own_there HO.out (i := i) (q := 4) (by omega) (by decide)).1
 have hf4 := (own_there HO.out (i := i) (q := 4) (by omega) (by decide)).2
 rw [Nat.add_zero] at hy0 hf0
 go_wp2_with (fail)
 obtain ⟨hol, hfar⟩ := own_lay (vs := [.string a1_0, .int .i64 a1_1, .int .i64 a1_2, .slice A1_3 l1_3.length c1_3, .string a1_4]) HO.out (i := i) (by omega) rfl
 have hrp2 := HRP.out (w4.setCells g (i * 5) [.string a1_0, .int .i64 a1_1, .int .i64 a1_2, .slice A1_3 l1_3.length c1_3, .string a1_4]) (fun k hk _ => hfar k (fun e => hk.2 (by rw [e]; rfl)))
 have hbs : Below w.heap.size w (w4.setCells g (i * 5) [.string a1_0, .int .i64 a1_1, .int .i64 a1_2, .slice A1_3 l1_3.length c1_3, .string a1_4]) := by
  have s := setCells_same g [.string a1_0, .int .i64 a1_1, .int .i64 a1_2, .slice A1_3 l1_3.length c1_3, .string a1_4] (i * 5) w4
  exact ⟨s.1.trans HB4.out.os, s.2.1.trans HB4.out.tape, s.2.2.1.trans HB4.out.output, by rw [s.2.2.2]; exact HB4.out.size, fun k hk => (hfar k (by have := HG0.out; have := HB3.out.size; omega)).trans (HB4.out.block k hk)⟩
 have hxk : k31.K (w4.setCells g (i * 5) [.string a1_0, .int .i64 a1_1, .int .i64 a1_2, .slice A1_3 l1_3.length c1_3, .string a1_4]) (⟨a1_0, a1_1, a1_2, l1_3, a1_4⟩ : S31) [.string a1_0, .int .i64 a1_1, .int .i64 a1_2, .slice A1_3 l1_3.length c1_3, .string a1_4] := k31_mk _ (⟨a1_0, a1_1, a1_2, l1_3, a1_4⟩ : S31) hc1_3 (Kd.C_below HR1.out hbs)
 obtain ⟨Ao, co, hoe, hlo, hCO⟩ := own_C (l := out) hol (by rw [HOUT.out, putAt, if_pos rfl, List.set_eq_take_append_cons_drop, if_pos (by simpa using hi)]; exact reps_mid hrp2 i (i + 1) (by omega) hxk rfl) (by rw [HOUT.out, putAt, if_pos rfl, List.length_set])
 have hol2 : out.length = l0.length := by rw [HOUT.out, putAt, if_pos rfl, List.length_set]
 have hoe2 : Value.slice (some ⟨g, 0, none⟩) l0.length c = .slice Ao out.length co := hoe
 have HCO := Aside0.mk hCO
 have HLO := Aside0.mk hlo
 have HBO := Aside0.mk hbs
 rw [hoe2]
 clear hol hfar hrp2 hbs hxk hlo hCO hoe hoe2 hol2
 go_at_call 11
 refine (tree_Check.calls k Ao co out 0 f2 _ HCO.out HLO.out HC2.out).mono ?_
 rintro e w7 ⟨rfl, hb⟩
 have HBO7 := Aside0.mk hb
 have HB7 := Aside0.mk (below_step HBO.out hb)
 clear hb
 go_wp2_with ((go_at_call 41; refine (tree_clone.calls2 k Ao co out r1 _ (Kd.C_below HCO.out HBO7.out) HLO.out HR.out).mono ?_; rintro e w8 ⟨v8, rfl, hs, hf, hb⟩; have HS8 := Aside0.mk (Kd.S_lower hs HB7.out.size); have HF8 := Aside0.mk hf; have HB8 := Aside0.mk (below_step HB7.out hb); clear hs hf hb))
 go_ret2
 exact ⟨_, rfl, HS8.out, HF8.out, HB8.out⟩
set_option maxHeartbeats 8000000 in
set_option maxRecDepth 100000 in
theorem tree_Put.there_bad (k : Nat) (A0 : Option Addr) (c0 : Nat) (l0 : List (S31)) (a1_0 : ByteArray) (a1_1 : Int) (a1_2 : Int) (A1_3 : Option Addr) (c1_3 : Nat) (l1_3 : List Int) (a1_4 : ByteArray) (r1 : List (S31)) (r2 : Int) (w : World) (hr0 : Kd.C k31 w A0 l0.length l0) (hc0 : l0.length ≤ c0) (hr1_3 : Kd.C (Kd.int .u8) w A1_3 l1_3.length l1_3) (hc1_3 : l1_3.length ≤ c1_3) (e2 f1 f2 : Int) (i : Nat) (hck : tree_Check.f k l0 = some (0, e2)) (hpl : tree_place.f k l0 a1_0 = some ((i : Int), true)) (hlen : l0.length < 1000000) (hi : i < l0.length) (hc2 : tree_Check.f k (putAt l0 ((i : Int), true) (⟨a1_0, a1_1, a1_2, l1_3, a1_4⟩ : S31)) = some (f1, f2)) (hf1 : f1 ≠ 0) :
  Calls Try.prog 30 #[.slice A0 l0.length c0, .agg #[.string a1_0, .int .i64 a1_1, .int .i64 a1_2, .slice A1_3 l1_3.length c1_3, .string a1_4]] w fun e w' =>  e = .returned (.tuple #[.slice none 0 0, .int .i64 f1]) ∧ Below w.heap.size w w' := by
 obtain ⟨out, hout⟩ : ∃ out, out = putAt l0 ((i : Int), true) (⟨a1_0, a1_1, a1_2, l1_3, a1_4⟩ : S31) := ⟨_, rfl⟩
 rw [← hout] at hc2
 have HOUT := Aside0.mk hout
 have HC := Aside0.mk hck
 have HP := Aside0.mk hpl
 have HC2 := Aside0.mk hc2
 have HR0 := Aside0.mk hr0
 have HR1 := Aside0.mk hr1_3
 have HCL := Aside0.mk (show api_Entry_55.f l0 = some l0 by unfold api_Entry_55.f; rw [if_pos (by omega)])
 have d6 : (f1 != 0) = true := bne_iff_ne.mpr hf1
 clear hout hck hpl hc2 hr0 hr1_3
 go_enter Try.func30, Try.ntmps30
 go_wp2_with (first
  | (go_at_call 11; refine (tree_Check.calls k A0 c0 l0 0 e2 _ (Kd.C_below HR0.out (below_alloc (Below.refl _ w) (.cells #[.string a1_0, .int .i64 a1_1, .int .i64 a1_2, .slice A1_3 l1_3.length c1_3, .string a1_4] 31))) hc0 HC.out).mono ?_; rintro e w2 ⟨rfl, hb⟩; have HB2 := Aside0.mk (below_step (below_alloc (Below.refl _ w) (.cells #[.string a1_0, .int .i64 a1_1, .int .i64 a1_2, .slice A1_3 l1_3.length c1_3, .string a1_4] 31)) hb); have BK2 := Aside0.mk (blk_below (heap_alloc_new w (.cells #[.string a1_0, .int .i64 a1_1, .int .i64 a1_2, .slice A1_3 l1_3.length c1_3, .string a1_4] 31)) hb); clear hb; have hx0 : w2.cell? ⟨w.heap.size, 0, none⟩ = some (.string a1_0) := (blk_cell BK2.out 0).trans rfl)
  | (go_at_call 40; refine (tree_place.calls k A0 c0 l0 a1_0 (i : Int) true _ (Kd.C_below HR0.out HB2.out) hc0 HP.out).mono ?_; rintro e w3 ⟨rfl, hb⟩; have HB3 := Aside0.mk (below_step HB2.out hb); have BK3 := Aside0.mk (blk_below BK2.out hb); clear hb hx0))
 go_at_call 55
 refine (api_Entry_55.calls (fun k => k < w3.heap.size) A0 c0 l0 l0 _ (Kd.V_mk hc0 (Kd.C_F k31_heap (Kd.C_below HR0.out HB3.out))) HCL.out).mono ?_
 rintro e w4 ⟨v10, rfl, hn, hb⟩
 obtain ⟨inner, ho, h1c, hrp⟩ := N_cells hn
 have HN := Aside0.mk hn
 have HO := Aside0.mk ho
 have H1C := Aside0.mk h1c
 have HRP := Aside0.mk hrp
 have HB4 := Aside0.mk (below_step HB3.out hb)
 have HB34 := Aside0.mk hb.size
 have BK4 := Aside0.mk (blk_below BK3.out hb)
 clear hb hn ho h1c hrp
 have hx0 : w4.cell? ⟨w.heap.size, 0, none⟩ = some (.string a1_0) := (blk_cell BK4.out 0).trans rfl
 have hx1 : w4.cell? ⟨w.heap.size, 1, none⟩ = some (.int .i64 a1_1) := (blk_cell BK4.out 1).trans rfl
 have hx2 : w4.cell? ⟨w.heap.size, 2, none⟩ = some (.int .i64 a1_2) := (blk_cell BK4.out 2).trans rfl
 have hx3 : w4.cell? ⟨w.heap.size, 3, none⟩ = some (.slice A1_3 l1_3.length c1_3) := (blk_cell BK4.out 3).trans rfl
 have hx4 : w4.cell? ⟨w.heap.size, 4, none⟩ = some (.string a1_4) := (blk_cell BK4.out 4).trans rfl
 obtain ⟨g, c, rfl, hg0, hgl, hgc⟩ := Kd.N_form HN.out (by omega)
 have HG0 := Aside0.mk hg0
 have HGL := Aside0.mk hgl
 have HGC := Aside0.mk hgc
 clear hg0 hgl hgc
 have hd : (i : Int) < (l0.length : Int) := by omega
 obtain ⟨y0, hy0⟩ := Option.isSome_iff_exists.1 (own_there HO.out (i := i) (q := 0) (by omega) (by decide)).1
 have hf0 := (own_there HO.out (i := i) (q := 0) (by omega) (by decide)).2
 obtain ⟨y1, hy1⟩ := Option.isSome_iff_exists.1 (own_there HO.out (i := i) (q := 1) (by omega) (by decide)).1
 have hf1 := (own_there HO.out (i := i) (q := 1) (by omega) (by decide)).2
 obtain ⟨y2, hy2⟩ := Option.isSome_iff_exists.1 (own_there HO.out (i := i) (q := 2) (by omega) (by decide)).1
 have hf2 := (own_there HO.out (i := i) (q := 2) (by omega) (by decide)).2
 obtain ⟨y3, hy3⟩ := Option.isSome_iff_exists.1 (own_there HO.out (i := i) (q := 3) (by omega) (by decide)).1
 have hf3 := (own_there HO.out (i := i) (q := 3) (by omega) (by decide)).2
 obtain ⟨y4, hy4⟩ := Option.isSome_iff_exists.1 (own_there HO.out (i := i) (q := 4) (by omega) (by decide)).1
 have hf4 := (own_there HO.out (i := i) (q := 4) (by omega) (by decide)).2
 rw [Nat.add_zero] at hy0 hf0
 go_wp2_with (fail)
 obtain ⟨hol, hfar⟩ := own_lay (vs := [.string a1_0, .int .i64 a1_1, .int .i64 a1_2, .slice A1_3 l1_3.length c1_3, .string a1_4]) HO.out (i := i) (by omega) rfl
 have hrp2 := HRP.out (w4.setCells g (i * 5) [.string a1_0, .int .i64 a1_1, .int .i64 a1_2, .slice A1_3 l1_3.length c1_3, .string a1_4]) (fun k hk _ => hfar k (fun e => hk.2 (by rw [e]; rfl)))
 have hbs : Below w.heap.size w (w4.setCells g (i * 5) [.string a1_0, .int .i64 a1_1, .int .i64 a1_2, .slice A1_3 l1_3.length c1_3, .string a1_4]) := by
  have s := setCells_same g [.string a1_0, .int .i64 a1_1, .int .i64 a1_2, .slice A1_3 l1_3.length c1_3, .string a1_4] (i * 5) w4
  exact ⟨s.1.trans HB4.out.os, s.2.1.trans HB4.out.tape, s.2.2.1.trans HB4.out.output, by rw [s.2.2.2]; exact HB4.out.size, fun k hk => (hfar k (by have := HG0.out; have := HB3.out.size; omega)).trans (HB4.out.block k hk)⟩
 have hxk : k31.K (w4.setCells g (i * 5) [.string a1_0, .int .i64 a1_1, .int .i64 a1_2, .slice A1_3 l1_3.length c1_3, .string a1_4]) (⟨a1_0, a1_1, a1_2, l1_3, a1_4⟩ : S31) [.string a1_0, .int .i64 a1_1, .int .i64 a1_2, .slice A1_3 l1_3.length c1_3, .string a1_4] := k31_mk _ (⟨a1_0, a1_1, a1_2, l1_3, a1_4⟩ : S31) hc1_3 (Kd.C_below HR1.out hbs)
 obtain ⟨Ao, co, hoe, hlo, hCO⟩ := own_C (l := out) hol (by rw [HOUT.out, putAt, if_pos rfl, List.set_eq_take_append_cons_drop, if_pos (by simpa using hi)]; exact reps_mid hrp2 i (i + 1) (by omega) hxk rfl) (by rw [HOUT.out, putAt, if_pos rfl, List.length_set])
 have hol2 : out.length = l0.length := by rw [HOUT.out, putAt, if_pos rfl, List.length_set]
 have hoe2 : Value.slice (some ⟨g, 0, none⟩) l0.length c = .slice Ao out.length co := hoe
 have HCO := Aside0.mk hCO
 have HLO := Aside0.mk hlo
 have HBO := Aside0.mk hbs
 rw [hoe2]
 clear hol hfar hrp2 hbs hxk hlo hCO hoe hoe2 hol2
 go_at_call 11
 refine (tree_Check.calls k Ao co out f1 f2 _ HCO.out HLO.out HC2.out).mono ?_
 rintro e w7 ⟨rfl, hb⟩
 have HB7 := Aside0.mk (below_step HBO.out hb)
 clear hb
 go_wp2_with (fail)
 go_ret2
 exact ⟨rfl, HB7.out⟩
set_option maxHeartbeats 8000000 in
set_option maxRecDepth 100000 in
theorem tree_Put.new_ok (k : Nat) (A0 : Option Addr) (c0 : Nat) (l0 : List (S31)) (a1_0 : ByteArray) (a1_1 : Int) (a1_2 : Int) (A1_3 : Option Addr) (c1_3 : Nat) (l1_3 : List Int) (a1_4 : ByteArray) (r1 : List (S31)) (r2 : Int) (w : World) (hr0 : Kd.C k31 w A0 l0.length l0) (hc0 : l0.length ≤ c0) (hr1_3 : Kd.C (Kd.int .u8) w A1_3 l1_3.length l1_3) (hc1_3 : l1_3.length ≤ c1_3) (e2 f1 f2 : Int) (i : Nat) (hck : tree_Check.f k l0 = some (0, e2)) (hpl : tree_place.f k l0 a1_0 = some ((i : Int), false)) (hlen : l0.length < 1000000) (hi : i ≤ l0.length) (hc2 : tree_Check.f k (putAt l0 ((i : Int), false) (⟨a1_0, a1_1, a1_2, l1_3, a1_4⟩ : S31)) = some (0, f2)) (hcl : tree_clone.f k (putAt l0 ((i : Int), false) (⟨a1_0, a1_1, a1_2, l1_3, a1_4⟩ : S31)) = some r1) :
  Calls Try.prog 30 #[.slice A0 l0.length c0, .agg #[.string a1_0, .int .i64 a1_1, .int .i64 a1_2, .slice A1_3 l1_3.length c1_3, .string a1_4]] w fun e w' =>  ∃ v0_ : Value, e = .returned (.tuple #[v0_, .int .i64 0]) ∧ Kd.S k31 31 w' w.heap.size (fun _ => True) v0_ r1 ∧ FullRow w' v0_ r1 ∧ Below w.heap.size w w' := by
 obtain ⟨out, hout⟩ : ∃ out, out = putAt l0 ((i : Int), false) (⟨a1_0, a1_1, a1_2, l1_3, a1_4⟩ : S31) := ⟨_, rfl⟩
 rw [← hout] at hc2 hcl
 have HOUT := Aside0.mk hout
 have HC := Aside0.mk hck
 have HP := Aside0.mk hpl
 have HC2 := Aside0.mk hc2
 have HR0 := Aside0.mk hr0
 have HR1 := Aside0.mk hr1_3
 have HCL := Aside0.mk (show api_Entry_55.f l0 = some l0 by unfold api_Entry_55.f; rw [if_pos (by omega)])
 have HR := Aside0.mk hcl
 clear hcl
 clear hout hck hpl hc2 hr0 hr1_3
 go_enter Try.func30, Try.ntmps30
 go_wp2_with (first
  | (go_at_call 11; refine (tree_Check.calls k A0 c0 l0 0 e2 _ (Kd.C_below HR0.out (below_alloc (Below.refl _ w) (.cells #[.string a1_0, .int .i64 a1_1, .int .i64 a1_2, .slice A1_3 l1_3.length c1_3, .string a1_4] 31))) hc0 HC.out).mono ?_; rintro e w2 ⟨rfl, hb⟩; have HB2 := Aside0.mk (below_step (below_alloc (Below.refl _ w) (.cells #[.string a1_0, .int .i64 a1_1, .int .i64 a1_2, .slice A1_3 l1_3.length c1_3, .string a1_4] 31)) hb); have BK2 := Aside0.mk (blk_below (heap_alloc_new w (.cells #[.string a1_0, .int .i64 a1_1, .int .i64 a1_2, .slice A1_3 l1_3.length c1_3, .string a1_4] 31)) hb); clear hb; have hx0 : w2.cell? ⟨w.heap.size, 0, none⟩ = some (.string a1_0) := (blk_cell BK2.out 0).trans rfl)
  | (go_at_call 40; refine (tree_place.calls k A0 c0 l0 a1_0 (i : Int) false _ (Kd.C_below HR0.out HB2.out) hc0 HP.out).mono ?_; rintro e w3 ⟨rfl, hb⟩; have HB3 := Aside0.mk (below_step HB2.out hb); have BK3 := Aside0.mk (blk_below BK2.out hb); clear hb hx0))
 go_at_call 55
 refine (api_Entry_55.calls (fun k => k < w3.heap.size) A0 c0 l0 l0 _ (Kd.V_mk hc0 (Kd.C_F k31_heap (Kd.C_below HR0.out HB3.out))) HCL.out).mono ?_
 rintro e w4 ⟨v10, rfl, hn, hb⟩
 obtain ⟨inner, ho, h1c, hrp⟩ := N_cells hn
 have HN := Aside0.mk hn
 have HO := Aside0.mk ho
 have H1C := Aside0.mk h1c
 have HRP := Aside0.mk hrp
 have HB4 := Aside0.mk (below_step HB3.out hb)
 have HB34 := Aside0.mk hb.size
 have BK4 := Aside0.mk (blk_below BK3.out hb)
 clear hb hn ho h1c hrp
 have hx0 : w4.cell? ⟨w.heap.size, 0, none⟩ = some (.string a1_0) := (blk_cell BK4.out 0).trans rfl
 have hx1 : w4.cell? ⟨w.heap.size, 1, none⟩ = some (.int .i64 a1_1) := (blk_cell BK4.out 1).trans rfl
 have hx2 : w4.cell? ⟨w.heap.size, 2, none⟩ = some (.int .i64 a1_2) := (blk_cell BK4.out 2).trans rfl
 have hx3 : w4.cell? ⟨w.heap.size, 3, none⟩ = some (.slice A1_3 l1_3.length c1_3) := (blk_cell BK4.out 3).trans rfl
 have hx4 : w4.cell? ⟨w.heap.size, 4, none⟩ = some (.string a1_4) := (blk_cell BK4.out 4).trans rfl
 obtain ⟨A10, c10, rfl⟩ := Kd.N_slice HN.out
 go_wp2_with (fail)
 go_at_call 56
 refine (slices_Insert.calls w3.heap.size l0.length i w4.heap.size _ inner [.string a1_0, .int .i64 a1_1, .int .i64 a1_2, .slice A1_3 l1_3.length c1_3, .string a1_4] _ hlen hi (Nat.le_trans HB34.out (by simp)) (pw_own_below HO.out (below_alloc (Below.refl _ w4) (.cells #[.string a1_0, .int .i64 a1_1, .int .i64 a1_2, .slice A1_3 l1_3.length c1_3, .string a1_4] 31))) H1C.out rfl (fun e => Nat.lt_irrefl _ (own_lt HO.out _ e)) (heap_alloc_new w4 (.cells #[.string a1_0, .int .i64 a1_1, .int .i64 a1_2, .slice A1_3 l1_3.length c1_3, .string a1_4] 31)) (one5 _ _ _ _ _ _ _)).mono ?_
 rintro e w6 ⟨v6, rfl, ho, hg⟩
 have HO6 := Aside0.mk ho
 have HG6 := Aside0.mk hg
 clear ho hg
 go_wp2_with (fail)
 have hfar : ∀ k, k < w4.heap.size → some k ≠ (Value.slice A10 l0.length c10).ownBlock → w6.heap[k]? = w4.heap[k]? := fun k hk hne => (HG6.out.block k (Nat.lt_of_lt_of_le hk (by simp)) hne).trans (Below.heap_alloc w4 _ k hk)
 have hrp2 := HRP.out w6 (fun k hk hlt => hfar k hlt hk.2)
 have hbs : Below w.heap.size w w6 := by
  refine ⟨HG6.out.os.trans HB4.out.os, HG6.out.tape.trans HB4.out.tape, HG6.out.output.trans HB4.out.output, Nat.le_trans HB4.out.size (Nat.le_trans (by simp) HG6.out.size), fun k hk => (hfar k (Nat.lt_of_lt_of_le hk HB4.out.size) (fun e => ?_)).trans (HB4.out.block k hk)⟩
  have h1 := own_ge HO.out k e.symm
  have h2 := HB3.out.size
  omega
 have hxk : k31.K w6 (⟨a1_0, a1_1, a1_2, l1_3, a1_4⟩ : S31) [.string a1_0, .int .i64 a1_1, .int .i64 a1_2, .slice A1_3 l1_3.length c1_3, .string a1_4] := k31_mk _ (⟨a1_0, a1_1, a1_2, l1_3, a1_4⟩ : S31) hc1_3 (Kd.C_below HR1.out hbs)
 have hol2 : out.length = l0.length + 1 := by rw [HOUT.out, putAt, if_neg (fun h => Bool.noConfusion h)]; simp only [List.length_append, List.length_cons, List.length_take, List.length_drop, Int.toNat_natCast]; omega
 obtain ⟨Ao, co, hoe, hlo, hCO⟩ := own_C (l := out) HO6.out (by rw [HOUT.out, putAt, if_neg (fun h => Bool.noConfusion h)]; exact reps_mid hrp2 i i hi hxk rfl) hol2
 have HCO := Aside0.mk hCO
 have HLO := Aside0.mk hlo
 have HBO := Aside0.mk hbs
 subst hoe
 clear hfar hrp2 hbs hxk hlo hCO hol2
 go_at_call 11
 refine (tree_Check.calls k Ao co out 0 f2 _ HCO.out HLO.out HC2.out).mono ?_
 rintro e w7 ⟨rfl, hb⟩
 have HBO7 := Aside0.mk hb
 have HB7 := Aside0.mk (below_step HBO.out hb)
 clear hb
 go_wp2_with ((go_at_call 41; refine (tree_clone.calls2 k Ao co out r1 _ (Kd.C_below HCO.out HBO7.out) HLO.out HR.out).mono ?_; rintro e w8 ⟨v8, rfl, hs, hf, hb⟩; have HS8 := Aside0.mk (Kd.S_lower hs HB7.out.size); have HF8 := Aside0.mk hf; have HB8 := Aside0.mk (below_step HB7.out hb); clear hs hf hb))
 go_ret2
 exact ⟨_, rfl, HS8.out, HF8.out, HB8.out⟩
set_option maxHeartbeats 8000000 in
set_option maxRecDepth 100000 in
theorem tree_Put.new_bad (k : Nat) (A0 : Option Addr) (c0 : Nat) (l0 : List (S31)) (a1_0 : ByteArray) (a1_1 : Int) (a1_2 : Int) (A1_3 : Option Addr) (c1_3 : Nat) (l1_3 : List Int) (a1_4 : ByteArray) (r1 : List (S31)) (r2 : Int) (w : World) (hr0 : Kd.C k31 w A0 l0.length l0) (hc0 : l0.length ≤ c0) (hr1_3 : Kd.C (Kd.int .u8) w A1_3 l1_3.length l1_3) (hc1_3 : l1_3.length ≤ c1_3) (e2 f1 f2 : Int) (i : Nat) (hck : tree_Check.f k l0 = some (0, e2)) (hpl : tree_place.f k l0 a1_0 = some ((i : Int), false)) (hlen : l0.length < 1000000) (hi : i ≤ l0.length) (hc2 : tree_Check.f k (putAt l0 ((i : Int), false) (⟨a1_0, a1_1, a1_2, l1_3, a1_4⟩ : S31)) = some (f1, f2)) (hf1 : f1 ≠ 0) :
  Calls Try.prog 30 #[.slice A0 l0.length c0, .agg #[.string a1_0, .int .i64 a1_1, .int .i64 a1_2, .slice A1_3 l1_3.length c1_3, .string a1_4]] w fun e w' =>  e = .returned (.tuple #[.slice none 0 0, .int .i64 f1]) ∧ Below w.heap.size w w' := by
 obtain ⟨out, hout⟩ : ∃ out, out = putAt l0 ((i : Int), false) (⟨a1_0, a1_1, a1_2, l1_3, a1_4⟩ : S31) := ⟨_, rfl⟩
 rw [← hout] at hc2
 have HOUT := Aside0.mk hout
 have HC := Aside0.mk hck
 have HP := Aside0.mk hpl
 have HC2 := Aside0.mk hc2
 have HR0 := Aside0.mk hr0
 have HR1 := Aside0.mk hr1_3
 have HCL := Aside0.mk (show api_Entry_55.f l0 = some l0 by unfold api_Entry_55.f; rw [if_pos (by omega)])
 have d6 : (f1 != 0) = true := bne_iff_ne.mpr hf1
 clear hout hck hpl hc2 hr0 hr1_3
 go_enter Try.func30, Try.ntmps30
 go_wp2_with (first
  | (go_at_call 11; refine (tree_Check.calls k A0 c0 l0 0 e2 _ (Kd.C_below HR0.out (below_alloc (Below.refl _ w) (.cells #[.string a1_0, .int .i64 a1_1, .int .i64 a1_2, .slice A1_3 l1_3.length c1_3, .string a1_4] 31))) hc0 HC.out).mono ?_; rintro e w2 ⟨rfl, hb⟩; have HB2 := Aside0.mk (below_step (below_alloc (Below.refl _ w) (.cells #[.string a1_0, .int .i64 a1_1, .int .i64 a1_2, .slice A1_3 l1_3.length c1_3, .string a1_4] 31)) hb); have BK2 := Aside0.mk (blk_below (heap_alloc_new w (.cells #[.string a1_0, .int .i64 a1_1, .int .i64 a1_2, .slice A1_3 l1_3.length c1_3, .string a1_4] 31)) hb); clear hb; have hx0 : w2.cell? ⟨w.heap.size, 0, none⟩ = some (.string a1_0) := (blk_cell BK2.out 0).trans rfl)
  | (go_at_call 40; refine (tree_place.calls k A0 c0 l0 a1_0 (i : Int) false _ (Kd.C_below HR0.out HB2.out) hc0 HP.out).mono ?_; rintro e w3 ⟨rfl, hb⟩; have HB3 := Aside0.mk (below_step HB2.out hb); have BK3 := Aside0.mk (blk_below BK2.out hb); clear hb hx0))
 go_at_call 55
 refine (api_Entry_55.calls (fun k => k < w3.heap.size) A0 c0 l0 l0 _ (Kd.V_mk hc0 (Kd.C_F k31_heap (Kd.C_below HR0.out HB3.out))) HCL.out).mono ?_
 rintro e w4 ⟨v10, rfl, hn, hb⟩
 obtain ⟨inner, ho, h1c, hrp⟩ := N_cells hn
 have HN := Aside0.mk hn
 have HO := Aside0.mk ho
 have H1C := Aside0.mk h1c
 have HRP := Aside0.mk hrp
 have HB4 := Aside0.mk (below_step HB3.out hb)
 have HB34 := Aside0.mk hb.size
 have BK4 := Aside0.mk (blk_below BK3.out hb)
 clear hb hn ho h1c hrp
 have hx0 : w4.cell? ⟨w.heap.size, 0, none⟩ = some (.string a1_0) := (blk_cell BK4.out 0).trans rfl
 have hx1 : w4.cell? ⟨w.heap.size, 1, none⟩ = some (.int .i64 a1_1) := (blk_cell BK4.out 1).trans rfl
 have hx2 : w4.cell? ⟨w.heap.size, 2, none⟩ = some (.int .i64 a1_2) := (blk_cell BK4.out 2).trans rfl
 have hx3 : w4.cell? ⟨w.heap.size, 3, none⟩ = some (.slice A1_3 l1_3.length c1_3) := (blk_cell BK4.out 3).trans rfl
 have hx4 : w4.cell? ⟨w.heap.size, 4, none⟩ = some (.string a1_4) := (blk_cell BK4.out 4).trans rfl
 obtain ⟨A10, c10, rfl⟩ := Kd.N_slice HN.out
 go_wp2_with (fail)
 go_at_call 56
 refine (slices_Insert.calls w3.heap.size l0.length i w4.heap.size _ inner [.string a1_0, .int .i64 a1_1, .int .i64 a1_2, .slice A1_3 l1_3.length c1_3, .string a1_4] _ hlen hi (Nat.le_trans HB34.out (by simp)) (pw_own_below HO.out (below_alloc (Below.refl _ w4) (.cells #[.string a1_0, .int .i64 a1_1, .int .i64 a1_2, .slice A1_3 l1_3.length c1_3, .string a1_4] 31))) H1C.out rfl (fun e => Nat.lt_irrefl _ (own_lt HO.out _ e)) (heap_alloc_new w4 (.cells #[.string a1_0, .int .i64 a1_1, .int .i64 a1_2, .slice A1_3 l1_3.length c1_3, .string a1_4] 31)) (one5 _ _ _ _ _ _ _)).mono ?_
 rintro e w6 ⟨v6, rfl, ho, hg⟩
 have HO6 := Aside0.mk ho
 have HG6 := Aside0.mk hg
 clear ho hg
 go_wp2_with (fail)
 have hfar : ∀ k, k < w4.heap.size → some k ≠ (Value.slice A10 l0.length c10).ownBlock → w6.heap[k]? = w4.heap[k]? := fun k hk hne => (HG6.out.block k (Nat.lt_of_lt_of_le hk (by simp)) hne).trans (Below.heap_alloc w4 _ k hk)
 have hrp2 := HRP.out w6 (fun k hk hlt => hfar k hlt hk.2)
 have hbs : Below w.heap.size w w6 := by
  refine ⟨HG6.out.os.trans HB4.out.os, HG6.out.tape.trans HB4.out.tape, HG6.out.output.trans HB4.out.output, Nat.le_trans HB4.out.size (Nat.le_trans (by simp) HG6.out.size), fun k hk => (hfar k (Nat.lt_of_lt_of_le hk HB4.out.size) (fun e => ?_)).trans (HB4.out.block k hk)⟩
  have h1 := own_ge HO.out k e.symm
  have h2 := HB3.out.size
  omega
 have hxk : k31.K w6 (⟨a1_0, a1_1, a1_2, l1_3, a1_4⟩ : S31) [.string a1_0, .int .i64 a1_1, .int .i64 a1_2, .slice A1_3 l1_3.length c1_3, .string a1_4] := k31_mk _ (⟨a1_0, a1_1, a1_2, l1_3, a1_4⟩ : S31) hc1_3 (Kd.C_below HR1.out hbs)
 have hol2 : out.length = l0.length + 1 := by rw [HOUT.out, putAt, if_neg (fun h => Bool.noConfusion h)]; simp only [List.length_append, List.length_cons, List.length_take, List.length_drop, Int.toNat_natCast]; omega
 obtain ⟨Ao, co, hoe, hlo, hCO⟩ := own_C (l := out) HO6.out (by rw [HOUT.out, putAt, if_neg (fun h => Bool.noConfusion h)]; exact reps_mid hrp2 i i hi hxk rfl) hol2
 have HCO := Aside0.mk hCO
 have HLO := Aside0.mk hlo
 have HBO := Aside0.mk hbs
 subst hoe
 clear hfar hrp2 hbs hxk hlo hCO hol2
 go_at_call 11
 refine (tree_Check.calls k Ao co out f1 f2 _ HCO.out HLO.out HC2.out).mono ?_
 rintro e w7 ⟨rfl, hb⟩
 have HB7 := Aside0.mk (below_step HBO.out hb)
 clear hb
 go_wp2_with (fail)
 go_ret2
 exact ⟨rfl, HB7.out⟩
theorem tree_Put.calls2 (k : Nat) (A0 : Option Addr) (c0 : Nat) (l0 : List (S31)) (a1_0 : ByteArray) (a1_1 : Int) (a1_2 : Int) (A1_3 : Option Addr) (c1_3 : Nat) (l1_3 : List Int) (a1_4 : ByteArray) (r1 : List (S31)) (r2 : Int) (w : World) (hr0 : Kd.C k31 w A0 l0.length l0) (hc0 : l0.length ≤ c0) (hr1_3 : Kd.C (Kd.int .u8) w A1_3 l1_3.length l1_3) (hc1_3 : l1_3.length ≤ c1_3) (h : tree_Put.f k l0 a1_0 a1_1 a1_2 l1_3 a1_4 = some (r1, r2)) :
  Calls Try.prog 30 #[.slice A0 l0.length c0, .agg #[.string a1_0, .int .i64 a1_1, .int .i64 a1_2, .slice A1_3 l1_3.length c1_3, .string a1_4]] w fun e w' =>  ∃ v0_ : Value, e = .returned (.tuple #[v0_, .int .i64 r2]) ∧ Kd.S k31 31 w' w.heap.size (fun _ => True) v0_ r1 ∧ FullRow w' v0_ r1 ∧ Below w.heap.size w w' := by
 have hnil : ∀ W : World, FullRow W (.slice none 0 0) [] := fun W ad n c he => by cases he
 unfold tree_Put.f at h
 split at h
 ·rename_i hlen
  cases hck : tree_Check.f k l0 with
  | none => rw [hck] at h; cases h
  | some ec =>
   obtain ⟨e1, e2⟩ := ec
   rw [hck] at h
   simp only [Option.bind_some] at h
   by_cases c1 : e1 = 0
   ·rw [if_pos c1] at h
    subst c1
    cases hpl : tree_place.f k l0 a1_0 with
    | none => rw [hpl] at h; cases h
    | some p =>
     obtain ⟨pi, pb⟩ := p
     rw [hpl] at h
     simp only [Option.bind_some] at h
     split at h
     ·rename_i hpp
      obtain ⟨h1, h2, h3⟩ := hpp
      obtain ⟨i, rfl⟩ : ∃ i : Nat, pi = (i : Int) := ⟨pi.toNat, by omega⟩
      cases hc2 : tree_Check.f k (putAt l0 ((i : Int), pb) (⟨a1_0, a1_1, a1_2, l1_3, a1_4⟩ : S31)) with
      | none => rw [hc2] at h; cases h
      | some fc =>
       obtain ⟨f1, f2⟩ := fc
       rw [hc2] at h
       simp only [Option.bind_some] at h
       by_cases c2 : f1 = 0
       ·rw [if_pos c2] at h
        subst c2
        cases hcl : tree_clone.f k (putAt l0 ((i : Int), pb) (⟨a1_0, a1_1, a1_2, l1_3, a1_4⟩ : S31)) with
        | none => rw [hcl] at h; cases h
        | some r =>
         rw [hcl] at h
         simp only [Option.bind_some] at h
         obtain ⟨rfl, rfl⟩ := Prod.mk.inj (Option.some.inj h)
         cases pb with
         | true => exact tree_Put.there_ok k A0 c0 l0 a1_0 a1_1 a1_2 A1_3 c1_3 l1_3 a1_4 r 0 w hr0 hc0 hr1_3 hc1_3 e2 0 f2 i hck hpl hlen (by have := h3 rfl; omega) hc2 hcl
         | false => exact tree_Put.new_ok k A0 c0 l0 a1_0 a1_1 a1_2 A1_3 c1_3 l1_3 a1_4 r 0 w hr0 hc0 hr1_3 hc1_3 e2 0 f2 i hck hpl hlen (by omega) hc2 hcl
       ·rw [if_neg c2] at h
        obtain ⟨rfl, rfl⟩ := Prod.mk.inj (Option.some.inj h)
        cases pb with
        | true => exact (tree_Put.there_bad k A0 c0 l0 a1_0 a1_1 a1_2 A1_3 c1_3 l1_3 a1_4 [] 0 w hr0 hc0 hr1_3 hc1_3 e2 f1 f2 i hck hpl hlen (by have := h3 rfl; omega) hc2 c2).mono fun e w' ⟨q1, q2⟩ => ⟨_, q1, Kd.S_nil _ _ _ _ _, hnil _, q2⟩
        | false => exact (tree_Put.new_bad k A0 c0 l0 a1_0 a1_1 a1_2 A1_3 c1_3 l1_3 a1_4 [] 0 w hr0 hc0 hr1_3 hc1_3 e2 f1 f2 i hck hpl hlen (by omega) hc2 c2).mono fun e w' ⟨q1, q2⟩ => ⟨_, q1, Kd.S_nil _ _ _ _ _, hnil _, q2⟩
     ·cases h
   ·rw [if_neg c1] at h
    obtain ⟨rfl, rfl⟩ := Prod.mk.inj (Option.some.inj h)
    exact (tree_Put.bad k A0 c0 l0 a1_0 a1_1 a1_2 A1_3 c1_3 l1_3 a1_4 [] 0 w hr0 hc0 hr1_3 hc1_3 e1 e2 hck c1).mono fun e w' ⟨q1, q2⟩ => ⟨_, q1, Kd.S_nil _ _ _ _ _, hnil _, q2⟩
 ·cases h
theorem tree_Put.calls (k : Nat) (A0 : Option Addr) (c0 : Nat) (l0 : List (S31)) (a1_0 : ByteArray) (a1_1 : Int) (a1_2 : Int) (A1_3 : Option Addr) (c1_3 : Nat) (l1_3 : List Int) (a1_4 : ByteArray) (r1 : List (S31)) (r2 : Int) (w : World) (hr0 : Kd.C k31 w A0 l0.length l0) (hc0 : l0.length ≤ c0) (hr1_3 : Kd.C (Kd.int .u8) w A1_3 l1_3.length l1_3) (hc1_3 : l1_3.length ≤ c1_3) (h : tree_Put.f k l0 a1_0 a1_1 a1_2 l1_3 a1_4 = some (r1, r2)) :
  Calls Try.prog 30 #[.slice A0 l0.length c0, .agg #[.string a1_0, .int .i64 a1_1, .int .i64 a1_2, .slice A1_3 l1_3.length c1_3, .string a1_4]] w fun e w' =>  ∃ v0_ : Value, e = .returned (.tuple #[v0_, .int .i64 r2]) ∧ Kd.S k31 31 w' w.heap.size (fun _ => True) v0_ r1 ∧ Below w.heap.size w w' :=
 (tree_Put.calls2 k A0 c0 l0 a1_0 a1_1 a1_2 A1_3 c1_3 l1_3 a1_4 r1 r2 w hr0 hc0 hr1_3 hc1_3 h).mono fun e w' ⟨v, h1, h2, _, h4⟩ => ⟨v, h1, h2, h4⟩

end Go.Proofs.Ytopkmchkfcjjmaa.X
end

/-! ## StringsliteHasPrefix -/
section
namespace Go.Proofs.Ytopkmchkfcjjmaa.X
open Go.RowKit Go.Proofs.YtopkmchkfcjjmaaW.PrintWords Go.Proofs.YtopkmchkfcjjmaaW.PrintLast Go.Proofs.YtopkmchkfcjjmaaW.PrintMore
attribute [local go_sem] max2_int min2_int max_two min_two max_three min_three max_four min_four   -- for this text's walks alone
set_option linter.unusedVariables false
set_option linter.unusedSimpArgs false

attribute [local go_sem] str_gtr fld_fault0 fld_fault1
/-! ### stringslite_HasPrefix: function 76 -/
def stringslite_HasPrefix.f (a0 : ByteArray) (a1 : ByteArray) : Option (Bool) := if (a0.size : Int) ≥ (a1.size : Int) then (if 0 ≤ (a1.size : Int) then (if (a1.size : Int) ≤ (a0.size : Int) then (some ((a0.extract 0 ((a1.size : Int) : Int).toNat).toList == a1.toList)) else (none)) else (none)) else (some false)
set_option maxHeartbeats 8000000 in
set_option maxRecDepth 100000 in
theorem stringslite_HasPrefix.calls (a0 : ByteArray) (a1 : ByteArray) (r : Bool) (w : World) (h : stringslite_HasPrefix.f a0 a1 = some r) :
  Calls Try.prog 76 #[.string a0, .string a1] w fun e w' => e = .returned (.bool r) ∧ Drawn0 w w' := by
 have H : (if (a0.size : Int) ≥ (a1.size : Int) then (if 0 ≤ (a1.size : Int) then (if (a1.size : Int) ≤ (a0.size : Int) then (some ((a0.extract 0 ((a1.size : Int) : Int).toNat).toList == a1.toList)) else (none)) else (none)) else (some false)) = some r := h
 clear h
 by_cases c3 : (a0.size : Int) ≥ (a1.size : Int)
 ·rw [if_pos c3] at H
  have c3b0 : decide ((a1.size : Int) ≤ (a0.size : Int)) = true := decide_eq_true c3
  have c3b1 : decide (a1.size ≤ a0.size) = true := decide_eq_true (Int.ofNat_le.mp c3)
  clear c3
  by_cases c4 : 0 ≤ (a1.size : Int)
  ·rw [if_pos c4] at H
   have c4b0 := eq_true c4
   have c4b1 : decide (0 ≤ (a1.size : Int)) = true := decide_eq_true c4
   clear c4
   by_cases c5 : (a1.size : Int) ≤ (a0.size : Int)
   ·rw [if_pos c5] at H
    have c5b0 := eq_true c5
    have c5b1 : decide ((a1.size : Int) ≤ (a0.size : Int)) = true := decide_eq_true c5
    clear c5
    obtain rfl := Option.some.inj H
    go_enter Try.func76, Try.ntmps76
    go_wp2
    go_ret
    exact ⟨by first | rfl | (simp; done) | (simp [*]; done), by repeat (first | exact Drawn0.refl _ | apply Drawn0.step)⟩
   ·rw [if_neg c5] at H
    exact absurd H (by simp)
  ·rw [if_neg c4] at H
   exact absurd H (by simp)
 ·rw [if_neg c3] at H
  have c3b0 : decide ((a1.size : Int) ≤ (a0.size : Int)) = false := decide_eq_false c3
  have c3b1 : decide (a1.size ≤ a0.size) = false := decide_eq_false (fun h => c3 (Int.ofNat_le.mpr h))
  clear c3
  obtain rfl := Option.some.inj H
  go_enter Try.func76, Try.ntmps76
  go_wp2
  go_ret
  exact ⟨by first | rfl | (simp; done) | (simp [*]; done), by repeat (first | exact Drawn0.refl _ | apply Drawn0.step)⟩

end Go.Proofs.Ytopkmchkfcjjmaa.X
end

/-! ## StringsHasPrefix -/
section
namespace Go.Proofs.Ytopkmchkfcjjmaa.X
open Go.RowKit Go.Proofs.YtopkmchkfcjjmaaW.PrintWords Go.Proofs.YtopkmchkfcjjmaaW.PrintLast Go.Proofs.YtopkmchkfcjjmaaW.PrintMore
attribute [local go_sem] max2_int min2_int max_two min_two max_three min_three max_four min_four   -- for this text's walks alone
set_option linter.unusedVariables false
set_option linter.unusedSimpArgs false

attribute [local go_sem] str_gtr fld_fault0 fld_fault1
/-! ### strings_HasPrefix: function 60 -/
def strings_HasPrefix.f (a0 : ByteArray) (a1 : ByteArray) : Option (Bool) := (stringslite_HasPrefix.f a0 a1).bind fun t525 => (some t525)
set_option maxHeartbeats 8000000 in
set_option maxRecDepth 100000 in
theorem strings_HasPrefix.calls (a0 : ByteArray) (a1 : ByteArray) (r : Bool) (w : World) (h : strings_HasPrefix.f a0 a1 = some r) :
  Calls Try.prog 60 #[.string a0, .string a1] w fun e w' => e = .returned (.bool r) ∧ Drawn0 w w' := by
 have H : ((stringslite_HasPrefix.f a0 a1).bind fun t525 => (some t525)) = some r := h
 clear h
 replace H := Option.bind_eq_some_iff.mp H
 obtain ⟨t525, A30, H⟩ := H
 replace H : (some t525) = some r := H
 have A3 := Aside0.mk A30
 clear A30
 obtain rfl := Option.some.inj H
 go_enter Try.func60, Try.ntmps60
 go_wp2_with (first | ((with_reducible refine gate_callee (f := 76) rfl ?_); refine goesL_ (some 7) rfl rfl Try.func76 (by kernel_rfl) rfl #[.string a0, .string a1] rfl (by (try simp only [List.map_toArray, List.map_cons, List.map_nil]); first | done | rfl | (simp only [List.length_drop, List.length_take]; rfl)) ?_; (with_reducible refine (stringslite_HasPrefix.calls a0 a1 t525 _ A3.out).mono ?_); rintro e w' ⟨rfl, ⟨nd, rfl⟩⟩; refine ⟨_, rfl, ?_⟩))
 go_ret
 exact ⟨by first | rfl | (simp; done) | (simp [*]; done), by repeat (first | exact Drawn0.refl _ | apply Drawn0.step)⟩

end Go.Proofs.Ytopkmchkfcjjmaa.X
end

/-! ## PathUnder -/
section
namespace Go.Proofs.Ytopkmchkfcjjmaa.X
open Go.RowKit Go.Proofs.YtopkmchkfcjjmaaW.PrintWords Go.Proofs.YtopkmchkfcjjmaaW.PrintLast Go.Proofs.YtopkmchkfcjjmaaW.PrintMore
attribute [local go_sem] max2_int min2_int max_two min_two max_three min_three max_four min_four   -- for this text's walks alone
set_option linter.unusedVariables false
set_option linter.unusedSimpArgs false

attribute [local go_sem] str_gtr fld_fault0 fld_fault1
/-! ### path_Under: function 37 -/
def path_Under.f (k : Nat) (a0 : ByteArray) (a1 : ByteArray) : Option (Bool) := (path_valid.f k a0).bind fun t526 => (if t526 = true then ((path_valid.f k a1).bind fun t527 => (if t527 = true then (if a1.size + 1 ≤ 9223372036854775807 then ((strings_HasPrefix.f a0 (a1 ++ (⟨#[47]⟩ : ByteArray))).bind fun t528 => (some t528)) else (none)) else (some false))) else (some false))
theorem path_Under.mono : ∀ a0 a1 k, LeO (path_Under.f k a0 a1) (path_Under.f (k + 1) a0 a1) := by
 intro a0 a1 k
 unfold path_Under.f
 repeat' first
   | (with_reducible exact path_valid.mono _ _)
   | (with_reducible exact LeO.refl _)
   | (with_reducible exact LeO.none _)
   | (with_reducible refine LeO.ite ?_ ?_)
   | (with_reducible refine LeO.bind ?_ (fun _ => ?_))
   | exact path_valid.mono _ _
   | exact LeO.none _
   | refine LeO.ite ?_ ?_
   | refine LeO.bind ?_ (fun _ => ?_)
set_option maxHeartbeats 8000000 in
set_option maxRecDepth 100000 in
theorem path_Under.calls (k : Nat) (a0 : ByteArray) (a1 : ByteArray) (r : Bool) (w : World) (h : path_Under.f k a0 a1 = some r) :
  Calls Try.prog 37 #[.string a0, .string a1] w fun e w' => e = .returned (.bool r) ∧ Below w.heap.size w w' := by
 have HB := Aside0.mk (Below.refl w.heap.size w)
 have H : ((path_valid.f k a0).bind fun t526 => (if t526 = true then ((path_valid.f k a1).bind fun t527 => (if t527 = true then (if a1.size + 1 ≤ 9223372036854775807 then ((strings_HasPrefix.f a0 (a1 ++ (⟨#[47]⟩ : ByteArray))).bind fun t528 => (some t528)) else (none)) else (some false))) else (some false))) = some r := h
 clear h
 replace H := Option.bind_eq_some_iff.mp H
 obtain ⟨t526, A30, H⟩ := H
 replace H : (if t526 = true then ((path_valid.f k a1).bind fun t527 => (if t527 = true then (if a1.size + 1 ≤ 9223372036854775807 then ((strings_HasPrefix.f a0 (a1 ++ (⟨#[47]⟩ : ByteArray))).bind fun t528 => (some t528)) else (none)) else (some false))) else (some false)) = some r := H
 have A3 := Aside0.mk A30
 clear A30
 by_cases c4 : t526 = true
 ·subst c4
  have H1 : ((path_valid.f k a1).bind fun t527 => (if t527 = true then (if a1.size + 1 ≤ 9223372036854775807 then ((strings_HasPrefix.f a0 (a1 ++ (⟨#[47]⟩ : ByteArray))).bind fun t528 => (some t528)) else (none)) else (some false))) = some r := by rw [if_pos rfl] at H; exact H
  clear H
  have H := H1
  clear H1
  replace H := Option.bind_eq_some_iff.mp H
  obtain ⟨t527, A50, H⟩ := H
  replace H : (if t527 = true then (if a1.size + 1 ≤ 9223372036854775807 then ((strings_HasPrefix.f a0 (a1 ++ (⟨#[47]⟩ : ByteArray))).bind fun t528 => (some t528)) else (none)) else (some false)) = some r := H
  have A5 := Aside0.mk A50
  clear A50
  by_cases c6 : t527 = true
  ·subst c6
   have H1 : (if a1.size + 1 ≤ 9223372036854775807 then ((strings_HasPrefix.f a0 (a1 ++ (⟨#[47]⟩ : ByteArray))).bind fun t528 => (some t528)) else (none)) = some r := by rw [if_pos rfl] at H; exact H
   clear H
   have H := H1
   clear H1
   by_cases c7 : a1.size + 1 ≤ 9223372036854775807
   ·rw [if_pos c7] at H
    have c7b0 := eq_true c7
    have c7b1 : decide (a1.size + 1 ≤ 9223372036854775807) = true := decide_eq_true c7
    try have c7b2 : (9223372036854775807 < a1.size + 1) = False := eq_false (Nat.not_lt.2 c7)
    replace H := Option.bind_eq_some_iff.mp H
    obtain ⟨t528, A80, H⟩ := H
    replace H : (some t528) = some r := H
    have A8 := Aside0.mk A80
    clear A80
    obtain rfl := Option.some.inj H
    go_enter Try.func37, Try.ntmps37
    go_wp2_with (first | ((with_reducible refine gate_callee (f := 43) rfl ?_); refine goesL_ (some 6) rfl rfl Try.func43 (by kernel_rfl) rfl #[.string a0] rfl (by (try simp only [List.map_toArray, List.map_cons, List.map_nil]); first | done | rfl | (simp only [List.length_drop, List.length_take]; rfl)) ?_; (with_reducible refine (path_valid.calls k a0 true _ A3.out).mono ?_); rintro e w9 ⟨rfl, hb⟩; refine ⟨_, rfl, ?_⟩; have n0_ := Aside0.mk (below_step (by repeat (first | (with_reducible first | exact HB.out | apply below_alloc | apply pw_below_drewN | apply below_drew1) | exact HB.out)) hb); clear HB; have HB := n0_; clear n0_; (try clear hb); (try clear hb2); (try clear hk); (try clear hi)) | (go_at_call 43; (with_reducible refine (path_valid.calls k a1 true _ A5.out).mono ?_); rintro e w10 ⟨rfl, hb⟩; have n0_ := Aside0.mk (below_step (by repeat (first | (with_reducible first | exact HB.out | apply below_alloc | apply pw_below_drewN | apply below_drew1) | exact HB.out)) hb); clear HB; have HB := n0_; clear n0_; (try clear hb); (try clear hb2); (try clear hk); (try clear hi)) | (go_at_call 60; (with_reducible refine (strings_HasPrefix.calls a0 (a1 ++ (⟨#[47]⟩ : ByteArray)) t528 _ A8.out).mono ?_); rintro e w' ⟨rfl, ⟨nd, rfl⟩⟩))
    go_ret
    exact ⟨by first | rfl | (simp [errW_none, errW_some] <;> rfl) | (simp [*, errW_none, errW_some] <;> rfl) | (simp [bt, *]; done) | (simp_all [bt]; done), by repeat (first | (with_reducible first | exact HB.out | apply below_alloc | apply pw_below_drewN | apply below_drew1) | exact HB.out)⟩
   ·rw [if_neg c7] at H
    exact absurd H (by simp)
  ·replace c6 := Bool.eq_false_iff.mpr c6
   subst c6
   have H1 : (some false) = some r := by rw [if_neg (show ¬ (false = true) by decide)] at H; exact H
   clear H
   have H := H1
   clear H1
   obtain rfl := Option.some.inj H
   go_enter Try.func37, Try.ntmps37
   go_wp2_with (first | ((with_reducible refine gate_callee (f := 43) rfl ?_); refine goesL_ (some 6) rfl rfl Try.func43 (by kernel_rfl) rfl #[.string a0] rfl (by (try simp only [List.map_toArray, List.map_cons, List.map_nil]); first | done | rfl | (simp only [List.length_drop, List.length_take]; rfl)) ?_; (with_reducible refine (path_valid.calls k a0 true _ A3.out).mono ?_); rintro e w11 ⟨rfl, hb⟩; refine ⟨_, rfl, ?_⟩; have n0_ := Aside0.mk (below_step (by repeat (first | (with_reducible first | exact HB.out | apply below_alloc | apply pw_below_drewN | apply below_drew1) | exact HB.out)) hb); clear HB; have HB := n0_; clear n0_; (try clear hb); (try clear hb2); (try clear hk); (try clear hi)) | (go_at_call 43; (with_reducible refine (path_valid.calls k a1 false _ A5.out).mono ?_); rintro e w12 ⟨rfl, hb⟩; have n0_ := Aside0.mk (below_step (by repeat (first | (with_reducible first | exact HB.out | apply below_alloc | apply pw_below_drewN | apply below_drew1) | exact HB.out)) hb); clear HB; have HB := n0_; clear n0_; (try clear hb); (try clear hb2); (try clear hk); (try clear hi)))
   go_ret
   exact ⟨by first | rfl | (simp [errW_none, errW_some] <;> rfl) | (simp [*, errW_none, errW_some] <;> rfl) | (simp [bt, *]; done) | (simp_all [bt]; done), by repeat (first | (with_reducible first | exact HB.out | apply below_alloc | apply pw_below_drewN | apply below_drew1) | exact HB.out)⟩
 ·replace c4 := Bool.eq_false_iff.mpr c4
  subst c4
  have H1 : (some false) = some r := by rw [if_neg (show ¬ (false = true) by decide)] at H; exact H
  clear H
  have H := H1
  clear H1
  obtain rfl := Option.some.inj H
  go_enter Try.func37, Try.ntmps37
  go_wp2_with (first | ((with_reducible refine gate_callee (f := 43) rfl ?_); refine goesL_ (some 6) rfl rfl Try.func43 (by kernel_rfl) rfl #[.string a0] rfl (by (try simp only [List.map_toArray, List.map_cons, List.map_nil]); first | done | rfl | (simp only [List.length_drop, List.length_take]; rfl)) ?_; (with_reducible refine (path_valid.calls k a0 false _ A3.out).mono ?_); rintro e w13 ⟨rfl, hb⟩; refine ⟨_, rfl, ?_⟩; have n0_ := Aside0.mk (below_step (by repeat (first | (with_reducible first | exact HB.out | apply below_alloc | apply pw_below_drewN | apply below_drew1) | exact HB.out)) hb); clear HB; have HB := n0_; clear n0_; (try clear hb); (try clear hb2); (try clear hk); (try clear hi)))
  go_ret
  exact ⟨by first | rfl | (simp [errW_none, errW_some] <;> rfl) | (simp [*, errW_none, errW_some] <;> rfl) | (simp [bt, *]; done) | (simp_all [bt]; done), by repeat (first | (with_reducible first | exact HB.out | apply below_alloc | apply pw_below_drewN | apply below_drew1) | exact HB.out)⟩

end Go.Proofs.Ytopkmchkfcjjmaa.X
end

/-! ## TreeDrop -/
section
namespace Go.Proofs.Ytopkmchkfcjjmaa.X
open Go.RowKit Go.Proofs.YtopkmchkfcjjmaaW.PrintWords Go.Proofs.YtopkmchkfcjjmaaW.PrintLast Go.Proofs.YtopkmchkfcjjmaaW.PrintMore
attribute [local go_sem] max2_int min2_int max_two min_two max_three min_three max_four min_four   -- for this text's walks alone
set_option linter.unusedVariables false
set_option linter.unusedSimpArgs false

attribute [local go_sem] str_gtr fld_fault0 fld_fault1
/-! ### tree_Drop: function 32 -/
/-- Is an entry dropped with a path? -/
def goneOf (k : Nat) (s : ByteArray) (x : S31) : Option Bool := if x.f0.toList = s.toList then some true else path_Under.f k x.f0 s
theorem goneOf_mono (k : Nat) (s : ByteArray) (x : S31) : LeO (goneOf k s x) (goneOf (k + 1) s x) := by
 unfold goneOf
 exact LeO.ite (LeO.refl _) (path_Under.mono _ _ _)
def isGone (k : Nat) (s : ByteArray) (x : S31) : Bool := (goneOf k s x).getD false
def keptOf (k : Nat) (l : List (S31)) (s : ByteArray) : Option (List (S31)) := if l.all (fun x => (goneOf k s x).isSome) = true then some (l.filter fun x => !isGone k s x) else none
theorem keptOf_mono (k : Nat) (l : List (S31)) (s : ByteArray) : LeO (keptOf k l s) (keptOf (k + 1) l s) := by
 intro r h
 unfold keptOf at h ⊢
 split at h
 ·rename_i h1
  have h2 : ∀ x, x ∈ l → goneOf (k + 1) s x = goneOf k s x := by
   intro x hx
   have h3 := List.all_eq_true.mp h1 x hx
   obtain ⟨b, hb⟩ := Option.isSome_iff_exists.1 h3
   rw [hb]
   exact goneOf_mono k s x _ hb
  have h4 : l.all (fun x => (goneOf (k + 1) s x).isSome) = true := by
   refine List.all_eq_true.mpr fun x hx => ?_
   rw [h2 x hx]
   exact List.all_eq_true.mp h1 x hx
  rw [if_pos h4, ← h]
  congr 1
  refine List.filter_congr fun x hx => ?_
  unfold isGone
  rw [h2 x hx]
 ·cases h
theorem zeroCells_succ (z : Array Value) (m : Nat) (hz : 0 < z.size) : (Builtin.zeroCells z (m + 1)).toList = z.toList ++ (Builtin.zeroCells z m).toList := by
 apply List.ext_getElem?
 intro i
 simp only [Builtin.zeroCells, Array.toList_map, Array.toList_range, List.getElem?_map, List.getElem?_append]
 have hs : (m + 1) * z.size = z.size + m * z.size := by rw [Nat.succ_mul, Nat.add_comm]
 rcases Nat.lt_or_ge i z.size with h1 | h1
 ·rw [if_pos (by simpa using h1), List.getElem?_range (by omega)]
  simp [Nat.mod_eq_of_lt h1, h1]
 ·rw [if_neg (by simpa using h1)]
  rcases Nat.lt_or_ge i (z.size + m * z.size) with h2 | h2
  ·rw [List.getElem?_range (by omega), List.getElem?_range (by simp; omega)]
   simp only [Option.map_some, Array.length_toList, Option.some.injEq]
   rw [Nat.mod_eq_sub_mod h1]
  ·rw [List.getElem?_eq_none (by simp; omega), List.getElem?_eq_none (by simp; omega)]
theorem setCells_append (b : Nat) : ∀ (l1 l2 : List Value) (o : Nat) (w : World), World.setCells w b o (l1 ++ l2) = World.setCells (World.setCells w b o l1) b (o + l1.length) l2
 | [], _, _, _ => rfl
 | v :: r, l2, o, w => by
  rw [List.cons_append, World.setCells, World.setCells, setCells_append b r l2 (o + 1), List.length_cons, show o + 1 + r.length = o + (r.length + 1) by omega]
/-- The cells of element i, all at once. -/
theorem entryN_set {W : World} {base n cap g i : Nat} {ok : Nat → Prop} {xs : List (S31)} (h : Kd.N k31 31 W base ok (.slice (some ⟨g, 0, none⟩) n cap) xs) (hi : i < n) {x : S31} {seg : List Value} (hF : Kd.FK k31 W (fun k => ok k ∧ k ≠ g) x seg) :
  Kd.N k31 31 (W.setCells g (i * 5) seg) base ok (.slice (some ⟨g, 0, none⟩) n cap) (xs.set i x) ∧ W.grownBy (W.setCells g (i * 5) seg) (some g) := by
 obtain ⟨c, hcl, _, hcc, _⟩ := Kd.N_elem h z31 (i : Int) (by omega) (by omega)
 have hl : seg.length = k31.sz := k31.K_len (Kd.FK_now hF)
 have hs : c.take 0 ++ seg ++ c.drop (0 + seg.length) = seg := by
  rw [Nat.zero_add, hl, ← hcl, List.drop_length]
  simp
 have := Kd.N_seg h (i : Int) (by omega) (by omega) (seg := seg) (j := 0) hcl hcc (by omega) (x' := x) (by rw [hs]; exact hF) (fun _ hk => hk)
 exact (by simpa using this : Kd.N k31 31 (W.setCells g (i * k31.sz) seg) base ok (.slice (some ⟨g, 0, none⟩) n cap) (xs.set i x) ∧ W.grownBy (W.setCells g (i * k31.sz) seg) (some g))
/-- The zero entry's cells. -/
def zeroEntry : Array Value := #[.string ⟨#[]⟩, .int .i64 0, .int .i64 0, .slice none 0 0, .string ⟨#[]⟩]
theorem zeroEntry_F (W : World) (ok : Nat → Prop) : Kd.FK k31 W ok z31 zeroEntry.toList := k31_mkF W ok z31 (A3 := none) (c3 := 0) (Nat.le_refl _) (Kd.F_nil _ _ _)
theorem entryN_zero {base n cap g : Nat} {ok : Nat → Prop} : ∀ (m i : Nat) (W : World) (xs : List (S31)), Kd.N k31 31 W base ok (.slice (some ⟨g, 0, none⟩) n cap) xs → i + m = n →
  Kd.N k31 31 (W.setCells g (i * 5) (Builtin.zeroCells zeroEntry m).toList) base ok (.slice (some ⟨g, 0, none⟩) n cap) (xs.take i ++ List.replicate m z31) ∧ W.grownBy (W.setCells g (i * 5) (Builtin.zeroCells zeroEntry m).toList) (some g)
 | 0, i, W, xs, h, he => by
  have hl := (Kd.N_reads' h).1
  have e1 : (Builtin.zeroCells zeroEntry 0).toList = [] := by simp [Builtin.zeroCells]
  rw [e1, show i = xs.length by omega, List.take_length]
  exact ⟨by simpa [World.setCells] using h, World.grownBy.refl _ _⟩
 | m + 1, i, W, xs, h, he => by
  have hl := (Kd.N_reads' h).1
  obtain ⟨h1, g1⟩ := entryN_set h (show i < n by omega) (zeroEntry_F W (fun k => ok k ∧ k ≠ g))
  obtain ⟨h2, g2⟩ := entryN_zero m (i + 1) _ _ h1 (by omega)
  rw [zeroCells_succ zeroEntry m (by decide), setCells_append]
  have e1 : i * 5 + zeroEntry.toList.length = (i + 1) * 5 := by show i * 5 + 5 = _; omega
  rw [e1]
  have e2 : (xs.set i z31).take (i + 1) ++ List.replicate m z31 = xs.take i ++ List.replicate (m + 1) z31 := by
   rw [List.take_add_one, List.take_set_of_le (Nat.le_refl i), List.getElem?_set_self (by omega)]
   simp [List.replicate_succ]
  rw [e2] at h2
  exact ⟨h2, g1.trans g2⟩
theorem entryN_clear (w : World) (ty : TypeId) {base n cap g i : Nat} {ok : Nat → Prop} {xs : List (S31)} (h : Kd.N k31 31 w base ok (.slice (some ⟨g, 0, none⟩) n cap) xs) (hi : i < n) (c : Nat) :
  (Builtin.clear_ #[22] ty #[.slice (some ⟨g, i * 5, none⟩) (n - i) c]).run Try.prog w = .ok (.tuple #[]) (w.setCells g (i * 5) (Builtin.zeroCells zeroEntry (n - i)).toList) := by
 have hv : ∀ w, (zeroValue 31).run Try.prog w = .ok (.agg zeroEntry) w := fun w => rfl
 have hl : (Builtin.zeroCells zeroEntry (n - i)).toList.length = (n - i) * 5 := by simp [Builtin.zeroCells]; rfl
 have hat : ∀ j, j < (n - i) * 5 → (w.cell? ⟨g, i * 5 + j, none⟩).isSome = true ∧ w.frozen? ⟨g, i * 5 + j, none⟩ = false := by
  intro j hj
  obtain ⟨c, hcl, _, hcc, hfr⟩ := Kd.N_elem h z31 ((i + j / 5 : Nat) : Int) (by omega) (by omega)
  have hcl' : c.length = 5 := hcl
  have h1 := hcc (j % 5) _ (List.getElem?_eq_getElem (by omega))
  have h2 := hfr (j % 5)
  have e : ((i + j / 5 : Nat) : Int).toNat * k31.sz + j % 5 = i * 5 + j := by
   show ((i + j / 5 : Nat) : Int).toNat * 5 + j % 5 = i * 5 + j
   rw [Int.toNat_natCast]; omega
  rw [e] at h1 h2
  exact ⟨by rw [h1]; rfl, h2⟩
 have hst := run_storeCells_cells (P := Try.prog) g (i * 5) (Builtin.zeroCells zeroEntry (n - i)).toList 0 w (by intro j hj; rw [hl] at hj; rw [Nat.add_zero]; exact (hat j hj).1) (by intro j hj; rw [hl] at hj; rw [Nat.add_zero]; exact (hat j hj).2) (by
  intro v hv'
  simp only [Builtin.zeroCells, Array.toList_map, List.mem_map] at hv'
  obtain ⟨q, _, rfl⟩ := hv'
  have hq : q % zeroEntry.size < 5 := Nat.mod_lt _ (by decide)
  generalize q % zeroEntry.size = y at hq
  match y, hq with
  | 0, _ => rfl
  | 1, _ => rfl
  | 2, _ => rfl
  | 3, _ => rfl
  | 4, _ => rfl)
 rw [Nat.add_zero] at hst
 obtain ⟨m, hm⟩ : ∃ m, n - i = m + 1 := ⟨n - i - 1, by omega⟩
 rw [hm] at hst ⊢
 simp [Builtin.clear_, run_underlying Try.underlying22, hv, Value.cells, hst]
set_option maxHeartbeats 2000000 in
set_option maxRecDepth 100000 in
theorem tree_Drop1.calls (k : Nat) (x : S31) (v3 : Value) (s : ByteArray) (sb : Nat) (r : Bool) (w : World) (hv : v3.oneCell' = true) (hbx : w.heap[sb]? = some (.cells #[.string s] 9 (0, 0))) (h : goneOf k s x = some r) :
  Calls Try.prog 58 #[.agg #[.string x.f0, .int .i64 x.f1, .int .i64 x.f2, v3, .string x.f4], .pointer (some ⟨sb, 0, none⟩)] w fun e w' => e = .returned (.bool r) ∧ Below w.heap.size w w' := by
 have hc : ∀ o, (w.alloc o).cell? ⟨sb, 0, none⟩ = some (.string s) := fun o => blk_cell (blk_alloc hbx o) 0
 unfold goneOf at h
 by_cases c1 : x.f0.toList = s.toList
 ·rw [if_pos c1] at h
  obtain rfl := Option.some.inj h
  clear h hbx
  have c1b0 : (x.f0.toList == s.toList) = true := beq_iff_eq.mpr c1
  clear c1
  go_enter Try.func58, Try.ntmps58
  go_wp2
  go_ret
  exact ⟨rfl, by repeat (first | (with_reducible first | exact Below.refl _ _ | apply below_alloc | apply pw_below_drewN | apply below_drew1) | exact Below.refl _ _)⟩
 ·rw [if_neg c1] at h
  have H := Aside0.mk h
  clear h hbx
  have c1b0 : (x.f0.toList == s.toList) = false := beq_eq_false_iff_ne.mpr c1
  clear c1
  go_enter Try.func58, Try.ntmps58
  go_wp2_with (go_at_call 37; refine (path_Under.calls k _ _ _ _ H.out).mono ?_; rintro e w1 ⟨rfl, hb⟩; have HB := Aside0.mk hb; clear hb)
  go_ret
  exact ⟨rfl, below_then ((Below.refl _ w).alloc (Nat.le_refl _) _) (by simp) HB.out⟩
set_option maxHeartbeats 4000000 in
set_option maxRecDepth 100000 in
theorem slices_IndexFunc.calls (k : Nat) (A0 : Option Addr) (c0 : Nat) (l0 : List (S31)) (s : ByteArray) (sb : Nat) (w : World) (hr0 : Kd.C k31 w A0 l0.length l0) (hc0 : l0.length ≤ c0) (hlen : l0.length < 1152921504606846976) (hbx : w.heap[sb]? = some (.cells #[.string s] 9 (0, 0))) (hall : ∀ x ∈ l0, goneOf k s x = some (isGone k s x)) :
  Calls Try.prog 75 #[.slice A0 l0.length c0, .func (.func 58) #[] #[.pointer (some ⟨sb, 0, none⟩)]] w fun e w' => ((∃ i : Nat, i < l0.length ∧ isGone k s (rd_T31 l0 (i : Int)) = true ∧ (∀ j : Nat, j < i → isGone k s (rd_T31 l0 (j : Int)) = false) ∧ e = .returned (.int .i64 (i : Int))) ∨ ((∀ j : Nat, j < l0.length → isGone k s (rd_T31 l0 (j : Int)) = false) ∧ e = .returned (.int .i64 (-1)))) ∧ Below w.heap.size w w' := by
 have HR0 := Aside0.mk hr0
 have HX := Aside0.mk hbx
 have HALL := Aside0.mk hall
 clear hr0 hbx hall
 go_enter Try.func75, Try.ntmps75
 go_wp2
 go_loopw [8] (fun v8 wr => ∃ (i : Nat), v8 = .int .i64 (i : Int) ∧ i ≤ l0.length ∧ Aside0 (∀ j : Nat, j < i → isGone k s (rd_T31 l0 (j : Int)) = false) ∧ Aside0 (Below w.heap.size w wr)) (fun v8 _ => l0.length - (intOf v8).toNat)
 case atStart => exact ⟨0, rfl, by omega, ⟨fun j hj => by omega⟩, ⟨Below.refl _ _⟩⟩
 case round =>
  obtain ⟨i, rfl, hil, HJ, HB⟩ := hrel
  by_cases c1 : i < l0.length
  ·have d1 : decide (i < l0.length) = true := decide_eq_true c1
   have p : (0 : Int) ≤ (i : Int) := by omega
   have q : (i : Int) < (l0.length : Int) := by omega
   obtain ⟨ad, A3, c3, e, hx0, hx1, hx2, hx3, hx4, hl3, hi3⟩ := at_T31 (Kd.C_below HR0.out HB.out) _ p q
   cases e
   rw [Int.toNat_natCast] at hx0 hx1 hx2 hx3 hx4
   clear hl3 hi3
   have HG := Aside0.mk (HALL.out (rd_T31 l0 (i : Int)) (by
    unfold rd_T31
    rw [Int.toNat_natCast, List.getD_eq_getElem?_getD, List.getElem?_eq_getElem c1]
    exact List.getElem_mem _))
   obtain ⟨b, hb0⟩ : ∃ b, isGone k s (rd_T31 l0 (i : Int)) = b := ⟨_, rfl⟩
   rw [hb0] at HG
   cases b with
   | false =>
    go_wp2_with (go_at_call 58; refine (tree_Drop1.calls k (rd_T31 l0 (i : Int)) _ s sb false _ rfl (blk_below HX.out HB.out) HG.out).mono ?_; rintro e w2 ⟨rfl, hb⟩; have HB2 := Aside0.mk (below_then HB.out HB.out.size hb); clear hb HB)
    go_roundw
    case rel => exact ⟨i + 1, by congr 1, by omega, ⟨fun j hj => by
     rcases Nat.lt_or_ge j i with h1 | h1
     ·exact HJ.out j h1
     ·rw [show j = i by omega]; exact hb0⟩, HB2⟩
    case measure => simp [intOf]; omega
   | true =>
    go_wp2_with (go_at_call 58; refine (tree_Drop1.calls k (rd_T31 l0 (i : Int)) _ s sb true _ rfl (blk_below HX.out HB.out) HG.out).mono ?_; rintro e w2 ⟨rfl, hb⟩; have HB2 := Aside0.mk (below_then HB.out HB.out.size hb); clear hb HB)
    go_ret
    exact ⟨.inl ⟨i, c1, hb0, HJ.out, rfl⟩, HB2.out⟩
  ·have d1 : decide (i < l0.length) = false := decide_eq_false c1
   go_wp2
   go_ret
   exact ⟨.inr ⟨fun j hj => HJ.out j (by omega), rfl⟩, HB.out⟩
theorem isGone_at (k : Nat) (s : ByteArray) (l0 : List (S31)) (i : Nat) (h : i < l0.length) : rd_T31 l0 (i : Int) = l0[i] := by
 unfold rd_T31
 rw [Int.toNat_natCast, List.getD_eq_getElem?_getD, List.getElem?_eq_getElem h]
 rfl
theorem slices_IndexFunc.at_ (k : Nat) (A0 : Option Addr) (c0 : Nat) (l0 : List (S31)) (s : ByteArray) (sb : Nat) (i : Nat) (w : World) (hr0 : Kd.C k31 w A0 l0.length l0) (hc0 : l0.length ≤ c0) (hlen : l0.length < 1152921504606846976) (hbx : w.heap[sb]? = some (.cells #[.string s] 9 (0, 0))) (hall : ∀ x ∈ l0, goneOf k s x = some (isGone k s x))
  (h1 : i < l0.length) (h2 : isGone k s (rd_T31 l0 (i : Int)) = true) (h3 : ∀ j : Nat, j < i → isGone k s (rd_T31 l0 (j : Int)) = false) :
  Calls Try.prog 75 #[.slice A0 l0.length c0, .func (.func 58) #[] #[.pointer (some ⟨sb, 0, none⟩)]] w fun e w' => e = .returned (.int .i64 (i : Int)) ∧ Below w.heap.size w w' := by
 refine (slices_IndexFunc.calls k A0 c0 l0 s sb w hr0 hc0 hlen hbx hall).mono ?_
 rintro e w1 ⟨⟨i1, h4, h5, h6, rfl⟩ | ⟨h4, rfl⟩, hb⟩
 ·rcases Nat.lt_trichotomy i i1 with h7 | h7 | h7
  ·rw [h6 i h7] at h2; cases h2
  ·rw [h7]; exact ⟨rfl, hb⟩
  ·rw [h3 i1 h7] at h5; cases h5
 ·rw [h4 i h1] at h2; cases h2
theorem slices_IndexFunc.none_ (k : Nat) (A0 : Option Addr) (c0 : Nat) (l0 : List (S31)) (s : ByteArray) (sb : Nat) (w : World) (hr0 : Kd.C k31 w A0 l0.length l0) (hc0 : l0.length ≤ c0) (hlen : l0.length < 1152921504606846976) (hbx : w.heap[sb]? = some (.cells #[.string s] 9 (0, 0))) (hall : ∀ x ∈ l0, goneOf k s x = some (isGone k s x))
  (h3 : ∀ j : Nat, j < l0.length → isGone k s (rd_T31 l0 (j : Int)) = false) :
  Calls Try.prog 75 #[.slice A0 l0.length c0, .func (.func 58) #[] #[.pointer (some ⟨sb, 0, none⟩)]] w fun e w' => e = .returned (.int .i64 (-1)) ∧ Below w.heap.size w w' := by
 refine (slices_IndexFunc.calls k A0 c0 l0 s sb w hr0 hc0 hlen hbx hall).mono ?_
 rintro e w1 ⟨⟨i1, h4, h5, h6, rfl⟩ | ⟨h4, rfl⟩, hb⟩
 ·rw [h3 i1 h4] at h5; cases h5
 ·exact ⟨rfl, hb⟩
theorem firstGone (k : Nat) (s : ByteArray) (l0 : List (S31)) : (∀ j : Nat, j < l0.length → isGone k s (rd_T31 l0 (j : Int)) = false) ∨ ∃ i : Nat, i < l0.length ∧ isGone k s (rd_T31 l0 (i : Int)) = true ∧ ∀ j : Nat, j < i → isGone k s (rd_T31 l0 (j : Int)) = false := by
 have h : ∀ n, n ≤ l0.length → (∀ j : Nat, j < n → isGone k s (rd_T31 l0 (j : Int)) = false) ∨ ∃ i : Nat, i < l0.length ∧ isGone k s (rd_T31 l0 (i : Int)) = true ∧ ∀ j : Nat, j < i → isGone k s (rd_T31 l0 (j : Int)) = false := by
  intro n
  induction n with
  | zero => exact fun _ => .inl fun j hj => by omega
  | succ n ih =>
   intro hn
   rcases ih (by omega) with h | h
   ·cases hg : isGone k s (rd_T31 l0 (n : Int)) with
    | true => exact .inr ⟨n, by omega, hg, h⟩
    | false =>
     refine .inl fun j hj => ?_
     rcases Nat.lt_or_ge j n with h1 | h1
     ·exact h j h1
     ·rw [show j = n by omega]; exact hg
   ·exact .inr h
 exact h _ (Nat.le_refl _)
/-- What stands at the round's start: i are kept of the first j. -/
structure Kept_ (k : Nat) (s : ByteArray) (l0 cur : List (S31)) (i j : Nat) : Prop where
 len : cur.length = l0.length
 ij : i < j
 jn : j ≤ l0.length
 front : cur.take i = (l0.take j).filter fun x => !isGone k s x
 back : cur.drop j = l0.drop j
theorem Kept_.start {k : Nat} {s : ByteArray} {l0 : List (S31)} {i : Nat} (h1 : i < l0.length) (h2 : isGone k s (rd_T31 l0 (i : Int)) = true) (h3 : ∀ j : Nat, j < i → isGone k s (rd_T31 l0 (j : Int)) = false) : Kept_ k s l0 l0 i (i + 1) := by
 refine ⟨rfl, by omega, by omega, ?_, rfl⟩
 rw [isGone_at k s l0 i h1] at h2
 rw [List.take_add_one, List.getElem?_eq_getElem h1, List.filter_append]
 have e1 : (l0.take i).filter (fun x => !isGone k s x) = l0.take i := by
  refine List.filter_eq_self.2 fun x hx => ?_
  obtain ⟨j, hj, rfl⟩ := List.getElem_of_mem hx
  rw [List.length_take] at hj
  rw [List.getElem_take, ← isGone_at k s l0 j (by omega), h3 j (by omega)]
  rfl
 rw [e1]
 simp [h2]
theorem Kept_.at_ {k : Nat} {s : ByteArray} {l0 cur : List (S31)} {i j : Nat} (h : Kept_ k s l0 cur i j) (hj : j < l0.length) : cur[j]? = l0[j]? := by
 have h1 := congrArg (fun l => l[0]?) h.back
 simpa [List.getElem?_drop] using h1
theorem Kept_.skip {k : Nat} {s : ByteArray} {l0 cur : List (S31)} {i j : Nat} (h : Kept_ k s l0 cur i j) (hj : j < l0.length) (hg : isGone k s (rd_T31 l0 (j : Int)) = true) : Kept_ k s l0 cur i (j + 1) := by
 have h1 := h.ij
 refine ⟨h.len, by omega, by omega, ?_, ?_⟩
 ·rw [isGone_at k s l0 j hj] at hg
  rw [h.front, List.take_add_one, List.getElem?_eq_getElem hj, List.filter_append]
  simp [hg]
 ·rw [← List.drop_drop, ← List.drop_drop, h.back]
theorem Kept_.keep {k : Nat} {s : ByteArray} {l0 cur : List (S31)} {i j : Nat} (h : Kept_ k s l0 cur i j) (hj : j < l0.length) (hg : isGone k s (rd_T31 l0 (j : Int)) = false) : Kept_ k s l0 (cur.set i (rd_T31 l0 (j : Int))) (i + 1) (j + 1) := by
 have h1 := h.ij
 have h2 := h.len
 rw [isGone_at k s l0 j hj] at hg ⊢
 refine ⟨by simpa using h.len, by omega, by omega, ?_, ?_⟩
 ·rw [List.take_add_one, List.take_set_of_le (Nat.le_refl i), List.getElem?_set_self (by omega), h.front, List.take_add_one, List.getElem?_eq_getElem hj, List.filter_append]
  simp [hg]
 ·rw [List.drop_set_of_lt (by omega), ← List.drop_drop, ← List.drop_drop, h.back]
set_option maxHeartbeats 8000000 in
set_option maxRecDepth 100000 in
theorem slices_DeleteFunc.calls (k base : Nat) (P : Nat → Prop) (A0 : Option Addr) (c0 : Nat) (l0 : List (S31)) (s : ByteArray) (sb : Nat) (r : List (S31)) (w : World) (ho : Kd.N k31 31 w base P (.slice A0 l0.length c0) l0) (hsb : sb < base) (hbase : base ≤ w.heap.size) (hlen : l0.length < 1152921504606846976) (hbx : w.heap[sb]? = some (.cells #[.string s] 9 (0, 0))) (h : keptOf k l0 s = some r) :
  Calls Try.prog 57 #[.slice A0 l0.length c0, .func (.func 58) #[] #[.pointer (some ⟨sb, 0, none⟩)]] w fun e w' => ∃ v0_ : Value, e = .returned v0_ ∧ Kd.N k31 31 w' base P v0_ r ∧ Below base w w' := by
 have hall : ∀ x ∈ l0, goneOf k s x = some (isGone k s x) := by
  intro x hx
  unfold keptOf at h
  split at h
  ·rename_i h1
   obtain ⟨b, hb⟩ := Option.isSome_iff_exists.1 (List.all_eq_true.mp h1 x hx)
   unfold isGone
   rw [hb]; rfl
  ·cases h
 have hr : l0.filter (fun x => !isGone k s x) = r := by
  unfold keptOf at h
  split at h
  ·exact Option.some.inj h
  ·cases h
 clear h
 have hc0 := (Kd.N_reads' ho).2.1
 have HO := Aside0.mk ho
 have HX := Aside0.mk hbx
 have HALL := Aside0.mk hall
 have HR := Aside0.mk hr
 clear ho hbx hall hr
 rcases firstGone k s l0 with hn | ⟨i0, hi1, hi2, hi3⟩
 ·have HN := Aside0.mk hn
  clear hn
  go_enter Try.func57, Try.ntmps57
  go_wp2_with (go_at_call 75; refine (slices_IndexFunc.none_ k A0 c0 l0 s sb _ (Kd.N_reads' HO.out).2.2 hc0 hlen HX.out HALL.out HN.out).mono ?_; rintro e w1 ⟨rfl, hb⟩; have HB := Aside0.mk hb; clear hb)
  go_ret
  refine ⟨_, rfl, ?_, HB.out.mono hbase⟩
  have e1 : r = l0 := by
   rw [← HR.out]
   refine List.filter_eq_self.2 fun x hx => ?_
   obtain ⟨j, hj, rfl⟩ := List.getElem_of_mem hx
   rw [← isGone_at k s l0 j hj, HN.out j hj]
   rfl
  rw [e1]
  exact Kd.N_below HO.out HB.out
 ·have HI2 := Aside0.mk hi2
  have HI3 := Aside0.mk hi3
  have hK0 : Kept_ k s l0 l0 i0 (i0 + 1) := Kept_.start hi1 hi2 hi3
  have HK0 := Aside0.mk hK0
  clear hi2 hi3 hK0
  obtain ⟨g, cap, eA, hgb, hgl, _⟩ := Kd.N_form HO.out (by omega)
  injection eA with ea en ec
  subst ea ec
  clear en
  have d0 : ((i0 : Int) == -1) = false := beq_eq_false_iff_ne.mpr (by omega)
  go_enter Try.func57, Try.ntmps57
  go_wp2_with (go_at_call 75; refine (slices_IndexFunc.at_ k _ c0 l0 s sb i0 _ (Kd.N_reads' HO.out).2.2 hc0 hlen HX.out HALL.out hi1 HI2.out HI3.out).mono ?_; rintro e w1 ⟨rfl, hb⟩; have HB := Aside0.mk hb; clear hb)
  have HO1 := Aside0.mk (Kd.N_below HO.out HB.out)
  have HB1 := Aside0.mk (HB.out.mono hbase)
  go_loopw [5, 6] (fun v5 v6 wr => ∃ (i j : Nat) (cur : List (S31)), v5 = .int .i64 (i : Int) ∧ v6 = .int .i64 (j : Int) ∧ Aside0 (Kept_ k s l0 cur i j) ∧ Aside0 (Kd.N k31 31 wr base P (.slice (some ⟨g, 0, none⟩) l0.length c0) cur) ∧ Aside0 (Below base w wr)) (fun _ v6 _ => l0.length - (intOf v6).toNat)
  case atStart => exact ⟨i0, i0 + 1, l0, rfl, by congr 1, HK0, HO1, HB1⟩
  case round =>
   clear HO1 HB1 HB HI2 HI3 HK0 d0
   obtain ⟨i, j, cur, rfl, rfl, HK, HO1, HB1⟩ := hrel
   have hij : i < j := HK.out.ij
   have hjn : j ≤ l0.length := HK.out.jn
   have HX1 := Aside0.mk ((HB1.out.block sb hsb).trans HX.out)
   have HS1 := Aside0.mk (Nat.le_trans hbase HB1.out.size)
   by_cases c1 : j < l0.length
   ·have d1 : decide (j < l0.length) = true := decide_eq_true c1
    have p : (0 : Int) ≤ (j : Int) := Int.natCast_nonneg j
    have q : (j : Int) < (l0.length : Int) := Int.ofNat_lt.2 c1
    obtain ⟨c, hcl, hM, hcc, hfr⟩ := Kd.N_elem HO1.out z31 (j : Int) p q
    have hxx : cur.getD ((j : Int)).toNat z31 = rd_T31 l0 (j : Int) := by
     rw [isGone_at k s l0 j c1, Int.toNat_natCast, List.getD_eq_getElem?_getD, HK.out.at_ c1, List.getElem?_eq_getElem c1]
     rfl
    rw [hxx] at hM
    clear hxx hfr hcl
    obtain ⟨ua, uc, rfl, ul, ge⟩ := k31_openF hM
    rw [Int.toNat_natCast] at hcc
    have HM := Aside0.mk hM
    have hx0 : wr.cell? ⟨g, j * 5, none⟩ = some (.string (rd_T31 l0 (j : Int)).f0) := hcc 0 _ rfl
    have hx1 : wr.cell? ⟨g, j * 5 + 1, none⟩ = some (.int .i64 (rd_T31 l0 (j : Int)).f1) := hcc 1 _ rfl
    have hx2 : wr.cell? ⟨g, j * 5 + 2, none⟩ = some (.int .i64 (rd_T31 l0 (j : Int)).f2) := hcc 2 _ rfl
    have hx3 : wr.cell? ⟨g, j * 5 + 3, none⟩ = some (.slice ua (rd_T31 l0 (j : Int)).f3.length uc) := hcc 3 _ rfl
    have hx4 : wr.cell? ⟨g, j * 5 + 4, none⟩ = some (.string (rd_T31 l0 (j : Int)).f4) := hcc 4 _ rfl
    clear hcc hM ul ge
    have HG := Aside0.mk (HALL.out (rd_T31 l0 (j : Int)) (by rw [isGone_at k s l0 j c1]; exact List.getElem_mem _))
    obtain ⟨b, hb0⟩ : ∃ b, isGone k s (rd_T31 l0 (j : Int)) = b := ⟨_, rfl⟩
    rw [hb0] at HG
    cases b with
    | true =>
     go_wp2_with (first | ((with_reducible refine gate_dst (N := 7) rfl ?_); refine box_event ?hg (N := 7) ?hd (cs := #[.string (⟨#[]⟩ : ByteArray), .int .i64 0, .int .i64 0, .slice none 0 0, .string (⟨#[]⟩ : ByteArray)]) (t := 31) ?hr ?_; (case hd => rfl); (case hg => rfl); (case hr => first | (go_simp; done) | (go_simp; rfl)); intro gb hg w9 hbox hb; have HBr := Aside0.mk hb; have BK := Aside0.mk hbox; have GE := Aside0.mk (show wr.heap.size ≤ gb by rw [hg]; exact Nat.le_refl _); clear hb hbox hg; have hcz0 : w9.cell? ⟨gb, 0, none⟩ = some (.string (⟨#[]⟩ : ByteArray)) := (blk_cell BK.out 0).trans rfl; have hfz0 := blk_frozen BK.out 0; have hcz1 : w9.cell? ⟨gb, 1, none⟩ = some (.int .i64 0) := (blk_cell BK.out 1).trans rfl; have hfz1 := blk_frozen BK.out 1; have hcz2 : w9.cell? ⟨gb, 2, none⟩ = some (.int .i64 0) := (blk_cell BK.out 2).trans rfl; have hfz2 := blk_frozen BK.out 2; have hcz3 : w9.cell? ⟨gb, 3, none⟩ = some (.slice none 0 0) := (blk_cell BK.out 3).trans rfl; have hfz3 := blk_frozen BK.out 3; have hcz4 : w9.cell? ⟨gb, 4, none⟩ = some (.string (⟨#[]⟩ : ByteArray)) := (blk_cell BK.out 4).trans rfl; have hfz4 := blk_frozen BK.out 4) | (go_at_call 58; refine (tree_Drop1.calls k (rd_T31 l0 (j : Int)) _ s sb true _ rfl (blk_below HX1.out (show Below wr.heap.size wr _ from (by repeat (with_reducible first | exact HBr.out | refine below_set ?_ GE.out)))) HG.out).mono ?_; rintro e w2 ⟨rfl, hb⟩; have n0_ := Aside0.mk (blk_below (g := gb) (o := .cells #[.string (rd_T31 l0 (j : Int)).f0, .int .i64 (rd_T31 l0 (j : Int)).f1, .int .i64 (rd_T31 l0 (j : Int)).f2, .slice ua (rd_T31 l0 (j : Int)).f3.length uc, .string (rd_T31 l0 (j : Int)).f4] 31 (0, 0)) (by refine blk_put (cs := #[.string (rd_T31 l0 (j : Int)).f0, .int .i64 (rd_T31 l0 (j : Int)).f1, .int .i64 (rd_T31 l0 (j : Int)).f2, .slice ua (rd_T31 l0 (j : Int)).f3.length uc, .string (⟨#[]⟩ : ByteArray)]) ?_ 4 _ rfl; refine blk_put (cs := #[.string (rd_T31 l0 (j : Int)).f0, .int .i64 (rd_T31 l0 (j : Int)).f1, .int .i64 (rd_T31 l0 (j : Int)).f2, .slice none 0 0, .string (⟨#[]⟩ : ByteArray)]) ?_ 3 _ rfl; refine blk_put (cs := #[.string (rd_T31 l0 (j : Int)).f0, .int .i64 (rd_T31 l0 (j : Int)).f1, .int .i64 0, .slice none 0 0, .string (⟨#[]⟩ : ByteArray)]) ?_ 2 _ rfl; refine blk_put (cs := #[.string (rd_T31 l0 (j : Int)).f0, .int .i64 0, .int .i64 0, .slice none 0 0, .string (⟨#[]⟩ : ByteArray)]) ?_ 1 _ rfl; refine blk_put (cs := #[.string (⟨#[]⟩ : ByteArray), .int .i64 0, .int .i64 0, .slice none 0 0, .string (⟨#[]⟩ : ByteArray)]) ?_ 0 _ rfl; with_reducible exact BK.out) hb); have n1_ := Aside0.mk (show Below wr.heap.size wr w2 from below_step (by repeat (with_reducible first | exact HBr.out | refine below_set ?_ GE.out)) hb); clear BK HBr hb; have BK := n0_; have HBr := n1_; clear n0_ n1_))
     go_roundw
     case rel => exact ⟨i, j + 1, cur, rfl, by congr 1, ⟨HK.out.skip c1 hb0⟩, ⟨Kd.N_below HO1.out HBr.out⟩, ⟨HB1.out.trans (HBr.out.mono HS1.out)⟩⟩
     case measure => simp [intOf]; omega
    | false =>
     go_wp2_with (first | ((with_reducible refine gate_dst (N := 7) rfl ?_); refine box_event ?hg (N := 7) ?hd (cs := #[.string (⟨#[]⟩ : ByteArray), .int .i64 0, .int .i64 0, .slice none 0 0, .string (⟨#[]⟩ : ByteArray)]) (t := 31) ?hr ?_; (case hd => rfl); (case hg => rfl); (case hr => first | (go_simp; done) | (go_simp; rfl)); intro gb hg w9 hbox hb; have HBr := Aside0.mk hb; have BK := Aside0.mk hbox; have GE := Aside0.mk (show wr.heap.size ≤ gb by rw [hg]; exact Nat.le_refl _); clear hb hbox hg; have hcz0 : w9.cell? ⟨gb, 0, none⟩ = some (.string (⟨#[]⟩ : ByteArray)) := (blk_cell BK.out 0).trans rfl; have hfz0 := blk_frozen BK.out 0; have hcz1 : w9.cell? ⟨gb, 1, none⟩ = some (.int .i64 0) := (blk_cell BK.out 1).trans rfl; have hfz1 := blk_frozen BK.out 1; have hcz2 : w9.cell? ⟨gb, 2, none⟩ = some (.int .i64 0) := (blk_cell BK.out 2).trans rfl; have hfz2 := blk_frozen BK.out 2; have hcz3 : w9.cell? ⟨gb, 3, none⟩ = some (.slice none 0 0) := (blk_cell BK.out 3).trans rfl; have hfz3 := blk_frozen BK.out 3; have hcz4 : w9.cell? ⟨gb, 4, none⟩ = some (.string (⟨#[]⟩ : ByteArray)) := (blk_cell BK.out 4).trans rfl; have hfz4 := blk_frozen BK.out 4) | (go_at_call 58; refine (tree_Drop1.calls k (rd_T31 l0 (j : Int)) _ s sb false _ rfl (blk_below HX1.out (show Below wr.heap.size wr _ from (by repeat (with_reducible first | exact HBr.out | refine below_set ?_ GE.out)))) HG.out).mono ?_; rintro e w2 ⟨rfl, hb⟩; have n0_ := Aside0.mk (blk_below (g := gb) (o := .cells #[.string (rd_T31 l0 (j : Int)).f0, .int .i64 (rd_T31 l0 (j : Int)).f1, .int .i64 (rd_T31 l0 (j : Int)).f2, .slice ua (rd_T31 l0 (j : Int)).f3.length uc, .string (rd_T31 l0 (j : Int)).f4] 31 (0, 0)) (by refine blk_put (cs := #[.string (rd_T31 l0 (j : Int)).f0, .int .i64 (rd_T31 l0 (j : Int)).f1, .int .i64 (rd_T31 l0 (j : Int)).f2, .slice ua (rd_T31 l0 (j : Int)).f3.length uc, .string (⟨#[]⟩ : ByteArray)]) ?_ 4 _ rfl; refine blk_put (cs := #[.string (rd_T31 l0 (j : Int)).f0, .int .i64 (rd_T31 l0 (j : Int)).f1, .int .i64 (rd_T31 l0 (j : Int)).f2, .slice none 0 0, .string (⟨#[]⟩ : ByteArray)]) ?_ 3 _ rfl; refine blk_put (cs := #[.string (rd_T31 l0 (j : Int)).f0, .int .i64 (rd_T31 l0 (j : Int)).f1, .int .i64 0, .slice none 0 0, .string (⟨#[]⟩ : ByteArray)]) ?_ 2 _ rfl; refine blk_put (cs := #[.string (rd_T31 l0 (j : Int)).f0, .int .i64 0, .int .i64 0, .slice none 0 0, .string (⟨#[]⟩ : ByteArray)]) ?_ 1 _ rfl; refine blk_put (cs := #[.string (⟨#[]⟩ : ByteArray), .int .i64 0, .int .i64 0, .slice none 0 0, .string (⟨#[]⟩ : ByteArray)]) ?_ 0 _ rfl; with_reducible exact BK.out) hb); have n1_ := Aside0.mk (show Below wr.heap.size wr w2 from below_step (by repeat (with_reducible first | exact HBr.out | refine below_set ?_ GE.out)) hb); clear BK HBr hb; have BK := n0_; have HBr := n1_; clear n0_ n1_; have HO2 := Aside0.mk (Kd.N_below HO1.out HBr.out); obtain ⟨c2, hcl2, hM2, hcc2, hfr2⟩ := Kd.N_elem HO2.out z31 (i : Int) (by omega) (by omega); obtain ⟨ua2, uc2, rfl, ul2, ge2⟩ := k31_openF hM2; rw [Int.toNat_natCast] at hcc2 hfr2; have hy0 := hcc2 0 _ rfl; have hf0 := hfr2 0; have hy1 := hcc2 1 _ rfl; have hf1 := hfr2 1; have hy2 := hcc2 2 _ rfl; have hf2 := hfr2 2; have hy3 := hcc2 3 _ rfl; have hf3 := hfr2 3; have hy4 := hcc2 4 _ rfl; have hf4 := hfr2 4; simp only [show k31.sz = 5 from rfl, Nat.add_zero] at hy0 hy1 hy2 hy3 hy4 hf0 hf1 hf2 hf3 hf4; clear hcc2 hfr2 hM2 ul2 ge2 hcl2; have hcy0 : w2.cell? ⟨gb, 0, none⟩ = some (.string (rd_T31 l0 (j : Int)).f0) := (blk_cell BK.out 0).trans rfl; have hcy1 : w2.cell? ⟨gb, 1, none⟩ = some (.int .i64 (rd_T31 l0 (j : Int)).f1) := (blk_cell BK.out 1).trans rfl; have hcy2 : w2.cell? ⟨gb, 2, none⟩ = some (.int .i64 (rd_T31 l0 (j : Int)).f2) := (blk_cell BK.out 2).trans rfl; have hcy3 : w2.cell? ⟨gb, 3, none⟩ = some (.slice ua (rd_T31 l0 (j : Int)).f3.length uc) := (blk_cell BK.out 3).trans rfl; have hcy4 : w2.cell? ⟨gb, 4, none⟩ = some (.string (rd_T31 l0 (j : Int)).f4) := (blk_cell BK.out 4).trans rfl) | ((with_reducible refine gate_store (t := 31) (p := 33) rfl ?_); refine store_event (t := 31) (p := 33) (v := ?vo_) (w1 := (((((w2.setCell ⟨g, i * 5, none⟩ (.string (rd_T31 l0 (j : Int)).f0)).setCell ⟨g, i * 5 + 1, none⟩ (.int .i64 (rd_T31 l0 (j : Int)).f1)).setCell ⟨g, i * 5 + 2, none⟩ (.int .i64 (rd_T31 l0 (j : Int)).f2)).setCell ⟨g, i * 5 + 3, none⟩ (.slice ua (rd_T31 l0 (j : Int)).f3.length uc)).setCell ⟨g, i * 5 + 4, none⟩ (.string (rd_T31 l0 (j : Int)).f4))) ?hg ?ho ?hn ?hr ?_; (case ho => rfl); (case hg => rfl); (case hn => rfl); (case hr => first | (go_simp; done) | (go_simp; rfl)); intro w3 hw; obtain ⟨hN3, hG3⟩ := entryN_set HO2.out (show i < l0.length by omega) (x := (rd_T31 l0 (j : Int))) (seg := [.string (rd_T31 l0 (j : Int)).f0, .int .i64 (rd_T31 l0 (j : Int)).f1, .int .i64 (rd_T31 l0 (j : Int)).f2, .slice ua (rd_T31 l0 (j : Int)).f3.length uc, .string (rd_T31 l0 (j : Int)).f4]) (Kd.FK_below HM.out HBr.out); have HO3 := Aside0.mk (by rw [hw]; exact hN3 : Kd.N k31 31 w3 base P (.slice (some ⟨g, 0, none⟩) l0.length c0) (cur.set i (rd_T31 l0 (j : Int)))); have HB3 := Aside0.mk (show Below base w w3 by rw [hw]; exact (((((HB1.out.trans (HBr.out.mono HS1.out)).setCell hgb _).setCell hgb _).setCell hgb _).setCell hgb _).setCell hgb _); clear hN3 hG3 hw))
     go_roundw
     case rel => exact ⟨i + 1, j + 1, _, by congr 1, by congr 1, ⟨HK.out.keep c1 hb0⟩, HO3, HB3⟩
     case measure => simp [intOf]; omega
   ·have d1 : decide (j < l0.length) = false := decide_eq_false c1
    have hin : i < l0.length := by omega
    obtain ⟨hNz, hGz⟩ := entryN_zero (l0.length - i) i wr cur HO1.out (by omega)
    have HNz := Aside0.mk hNz
    have HGz := Aside0.mk hGz
    clear hNz hGz
    have hclr := entryN_clear wr 0 HO1.out hin (c0 - i)
    have h5 : i ≤ c0 := by omega
    go_wp2
    go_ret
    refine ⟨_, rfl, ?_, ?_⟩
    ·have e1 : r = (cur.take i ++ List.replicate (l0.length - i) z31).take i := by
      have e2 : (cur.take i).length = i := by rw [List.length_take, HK.out.len]; omega
      rw [List.take_append_of_le_length (by omega), List.take_of_length_le (by omega), HK.out.front, ← HR.out, show j = l0.length by omega, List.take_length]
     have e3 := Kd.N_take HNz.out (m := i) (by rw [List.length_append, List.length_take, HK.out.len, List.length_replicate]; omega)
     rw [e1]
     exact e3
    ·exact HB1.out.grown HGz.out HS1.out (fun k hk => by injection hk with hk; omega)
def tree_Drop.f (k : Nat) (l0 : List (S31)) (a1 : ByteArray) : Option ((List (S31)) × Int) :=
 (tree_Check.f k l0).bind fun c => if c.1 = 0 then ((tree_place.f k l0 a1).bind fun p => if p.2 = true then ((api_Entry_55.f l0).bind fun x => (keptOf k x a1).bind fun y => (tree_clone.f k y).bind fun z => some (z, 0)) else some ([], 6)) else some ([], c.1)
theorem tree_Drop.mono : ∀ l0 a1 k, LeO (tree_Drop.f k l0 a1) (tree_Drop.f (k + 1) l0 a1) := by
 intro l0 a1 k
 unfold tree_Drop.f
 exact LeO.bind (tree_Check.mono _ _) fun _ => LeO.ite (LeO.bind (tree_place.mono _ _ _) fun _ => LeO.ite (LeO.bind (LeO.refl _) fun _ => LeO.bind (keptOf_mono _ _ _) fun _ => LeO.bind (tree_clone.mono _ _) fun _ => LeO.refl _) (LeO.refl _)) (LeO.refl _)
set_option maxHeartbeats 8000000 in
set_option maxRecDepth 100000 in
theorem tree_Drop.calls2 (k : Nat) (A0 : Option Addr) (c0 : Nat) (l0 : List (S31)) (a1 : ByteArray) (r1 : List (S31)) (r2 : Int) (w : World) (hr0 : Kd.C k31 w A0 l0.length l0) (hc0 : l0.length ≤ c0) (h : tree_Drop.f k l0 a1 = some (r1, r2)) :
  Calls Try.prog 32 #[.slice A0 l0.length c0, .string a1] w fun e w' => ∃ v0_ : Value, e = .returned (.tuple #[v0_, .int .i64 r2]) ∧ Kd.S k31 31 w' w.heap.size (fun _ => True) v0_ r1 ∧ FullRow w' v0_ r1 ∧ Below w.heap.size w w' := by
 obtain ⟨P0_, hs0⟩ : ∃ P0_ : Nat → Prop, Kd.V k31 31 w w.heap.size (fun k_ => P0_ k_) (.slice A0 l0.length c0) l0 := ⟨fun k => k < w.heap.size, Kd.V_mk hc0 (Kd.C_F k31_heap hr0)⟩
 clear hr0
 have HS := Aside0.mk hs0
 clear hs0
 unfold tree_Drop.f at h
 obtain ⟨⟨e1, e2⟩, hchk, h⟩ := Option.bind_eq_some_iff.mp h
 replace h : (if e1 = 0 then ((tree_place.f k l0 a1).bind fun p => if p.2 = true then ((api_Entry_55.f l0).bind fun x => (keptOf k x a1).bind fun y => (tree_clone.f k y).bind fun z => some (z, 0)) else some ([], 6)) else some ([], e1)) = some (r1, r2) := h
 have HC := Aside0.mk hchk
 clear hchk
 by_cases c1 : e1 = 0
 ·rw [if_pos c1] at h
  subst c1
  obtain ⟨⟨p1, p2⟩, hpl, h⟩ := Option.bind_eq_some_iff.mp h
  replace h : (if p2 = true then ((api_Entry_55.f l0).bind fun x => (keptOf k x a1).bind fun y => (tree_clone.f k y).bind fun z => some (z, 0)) else some ([], 6)) = some (r1, r2) := h
  have HP := Aside0.mk hpl
  clear hpl
  by_cases c2 : p2 = true
  ·rw [if_pos c2] at h
   subst c2
   obtain ⟨x, hx, h⟩ := Option.bind_eq_some_iff.mp h
   obtain ⟨y, hy, h⟩ := Option.bind_eq_some_iff.mp h
   obtain ⟨z, hz, h⟩ := Option.bind_eq_some_iff.mp h
   obtain ⟨rfl, rfl⟩ := Prod.mk.inj (Option.some.inj h)
   have HX := Aside0.mk hx
   have HY := Aside0.mk hy
   have HZ := Aside0.mk hz
   have hxl : x = l0 ∧ l0.length < 1152921504606846976 := by
    unfold api_Entry_55.f at hx
    split at hx
    ·exact ⟨(Option.some.inj hx).symm, by omega⟩
    ·cases hx
   obtain ⟨rfl, hlen⟩ := hxl
   have HLEN := Aside0.mk hlen
   clear h hx hy hz hlen
   have HB := Aside0.mk (Below.refl w.heap.size w)
   go_enter Try.func32, Try.ntmps32
   go_wp2_with (first
    | ((with_reducible refine gate_dst (N := 3) rfl ?_); refine box_event ?hg (N := 3) ?hd (cs := #[.string a1]) (t := 9) ?hr ?_; (case hd => rfl); (case hg => rfl); (case hr => first | (go_simp; done) | (go_simp; rfl)); intro gb hg w1 hbox hb; have HB1 := Aside0.mk hb; have BK := Aside0.mk hbox; have GE := Aside0.mk hg; have hsz := Aside0.mk (blk_lt hbox); clear hb hbox hg; have hcz : w1.cell? ⟨gb, 0, none⟩ = some (.string a1) := (blk_cell BK.out 0).trans rfl)
    | (go_at_call 11; refine (tree_Check.calls k A0 c0 _ 0 e2 _ (Kd.V_reads' (Kd.V_below HS.out HB1.out)).2.2 hc0 HC.out).mono ?_; rintro e w2 ⟨rfl, hb⟩; have HB2 := Aside0.mk (below_step HB1.out hb); have BK2 := Aside0.mk (blk_below BK.out hb); clear hb hcz; have hcz : w2.cell? ⟨gb, 0, none⟩ = some (.string a1) := (blk_cell BK2.out 0).trans rfl)
    | (go_at_call 40; refine (tree_place.calls k A0 c0 _ a1 p1 true _ (Kd.V_reads' (Kd.V_below HS.out HB2.out)).2.2 hc0 HP.out).mono ?_; rintro e w3 ⟨rfl, hb⟩; have HB3 := Aside0.mk (below_step HB2.out hb); have BK3 := Aside0.mk (blk_below BK2.out hb); clear hb hcz; have hcz : w3.cell? ⟨gb, 0, none⟩ = some (.string a1) := (blk_cell BK3.out 0).trans rfl)
    | (go_at_call 55; refine (api_Entry_55.calls P0_ A0 c0 _ x _ (Kd.V_map (Kd.V_below HS.out HB3.out) (fun _ hf => hf)) HX.out).mono ?_; rintro e w4 ⟨v4, rfl, hN4, hb⟩; have HB4 := Aside0.mk (below_step HB3.out hb); have BK4 := Aside0.mk (blk_below BK3.out hb); have HN4 := Aside0.mk hN4; obtain ⟨A4, c4, rfl⟩ := Kd.N_slice hN4; clear hb hcz hN4; have hcz : w4.cell? ⟨gb, 0, none⟩ = some (.string a1) := (blk_cell BK4.out 0).trans rfl)
    | (go_at_call 57; refine (slices_DeleteFunc.calls k (gb + 1) (fun k_ => P0_ k_ ∨ w.heap.size ≤ k_) A4 c4 x a1 gb y _ (Kd.N_lower (Kd.N_mono HN4.out (fun k_ hk => hk.imp id (fun hk => Nat.le_trans HB3.out.size hk))) (Nat.succ_le_of_lt (blk_lt BK3.out))) (Nat.lt_succ_self _) (Nat.succ_le_of_lt (blk_lt BK4.out)) HLEN.out BK4.out HY.out).mono ?_; rintro e w5 ⟨v5, rfl, hN5, hb⟩; have HB5 := Aside0.mk (HB4.out.trans (hb.mono (Nat.le_of_lt (Nat.lt_succ_of_le (by rw [GE.out]; exact Nat.le_refl _))))); have HN5 := Aside0.mk hN5; obtain ⟨A5, c5, rfl⟩ := Kd.N_slice hN5; clear hb hcz hN5)
    | (go_at_call 41; refine (tree_clone.calls2 k A5 c5 y z _ (Kd.N_reads' HN5.out).2.2 (Kd.N_reads' HN5.out).2.1 HZ.out).mono ?_; rintro e w6 ⟨v6, rfl, hN6, hF6, hb⟩; have HF6 := Aside0.mk hF6; clear hF6; have HB6 := Aside0.mk (below_step HB5.out hb); have HN6 := Aside0.mk (Kd.S_lower hN6 HB5.out.size); clear hb hN6))
   go_ret2
   exact ⟨_, rfl, HN6.out, HF6.out, HB6.out⟩
  ·rw [if_neg c2] at h
   have c3 : p2 = false := by simpa using c2
   subst c3
   obtain ⟨rfl, rfl⟩ := Prod.mk.inj (Option.some.inj h)
   clear h c2
   have HB := Aside0.mk (Below.refl w.heap.size w)
   go_enter Try.func32, Try.ntmps32
   go_wp2_with (first
    | ((with_reducible refine gate_dst (N := 3) rfl ?_); refine box_event ?hg (N := 3) ?hd (cs := #[.string a1]) (t := 9) ?hr ?_; (case hd => rfl); (case hg => rfl); (case hr => first | (go_simp; done) | (go_simp; rfl)); intro gb hg w1 hbox hb; have HB1 := Aside0.mk hb; have BK := Aside0.mk hbox; have GE := Aside0.mk hg; have hsz := Aside0.mk (blk_lt hbox); clear hb hbox hg; have hcz : w1.cell? ⟨gb, 0, none⟩ = some (.string a1) := (blk_cell BK.out 0).trans rfl)
    | (go_at_call 11; refine (tree_Check.calls k A0 c0 _ 0 e2 _ (Kd.V_reads' (Kd.V_below HS.out HB1.out)).2.2 hc0 HC.out).mono ?_; rintro e w2 ⟨rfl, hb⟩; have HB2 := Aside0.mk (below_step HB1.out hb); have BK2 := Aside0.mk (blk_below BK.out hb); clear hb hcz; have hcz : w2.cell? ⟨gb, 0, none⟩ = some (.string a1) := (blk_cell BK2.out 0).trans rfl)
    | (go_at_call 40; refine (tree_place.calls k A0 c0 _ a1 p1 false _ (Kd.V_reads' (Kd.V_below HS.out HB2.out)).2.2 hc0 HP.out).mono ?_; rintro e w3 ⟨rfl, hb⟩; have HB3 := Aside0.mk (below_step HB2.out hb); have BK3 := Aside0.mk (blk_below BK2.out hb); clear hb hcz; have hcz : w3.cell? ⟨gb, 0, none⟩ = some (.string a1) := (blk_cell BK3.out 0).trans rfl))
   go_ret2
   exact ⟨_, rfl, Kd.S_nil _ _ _ _ _, (fun _ _ _ he => by cases he), HB3.out⟩
 ·rw [if_neg c1] at h
  obtain ⟨rfl, rfl⟩ := Prod.mk.inj (Option.some.inj h)
  clear h
  have c1b : (e1 != 0) = true := bne_iff_ne.mpr c1
  have HB := Aside0.mk (Below.refl w.heap.size w)
  go_enter Try.func32, Try.ntmps32
  go_wp2_with (first
   | ((with_reducible refine gate_dst (N := 3) rfl ?_); refine box_event ?hg (N := 3) ?hd (cs := #[.string a1]) (t := 9) ?hr ?_; (case hd => rfl); (case hg => rfl); (case hr => first | (go_simp; done) | (go_simp; rfl)); intro gb hg w1 hbox hb; have HB1 := Aside0.mk hb; have BK := Aside0.mk hbox; have GE := Aside0.mk hg; have hsz := Aside0.mk (blk_lt hbox); clear hb hbox hg; have hcz : w1.cell? ⟨gb, 0, none⟩ = some (.string a1) := (blk_cell BK.out 0).trans rfl)
   | (go_at_call 11; refine (tree_Check.calls k A0 c0 _ e1 e2 _ (Kd.V_reads' (Kd.V_below HS.out HB1.out)).2.2 hc0 HC.out).mono ?_; rintro e w2 ⟨rfl, hb⟩; have HB2 := Aside0.mk (below_step HB1.out hb); have BK2 := Aside0.mk (blk_below BK.out hb); clear hb hcz; have hcz : w2.cell? ⟨gb, 0, none⟩ = some (.string a1) := (blk_cell BK2.out 0).trans rfl))
  go_ret2
  exact ⟨_, rfl, Kd.S_nil _ _ _ _ _, (fun _ _ _ he => by cases he), HB2.out⟩
theorem tree_Drop.calls (k : Nat) (A0 : Option Addr) (c0 : Nat) (l0 : List (S31)) (a1 : ByteArray) (r1 : List (S31)) (r2 : Int) (w : World) (hr0 : Kd.C k31 w A0 l0.length l0) (hc0 : l0.length ≤ c0) (h : tree_Drop.f k l0 a1 = some (r1, r2)) :
  Calls Try.prog 32 #[.slice A0 l0.length c0, .string a1] w fun e w' => ∃ v0_ : Value, e = .returned (.tuple #[v0_, .int .i64 r2]) ∧ Kd.S k31 31 w' w.heap.size (fun _ => True) v0_ r1 ∧ Below w.heap.size w w' :=
 (tree_Drop.calls2 k A0 c0 l0 a1 r1 r2 w hr0 hc0 h).mono fun e w' ⟨v, h1, h2, _, h4⟩ => ⟨v, h1, h2, h4⟩

end Go.Proofs.Ytopkmchkfcjjmaa.X
end

/-! ## Eq81 -/
section
namespace Go.Proofs.Ytopkmchkfcjjmaa.X
open Go.RowKit Go.Proofs.YtopkmchkfcjjmaaW.PrintWords Go.Proofs.YtopkmchkfcjjmaaW.PrintLast Go.Proofs.YtopkmchkfcjjmaaW.PrintMore
attribute [local go_sem] max2_int min2_int max_two min_two max_three min_three max_four min_four   -- for this text's walks alone
set_option linter.unusedVariables false
set_option linter.unusedSimpArgs false

attribute [local go_sem] str_gtr fld_fault0 fld_fault1
theorem eqA81 (d : Nat) (w : World) (x0 y0 : ByteArray) (x1 y1 : Int) (x2 y2 : Int) (x3 y3 : ByteArray) :
  (Op.equalIn (d + 2) 81 (.agg #[.string x0, .int .i64 x1, .int .i64 x2, .string x3]) (.agg #[.string y0, .int .i64 y1, .int .i64 y2, .string y3])).run Try.prog w = .ok (x0.toList == y0.toList && (x1 == y1 && (x2 == y2 && (x3.toList == y3.toList)))) w := by
 refine eqA_of Try.underlying81 (by kernel_rfl) ?_
 refine eqf_cons (by rfl) (by go_simp; rfl) (by go_simp; rfl) (by go_simp) ?_
 refine eqf_cons (by rfl) (by go_simp; rfl) (by go_simp; rfl) (by go_simp) ?_
 refine eqf_cons (by rfl) (by go_simp; rfl) (by go_simp; rfl) (by go_simp) ?_
 exact eqf_last (by rfl) (by go_simp; rfl) (by go_simp; rfl) (by go_simp)
end Go.Proofs.Ytopkmchkfcjjmaa.X
end

/-! ## BytesEqual -/
section
namespace Go.Proofs.Ytopkmchkfcjjmaa.X
open Go.RowKit Go.Proofs.YtopkmchkfcjjmaaW.PrintWords Go.Proofs.YtopkmchkfcjjmaaW.PrintLast Go.Proofs.YtopkmchkfcjjmaaW.PrintMore
attribute [local go_sem] max2_int min2_int max_two min_two max_three min_three max_four min_four   -- for this text's walks alone
set_option linter.unusedVariables false
set_option linter.unusedSimpArgs false

attribute [local go_sem] str_gtr fld_fault0 fld_fault1
/-! ### bytes_Equal: function 72 -/
def bytes_Equal.f (l0 : List Int) (l1 : List Int) : Option (Bool) := some ((strOfNums l0).toList == (strOfNums l1).toList)
set_option maxHeartbeats 8000000 in
set_option maxRecDepth 100000 in
theorem bytes_Equal.calls (A0 : Option Addr) (c0 : Nat) (l0 : List Int) (A1 : Option Addr) (c1 : Nat) (l1 : List Int) (r : Bool) (w : World) (hr0 : Kd.C (Kd.int .u8) w A0 l0.length l0) (hc0 : l0.length ≤ c0) (hr1 : Kd.C (Kd.int .u8) w A1 l1.length l1) (hc1 : l1.length ≤ c1) (h : bytes_Equal.f l0 l1 = some r) :
  Calls Try.prog 72 #[.slice A0 l0.length c0, .slice A1 l1.length c1] w fun e w' => e = .returned (.bool r) ∧ Drawn0 w w' := by
 have HR0 := Aside0.mk hr0
 have HC0 := Aside0.mk hc0
 clear hr0 hc0
 have HR1 := Aside0.mk hr1
 have HC1 := Aside0.mk hc1
 clear hr1 hc1
 have H : (some ((strOfNums l0).toList == (strOfNums l1).toList)) = some r := h
 clear h
 obtain rfl := Option.some.inj H
 have hcv3 := Kd.C_string (P := Try.prog) (A := A0) (c := c0) Try.underlying29 Try.underlying5 Try.underlying9 HR0.out
 have hcv4 := Kd.C_string (P := Try.prog) (A := A1) (c := c1) Try.underlying29 Try.underlying5 Try.underlying9 HR1.out
 go_enter Try.func72, Try.ntmps72
 go_wp2
 go_ret
 exact ⟨by first | rfl | (simp; done) | (simp [*]; done), by repeat (first | exact Drawn0.refl _ | apply Drawn0.step)⟩

end Go.Proofs.Ytopkmchkfcjjmaa.X
end

/-! ## TreeAlike -/
section
namespace Go.Proofs.Ytopkmchkfcjjmaa.X
open Go.RowKit Go.Proofs.YtopkmchkfcjjmaaW.PrintWords Go.Proofs.YtopkmchkfcjjmaaW.PrintLast Go.Proofs.YtopkmchkfcjjmaaW.PrintMore
attribute [local go_sem] max2_int min2_int max_two min_two max_three min_three max_four min_four   -- for this text's walks alone
set_option linter.unusedVariables false
set_option linter.unusedSimpArgs false

attribute [local go_sem] str_gtr fld_fault0 fld_fault1
attribute [local go_sem high] eqA81
/-! ### tree_alike: function 53 -/
def tree_alike.f (a0_0 : ByteArray) (a0_1 : Int) (a0_2 : Int) (l0_3 : List Int) (a0_4 : ByteArray) (a1_0 : ByteArray) (a1_1 : Int) (a1_2 : Int) (l1_3 : List Int) (a1_4 : ByteArray) : Option (Bool) := if (a0_0.toList == a1_0.toList && (a0_1 == a1_1 && (a0_2 == a1_2 && (a0_4.toList == a1_4.toList)))) = true then ((bytes_Equal.f l0_3 l1_3).bind fun t370 => (some t370)) else (some false)
set_option maxHeartbeats 8000000 in
set_option maxRecDepth 100000 in
theorem tree_alike.calls (a0_0 : ByteArray) (a0_1 : Int) (a0_2 : Int) (A0_3 : Option Addr) (c0_3 : Nat) (l0_3 : List Int) (a0_4 : ByteArray) (a1_0 : ByteArray) (a1_1 : Int) (a1_2 : Int) (A1_3 : Option Addr) (c1_3 : Nat) (l1_3 : List Int) (a1_4 : ByteArray) (r : Bool) (w : World) (hr0_3 : Kd.C (Kd.int .u8) w A0_3 l0_3.length l0_3) (hc0_3 : l0_3.length ≤ c0_3) (hr1_3 : Kd.C (Kd.int .u8) w A1_3 l1_3.length l1_3) (hc1_3 : l1_3.length ≤ c1_3) (h : tree_alike.f a0_0 a0_1 a0_2 l0_3 a0_4 a1_0 a1_1 a1_2 l1_3 a1_4 = some r) :
  Calls Try.prog 53 #[.agg #[.string a0_0, .int .i64 a0_1, .int .i64 a0_2, .slice A0_3 l0_3.length c0_3, .string a0_4], .agg #[.string a1_0, .int .i64 a1_1, .int .i64 a1_2, .slice A1_3 l1_3.length c1_3, .string a1_4]] w fun e w' => e = .returned (.bool r) ∧ Below w.heap.size w w' := by
 have hu31 := Try.underlying31
 have hu81 := Try.underlying81
 have HR0_3 := Aside0.mk hr0_3
 have HC0_3 := Aside0.mk hc0_3
 clear hr0_3 hc0_3
 have HR1_3 := Aside0.mk hr1_3
 have HC1_3 := Aside0.mk hc1_3
 clear hr1_3 hc1_3
 have HB := Aside0.mk (Below.refl w.heap.size w)
 have H : (if (a0_0.toList == a1_0.toList && (a0_1 == a1_1 && (a0_2 == a1_2 && (a0_4.toList == a1_4.toList)))) = true then ((bytes_Equal.f l0_3 l1_3).bind fun t370 => (some t370)) else (some false)) = some r := h
 clear h
 by_cases c3 : (a0_0.toList == a1_0.toList && (a0_1 == a1_1 && (a0_2 == a1_2 && (a0_4.toList == a1_4.toList)))) = true
 ·rw [if_pos c3] at H
  have c3b0 : (a0_0.toList == a1_0.toList && (a0_1 == a1_1 && (a0_2 == a1_2 && (a0_4.toList == a1_4.toList)))) = true := c3
  (try (have c3b1 : decide (a0_0.toList = a1_0.toList && (a0_1 == a1_1 && (a0_2 == a1_2 && (a0_4.toList == a1_4.toList)))) = true := by simpa using c3))
  (try (have c3b2 : (a0_0.toList == a1_0.toList && (a0_1 == a1_1 && (a0_2 == a1_2 && (a0_4.toList == a1_4.toList)))) = true := by simpa using c3))
  clear c3
  replace H := Option.bind_eq_some_iff.mp H
  obtain ⟨t370, A40, H⟩ := H
  replace H : (some t370) = some r := H
  have A4 := Aside0.mk A40
  clear A40
  obtain rfl := Option.some.inj H
  go_enter Try.func53, Try.ntmps53
  go_wp2_with (first | ((with_reducible refine gate_dst (N := 2) rfl ?_); refine box_event ?hg (N := 2) ?hd (cs := #[.string a0_0, .int .i64 a0_1, .int .i64 a0_2, .slice A0_3 l0_3.length c0_3, .string a0_4]) (t := 31) ?hr ?_; (case hd => rfl); (case hg => rfl); (case hr => first | (go_simp; done) | (go_simp; rfl)); intro gb368 hg w5 hbox hb; have n0_ := Aside0.mk (below_step (by repeat (first | (with_reducible first | exact HB.out | apply below_alloc | apply pw_below_drewN | apply below_drew1) | exact HB.out)) hb); have n1_ := Aside0.mk (hbox); have n2_ := Aside0.mk ((by rw [hg]; exact (below_size (by repeat (first | (with_reducible first | exact HB.out | apply below_alloc | apply pw_below_drewN | apply below_drew1) | exact HB.out))) : w.heap.size ≤ gb368)); have n3_ := Aside0.mk ((by rw [hg]; exact (below_size (by repeat (first | (with_reducible first | exact HB.out | apply below_alloc | apply pw_below_drewN | apply below_drew1) | exact HB.out))) : w.heap.size ≤ gb368)); clear HB; have HB := n0_; have BK368 := n1_; have GW368 := n2_; have GE368 := n3_; clear n0_ n1_ n2_ n3_; clear hb hbox hg) | ((with_reducible refine gate_dst (N := 3) rfl ?_); refine box_event ?hg (N := 3) ?hd (cs := #[.string a1_0, .int .i64 a1_1, .int .i64 a1_2, .slice A1_3 l1_3.length c1_3, .string a1_4]) (t := 31) ?hr ?_; (case hd => rfl); (case hg => rfl); (case hr => first | (go_simp; done) | (go_simp; rfl)); intro gb369 hg w6 hbox hb; have n0_ := Aside0.mk (blk_below (g := gb368) (o := .cells #[.string a0_0, .int .i64 a0_1, .int .i64 a0_2, .slice A0_3 l0_3.length c0_3, .string a0_4] 31 (0, 0)) (by (with_reducible repeat (first | refine blk_drewN ?_ _ | refine blk_drew ?_ | refine blk_alloc ?_ _)); exact BK368.out) hb); have n1_ := Aside0.mk (below_step (by repeat (first | (with_reducible first | exact HB.out | apply below_alloc | apply pw_below_drewN | apply below_drew1 | refine below_set ?_ GE368.out) | exact HB.out)) hb); have n2_ := Aside0.mk (hbox); have n3_ := Aside0.mk ((by rw [hg]; exact (below_size (by repeat (first | (with_reducible first | exact HB.out | apply below_alloc | apply pw_below_drewN | apply below_drew1 | refine below_set ?_ GE368.out) | exact HB.out))) : w.heap.size ≤ gb369)); have n4_ := Aside0.mk ((by rw [hg]; exact (below_size (by repeat (first | (with_reducible first | exact HB.out | apply below_alloc | apply pw_below_drewN | apply below_drew1 | refine below_set ?_ GE368.out) | exact HB.out))) : w.heap.size ≤ gb369)); have n5_ := Aside0.mk ((by rw [hg]; exact Nat.ne_of_lt (blk_lt (g := gb368) (o := .cells #[.string a0_0, .int .i64 a0_1, .int .i64 a0_2, .slice A0_3 l0_3.length c0_3, .string a0_4] 31 (0, 0)) (by (with_reducible repeat (first | refine blk_drewN ?_ _ | refine blk_drew ?_ | refine blk_alloc ?_ _)); exact BK368.out)) : gb368 ≠ gb369)); have n6_ := Aside0.mk ((by rw [hg]; exact Nat.ne_of_gt (blk_lt (g := gb368) (o := .cells #[.string a0_0, .int .i64 a0_1, .int .i64 a0_2, .slice A0_3 l0_3.length c0_3, .string a0_4] 31 (0, 0)) (by (with_reducible repeat (first | refine blk_drewN ?_ _ | refine blk_drew ?_ | refine blk_alloc ?_ _)); exact BK368.out)) : gb369 ≠ gb368)); clear BK368; clear HB; have BK368 := n0_; have HB := n1_; have BK369 := n2_; have GW369 := n3_; have GE369 := n4_; have NB368_369 := n5_; have NB369_368 := n6_; clear n0_ n1_ n2_ n3_ n4_ n5_ n6_; clear hb hbox hg; have hnb7 := NB368_369.out; have hnc7 := NB369_368.out; have hcz8_0 : w6.cell? ⟨gb368, 0, none⟩ = some (.string a0_0) := (blk_cell BK368.out 0).trans rfl; have hcz8_1 : w6.cell? ⟨gb368, 1, none⟩ = some (.int .i64 a0_1) := (blk_cell BK368.out 1).trans rfl; have hcz8_2 : w6.cell? ⟨gb368, 2, none⟩ = some (.int .i64 a0_2) := (blk_cell BK368.out 2).trans rfl; have hcz8_3 : w6.cell? ⟨gb368, 3, none⟩ = some (.slice A0_3 l0_3.length c0_3) := (blk_cell BK368.out 3).trans rfl; have hcz8_4 : w6.cell? ⟨gb368, 4, none⟩ = some (.string a0_4) := (blk_cell BK368.out 4).trans rfl; have hfz8_0 := blk_frozen BK368.out 0; have hfz8_1 := blk_frozen BK368.out 1; have hfz8_2 := blk_frozen BK368.out 2; have hfz8_3 := blk_frozen BK368.out 3; have hfz8_4 := blk_frozen BK368.out 4; have hcz9_0 : w6.cell? ⟨gb369, 0, none⟩ = some (.string a1_0) := (blk_cell BK369.out 0).trans rfl; have hcz9_1 : w6.cell? ⟨gb369, 1, none⟩ = some (.int .i64 a1_1) := (blk_cell BK369.out 1).trans rfl; have hcz9_2 : w6.cell? ⟨gb369, 2, none⟩ = some (.int .i64 a1_2) := (blk_cell BK369.out 2).trans rfl; have hcz9_3 : w6.cell? ⟨gb369, 3, none⟩ = some (.slice A1_3 l1_3.length c1_3) := (blk_cell BK369.out 3).trans rfl; have hcz9_4 : w6.cell? ⟨gb369, 4, none⟩ = some (.string a1_4) := (blk_cell BK369.out 4).trans rfl; have hfz9_0 := blk_frozen BK369.out 0; have hfz9_1 := blk_frozen BK369.out 1; have hfz9_2 := blk_frozen BK369.out 2; have hfz9_3 := blk_frozen BK369.out 3; have hfz9_4 := blk_frozen BK369.out 4) | (go_at_call 72; (with_reducible refine (bytes_Equal.calls _ _ l0_3 _ _ l1_3 t370 _ ?side1 ?side2 ?side3 ?side4 A4.out).mono ?_); (case side1 => repeat (first | exact (Kd.C_below HR0_3.out HB.out) | (with_reducible refine Kd.C_alloc ?_ _) | (with_reducible refine Kd.C_drewN ?_ _) | (with_reducible refine Kd.C_drew ?_))); (case side2 => exact HC0_3.out); (case side3 => repeat (first | exact (Kd.C_below HR1_3.out HB.out) | (with_reducible refine Kd.C_alloc ?_ _) | (with_reducible refine Kd.C_drewN ?_ _) | (with_reducible refine Kd.C_drew ?_))); (case side4 => exact HC1_3.out); rintro e w' ⟨rfl, ⟨nd, rfl⟩⟩))
  go_ret
  exact ⟨by first | rfl | (simp [errW_none, errW_some] <;> rfl) | (simp [*, errW_none, errW_some] <;> rfl) | (simp [bt, *]; done) | (simp_all [bt]; done), by repeat (first | (with_reducible first | exact HB.out | apply below_alloc | apply pw_below_drewN | apply below_drew1 | refine below_set ?_ GE368.out | refine below_set ?_ GE369.out) | exact HB.out)⟩
 ·rw [if_neg c3] at H
  have c3b0 : (a0_0.toList == a1_0.toList && (a0_1 == a1_1 && (a0_2 == a1_2 && (a0_4.toList == a1_4.toList)))) = false := by simpa using c3
  (try (have c3b1 : decide (a0_0.toList = a1_0.toList && (a0_1 == a1_1 && (a0_2 == a1_2 && (a0_4.toList == a1_4.toList)))) = false := by simpa using c3))
  (try (have c3b2 : (a0_0.toList == a1_0.toList && (a0_1 == a1_1 && (a0_2 == a1_2 && (a0_4.toList == a1_4.toList)))) = false := by simpa using c3))
  (try (have c3b3 : ¬ (a0_0.toList = a1_0.toList && (a0_1 == a1_1 && (a0_2 == a1_2 && (a0_4.toList == a1_4.toList)))) := by simpa using c3))
  clear c3
  obtain rfl := Option.some.inj H
  go_enter Try.func53, Try.ntmps53
  go_wp2_with (first | ((with_reducible refine gate_dst (N := 2) rfl ?_); refine box_event ?hg (N := 2) ?hd (cs := #[.string a0_0, .int .i64 a0_1, .int .i64 a0_2, .slice A0_3 l0_3.length c0_3, .string a0_4]) (t := 31) ?hr ?_; (case hd => rfl); (case hg => rfl); (case hr => first | (go_simp; done) | (go_simp; rfl)); intro gb368 hg w10 hbox hb; have n0_ := Aside0.mk (below_step (by repeat (first | (with_reducible first | exact HB.out | apply below_alloc | apply pw_below_drewN | apply below_drew1) | exact HB.out)) hb); have n1_ := Aside0.mk (hbox); have n2_ := Aside0.mk ((by rw [hg]; exact (below_size (by repeat (first | (with_reducible first | exact HB.out | apply below_alloc | apply pw_below_drewN | apply below_drew1) | exact HB.out))) : w.heap.size ≤ gb368)); have n3_ := Aside0.mk ((by rw [hg]; exact (below_size (by repeat (first | (with_reducible first | exact HB.out | apply below_alloc | apply pw_below_drewN | apply below_drew1) | exact HB.out))) : w.heap.size ≤ gb368)); clear HB; have HB := n0_; have BK368 := n1_; have GW368 := n2_; have GE368 := n3_; clear n0_ n1_ n2_ n3_; clear hb hbox hg) | ((with_reducible refine gate_dst (N := 3) rfl ?_); refine box_event ?hg (N := 3) ?hd (cs := #[.string a1_0, .int .i64 a1_1, .int .i64 a1_2, .slice A1_3 l1_3.length c1_3, .string a1_4]) (t := 31) ?hr ?_; (case hd => rfl); (case hg => rfl); (case hr => first | (go_simp; done) | (go_simp; rfl)); intro gb369 hg w11 hbox hb; have n0_ := Aside0.mk (blk_below (g := gb368) (o := .cells #[.string a0_0, .int .i64 a0_1, .int .i64 a0_2, .slice A0_3 l0_3.length c0_3, .string a0_4] 31 (0, 0)) (by (with_reducible repeat (first | refine blk_drewN ?_ _ | refine blk_drew ?_ | refine blk_alloc ?_ _)); exact BK368.out) hb); have n1_ := Aside0.mk (below_step (by repeat (first | (with_reducible first | exact HB.out | apply below_alloc | apply pw_below_drewN | apply below_drew1 | refine below_set ?_ GE368.out) | exact HB.out)) hb); have n2_ := Aside0.mk (hbox); have n3_ := Aside0.mk ((by rw [hg]; exact (below_size (by repeat (first | (with_reducible first | exact HB.out | apply below_alloc | apply pw_below_drewN | apply below_drew1 | refine below_set ?_ GE368.out) | exact HB.out))) : w.heap.size ≤ gb369)); have n4_ := Aside0.mk ((by rw [hg]; exact (below_size (by repeat (first | (with_reducible first | exact HB.out | apply below_alloc | apply pw_below_drewN | apply below_drew1 | refine below_set ?_ GE368.out) | exact HB.out))) : w.heap.size ≤ gb369)); have n5_ := Aside0.mk ((by rw [hg]; exact Nat.ne_of_lt (blk_lt (g := gb368) (o := .cells #[.string a0_0, .int .i64 a0_1, .int .i64 a0_2, .slice A0_3 l0_3.length c0_3, .string a0_4] 31 (0, 0)) (by (with_reducible repeat (first | refine blk_drewN ?_ _ | refine blk_drew ?_ | refine blk_alloc ?_ _)); exact BK368.out)) : gb368 ≠ gb369)); have n6_ := Aside0.mk ((by rw [hg]; exact Nat.ne_of_gt (blk_lt (g := gb368) (o := .cells #[.string a0_0, .int .i64 a0_1, .int .i64 a0_2, .slice A0_3 l0_3.length c0_3, .string a0_4] 31 (0, 0)) (by (with_reducible repeat (first | refine blk_drewN ?_ _ | refine blk_drew ?_ | refine blk_alloc ?_ _)); exact BK368.out)) : gb369 ≠ gb368)); clear BK368; clear HB; have BK368 := n0_; have HB := n1_; have BK369 := n2_; have GW369 := n3_; have GE369 := n4_; have NB368_369 := n5_; have NB369_368 := n6_; clear n0_ n1_ n2_ n3_ n4_ n5_ n6_; clear hb hbox hg; have hnb12 := NB368_369.out; have hnc12 := NB369_368.out; have hcz13_0 : w11.cell? ⟨gb368, 0, none⟩ = some (.string a0_0) := (blk_cell BK368.out 0).trans rfl; have hcz13_1 : w11.cell? ⟨gb368, 1, none⟩ = some (.int .i64 a0_1) := (blk_cell BK368.out 1).trans rfl; have hcz13_2 : w11.cell? ⟨gb368, 2, none⟩ = some (.int .i64 a0_2) := (blk_cell BK368.out 2).trans rfl; have hcz13_3 : w11.cell? ⟨gb368, 3, none⟩ = some (.slice A0_3 l0_3.length c0_3) := (blk_cell BK368.out 3).trans rfl; have hcz13_4 : w11.cell? ⟨gb368, 4, none⟩ = some (.string a0_4) := (blk_cell BK368.out 4).trans rfl; have hfz13_0 := blk_frozen BK368.out 0; have hfz13_1 := blk_frozen BK368.out 1; have hfz13_2 := blk_frozen BK368.out 2; have hfz13_3 := blk_frozen BK368.out 3; have hfz13_4 := blk_frozen BK368.out 4; have hcz14_0 : w11.cell? ⟨gb369, 0, none⟩ = some (.string a1_0) := (blk_cell BK369.out 0).trans rfl; have hcz14_1 : w11.cell? ⟨gb369, 1, none⟩ = some (.int .i64 a1_1) := (blk_cell BK369.out 1).trans rfl; have hcz14_2 : w11.cell? ⟨gb369, 2, none⟩ = some (.int .i64 a1_2) := (blk_cell BK369.out 2).trans rfl; have hcz14_3 : w11.cell? ⟨gb369, 3, none⟩ = some (.slice A1_3 l1_3.length c1_3) := (blk_cell BK369.out 3).trans rfl; have hcz14_4 : w11.cell? ⟨gb369, 4, none⟩ = some (.string a1_4) := (blk_cell BK369.out 4).trans rfl; have hfz14_0 := blk_frozen BK369.out 0; have hfz14_1 := blk_frozen BK369.out 1; have hfz14_2 := blk_frozen BK369.out 2; have hfz14_3 := blk_frozen BK369.out 3; have hfz14_4 := blk_frozen BK369.out 4))
  go_ret
  exact ⟨by first | rfl | (simp [errW_none, errW_some] <;> rfl) | (simp [*, errW_none, errW_some] <;> rfl) | (simp [bt, *]; done) | (simp_all [bt]; done), by repeat (first | (with_reducible first | exact HB.out | apply below_alloc | apply pw_below_drewN | apply below_drew1 | refine below_set ?_ GE368.out | refine below_set ?_ GE369.out) | exact HB.out)⟩

end Go.Proofs.Ytopkmchkfcjjmaa.X
end

/-! ## TreeSame -/
section
namespace Go.Proofs.Ytopkmchkfcjjmaa.X
open Go.RowKit Go.Proofs.YtopkmchkfcjjmaaW.PrintWords Go.Proofs.YtopkmchkfcjjmaaW.PrintLast Go.Proofs.YtopkmchkfcjjmaaW.PrintMore
attribute [local go_sem] max2_int min2_int max_two min_two max_three min_three max_four min_four   -- for this text's walks alone
set_option linter.unusedVariables false
set_option linter.unusedSimpArgs false

attribute [local go_sem] str_gtr fld_fault0 fld_fault1
/-! ### tree_Same: function 28 -/
def alikeE (x y : S31) : Option Bool := tree_alike.f x.f0 x.f1 x.f2 x.f3 x.f4 y.f0 y.f1 y.f2 y.f3 y.f4

end Go.Proofs.Ytopkmchkfcjjmaa.X
end

/-! ## TreeDiff -/
section
namespace Go.Proofs.Ytopkmchkfcjjmaa.X
open Go.RowKit Go.Proofs.YtopkmchkfcjjmaaW.PrintWords Go.Proofs.YtopkmchkfcjjmaaW.PrintLast Go.Proofs.YtopkmchkfcjjmaaW.PrintMore
attribute [local go_sem] max2_int min2_int max_two min_two max_three min_three max_four min_four   -- for this text's walks alone
set_option linter.unusedVariables false
set_option linter.unusedSimpArgs false

attribute [local go_sem] str_gtr fld_fault0 fld_fault1
/-! ### tree_Diff: function 25 -/
/-- What is added, gone, changed, of what is left of both. -/
def tree_Diff.l0 : Nat → List (S31) → List (S31) → List ByteArray → List ByteArray → List ByteArray → Option (List ByteArray × List ByteArray × List ByteArray)
 | 0, _, _, _, _, _ => none
 | k + 1, a, b, x, y, z => if x.length < 8796093022208 ∧ y.length < 8796093022208 ∧ z.length < 8796093022208 then
   (if a.length = 0 then (if b.length = 0 then some (x, y, z) else tree_Diff.l0 k a (b.drop 1) (x ++ [(rd_T31 b 0).f0]) y z)
   else if b.length = 0 then tree_Diff.l0 k (a.drop 1) b x (y ++ [(rd_T31 a 0).f0]) z
   else (path_Compare.f k (rd_T31 a 0).f0 (rd_T31 b 0).f0).bind fun q =>
    if 0 < q then tree_Diff.l0 k a (b.drop 1) (x ++ [(rd_T31 b 0).f0]) y z
    else if q < 0 then tree_Diff.l0 k (a.drop 1) b x (y ++ [(rd_T31 a 0).f0]) z
    else (alikeE (rd_T31 a 0) (rd_T31 b 0)).bind fun t => tree_Diff.l0 k (a.drop 1) (b.drop 1) x y (if t = true then z else z ++ [(rd_T31 a 0).f0])) else none
def tree_Diff.f (k : Nat) (l0 : List (S31)) (l1 : List (S31)) : Option (List ByteArray × List ByteArray × List ByteArray) :=
 if l0.length < 1152921504606846976 ∧ l1.length < 1152921504606846976 then ((tree_Check.f k l0).bind fun e => (tree_Check.f k l1).bind fun g => if e.1 = 0 ∧ g.1 = 0 then tree_Diff.l0 k l0 l1 [] [] [] else some ([], [], [])) else none
theorem tree_Diff.mono_l0 : ∀ k a b x y z, LeO (tree_Diff.l0 k a b x y z) (tree_Diff.l0 (k + 1) a b x y z)
 | 0, _, _, _, _, _ => LeO.none _
 | k + 1, a, b, x, y, z => by
  unfold tree_Diff.l0
  exact LeO.ite (LeO.ite (LeO.ite (LeO.refl _) (tree_Diff.mono_l0 k _ _ _ _ _)) (LeO.ite (tree_Diff.mono_l0 k _ _ _ _ _) (LeO.bind (path_Compare.mono _ _ _) fun q => LeO.ite (tree_Diff.mono_l0 k _ _ _ _ _) (LeO.ite (tree_Diff.mono_l0 k _ _ _ _ _) (LeO.bind (LeO.refl _) fun t => tree_Diff.mono_l0 k _ _ _ _ _))))) (LeO.refl _)
theorem tree_Diff.mono : ∀ l0 l1 k, LeO (tree_Diff.f k l0 l1) (tree_Diff.f (k + 1) l0 l1) := by
 intro l0 l1 k
 unfold tree_Diff.f
 exact LeO.ite (LeO.bind (tree_Check.mono _ _) fun _ => LeO.bind (tree_Check.mono _ _) fun _ => LeO.ite (tree_Diff.mono_l0 _ _ _ _ _ _) (LeO.refl _)) (LeO.refl _)
/-- One entry less. -/
theorem tail_of {w : World} {A : Option Addr} {a : List (S31)} {n c : Nat} (h : Kd.C k31 w A n a) (hn : 0 < n) (hc : n ≤ c) :
  (∀ W : World, (Instr.slice 22 (.slice A n c) (some (.int .i64 1)) none none).run Try.prog W = .ok (.slice (if c = 1 then A else A.map (·.add (1 * 5))) (n - 1) (c - 1)) W) ∧ Kd.C k31 w (if c = 1 then A else A.map (·.add (1 * 5))) (n - 1) (a.drop 1) := by
 have hl := Kd.C_len h
 subst hl
 obtain ⟨i0, hi0, _, hsz, _⟩ := info_parts info31
 refine ⟨cut_from (P := Try.prog) 22 31 .i64 Try.underlying22 hi0 5 hsz A a.length c 1 (by omega) (by omega), ?_⟩
 have h2 := Kd.C_drop (m := 1) (c := c) h (by omega) hc
 rw [List.length_drop] at h2
 exact h2
def lenOf : Value → Nat | .slice _ n _ => n | _ => 0
set_option maxHeartbeats 8000000 in
set_option maxRecDepth 100000 in
theorem tree_Diff.calls (k : Nat) (A0 : Option Addr) (c0 : Nat) (l0 : List (S31)) (A1 : Option Addr) (c1 : Nat) (l1 : List (S31)) (r1 : List ByteArray) (r2 : List ByteArray) (r3 : List ByteArray) (w : World) (hr0 : Kd.C k31 w A0 l0.length l0) (hc0 : l0.length ≤ c0) (hr1 : Kd.C k31 w A1 l1.length l1) (hc1 : l1.length ≤ c1) (h : tree_Diff.f k l0 l1 = some (r1, r2, r3)) :
  Calls Try.prog 25 #[.slice A0 l0.length c0, .slice A1 l1.length c1] w fun e w' => ∃ v0_ v1_ v2_ : Value, e = .returned (.tuple #[v0_, v1_, v2_]) ∧ Kd.R Kd.string 9 w' w.heap.size (fun k_ => some k_ ≠ (v1_ : Value).ownBlock ∧ some k_ ≠ (v2_ : Value).ownBlock) v0_ r1 ∧ Kd.R Kd.string 9 w' w.heap.size (fun k_ => some k_ ≠ (v0_ : Value).ownBlock ∧ some k_ ≠ (v2_ : Value).ownBlock) v1_ r2 ∧ Kd.R Kd.string 9 w' w.heap.size (fun k_ => some k_ ≠ (v0_ : Value).ownBlock ∧ some k_ ≠ (v1_ : Value).ownBlock) v2_ r3 ∧ Below w.heap.size w w' := by
 unfold tree_Diff.f at h
 by_cases c00 : l0.length < 1152921504606846976 ∧ l1.length < 1152921504606846976
 ·rw [if_pos c00] at h
  obtain ⟨⟨e1, e2⟩, he, h1⟩ := Option.bind_eq_some_iff.mp h
  clear h
  obtain ⟨⟨g1, g2⟩, hg, h⟩ := Option.bind_eq_some_iff.mp h1
  clear h1
  have HLEN := Aside0.mk c00
  have HE := Aside0.mk he
  have HG := Aside0.mk hg
  have HR0 := Aside0.mk hr0
  have HR1 := Aside0.mk hr1
  clear c00 he hg hr0 hr1
  by_cases c3 : e1 = 0 ∧ g1 = 0
  ·rw [if_pos c3] at h
   have HL := Aside0.mk h
   clear h
   obtain ⟨rfl, rfl⟩ := c3
   go_enter Try.func25, Try.ntmps25
   go_wp2_with (first
    | (go_at_call_of 11 (Value.slice A0 l0.length c0); refine (tree_Check.calls k A0 c0 l0 0 e2 _ HR0.out hc0 HE.out).mono ?_; rintro e w2 ⟨rfl, hb⟩; have HB2 := Aside0.mk hb; clear hb)
    | (go_at_call_of 11 (Value.slice A1 l1.length c1); refine (tree_Check.calls k A1 c1 l1 0 g2 _ (Kd.C_below HR1.out HB2.out) hc1 HG.out).mono ?_; rintro e w3 ⟨rfl, hb⟩; have HB3 := Aside0.mk (below_step HB2.out hb); clear hb))
   have HT3 := Aside0.mk (Three.nil w3 w.heap.size)
   go_loopw [0, 1, 4, 5, 6] (fun v0 v1 v4 v5 v6 wr => ∃ (kk na nb ca cb : Nat) (A B : Option Addr) (a b : List (S31)) (x y z : List ByteArray), v0 = .slice A na ca ∧ v1 = .slice B nb cb ∧ na ≤ ca ∧ nb ≤ cb ∧ na ≤ l0.length ∧ nb ≤ l1.length ∧ Aside0 (Kd.C k31 w A na a) ∧ Aside0 (Kd.C k31 w B nb b) ∧ Aside0 (tree_Diff.l0 kk a b x y z = some (r1, r2, r3)) ∧ Aside0 (Three wr w.heap.size v4 v5 v6 x y z) ∧ Aside0 (Below w.heap.size w wr)) (fun v0 v1 _ _ _ _ => lenOf v0 + lenOf v1)
   case atStart => exact ⟨k, l0.length, l1.length, c0, c1, A0, A1, l0, l1, [], [], [], rfl, rfl, hc0, hc1, Nat.le_refl _, Nat.le_refl _, HR0, HR1, HL, HT3, HB3⟩
   case round =>
    clear HT3 HL
    obtain ⟨kk, na, nb, ca, cb, A, B, a, b, x, y, z, rfl, rfl, hca, hcb, hna, hnb, HA, HB, HI, HT, HW⟩ := hrel
    have hlen0 : na < 1152921504606846976 := by have := HLEN.out; omega
    have hlen1 : nb < 1152921504606846976 := by have := HLEN.out; omega
    cases kk with
    | zero => cases HI.out
    | succ kk =>
     have h2 := HI.out
     unfold tree_Diff.l0 at h2
     by_cases c2 : x.length < 8796093022208 ∧ y.length < 8796093022208 ∧ z.length < 8796093022208
     ·rw [if_pos c2] at h2
      have LM := Aside0.mk c2
      clear HI c2
      have hla := Kd.C_len HA.out
      have hlb := Kd.C_len HB.out
      rw [hla, hlb] at h2
      clear hla hlb
      by_cases ca0 : na = 0
      ·rw [if_pos ca0] at h2
       by_cases cb0 : nb = 0
       ·rw [if_pos cb0] at h2
        obtain ⟨rfl, rfl, rfl⟩ : x = r1 ∧ y = r2 ∧ z = r3 := by simpa using h2
        clear h2
        subst ca0 cb0
        go_wp2
        refine bodyPost_ret (v := .tuple #[u4, u5, u6]) (by simp [results, Try.results25, go_sem]) rfl ⟨u4, u5, u6, rfl, HT.out.tell.1, HT.out.tell.2.1, HT.out.tell.2.2, HW.out⟩
       ·rw [if_neg cb0] at h2
        have H2 := Aside0.mk h2
        clear h2
        have hpb : 0 < nb := Nat.pos_of_ne_zero cb0
        subst ca0
        have HTW := HT
        have HWW := HW
        obtain ⟨adB, AB_, cB_, e, hy0, hy1, hy2, hy3, hy4, hl, hi⟩ := at_T31 (Kd.C_below HB.out HW.out) 0 (by omega) (by omega)
        cases e
        simp only [show (0 : Int).toNat = 0 from rfl, Nat.zero_mul, Addr.add_zero'] at hy0 hy1 hy2 hy3 hy4
        have HLB := Aside0.mk hl
        have HIB := Aside0.mk hi
        clear hl hi
        have hcutB := (tail_of HB.out hpb hcb).1
        have HCB := Aside0.mk (tail_of HB.out hpb hcb).2
        clear cb0
        go_wp2_with ((with_reducible refine gate_builtin (b := .append) (xs := #[.tmp 54, .tmp 59]) rfl ?_); at_builtin; refine Kd.R_append Kd.string (w0 := w) w.heap.size rfl (.tmp 54) (.tmp 59) 44 9 (.string ⟨#[]⟩) 16 rfl Try.underlying44 info9 rfl (by decide) (by omega) u4 x (rd_T31 b 0).f0 [.string (rd_T31 b 0).f0] (fun _ => True) (fun _ => False) rfl rfl ?aP (fun _ hk => hk.elim) ?aF ?aO ?aB ?aS ?aL ?_; (case aP => exact rfl); (case aF => exact (fun _ _ => trivial)); (case aO => exact HTW.out.1); (case aB => exact HWW.out); (case aS => exact (below_size HWW.out)); (case aL => have := LM.out.1; omega); intro va wa ho hb hg hat; have HT3 := Aside0.mk (Three.app4 HTW.out ho hg hat); have HW3 := Aside0.mk hb; clear ho hg hat hb)
        go_roundw
        case rel => exact ⟨kk, 0, nb - 1, ca, cb - 1, A, (if cb = 1 then some adB else (some adB : Option Addr).map (·.add (1 * 5))), a, b.drop 1, _, _, _, rfl, rfl, by omega, by omega, by omega, by omega, HA, HCB, H2, HT3, HW3⟩
        case measure => simp [lenOf]; omega
      ·rw [if_neg ca0] at h2
       by_cases cb0 : nb = 0
       ·rw [if_pos cb0] at h2
        have H2 := Aside0.mk h2
        clear h2
        have hpa : 0 < na := Nat.pos_of_ne_zero ca0
        have da : ((na : Int) == 0) = false := beq_eq_false_iff_ne.mpr (by omega)
        have da1 : (na == 0) = false := beq_eq_false_iff_ne.mpr (by omega)
        subst cb0
        have HTW := HT
        have HWW := HW
        obtain ⟨adA, AA_, cA_, e, hx0, hx1, hx2, hx3, hx4, hl, hi⟩ := at_T31 (Kd.C_below HA.out HW.out) 0 (by omega) (by omega)
        cases e
        simp only [show (0 : Int).toNat = 0 from rfl, Nat.zero_mul, Addr.add_zero'] at hx0 hx1 hx2 hx3 hx4
        have HLA := Aside0.mk hl
        have HIA := Aside0.mk hi
        clear hl hi
        have hcutA := (tail_of HA.out hpa hca).1
        have HCA := Aside0.mk (tail_of HA.out hpa hca).2
        clear ca0
        go_wp2_with ((with_reducible refine gate_builtin (b := .append) (xs := #[.tmp 64, .tmp 69]) rfl ?_); at_builtin; refine Kd.R_append Kd.string (w0 := w) w.heap.size rfl (.tmp 64) (.tmp 69) 44 9 (.string ⟨#[]⟩) 16 rfl Try.underlying44 info9 rfl (by decide) (by omega) u5 y (rd_T31 a 0).f0 [.string (rd_T31 a 0).f0] (fun _ => True) (fun _ => False) rfl rfl ?aP (fun _ hk => hk.elim) ?aF ?aO ?aB ?aS ?aL ?_; (case aP => exact rfl); (case aF => exact (fun _ _ => trivial)); (case aO => exact HTW.out.2.1); (case aB => exact HWW.out); (case aS => exact (below_size HWW.out)); (case aL => have := LM.out.2.1; omega); intro va wa ho hb hg hat; have HT3 := Aside0.mk (Three.app5 HTW.out ho hg hat); have HW3 := Aside0.mk hb; clear ho hg hat hb)
        go_roundw
        case rel => exact ⟨kk, na - 1, 0, ca - 1, cb, (if ca = 1 then some adA else (some adA : Option Addr).map (·.add (1 * 5))), B, a.drop 1, b, _, _, _, rfl, rfl, by omega, by omega, by omega, by omega, HCA, HB, H2, HT3, HW3⟩
        case measure => simp [lenOf]; omega
       ·rw [if_neg cb0] at h2
        have hpa : 0 < na := Nat.pos_of_ne_zero ca0
        have hpb : 0 < nb := Nat.pos_of_ne_zero cb0
        have da : ((na : Int) == 0) = false := beq_eq_false_iff_ne.mpr (by omega)
        have da1 : (na == 0) = false := beq_eq_false_iff_ne.mpr (by omega)
        have db : ((nb : Int) == 0) = false := beq_eq_false_iff_ne.mpr (by omega)
        have db1 : (nb == 0) = false := beq_eq_false_iff_ne.mpr (by omega)
        clear ca0 cb0
        obtain ⟨q, hq, h3⟩ := Option.bind_eq_some_iff.mp h2
        clear h2
        have HQ := Aside0.mk hq
        clear hq
        obtain ⟨adA, AA_, cA_, e, hx0, hx1, hx2, hx3, hx4, hl, hi⟩ := at_T31 (Kd.C_below HA.out HW.out) 0 (by omega) (by omega)
        cases e
        simp only [show (0 : Int).toNat = 0 from rfl, Nat.zero_mul, Addr.add_zero'] at hx0 hx1 hx2 hx3 hx4
        have HLA := Aside0.mk hl
        have HIA := Aside0.mk hi
        clear hl hi
        obtain ⟨adB, AB_, cB_, e, hy0, hy1, hy2, hy3, hy4, hl, hi⟩ := at_T31 (Kd.C_below HB.out HW.out) 0 (by omega) (by omega)
        cases e
        simp only [show (0 : Int).toNat = 0 from rfl, Nat.zero_mul, Addr.add_zero'] at hy0 hy1 hy2 hy3 hy4
        have HLB := Aside0.mk hl
        have HIB := Aside0.mk hi
        clear hl hi
        have hcutA := (tail_of HA.out hpa hca).1
        have HCA := Aside0.mk (tail_of HA.out hpa hca).2
        have hcutB := (tail_of HB.out hpb hcb).1
        have HCB := Aside0.mk (tail_of HB.out hpb hcb).2
        have Khx0 := Aside0.mk hx0
        have Khx1 := Aside0.mk hx1
        have Khx2 := Aside0.mk hx2
        have Khx3 := Aside0.mk hx3
        have Khx4 := Aside0.mk hx4
        have Khy0 := Aside0.mk hy0
        have Khy1 := Aside0.mk hy1
        have Khy2 := Aside0.mk hy2
        have Khy3 := Aside0.mk hy3
        have Khy4 := Aside0.mk hy4
        by_cases cq : 0 < q
        ·rw [if_pos cq] at h3
         have H2 := Aside0.mk h3
         have dq : decide (q ≤ 0) = false := decide_eq_false (by omega)
         have dq2 : decide (0 ≤ q) = true := decide_eq_true (by omega)
         clear h3
         go_upto_region 7 with (fail)
         refine wp_region_still_tail 8 (by kernel_rfl) (by kernel_rfl) ?_
         change wpStill _ _ (World.drew wr) (fun a' => wpList _ _ _ _ a' (World.drew wr)) _ _
         have HBw : Aside0 (Below wr.heap.size wr (World.drew wr)) := ⟨below_drew (Below.refl _ _)⟩
         generalize World.drew wr = wq at HBw ⊢
         replace hx0 := (HBw.out.cell (World.block_lt_of_cell? wr _ hx0)).trans hx0
         replace hx1 := (HBw.out.cell (World.block_lt_of_cell? wr _ hx1)).trans hx1
         replace hx2 := (HBw.out.cell (World.block_lt_of_cell? wr _ hx2)).trans hx2
         replace hx3 := (HBw.out.cell (World.block_lt_of_cell? wr _ hx3)).trans hx3
         replace hx4 := (HBw.out.cell (World.block_lt_of_cell? wr _ hx4)).trans hx4
         replace hy0 := (HBw.out.cell (World.block_lt_of_cell? wr _ hy0)).trans hy0
         replace hy1 := (HBw.out.cell (World.block_lt_of_cell? wr _ hy1)).trans hy1
         replace hy2 := (HBw.out.cell (World.block_lt_of_cell? wr _ hy2)).trans hy2
         replace hy3 := (HBw.out.cell (World.block_lt_of_cell? wr _ hy3)).trans hy3
         replace hy4 := (HBw.out.cell (World.block_lt_of_cell? wr _ hy4)).trans hy4
         simp only [List.take_succ_cons, List.take_zero, List.drop_succ_cons, List.drop_zero]
         repeat still_step
         try refine wpStill_nil ?_
         clear hx1 hx2 hx3 hx4 hy1 hy2 hy3 hy4
         go_wp2_with (first | (go_at_call 17; refine (path_Compare.calls kk (rd_T31 a 0).f0 (rd_T31 b 0).f0 q _ HQ.out).mono ?_; rintro e w2 ⟨rfl, hb⟩; have HB2 := Aside0.mk (below_step HBw.out hb); have HTW := Aside0.mk (HT.out.below HB2.out); have HWW := Aside0.mk (below_step HW.out HB2.out); clear hb; have hx0b := (HB2.out.cell (World.block_lt_of_cell? wr _ Khx0.out)).trans Khx0.out; have hx1b := (HB2.out.cell (World.block_lt_of_cell? wr _ Khx1.out)).trans Khx1.out; have hx2b := (HB2.out.cell (World.block_lt_of_cell? wr _ Khx2.out)).trans Khx2.out; have hx3b := (HB2.out.cell (World.block_lt_of_cell? wr _ Khx3.out)).trans Khx3.out; have hx4b := (HB2.out.cell (World.block_lt_of_cell? wr _ Khx4.out)).trans Khx4.out; have hy0b := (HB2.out.cell (World.block_lt_of_cell? wr _ Khy0.out)).trans Khy0.out; have hy1b := (HB2.out.cell (World.block_lt_of_cell? wr _ Khy1.out)).trans Khy1.out; have hy2b := (HB2.out.cell (World.block_lt_of_cell? wr _ Khy2.out)).trans Khy2.out; have hy3b := (HB2.out.cell (World.block_lt_of_cell? wr _ Khy3.out)).trans Khy3.out; have hy4b := (HB2.out.cell (World.block_lt_of_cell? wr _ Khy4.out)).trans Khy4.out) | ((with_reducible refine gate_builtin (b := .append) (xs := #[.tmp 54, .tmp 59]) rfl ?_); at_builtin; refine Kd.R_append Kd.string (w0 := w) w.heap.size rfl (.tmp 54) (.tmp 59) 44 9 (.string ⟨#[]⟩) 16 rfl Try.underlying44 info9 rfl (by decide) (by omega) u4 x (rd_T31 b 0).f0 [.string (rd_T31 b 0).f0] (fun _ => True) (fun _ => False) rfl rfl ?aP (fun _ hk => hk.elim) ?aF ?aO ?aB ?aS ?aL ?_; (case aP => exact rfl); (case aF => exact (fun _ _ => trivial)); (case aO => exact HTW.out.1); (case aB => exact HWW.out); (case aS => exact (below_size HWW.out)); (case aL => have := LM.out.1; omega); intro va wa ho hb hg hat; have HT3 := Aside0.mk (Three.app4 HTW.out ho hg hat); have HW3 := Aside0.mk hb; clear ho hg hat hb))
         go_roundw
         case rel => exact ⟨kk, na, nb - 1, ca, cb - 1, _, (if cb = 1 then some adB else (some adB : Option Addr).map (·.add (1 * 5))), a, b.drop 1, _, _, _, rfl, rfl, by omega, by omega, by omega, by omega, HA, HCB, H2, HT3, HW3⟩
         case measure => simp [lenOf]; omega
        ·rw [if_neg cq] at h3
         by_cases cq2 : q < 0
         ·rw [if_pos cq2] at h3
          have H2 := Aside0.mk h3
          have dq : decide (q ≤ 0) = true := decide_eq_true (by omega)
          have dq2 : decide (0 ≤ q) = false := decide_eq_false (by omega)
          clear h3
          go_upto_region 7 with (fail)
          refine wp_region_still_tail 8 (by kernel_rfl) (by kernel_rfl) ?_
          change wpStill _ _ (World.drew wr) (fun a' => wpList _ _ _ _ a' (World.drew wr)) _ _
          have HBw : Aside0 (Below wr.heap.size wr (World.drew wr)) := ⟨below_drew (Below.refl _ _)⟩
          generalize World.drew wr = wq at HBw ⊢
          replace hx0 := (HBw.out.cell (World.block_lt_of_cell? wr _ hx0)).trans hx0
          replace hx1 := (HBw.out.cell (World.block_lt_of_cell? wr _ hx1)).trans hx1
          replace hx2 := (HBw.out.cell (World.block_lt_of_cell? wr _ hx2)).trans hx2
          replace hx3 := (HBw.out.cell (World.block_lt_of_cell? wr _ hx3)).trans hx3
          replace hx4 := (HBw.out.cell (World.block_lt_of_cell? wr _ hx4)).trans hx4
          replace hy0 := (HBw.out.cell (World.block_lt_of_cell? wr _ hy0)).trans hy0
          replace hy1 := (HBw.out.cell (World.block_lt_of_cell? wr _ hy1)).trans hy1
          replace hy2 := (HBw.out.cell (World.block_lt_of_cell? wr _ hy2)).trans hy2
          replace hy3 := (HBw.out.cell (World.block_lt_of_cell? wr _ hy3)).trans hy3
          replace hy4 := (HBw.out.cell (World.block_lt_of_cell? wr _ hy4)).trans hy4
          simp only [List.take_succ_cons, List.take_zero, List.drop_succ_cons, List.drop_zero]
          repeat still_step
          try refine wpStill_nil ?_
          clear hx1 hx2 hx3 hx4 hy1 hy2 hy3 hy4
          go_wp2_with (first | (go_at_call 17; refine (path_Compare.calls kk (rd_T31 a 0).f0 (rd_T31 b 0).f0 q _ HQ.out).mono ?_; rintro e w2 ⟨rfl, hb⟩; have HB2 := Aside0.mk (below_step HBw.out hb); have HTW := Aside0.mk (HT.out.below HB2.out); have HWW := Aside0.mk (below_step HW.out HB2.out); clear hb; have hx0b := (HB2.out.cell (World.block_lt_of_cell? wr _ Khx0.out)).trans Khx0.out; have hx1b := (HB2.out.cell (World.block_lt_of_cell? wr _ Khx1.out)).trans Khx1.out; have hx2b := (HB2.out.cell (World.block_lt_of_cell? wr _ Khx2.out)).trans Khx2.out; have hx3b := (HB2.out.cell (World.block_lt_of_cell? wr _ Khx3.out)).trans Khx3.out; have hx4b := (HB2.out.cell (World.block_lt_of_cell? wr _ Khx4.out)).trans Khx4.out; have hy0b := (HB2.out.cell (World.block_lt_of_cell? wr _ Khy0.out)).trans Khy0.out; have hy1b := (HB2.out.cell (World.block_lt_of_cell? wr _ Khy1.out)).trans Khy1.out; have hy2b := (HB2.out.cell (World.block_lt_of_cell? wr _ Khy2.out)).trans Khy2.out; have hy3b := (HB2.out.cell (World.block_lt_of_cell? wr _ Khy3.out)).trans Khy3.out; have hy4b := (HB2.out.cell (World.block_lt_of_cell? wr _ Khy4.out)).trans Khy4.out) | ((with_reducible refine gate_builtin (b := .append) (xs := #[.tmp 64, .tmp 69]) rfl ?_); at_builtin; refine Kd.R_append Kd.string (w0 := w) w.heap.size rfl (.tmp 64) (.tmp 69) 44 9 (.string ⟨#[]⟩) 16 rfl Try.underlying44 info9 rfl (by decide) (by omega) u5 y (rd_T31 a 0).f0 [.string (rd_T31 a 0).f0] (fun _ => True) (fun _ => False) rfl rfl ?aP (fun _ hk => hk.elim) ?aF ?aO ?aB ?aS ?aL ?_; (case aP => exact rfl); (case aF => exact (fun _ _ => trivial)); (case aO => exact HTW.out.2.1); (case aB => exact HWW.out); (case aS => exact (below_size HWW.out)); (case aL => have := LM.out.2.1; omega); intro va wa ho hb hg hat; have HT3 := Aside0.mk (Three.app5 HTW.out ho hg hat); have HW3 := Aside0.mk hb; clear ho hg hat hb))
          go_roundw
          case rel => exact ⟨kk, na - 1, nb, ca - 1, cb, (if ca = 1 then some adA else (some adA : Option Addr).map (·.add (1 * 5))), _, a.drop 1, b, _, _, _, rfl, rfl, by omega, by omega, by omega, by omega, HCA, HB, H2, HT3, HW3⟩
          case measure => simp [lenOf]; omega
         ·rw [if_neg cq2] at h3
          obtain rfl : q = 0 := by omega
          obtain ⟨t, ht, h4⟩ := Option.bind_eq_some_iff.mp h3
          clear h3 cq cq2
          have HAL := Aside0.mk (show tree_alike.f (rd_T31 a 0).f0 (rd_T31 a 0).f1 (rd_T31 a 0).f2 (rd_T31 a 0).f3 (rd_T31 a 0).f4 (rd_T31 b 0).f0 (rd_T31 b 0).f1 (rd_T31 b 0).f2 (rd_T31 b 0).f3 (rd_T31 b 0).f4 = some t from ht)
          have H2 := Aside0.mk h4
          clear ht h4
          go_upto_region 7 with (fail)
          refine wp_region_still_tail 8 (by kernel_rfl) (by kernel_rfl) ?_
          change wpStill _ _ (World.drew wr) (fun a' => wpList _ _ _ _ a' (World.drew wr)) _ _
          have HBw : Aside0 (Below wr.heap.size wr (World.drew wr)) := ⟨below_drew (Below.refl _ _)⟩
          generalize World.drew wr = wq at HBw ⊢
          replace hx0 := (HBw.out.cell (World.block_lt_of_cell? wr _ hx0)).trans hx0
          replace hx1 := (HBw.out.cell (World.block_lt_of_cell? wr _ hx1)).trans hx1
          replace hx2 := (HBw.out.cell (World.block_lt_of_cell? wr _ hx2)).trans hx2
          replace hx3 := (HBw.out.cell (World.block_lt_of_cell? wr _ hx3)).trans hx3
          replace hx4 := (HBw.out.cell (World.block_lt_of_cell? wr _ hx4)).trans hx4
          replace hy0 := (HBw.out.cell (World.block_lt_of_cell? wr _ hy0)).trans hy0
          replace hy1 := (HBw.out.cell (World.block_lt_of_cell? wr _ hy1)).trans hy1
          replace hy2 := (HBw.out.cell (World.block_lt_of_cell? wr _ hy2)).trans hy2
          replace hy3 := (HBw.out.cell (World.block_lt_of_cell? wr _ hy3)).trans hy3
          replace hy4 := (HBw.out.cell (World.block_lt_of_cell? wr _ hy4)).trans hy4
          simp only [List.take_succ_cons, List.take_zero, List.drop_succ_cons, List.drop_zero]
          repeat still_step
          try refine wpStill_nil ?_
          clear hx1 hx2 hx3 hx4 hy1 hy2 hy3 hy4
          go_upto_region 16 with ((go_at_call 17; refine (path_Compare.calls kk (rd_T31 a 0).f0 (rd_T31 b 0).f0 0 _ HQ.out).mono ?_; rintro e w2 ⟨rfl, hb⟩; have HB2 := Aside0.mk (below_step HBw.out hb); have HTW := Aside0.mk (HT.out.below HB2.out); have HWW := Aside0.mk (below_step HW.out HB2.out); clear hb; have hx0b := (HB2.out.cell (World.block_lt_of_cell? wr _ Khx0.out)).trans Khx0.out; have hx1b := (HB2.out.cell (World.block_lt_of_cell? wr _ Khx1.out)).trans Khx1.out; have hx2b := (HB2.out.cell (World.block_lt_of_cell? wr _ Khx2.out)).trans Khx2.out; have hx3b := (HB2.out.cell (World.block_lt_of_cell? wr _ Khx3.out)).trans Khx3.out; have hx4b := (HB2.out.cell (World.block_lt_of_cell? wr _ Khx4.out)).trans Khx4.out; have hy0b := (HB2.out.cell (World.block_lt_of_cell? wr _ Khy0.out)).trans Khy0.out; have hy1b := (HB2.out.cell (World.block_lt_of_cell? wr _ Khy1.out)).trans Khy1.out; have hy2b := (HB2.out.cell (World.block_lt_of_cell? wr _ Khy2.out)).trans Khy2.out; have hy3b := (HB2.out.cell (World.block_lt_of_cell? wr _ Khy3.out)).trans Khy3.out; have hy4b := (HB2.out.cell (World.block_lt_of_cell? wr _ Khy4.out)).trans Khy4.out))
          cases t with
          | true =>
           refine wp_region_still_tail 6 (by kernel_rfl) (by kernel_rfl) ?_
           change wpStill _ _ (World.drew w2) (fun a' => wpList _ _ _ _ a' (World.drew w2)) _ _
           have HBu : Aside0 (Below w2.heap.size w2 (World.drew w2)) := ⟨below_drew (Below.refl _ _)⟩
           generalize World.drew w2 = wu at HBu ⊢
           replace hx0b := (HBu.out.cell (World.block_lt_of_cell? w2 _ hx0b)).trans hx0b
           replace hx1b := (HBu.out.cell (World.block_lt_of_cell? w2 _ hx1b)).trans hx1b
           replace hx2b := (HBu.out.cell (World.block_lt_of_cell? w2 _ hx2b)).trans hx2b
           replace hx3b := (HBu.out.cell (World.block_lt_of_cell? w2 _ hx3b)).trans hx3b
           replace hx4b := (HBu.out.cell (World.block_lt_of_cell? w2 _ hx4b)).trans hx4b
           replace hy0b := (HBu.out.cell (World.block_lt_of_cell? w2 _ hy0b)).trans hy0b
           replace hy1b := (HBu.out.cell (World.block_lt_of_cell? w2 _ hy1b)).trans hy1b
           replace hy2b := (HBu.out.cell (World.block_lt_of_cell? w2 _ hy2b)).trans hy2b
           replace hy3b := (HBu.out.cell (World.block_lt_of_cell? w2 _ hy3b)).trans hy3b
           replace hy4b := (HBu.out.cell (World.block_lt_of_cell? w2 _ hy4b)).trans hy4b
           simp only [List.take_succ_cons, List.take_zero, List.drop_succ_cons, List.drop_zero]
           repeat still_step
           try refine wpStill_nil ?_
           have HBv := Aside0.mk (below_step HB2.out HBu.out)
           go_wp2_with (go_at_call 53; refine (tree_alike.calls (rd_T31 a 0).f0 (rd_T31 a 0).f1 (rd_T31 a 0).f2 _ _ (rd_T31 a 0).f3 (rd_T31 a 0).f4 (rd_T31 b 0).f0 (rd_T31 b 0).f1 (rd_T31 b 0).f2 _ _ (rd_T31 b 0).f3 (rd_T31 b 0).f4 true _ (Kd.C_below HIA.out HBv.out) HLA.out (Kd.C_below HIB.out HBv.out) HLB.out HAL.out).mono ?_; rintro e w4 ⟨rfl, hb⟩; have HB4 := Aside0.mk (below_step HBv.out hb); clear hb; have HT3 := Aside0.mk (HT.out.below HB4.out); have HW3 := Aside0.mk (below_step HW.out HB4.out))
           go_roundw
           case rel => exact ⟨kk, na - 1, nb - 1, ca - 1, cb - 1, (if ca = 1 then some adA else (some adA : Option Addr).map (·.add (1 * 5))), (if cb = 1 then some adB else (some adB : Option Addr).map (·.add (1 * 5))), a.drop 1, b.drop 1, _, _, z, rfl, rfl, by omega, by omega, by omega, by omega, HCA, HCB, H2, HT3, HW3⟩
           case measure => simp [lenOf]; omega
          | false =>
           refine wp_region_still_tail 6 (by kernel_rfl) (by kernel_rfl) ?_
           change wpStill _ _ (World.drew w2) (fun a' => wpList _ _ _ _ a' (World.drew w2)) _ _
           have HBu : Aside0 (Below w2.heap.size w2 (World.drew w2)) := ⟨below_drew (Below.refl _ _)⟩
           generalize World.drew w2 = wu at HBu ⊢
           replace hx0b := (HBu.out.cell (World.block_lt_of_cell? w2 _ hx0b)).trans hx0b
           replace hx1b := (HBu.out.cell (World.block_lt_of_cell? w2 _ hx1b)).trans hx1b
           replace hx2b := (HBu.out.cell (World.block_lt_of_cell? w2 _ hx2b)).trans hx2b
           replace hx3b := (HBu.out.cell (World.block_lt_of_cell? w2 _ hx3b)).trans hx3b
           replace hx4b := (HBu.out.cell (World.block_lt_of_cell? w2 _ hx4b)).trans hx4b
           replace hy0b := (HBu.out.cell (World.block_lt_of_cell? w2 _ hy0b)).trans hy0b
           replace hy1b := (HBu.out.cell (World.block_lt_of_cell? w2 _ hy1b)).trans hy1b
           replace hy2b := (HBu.out.cell (World.block_lt_of_cell? w2 _ hy2b)).trans hy2b
           replace hy3b := (HBu.out.cell (World.block_lt_of_cell? w2 _ hy3b)).trans hy3b
           replace hy4b := (HBu.out.cell (World.block_lt_of_cell? w2 _ hy4b)).trans hy4b
           simp only [List.take_succ_cons, List.take_zero, List.drop_succ_cons, List.drop_zero]
           repeat still_step
           try refine wpStill_nil ?_
           have HBv := Aside0.mk (below_step HB2.out HBu.out)
           go_wp2_with (first | (go_at_call 53; refine (tree_alike.calls (rd_T31 a 0).f0 (rd_T31 a 0).f1 (rd_T31 a 0).f2 _ _ (rd_T31 a 0).f3 (rd_T31 a 0).f4 (rd_T31 b 0).f0 (rd_T31 b 0).f1 (rd_T31 b 0).f2 _ _ (rd_T31 b 0).f3 (rd_T31 b 0).f4 false _ (Kd.C_below HIA.out HBv.out) HLA.out (Kd.C_below HIB.out HBv.out) HLB.out HAL.out).mono ?_; rintro e w4 ⟨rfl, hb⟩; have HB4 := Aside0.mk (below_step HBv.out hb); clear hb; have HTV := Aside0.mk (HT.out.below HB4.out); have HWV := Aside0.mk (below_step HW.out HB4.out); have hw0 := (HB4.out.cell (World.block_lt_of_cell? wr _ Khx0.out)).trans Khx0.out) | ((with_reducible refine gate_builtin (b := .append) (xs := #[.tmp 80, .tmp 85]) rfl ?_); at_builtin; refine Kd.R_append Kd.string (w0 := w) w.heap.size rfl (.tmp 80) (.tmp 85) 44 9 (.string ⟨#[]⟩) 16 rfl Try.underlying44 info9 rfl (by decide) (by omega) u6 z (rd_T31 a 0).f0 [.string (rd_T31 a 0).f0] (fun _ => True) (fun _ => False) rfl rfl ?aP (fun _ hk => hk.elim) ?aF ?aO ?aB ?aS ?aL ?_; (case aP => exact rfl); (case aF => exact (fun _ _ => trivial)); (case aO => exact HTV.out.2.2.1); (case aB => exact HWV.out); (case aS => exact (below_size HWV.out)); (case aL => have := LM.out.2.2; omega); intro va wa ho hb hg hat; have HT3 := Aside0.mk (Three.app6 HTV.out ho hg hat); have HW3 := Aside0.mk hb; clear ho hg hat hb))
           go_roundw
           case rel => exact ⟨kk, na - 1, nb - 1, ca - 1, cb - 1, (if ca = 1 then some adA else (some adA : Option Addr).map (·.add (1 * 5))), (if cb = 1 then some adB else (some adB : Option Addr).map (·.add (1 * 5))), a.drop 1, b.drop 1, _, _, _, rfl, rfl, by omega, by omega, by omega, by omega, HCA, HCB, H2, HT3, HW3⟩
           case measure => simp [lenOf]; omega
     ·rw [if_neg c2] at h2
      cases h2
  ·rw [if_neg c3] at h
   simp only [Option.some.injEq, Prod.mk.injEq] at h
   obtain ⟨rfl, rfl, rfl⟩ := h
   by_cases c4 : e1 = 0
   ·have c5 : g1 ≠ 0 := fun e => c3 ⟨c4, e⟩
    have d4 : (e1 != 0) = false := bne_eq_false_iff_eq.mpr c4
    have d5 : (g1 != 0) = true := bne_iff_ne.mpr c5
    clear c3 c4 c5
    go_enter Try.func25, Try.ntmps25
    go_wp2_with (first
    | (go_at_call_of 11 (Value.slice A0 l0.length c0); refine (tree_Check.calls k A0 c0 l0 e1 e2 _ HR0.out hc0 HE.out).mono ?_; rintro e w2 ⟨rfl, hb⟩; have HB2 := Aside0.mk hb; clear hb)
    | (go_at_call_of 11 (Value.slice A1 l1.length c1); refine (tree_Check.calls k A1 c1 l1 g1 g2 _ (Kd.C_below HR1.out HB2.out) hc1 HG.out).mono ?_; rintro e w3 ⟨rfl, hb⟩; have HB3 := Aside0.mk (below_step HB2.out hb); clear hb))
    refine bodyPost_ret (v := .tuple #[.slice none 0 0, .slice none 0 0, .slice none 0 0]) (by simp [results, Try.results25, go_sem]) rfl ⟨_, _, _, rfl, (Three.nil w3 w.heap.size).tell.1, (Three.nil w3 w.heap.size).tell.2.1, (Three.nil w3 w.heap.size).tell.2.2, HB3.out⟩
   ·have d4 : (e1 != 0) = true := bne_iff_ne.mpr c4
    clear c3 c4
    go_enter Try.func25, Try.ntmps25
    go_wp2_with (first
    | (go_at_call_of 11 (Value.slice A0 l0.length c0); refine (tree_Check.calls k A0 c0 l0 e1 e2 _ HR0.out hc0 HE.out).mono ?_; rintro e w2 ⟨rfl, hb⟩; have HB2 := Aside0.mk hb; clear hb)
    | (go_at_call_of 11 (Value.slice A1 l1.length c1); refine (tree_Check.calls k A1 c1 l1 g1 g2 _ (Kd.C_below HR1.out HB2.out) hc1 HG.out).mono ?_; rintro e w3 ⟨rfl, hb⟩; have HB3 := Aside0.mk (below_step HB2.out hb); clear hb))
    refine bodyPost_ret (v := .tuple #[.slice none 0 0, .slice none 0 0, .slice none 0 0]) (by simp [results, Try.results25, go_sem]) rfl ⟨_, _, _, rfl, (Three.nil w3 w.heap.size).tell.1, (Three.nil w3 w.heap.size).tell.2.1, (Three.nil w3 w.heap.size).tell.2.2, HB3.out⟩
 ·rw [if_neg c00] at h
  cases h

end Go.Proofs.Ytopkmchkfcjjmaa.X
end

/-! ## TreeSize -/
section
namespace Go.Proofs.Ytopkmchkfcjjmaa.X
open Go.RowKit Go.Proofs.YtopkmchkfcjjmaaW.PrintWords Go.Proofs.YtopkmchkfcjjmaaW.PrintLast Go.Proofs.YtopkmchkfcjjmaaW.PrintMore
attribute [local go_sem] max2_int min2_int max_two min_two max_three min_three max_four min_four   -- for this text's walks alone
set_option linter.unusedVariables false
set_option linter.unusedSimpArgs false

attribute [local go_sem] str_gtr fld_fault0 fld_fault1
/-! ### tree_Size: function 22 -/
def tree_Size.l0 : Nat → Int → List (S31) → Int → Int → Option (Int)
 | 0, _, _, _, _ => none
 | k + 1, x3, x6, x7, x8 => if x8 < x7 then (if 0 ≤ x8 then (if x8 < (x6.length : Int) then (tree_Size.l0 k (wrap64 (x3 + (((rd_T31 x6 x8).f3).length : Int))) x6 x7 (wrap64 (x8 + 1))) else (none)) else (none)) else (some x3)
def tree_Size.f (k : Nat) (l0 : List (S31)) : Option (Int) := tree_Size.l0 k 0 l0 (l0.length : Int) 0
theorem tree_Size.mono_l : ∀ k, (∀ y0 y1 y2 y3, LeO (tree_Size.l0 k y0 y1 y2 y3) (tree_Size.l0 (k + 1) y0 y1 y2 y3))
 | 0 => fun _ _ _ _ r h => by simp [tree_Size.l0] at h
 | k + 1 => by
  have ih0 := tree_Size.mono_l k
  ·intro y0 y1 y2 y3
   unfold tree_Size.l0
   repeat' first
   | (with_reducible exact ih0 _ _ _ _)
   | (with_reducible exact LeO.refl _)
   | (with_reducible exact LeO.none _)
   | (with_reducible refine LeO.ite ?_ ?_)
   | (with_reducible refine LeO.bind ?_ (fun _ => ?_))
   | exact ih0 _ _ _ _
   | exact LeO.none _
   | refine LeO.ite ?_ ?_
   | refine LeO.bind ?_ (fun _ => ?_)
theorem tree_Size.mono : ∀ a0 k, LeO (tree_Size.f k a0) (tree_Size.f (k + 1) a0) := by
 intro a0 k
 have ih0 := tree_Size.mono_l k
 unfold tree_Size.f
 repeat' first
   | (with_reducible exact ih0 _ _ _ _)
   | (with_reducible exact LeO.refl _)
   | (with_reducible exact LeO.none _)
   | (with_reducible refine LeO.ite ?_ ?_)
   | (with_reducible refine LeO.bind ?_ (fun _ => ?_))
   | exact ih0 _ _ _ _
   | exact LeO.none _
   | refine LeO.ite ?_ ?_
   | refine LeO.bind ?_ (fun _ => ?_)
set_option maxHeartbeats 8000000 in
set_option maxRecDepth 100000 in
theorem tree_Size.calls (k : Nat) (A0 : Option Addr) (c0 : Nat) (l0 : List (S31)) (r : Int) (w : World) (hr0 : Kd.C k31 w A0 l0.length l0) (hc0 : l0.length ≤ c0) (h : tree_Size.f k l0 = some r) :
  Calls Try.prog 22 #[.slice A0 l0.length c0] w fun e w' => e = .returned (.int .i64 r) ∧ Below w.heap.size w w' := by
 have hu31 := Try.underlying31
 have HR0 := Aside0.mk hr0
 have HC0 := Aside0.mk hc0
 clear hr0 hc0
 have HB := Aside0.mk (Below.refl w.heap.size w)
 have H : (tree_Size.l0 k 0 l0 (l0.length : Int) 0) = some r := h
 clear h
 have H' := Aside0.mk H
 clear H
 go_enter Try.func22, Try.ntmps22
 go_wp2
 go_loopg [3, 8] k (fun kq v3 v8 w' => ∃ (x3_1 : Int) (x8_1 : Int), v3 = .int .i64 x3_1 ∧ v8 = .int .i64 x8_1 ∧ Aside0 (tree_Size.l0 kq x3_1 l0 (l0.length : Int) x8_1 = some r) ∧ Aside0 (kq ≤ k) ∧ Aside0 (Below w.heap.size w w'))
 case atStart => exact ⟨(0), (0), (by first | rfl | (simp; done) | (simp [*]; done)), (by first | rfl | (simp; done) | (simp [*]; done)), H', ⟨Nat.le_refl _⟩, ⟨by repeat (first | (with_reducible first | exact HB.out | apply below_alloc | apply pw_below_drewN | apply below_drew1) | exact HB.out)⟩⟩
 case round =>
  clear H'
  obtain ⟨x3_1, x8_1, rfl, rfl, HA, HK1, HB⟩ := hrel
  cases gk with
  | zero => exact absurd HA.out (by simp [tree_Size.l0])
  | succ k1 =>
   have H := HA.out
   clear HA
   simp only [tree_Size.l0] at H
   by_cases c2 : x8_1 < (l0.length : Int)
   ·rw [if_pos c2] at H
    have c2b0 : decide (x8_1 < (l0.length : Int)) = true := decide_eq_true c2
    clear c2
    by_cases c3 : 0 ≤ x8_1
    ·rw [if_pos c3] at H
     have c3b0 : decide (0 ≤ x8_1) = true := decide_eq_true c3
     clear c3
     by_cases c4 : x8_1 < (l0.length : Int)
     ·rw [if_pos c4] at H
      have c4b0 : decide (x8_1 < (l0.length : Int)) = true := decide_eq_true c4
      clear c4
      have H' := Aside0.mk H
      clear H
      have p335 : 0 ≤ (x8_1 : Int) := of_decide_eq_true (by first | (with_reducible assumption) | assumption)
      have q335 : x8_1 < (l0.length : Int) := of_decide_eq_true (by first | (with_reducible assumption) | assumption)
      obtain ⟨ad335, A335_3, c335_3, e335, hx335_0, hx335_1, hx335_2, hx335_3, hx335_4, hl335_3, hi335_3⟩ := at_T31 HR0.out x8_1 p335 q335
      cases e335
      replace hx335_0 := (HB.out.cell (World.block_lt_of_cell? w _ hx335_0)).trans hx335_0
      replace hx335_1 := (HB.out.cell (World.block_lt_of_cell? w _ hx335_1)).trans hx335_1
      replace hx335_2 := (HB.out.cell (World.block_lt_of_cell? w _ hx335_2)).trans hx335_2
      replace hx335_3 := (HB.out.cell (World.block_lt_of_cell? w _ hx335_3)).trans hx335_3
      replace hx335_4 := (HB.out.cell (World.block_lt_of_cell? w _ hx335_4)).trans hx335_4
      have HR335_3 := Aside0.mk hi335_3
      have HC335_3 := Aside0.mk hl335_3
      clear hi335_3 hl335_3
      replace p335 := eq_true p335
      replace q335 := eq_true q335
      go_wp2_with (first | ((with_reducible refine gate_dst (N := 5) rfl ?_); refine box_event ?hg (N := 5) ?hd (cs := #[.string (⟨#[]⟩ : ByteArray), .int .i64 0, .int .i64 0, .slice none 0 0, .string (⟨#[]⟩ : ByteArray)]) (t := 31) ?hr ?_; (case hd => rfl); (case hg => rfl); (case hr => first | (go_simp; done) | (go_simp; rfl)); intro gb336 hg w5 hbox hb; have n0_ := Aside0.mk (below_step (by repeat (first | (with_reducible first | exact HB.out | apply below_alloc | apply pw_below_drewN | apply below_drew1) | exact HB.out)) hb); have n1_ := Aside0.mk (hbox); have n2_ := Aside0.mk ((by rw [hg]; exact (below_size (by repeat (first | (with_reducible first | exact HB.out | apply below_alloc | apply pw_below_drewN | apply below_drew1) | exact HB.out))) : w.heap.size ≤ gb336)); have n3_ := Aside0.mk ((by rw [hg]; exact (below_size (by repeat (first | (with_reducible first | exact HB.out | apply below_alloc | apply pw_below_drewN | apply below_drew1) | exact HB.out))) : w.heap.size ≤ gb336)); clear HB; have HB := n0_; have BK336 := n1_; have GW336 := n2_; have GE336 := n3_; clear n0_ n1_ n2_ n3_; clear hb hbox hg; have hcz6_0 : w5.cell? ⟨gb336, 0, none⟩ = some (.string (⟨#[]⟩ : ByteArray)) := (blk_cell BK336.out 0).trans rfl; have hcz6_1 : w5.cell? ⟨gb336, 1, none⟩ = some (.int .i64 0) := (blk_cell BK336.out 1).trans rfl; have hcz6_2 : w5.cell? ⟨gb336, 2, none⟩ = some (.int .i64 0) := (blk_cell BK336.out 2).trans rfl; have hcz6_3 : w5.cell? ⟨gb336, 3, none⟩ = some (.slice none 0 0) := (blk_cell BK336.out 3).trans rfl; have hcz6_4 : w5.cell? ⟨gb336, 4, none⟩ = some (.string (⟨#[]⟩ : ByteArray)) := (blk_cell BK336.out 4).trans rfl; have hfz6_0 := blk_frozen BK336.out 0; have hfz6_1 := blk_frozen BK336.out 1; have hfz6_2 := blk_frozen BK336.out 2; have hfz6_3 := blk_frozen BK336.out 3; have hfz6_4 := blk_frozen BK336.out 4))
      go_roundg k1
      case measure => have := HK1.out; omega
      case rel => exact ⟨(wrap64 (x3_1 + (((rd_T31 l0 x8_1).f3).length : Int))), (wrap64 (x8_1 + 1)), (by first | rfl | (simp; done) | (simp [*]; done)), (by first | rfl | (simp; done) | (simp [*]; done)), H', ⟨by have := HK1.out; omega⟩, ⟨by repeat (first | (with_reducible first | exact HB.out | apply below_alloc | apply pw_below_drewN | apply below_drew1 | refine below_set ?_ GE336.out) | exact HB.out)⟩⟩
     ·rw [if_neg c4] at H
      exact absurd H (by simp)
    ·rw [if_neg c3] at H
     exact absurd H (by simp)
   ·rw [if_neg c2] at H
    have c2b0 : decide (x8_1 < (l0.length : Int)) = false := decide_eq_false c2
    clear c2
    obtain rfl := Option.some.inj H
    go_wp2
    go_ret
    exact ⟨by first | rfl | (simp [errW_none, errW_some] <;> rfl) | (simp [*, errW_none, errW_some] <;> rfl) | (simp [bt, *]; done) | (simp_all [bt]; done), by repeat (first | (with_reducible first | exact HB.out | apply below_alloc | apply pw_below_drewN | apply below_drew1) | exact HB.out)⟩

end Go.Proofs.Ytopkmchkfcjjmaa.X
end

/-! ## Satchellaw08Fails -/
section
namespace Go.Proofs.Ytopkmchkfcjjmaa.X
open Go.RowKit Go.Proofs.YtopkmchkfcjjmaaW.PrintWords Go.Proofs.YtopkmchkfcjjmaaW.PrintLast Go.Proofs.YtopkmchkfcjjmaaW.PrintMore
attribute [local go_sem] max2_int min2_int max_two min_two max_three min_three max_four min_four   -- for this text's walks alone
set_option linter.unusedVariables false
set_option linter.unusedSimpArgs false

attribute [local go_sem] str_gtr fld_fault0 fld_fault1
/-! ### satchellaw08_fails: function 36 -/
def satchellaw08_fails.f (k : Nat) (l0 : List (S31)) (a1 : Int) (a2 : Int) : Option (Bool) := (tree_Check.f k l0).bind fun bt136 => (if bt136.1 = a1 then (some (bt136.2 == a2)) else (some false))
theorem satchellaw08_fails.mono : ∀ a0 a1 a2 k, LeO (satchellaw08_fails.f k a0 a1 a2) (satchellaw08_fails.f (k + 1) a0 a1 a2) := by
 intro a0 a1 a2 k
 unfold satchellaw08_fails.f
 repeat' first
   | (with_reducible exact tree_Check.mono _ _)
   | (with_reducible exact LeO.refl _)
   | (with_reducible exact LeO.none _)
   | (with_reducible refine LeO.ite ?_ ?_)
   | (with_reducible refine LeO.bind ?_ (fun _ => ?_))
   | exact tree_Check.mono _ _
   | exact LeO.none _
   | refine LeO.ite ?_ ?_
   | refine LeO.bind ?_ (fun _ => ?_)
set_option maxHeartbeats 8000000 in
set_option maxRecDepth 100000 in
theorem satchellaw08_fails.calls (k : Nat) (A0 : Option Addr) (c0 : Nat) (l0 : List (S31)) (a1 : Int) (a2 : Int) (r : Bool) (w : World) (hr0 : Kd.C k31 w A0 l0.length l0) (hc0 : l0.length ≤ c0) (h : satchellaw08_fails.f k l0 a1 a2 = some r) :
  Calls Try.prog 36 #[.slice A0 l0.length c0, .int .i64 a1, .int .i64 a2] w fun e w' => e = .returned (.bool r) ∧ Below w.heap.size w w' := by
 have HR0 := Aside0.mk hr0
 have HC0 := Aside0.mk hc0
 clear hr0 hc0
 have HB := Aside0.mk (Below.refl w.heap.size w)
 have H : ((tree_Check.f k l0).bind fun bt136 => (if bt136.1 = a1 then (some (bt136.2 == a2)) else (some false))) = some r := h
 clear h
 replace H := Option.bind_eq_some_iff.mp H
 obtain ⟨⟨t136, t137⟩, A40, H⟩ := H
 replace H : (if t136 = a1 then (some (t137 == a2)) else (some false)) = some r := H
 have A4 := Aside0.mk A40
 clear A40
 by_cases c5 : t136 = a1
 ·rw [if_pos c5] at H
  have c5b0 : (t136 == a1) = true := beq_iff_eq.mpr c5
  have c5b1 : (t136 != a1) = false := bne_eq_false_iff_eq.mpr c5
  clear c5
  obtain rfl := Option.some.inj H
  go_enter Try.func36, Try.ntmps36
  go_wp2_with (first | ((with_reducible refine gate_callee (f := 11) rfl ?_); refine goesL_ (some 11) rfl rfl Try.func11 (by kernel_rfl) rfl #[.slice A0 l0.length c0] rfl (by (try simp only [List.map_toArray, List.map_cons, List.map_nil]); first | done | rfl | (simp only [List.length_drop, List.length_take]; rfl)) ?_; (with_reducible refine (tree_Check.calls k _ _ l0 t136 t137 _ ?side1 ?side2 A4.out).mono ?_); (case side1 => repeat (first | exact HR0.out | (with_reducible refine Kd.C_alloc ?_ _) | (with_reducible refine Kd.C_drewN ?_ _) | (with_reducible refine Kd.C_drew ?_))); (case side2 => exact HC0.out); rintro e w6 ⟨rfl, hb⟩; refine ⟨_, rfl, ?_⟩; have n0_ := Aside0.mk (below_step (by repeat (first | (with_reducible first | exact HB.out | apply below_alloc | apply pw_below_drewN | apply below_drew1) | exact HB.out)) hb); clear HB; have HB := n0_; clear n0_; (try clear hb); (try clear hb2); (try clear hk); (try clear hi)))
  go_ret
  exact ⟨by first | rfl | (simp [errW_none, errW_some] <;> rfl) | (simp [*, errW_none, errW_some] <;> rfl) | (simp [bt, *]; done) | (simp_all [bt]; done), by repeat (first | (with_reducible first | exact HB.out | apply below_alloc | apply pw_below_drewN | apply below_drew1) | exact HB.out)⟩
 ·rw [if_neg c5] at H
  have c5b0 : (t136 == a1) = false := beq_eq_false_iff_ne.mpr c5
  have c5b1 : (t136 != a1) = true := bne_iff_ne.mpr c5
  obtain rfl := Option.some.inj H
  go_enter Try.func36, Try.ntmps36
  go_wp2_with (first | ((with_reducible refine gate_callee (f := 11) rfl ?_); refine goesL_ (some 11) rfl rfl Try.func11 (by kernel_rfl) rfl #[.slice A0 l0.length c0] rfl (by (try simp only [List.map_toArray, List.map_cons, List.map_nil]); first | done | rfl | (simp only [List.length_drop, List.length_take]; rfl)) ?_; (with_reducible refine (tree_Check.calls k _ _ l0 t136 t137 _ ?side1 ?side2 A4.out).mono ?_); (case side1 => repeat (first | exact HR0.out | (with_reducible refine Kd.C_alloc ?_ _) | (with_reducible refine Kd.C_drewN ?_ _) | (with_reducible refine Kd.C_drew ?_))); (case side2 => exact HC0.out); rintro e w7 ⟨rfl, hb⟩; refine ⟨_, rfl, ?_⟩; have n0_ := Aside0.mk (below_step (by repeat (first | (with_reducible first | exact HB.out | apply below_alloc | apply pw_below_drewN | apply below_drew1) | exact HB.out)) hb); clear HB; have HB := n0_; clear n0_; (try clear hb); (try clear hb2); (try clear hk); (try clear hi)))
  go_ret
  exact ⟨by first | rfl | (simp [errW_none, errW_some] <;> rfl) | (simp [*, errW_none, errW_some] <;> rfl) | (simp [bt, *]; done) | (simp_all [bt]; done), by repeat (first | (with_reducible first | exact HB.out | apply below_alloc | apply pw_below_drewN | apply below_drew1) | exact HB.out)⟩

end Go.Proofs.Ytopkmchkfcjjmaa.X
end

/-! ## SatchelkitSameBytes -/
section
namespace Go.Proofs.Ytopkmchkfcjjmaa.X
open Go.RowKit Go.Proofs.YtopkmchkfcjjmaaW.PrintWords Go.Proofs.YtopkmchkfcjjmaaW.PrintLast Go.Proofs.YtopkmchkfcjjmaaW.PrintMore
attribute [local go_sem] max2_int min2_int max_two min_two max_three min_three max_four min_four   -- for this text's walks alone
set_option linter.unusedVariables false
set_option linter.unusedSimpArgs false

attribute [local go_sem] str_gtr fld_fault0 fld_fault1
/-! ### satchelkit_SameBytes: function 44 -/
def satchelkit_SameBytes.f (l0 : List Int) (l1 : List Int) : Option (Bool) := some ((strOfNums l0).toList == (strOfNums l1).toList)
set_option maxHeartbeats 8000000 in
set_option maxRecDepth 100000 in
theorem satchelkit_SameBytes.calls (A0 : Option Addr) (c0 : Nat) (l0 : List Int) (A1 : Option Addr) (c1 : Nat) (l1 : List Int) (r : Bool) (w : World) (hr0 : Kd.C (Kd.int .u8) w A0 l0.length l0) (hc0 : l0.length ≤ c0) (hr1 : Kd.C (Kd.int .u8) w A1 l1.length l1) (hc1 : l1.length ≤ c1) (h : satchelkit_SameBytes.f l0 l1 = some r) :
  Calls Try.prog 44 #[.slice A0 l0.length c0, .slice A1 l1.length c1] w fun e w' => e = .returned (.bool r) ∧ Drawn0 w w' := by
 have HR0 := Aside0.mk hr0
 have HC0 := Aside0.mk hc0
 clear hr0 hc0
 have HR1 := Aside0.mk hr1
 have HC1 := Aside0.mk hc1
 clear hr1 hc1
 have H : (some ((strOfNums l0).toList == (strOfNums l1).toList)) = some r := h
 clear h
 obtain rfl := Option.some.inj H
 have hcv3 := Kd.C_string (P := Try.prog) (A := A0) (c := c0) Try.underlying29 Try.underlying5 Try.underlying9 HR0.out
 have hcv4 := Kd.C_string (P := Try.prog) (A := A1) (c := c1) Try.underlying29 Try.underlying5 Try.underlying9 HR1.out
 go_enter Try.func44, Try.ntmps44
 go_wp2
 go_ret
 exact ⟨by first | rfl | (simp; done) | (simp [*]; done), by repeat (first | exact Drawn0.refl _ | apply Drawn0.step)⟩

end Go.Proofs.Ytopkmchkfcjjmaa.X
end

/-! ## SatchelkitSameTree -/
section
namespace Go.Proofs.Ytopkmchkfcjjmaa.X
open Go.RowKit Go.Proofs.YtopkmchkfcjjmaaW.PrintWords Go.Proofs.YtopkmchkfcjjmaaW.PrintLast Go.Proofs.YtopkmchkfcjjmaaW.PrintMore
attribute [local go_sem] max2_int min2_int max_two min_two max_three min_three max_four min_four   -- for this text's walks alone
set_option linter.unusedVariables false
set_option linter.unusedSimpArgs false

attribute [local go_sem] str_gtr fld_fault0 fld_fault1
/-! ### satchelkit_SameTree: function 16 -/
def sameBytes (a b : List Int) : Bool := (strOfNums a).toList == (strOfNums b).toList
def sameEntry (x y : S31) : Bool := x.f0.toList == y.f0.toList && (x.f1 == y.f1 && (x.f2 == y.f2 && (sameBytes x.f3 y.f3 && x.f4.toList == y.f4.toList)))
def sameFrom (l0 l1 : List (S31)) (i : Nat) : Bool := ((l0.drop i).zip (l1.drop i)).all fun p => sameEntry p.1 p.2
def satchelkit_SameTree.f (l0 : List (S31)) (l1 : List (S31)) : Option (Bool) := some (decide (l0.length = l1.length) && sameFrom l0 l1 0)
theorem sameFrom_step (l0 l1 : List (S31)) (i : Nat) (h0 : i < l0.length) (h1 : i < l1.length) : sameFrom l0 l1 i = (sameEntry (rd_T31 l0 (i : Int)) (rd_T31 l1 (i : Int)) && sameFrom l0 l1 (i + 1)) := by
 unfold sameFrom
 rw [List.drop_eq_getElem_cons h0, List.drop_eq_getElem_cons h1, List.zip_cons_cons, List.all_cons]
 simp [rd_T31, List.getD_eq_getElem?_getD, h0, h1]
theorem sameFrom_end (l0 l1 : List (S31)) (i : Nat) (h0 : l0.length ≤ i) : sameFrom l0 l1 i = true := by
 unfold sameFrom
 rw [List.drop_of_length_le h0]
 rfl
set_option maxHeartbeats 4000000 in
set_option maxRecDepth 100000 in
theorem satchelkit_SameTree.calls (A0 : Option Addr) (c0 : Nat) (l0 : List (S31)) (A1 : Option Addr) (c1 : Nat) (l1 : List (S31)) (r : Bool) (w : World) (hr0 : Kd.C k31 w A0 l0.length l0) (hc0 : l0.length ≤ c0) (hr1 : Kd.C k31 w A1 l1.length l1) (hc1 : l1.length ≤ c1) (h : satchelkit_SameTree.f l0 l1 = some r) :
  Calls Try.prog 16 #[.slice A0 l0.length c0, .slice A1 l1.length c1] w fun e w' => e = .returned (.bool r) ∧ Drawn0 w w' := by
 have h := Option.some.inj h
 have HR0 := Aside0.mk hr0
 have HR1 := Aside0.mk hr1
 have hm0 := hr0.2.1
 clear hr0 hr1
 by_cases d0 : l0.length = l1.length
 ·rw [decide_eq_true d0, Bool.true_and] at h
  have HR := Aside0.mk h
  have D0 := Aside0.mk d0
  have e0 : (l0.length == l1.length) = true := by simpa using d0
  have e1 : (l0.length != l1.length) = false := by simpa using d0
  have e2 : ((l0.length : Int) != (l1.length : Int)) = false := by simp [d0]
  clear h d0
  go_enter Try.func16, Try.ntmps16
  go_wp2
  go_loopw [5] (fun v5 wr => ∃ i : Nat, v5 = .int .i64 (i : Int) ∧ i ≤ l0.length ∧ Aside0 (sameFrom l0 l1 i = r) ∧ Aside0 (Drawn0 w wr)) (fun v5 _ => l0.length - (intOf v5).toNat)
  case atStart => exact ⟨0, rfl, by omega, HR, ⟨Drawn0.refl _⟩⟩
  case round =>
   obtain ⟨i, rfl, hi, HS, HD⟩ := hrel
   clear HR
   by_cases c2 : i < l0.length
   ·have d1 : decide (i < l0.length) = true := decide_eq_true c2
    have c3 : i < l1.length := by rw [← D0.out]; exact c2
    have p : (0 : Int) ≤ (i : Int) := by omega
    have q0 : (i : Int) < (l0.length : Int) := by omega
    have q1 : (i : Int) < (l1.length : Int) := by omega
    have HS1 := Aside0.mk ((sameFrom_step l0 l1 i c2 c3).symm.trans HS.out)
    obtain ⟨ad, A3, c3', e, hx0, hx1, hx2, hx3, hx4, hl3, hi3⟩ := at_T31 (Kd.C_below HR0.out HD.out.below) _ p q0
    cases e
    obtain ⟨bd, B3, b3', e, hy0, hy1, hy2, hy3, hy4, ml3, mi3⟩ := at_T31 (Kd.C_below HR1.out HD.out.below) _ p q1
    cases e
    rw [Int.toNat_natCast] at hx0 hx1 hx2 hx3 hx4 hy0 hy1 hy2 hy3 hy4
    have HI := Aside0.mk hi3
    have MI := Aside0.mk mi3
    clear hi3 mi3 HS c2 c3
    generalize rd_T31 l0 (i : Int) = x at *
    generalize rd_T31 l1 (i : Int) = y at *
    cases g0 : (x.f0.toList == y.f0.toList) with
    | false =>
     have k0 : (x.f0.toList != y.f0.toList) = true := by simpa using g0
     have hr : r = false := by have h_ := HS1.out; unfold sameEntry at h_; simp only [g0, Bool.false_and, Bool.and_false, Bool.true_and] at h_; exact h_.symm
     subst hr
     clear HS1
     go_wp2
     go_quiet (fail)
     go_wp2
     go_ret
     exact ⟨rfl, HD.out.step _⟩
    | true =>
     have k0 : (x.f0.toList != y.f0.toList) = false := by simpa using g0
     cases g1 : (x.f1 == y.f1) with
     | false =>
      have k1 : (x.f1 != y.f1) = true := by simpa using g1
      have hr : r = false := by have h_ := HS1.out; unfold sameEntry at h_; simp only [g0, g1, Bool.false_and, Bool.and_false, Bool.true_and] at h_; exact h_.symm
      subst hr
      clear HS1
      go_wp2
      go_quiet (fail)
      go_wp2
      go_ret
      exact ⟨rfl, HD.out.step _⟩
     | true =>
      have k1 : (x.f1 != y.f1) = false := by simpa using g1
      cases g2 : (x.f2 == y.f2) with
      | false =>
       have k2 : (x.f2 != y.f2) = true := by simpa using g2
       have hr : r = false := by have h_ := HS1.out; unfold sameEntry at h_; simp only [g0, g1, g2, Bool.false_and, Bool.and_false, Bool.true_and] at h_; exact h_.symm
       subst hr
       clear HS1
       go_wp2
       go_quiet (fail)
       go_wp2
       go_ret
       exact ⟨rfl, HD.out.step _⟩
      | true =>
       have k2 : (x.f2 != y.f2) = false := by simpa using g2
       cases g3 : (sameBytes x.f3 y.f3) with
       | false =>
        have HQ := Aside0.mk (show satchelkit_SameBytes.f x.f3 y.f3 = some false from congrArg some g3)
        have hr : r = false := by have h_ := HS1.out; unfold sameEntry at h_; simp only [g0, g1, g2, g3, Bool.false_and, Bool.and_false, Bool.true_and] at h_; exact h_.symm
        subst hr
        clear HS1
        go_wp2
        go_quiet (((go_at_call 44; exact Calls.quiet_of ((satchelkit_SameBytes.calls _ _ _ _ _ _ false _ (Kd.C_drewN HI.out _) hl3 (Kd.C_drewN MI.out _) ml3 HQ.out).mono (fun _ _ h_ => ⟨h_.1, h_.2.out⟩)))))
        go_wp2
        go_ret
        exact ⟨rfl, HD.out.step _⟩
       | true =>
        cases g4 : (x.f4.toList == y.f4.toList) with
        | false =>
         have k4 : (x.f4.toList != y.f4.toList) = true := by simpa using g4
         have HQ := Aside0.mk (show satchelkit_SameBytes.f x.f3 y.f3 = some true from congrArg some g3)
         have hr : r = false := by have h_ := HS1.out; unfold sameEntry at h_; simp only [g0, g1, g2, g3, g4, Bool.false_and, Bool.and_false, Bool.true_and] at h_; exact h_.symm
         subst hr
         clear HS1
         go_wp2
         go_quiet (((go_at_call 44; exact Calls.quiet_of ((satchelkit_SameBytes.calls _ _ _ _ _ _ true _ (Kd.C_drewN HI.out _) hl3 (Kd.C_drewN MI.out _) ml3 HQ.out).mono (fun _ _ h_ => ⟨h_.1, h_.2.out⟩)))))
         go_wp2
         go_ret
         exact ⟨rfl, HD.out.step _⟩
        | true =>
         have k4 : (x.f4.toList != y.f4.toList) = false := by simpa using g4
         have HQ := Aside0.mk (show satchelkit_SameBytes.f x.f3 y.f3 = some true from congrArg some g3)
         have HS2 : Aside0 (sameFrom l0 l1 (i + 1) = r) := ⟨by have h_ := HS1.out; unfold sameEntry at h_; simpa only [g0, g1, g2, g3, g4, Bool.true_and] using h_⟩
         clear HS1
         go_wp2
         go_quiet (((go_at_call 44; exact Calls.quiet_of ((satchelkit_SameBytes.calls _ _ _ _ _ _ true _ (Kd.C_drewN HI.out _) hl3 (Kd.C_drewN MI.out _) ml3 HQ.out).mono (fun _ _ h_ => ⟨h_.1, h_.2.out⟩)))))
         go_wp2
         go_roundw
         case rel => exact ⟨i + 1, by go_num, by omega, HS2, ⟨HD.out.step _⟩⟩
         case measure => simp [intOf]; omega
   ·have d1 : decide (i < l0.length) = false := decide_eq_false c2
    have hr : r = true := by rw [← HS.out]; exact sameFrom_end l0 l1 i (by omega)
    subst hr
    go_wp2
    go_ret
    exact ⟨rfl, HD.out⟩
 ·rw [decide_eq_false d0, Bool.false_and] at h
  subst h
  have e0 : (l0.length == l1.length) = false := by simpa using d0
  have e1 : (l0.length != l1.length) = true := by simpa using d0
  have e2 : ((l0.length : Int) != (l1.length : Int)) = true := by simp; omega
  go_enter Try.func16, Try.ntmps16
  go_wp2
  go_ret
  exact ⟨rfl, Drawn0.refl _⟩

end Go.Proofs.Ytopkmchkfcjjmaa.X
end
