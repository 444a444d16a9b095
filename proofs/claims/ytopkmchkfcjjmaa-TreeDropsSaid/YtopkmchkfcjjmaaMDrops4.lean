/- Functions, one behind the other: a plain Lean function for each, and the proof that the call comes to its answer, whatever the world (conditions: what the arguments read as); and plain laws of them. -/
import Derived.Test.YtopkmchkfcjjmaaMDrops2
import Derived.Test.YtopkmchkfcjjmaaMDrops3
import Derived.Lib.LazyBuf
import Derived.Lib.Overlaps
import Derived.Lib.AppendZeros
import Derived.Lib.JoinLaws
import Derived.Laws.Externs
import Derived.Laws.IdiomCopy
import Derived.Deep.RegionLaw
import Derived.Shelf.Spec.SlicesInsertGrow
/-! ## TreeDrop -/
section
namespace Go.Proofs.Ytopkmchkfcjjmaa.X
open Go.RowKit Go.Proofs.YtopkmchkfcjjmaaW.PrintWords Go.Proofs.YtopkmchkfcjjmaaW.PrintLast Go.Proofs.YtopkmchkfcjjmaaW.PrintMore
attribute [local go_sem] max2_int min2_int max_two min_two max_three min_three max_four min_four   -- for this text's walks alone
set_option linter.unusedVariables false
set_option linter.unusedSimpArgs false

attribute [local go_sem] str_gtr fld_fault0 fld_fault1
/-! ### tree_Drop: function 32 -/
/-- Is an entry dropped with a path? -/
def goneOf (k : Nat) (s : ByteArray) (x : S31) : Option Bool := if x.f0.toList = s.toList then some true else path_Under.f k x.f0 s
theorem goneOf_mono (k : Nat) (s : ByteArray) (x : S31) : LeO (goneOf k s x) (goneOf (k + 1) s x) := by
 unfold goneOf
 exact LeO.ite (LeO.refl _) (path_Under.mono _ _ _)
def isGone (k : Nat) (s : ByteArray) (x : S31) : Bool := (goneOf k s x).getD false
def keptOf (k : Nat) (l : List (S31)) (s : ByteArray) : Option (List (S31)) := if l.all (fun x => (goneOf k s x).isSome) = true then some (l.filter fun x => !isGone k s x) else none
theorem keptOf_mono (k : Nat) (l : List (S31)) (s : ByteArray) : LeO (keptOf k l s) (keptOf (k + 1) l s) := by
 intro r h
 unfold keptOf at h ⊢
 split at h
 ·rename_i h1
  have h2 : ∀ x, x ∈ l → goneOf (k + 1) s x = goneOf k s x := by
   intro x hx
   have h3 := List.all_eq_true.mp h1 x hx
   obtain ⟨b, hb⟩ := Option.isSome_iff_exists.1 h3
   rw [hb]
   exact goneOf_mono k s x _ hb
  have h4 : l.all (fun x => (goneOf (k + 1) s x).isSome) = true := by
   refine List.all_eq_true.mpr fun x hx => ?_
   rw [h2 x hx]
   exact List.all_eq_true.mp h1 x hx
  rw [if_pos h4, ← h]
  congr 1
  refine List.filter_congr fun x hx => ?_
  unfold isGone
  rw [h2 x hx]
 ·cases h
theorem zeroCells_succ (z : Array Value) (m : Nat) (hz : 0 < z.size) : (Builtin.zeroCells z (m + 1)).toList = z.toList ++ (Builtin.zeroCells z m).toList := by
 apply List.ext_getElem?
 intro i
 simp only [Builtin.zeroCells, Array.toList_map, Array.toList_range, List.getElem?_map, List.getElem?_append]
 have hs : (m + 1) * z.size = z.size + m * z.size := by rw [Nat.succ_mul, Nat.add_comm]
 rcases Nat.lt_or_ge i z.size with h1 | h1
 ·rw [if_pos (by simpa using h1), List.getElem?_range (by omega)]
  simp [Nat.mod_eq_of_lt h1, h1]
 ·rw [if_neg (by simpa using h1)]
  rcases Nat.lt_or_ge i (z.size + m * z.size) with h2 | h2
  ·rw [List.getElem?_range (by omega), List.getElem?_range (by simp; omega)]
   simp only [Option.map_some, Array.length_toList, Option.some.injEq]
   rw [Nat.mod_eq_sub_mod h1]
  ·rw [List.getElem?_eq_none (by simp; omega), List.getElem?_eq_none (by simp; omega)]
theorem setCells_append (b : Nat) : ∀ (l1 l2 : List Value) (o : Nat) (w : World), World.setCells w b o (l1 ++ l2) = World.setCells (World.setCells w b o l1) b (o + l1.length) l2
 | [], _, _, _ => rfl
 | v :: r, l2, o, w => by
  rw [List.cons_append, World.setCells, World.setCells, setCells_append b r l2 (o + 1), List.length_cons, show o + 1 + r.length = o + (r.length + 1) by omega]
/-- The cells of element i, all at once. -/
theorem entryN_set {W : World} {base n cap g i : Nat} {ok : Nat → Prop} {xs : List (S31)} (h : Kd.N k31 31 W base ok (.slice (some ⟨g, 0, none⟩) n cap) xs) (hi : i < n) {x : S31} {seg : List Value} (hF : Kd.FK k31 W (fun k => ok k ∧ k ≠ g) x seg) :
  Kd.N k31 31 (W.setCells g (i * 5) seg) base ok (.slice (some ⟨g, 0, none⟩) n cap) (xs.set i x) ∧ W.grownBy (W.setCells g (i * 5) seg) (some g) := by
 obtain ⟨c, hcl, _, hcc, _⟩ := Kd.N_elem h z31 (i : Int) (by omega) (by omega)
 have hl : seg.length = k31.sz := k31.K_len (Kd.FK_now hF)
 have hs : c.take 0 ++ seg ++ c.drop (0 + seg.length) = seg := by
  rw [Nat.zero_add, hl, ← hcl, List.drop_length]
  simp
 have := Kd.N_seg h (i : Int) (by omega) (by omega) (seg := seg) (j := 0) hcl hcc (by omega) (x' := x) (by rw [hs]; exact hF) (fun _ hk => hk)
 exact (by simpa using this : Kd.N k31 31 (W.setCells g (i * k31.sz) seg) base ok (.slice (some ⟨g, 0, none⟩) n cap) (xs.set i x) ∧ W.grownBy (W.setCells g (i * k31.sz) seg) (some g))
/-- The zero entry's cells. -/
def zeroEntry : Array Value := #[.string ⟨#[]⟩, .int .i64 0, .int .i64 0, .slice none 0 0, .string ⟨#[]⟩]
theorem zeroEntry_F (W : World) (ok : Nat → Prop) : Kd.FK k31 W ok z31 zeroEntry.toList := k31_mkF W ok z31 (A3 := none) (c3 := 0) (Nat.le_refl _) (Kd.F_nil _ _ _)
theorem entryN_zero {base n cap g : Nat} {ok : Nat → Prop} : ∀ (m i : Nat) (W : World) (xs : List (S31)), Kd.N k31 31 W base ok (.slice (some ⟨g, 0, none⟩) n cap) xs → i + m = n →
  Kd.N k31 31 (W.setCells g (i * 5) (Builtin.zeroCells zeroEntry m).toList) base ok (.slice (some ⟨g, 0, none⟩) n cap) (xs.take i ++ List.replicate m z31) ∧ W.grownBy (W.setCells g (i * 5) (Builtin.zeroCells zeroEntry m).toList) (some g)
 | 0, i, W, xs, h, he => by
  have hl := (Kd.N_reads' h).1
  have e1 : (Builtin.zeroCells zeroEntry 0).toList = [] := by simp [Builtin.zeroCells]
  rw [e1, show i = xs.length by omega, List.take_length]
  exact ⟨by simpa [World.setCells] using h, World.grownBy.refl _ _⟩
 | m + 1, i, W, xs, h, he => by
  have hl := (Kd.N_reads' h).1
  obtain ⟨h1, g1⟩ := entryN_set h (show i < n by omega) (zeroEntry_F W (fun k => ok k ∧ k ≠ g))
  obtain ⟨h2, g2⟩ := entryN_zero m (i + 1) _ _ h1 (by omega)
  rw [zeroCells_succ zeroEntry m (by decide), setCells_append]
  have e1 : i * 5 + zeroEntry.toList.length = (i + 1) * 5 := by show i * 5 + 5 = _; omega
  rw [e1]
  have e2 : (xs.set i z31).take (i + 1) ++ List.replicate m z31 = xs.take i ++ List.replicate (m + 1) z31 := by
   rw [List.take_add_one, List.take_set_of_le (Nat.le_refl i), List.getElem?_set_self (by omega)]
   simp [List.replicate_succ]
  rw [e2] at h2
  exact ⟨h2, g1.trans g2⟩
theorem entryN_clear (w : World) (ty : TypeId) {base n cap g i : Nat} {ok : Nat → Prop} {xs : List (S31)} (h : Kd.N k31 31 w base ok (.slice (some ⟨g, 0, none⟩) n cap) xs) (hi : i < n) (c : Nat) :
  (Builtin.clear_ #[22] ty #[.slice (some ⟨g, i * 5, none⟩) (n - i) c]).run Try.prog w = .ok (.tuple #[]) (w.setCells g (i * 5) (Builtin.zeroCells zeroEntry (n - i)).toList) := by
 have hv : ∀ w, (zeroValue 31).run Try.prog w = .ok (.agg zeroEntry) w := fun w => rfl
 have hl : (Builtin.zeroCells zeroEntry (n - i)).toList.length = (n - i) * 5 := by simp [Builtin.zeroCells]; rfl
 have hat : ∀ j, j < (n - i) * 5 → (w.cell? ⟨g, i * 5 + j, none⟩).isSome = true ∧ w.frozen? ⟨g, i * 5 + j, none⟩ = false := by
  intro j hj
  obtain ⟨c, hcl, _, hcc, hfr⟩ := Kd.N_elem h z31 ((i + j / 5 : Nat) : Int) (by omega) (by omega)
  have hcl' : c.length = 5 := hcl
  have h1 := hcc (j % 5) _ (List.getElem?_eq_getElem (by omega))
  have h2 := hfr (j % 5)
  have e : ((i + j / 5 : Nat) : Int).toNat * k31.sz + j % 5 = i * 5 + j := by
   show ((i + j / 5 : Nat) : Int).toNat * 5 + j % 5 = i * 5 + j
   rw [Int.toNat_natCast]; omega
  rw [e] at h1 h2
  exact ⟨by rw [h1]; rfl, h2⟩
 have hst := run_storeCells_cells (P := Try.prog) g (i * 5) (Builtin.zeroCells zeroEntry (n - i)).toList 0 w (by intro j hj; rw [hl] at hj; rw [Nat.add_zero]; exact (hat j hj).1) (by intro j hj; rw [hl] at hj; rw [Nat.add_zero]; exact (hat j hj).2) (by
  intro v hv'
  simp only [Builtin.zeroCells, Array.toList_map, List.mem_map] at hv'
  obtain ⟨q, _, rfl⟩ := hv'
  have hq : q % zeroEntry.size < 5 := Nat.mod_lt _ (by decide)
  generalize q % zeroEntry.size = y at hq
  match y, hq with
  | 0, _ => rfl
  | 1, _ => rfl
  | 2, _ => rfl
  | 3, _ => rfl
  | 4, _ => rfl)
 rw [Nat.add_zero] at hst
 obtain ⟨m, hm⟩ : ∃ m, n - i = m + 1 := ⟨n - i - 1, by omega⟩
 rw [hm] at hst ⊢
 simp [Builtin.clear_, run_underlying Try.underlying22, hv, Value.cells, hst]
set_option maxHeartbeats 2000000 in
set_option maxRecDepth 100000 in
theorem tree_Drop1.calls (k : Nat) (x : S31) (v3 : Value) (s : ByteArray) (sb : Nat) (r : Bool) (w : World) (hv : v3.oneCell' = true) (hbx : w.heap[sb]? = some (.cells #[.string s] 9 (0, 0))) (h : goneOf k s x = some r) :
  Calls Try.prog 58 #[.agg #[.string x.f0, .int .i64 x.f1, .int .i64 x.f2, v3, .string x.f4], .pointer (some ⟨sb, 0, none⟩)] w fun e w' => e = .returned (.bool r) ∧ Below w.heap.size w w' := by
 have hc : ∀ o, (w.alloc o).cell? ⟨sb, 0, none⟩ = some (.string s) := fun o => blk_cell (blk_alloc hbx o) 0
 unfold goneOf at h
 by_cases c1 : x.f0.toList = s.toList
 ·rw [if_pos c1] at h
  obtain rfl := Option.some.inj h
  clear h hbx
  have c1b0 : (x.f0.toList == s.toList) = true := beq_iff_eq.mpr c1
  clear c1
  go_enter Try.func58, Try.ntmps58
  go_wp2
  go_ret
  exact ⟨rfl, by repeat (first | (with_reducible first | exact Below.refl _ _ | apply below_alloc | apply pw_below_drewN | apply below_drew1) | exact Below.refl _ _)⟩
 ·rw [if_neg c1] at h
  have H := Aside0.mk h
  clear h hbx
  have c1b0 : (x.f0.toList == s.toList) = false := beq_eq_false_iff_ne.mpr c1
  clear c1
  go_enter Try.func58, Try.ntmps58
  go_wp2_with (go_at_call 37; refine (path_Under.calls k _ _ _ _ H.out).mono ?_; rintro e w1 ⟨rfl, hb⟩; have HB := Aside0.mk hb; clear hb)
  go_ret
  exact ⟨rfl, below_then ((Below.refl _ w).alloc (Nat.le_refl _) _) (by simp) HB.out⟩
set_option maxHeartbeats 4000000 in
set_option maxRecDepth 100000 in
theorem slices_IndexFunc.calls (k : Nat) (A0 : Option Addr) (c0 : Nat) (l0 : List (S31)) (s : ByteArray) (sb : Nat) (w : World) (hr0 : Kd.C k31 w A0 l0.length l0) (hc0 : l0.length ≤ c0) (hlen : l0.length < 1152921504606846976) (hbx : w.heap[sb]? = some (.cells #[.string s] 9 (0, 0))) (hall : ∀ x ∈ l0, goneOf k s x = some (isGone k s x)) :
  Calls Try.prog 75 #[.slice A0 l0.length c0, .func (.func 58) #[] #[.pointer (some ⟨sb, 0, none⟩)]] w fun e w' => ((∃ i : Nat, i < l0.length ∧ isGone k s (rd_T31 l0 (i : Int)) = true ∧ (∀ j : Nat, j < i → isGone k s (rd_T31 l0 (j : Int)) = false) ∧ e = .returned (.int .i64 (i : Int))) ∨ ((∀ j : Nat, j < l0.length → isGone k s (rd_T31 l0 (j : Int)) = false) ∧ e = .returned (.int .i64 (-1)))) ∧ Below w.heap.size w w' := by
 have HR0 := Aside0.mk hr0
 have HX := Aside0.mk hbx
 have HALL := Aside0.mk hall
 clear hr0 hbx hall
 go_enter Try.func75, Try.ntmps75
 go_wp2
 go_loopw [8] (fun v8 wr => ∃ (i : Nat), v8 = .int .i64 (i : Int) ∧ i ≤ l0.length ∧ Aside0 (∀ j : Nat, j < i → isGone k s (rd_T31 l0 (j : Int)) = false) ∧ Aside0 (Below w.heap.size w wr)) (fun v8 _ => l0.length - (intOf v8).toNat)
 case atStart => exact ⟨0, rfl, by omega, ⟨fun j hj => by omega⟩, ⟨Below.refl _ _⟩⟩
 case round =>
  obtain ⟨i, rfl, hil, HJ, HB⟩ := hrel
  by_cases c1 : i < l0.length
  ·have d1 : decide (i < l0.length) = true := decide_eq_true c1
   have p : (0 : Int) ≤ (i : Int) := by omega
   have q : (i : Int) < (l0.length : Int) := by omega
   obtain ⟨ad, A3, c3, e, hx0, hx1, hx2, hx3, hx4, hl3, hi3⟩ := at_T31 (Kd.C_below HR0.out HB.out) _ p q
   cases e
   rw [Int.toNat_natCast] at hx0 hx1 hx2 hx3 hx4
   clear hl3 hi3
   have HG := Aside0.mk (HALL.out (rd_T31 l0 (i : Int)) (by
    unfold rd_T31
    rw [Int.toNat_natCast, List.getD_eq_getElem?_getD, List.getElem?_eq_getElem c1]
    exact List.getElem_mem _))
   obtain ⟨b, hb0⟩ : ∃ b, isGone k s (rd_T31 l0 (i : Int)) = b := ⟨_, rfl⟩
   rw [hb0] at HG
   cases b with
   | false =>
    go_wp2_with (go_at_call 58; refine (tree_Drop1.calls k (rd_T31 l0 (i : Int)) _ s sb false _ rfl (blk_below HX.out HB.out) HG.out).mono ?_; rintro e w2 ⟨rfl, hb⟩; have HB2 := Aside0.mk (below_then HB.out HB.out.size hb); clear hb HB)
    go_roundw
    case rel => exact ⟨i + 1, by congr 1, by omega, ⟨fun j hj => by
     rcases Nat.lt_or_ge j i with h1 | h1
     ·exact HJ.out j h1
     ·rw [show j = i by omega]; exact hb0⟩, HB2⟩
    case measure => simp [intOf]; omega
   | true =>
    go_wp2_with (go_at_call 58; refine (tree_Drop1.calls k (rd_T31 l0 (i : Int)) _ s sb true _ rfl (blk_below HX.out HB.out) HG.out).mono ?_; rintro e w2 ⟨rfl, hb⟩; have HB2 := Aside0.mk (below_then HB.out HB.out.size hb); clear hb HB)
    go_ret
    exact ⟨.inl ⟨i, c1, hb0, HJ.out, rfl⟩, HB2.out⟩
  ·have d1 : decide (i < l0.length) = false := decide_eq_false c1
   go_wp2
   go_ret
   exact ⟨.inr ⟨fun j hj => HJ.out j (by omega), rfl⟩, HB.out⟩
theorem isGone_at (k : Nat) (s : ByteArray) (l0 : List (S31)) (i : Nat) (h : i < l0.length) : rd_T31 l0 (i : Int) = l0[i] := by
 unfold rd_T31
 rw [Int.toNat_natCast, List.getD_eq_getElem?_getD, List.getElem?_eq_getElem h]
 rfl
theorem slices_IndexFunc.at_ (k : Nat) (A0 : Option Addr) (c0 : Nat) (l0 : List (S31)) (s : ByteArray) (sb : Nat) (i : Nat) (w : World) (hr0 : Kd.C k31 w A0 l0.length l0) (hc0 : l0.length ≤ c0) (hlen : l0.length < 1152921504606846976) (hbx : w.heap[sb]? = some (.cells #[.string s] 9 (0, 0))) (hall : ∀ x ∈ l0, goneOf k s x = some (isGone k s x))
  (h1 : i < l0.length) (h2 : isGone k s (rd_T31 l0 (i : Int)) = true) (h3 : ∀ j : Nat, j < i → isGone k s (rd_T31 l0 (j : Int)) = false) :
  Calls Try.prog 75 #[.slice A0 l0.length c0, .func (.func 58) #[] #[.pointer (some ⟨sb, 0, none⟩)]] w fun e w' => e = .returned (.int .i64 (i : Int)) ∧ Below w.heap.size w w' := by
 refine (slices_IndexFunc.calls k A0 c0 l0 s sb w hr0 hc0 hlen hbx hall).mono ?_
 rintro e w1 ⟨⟨i1, h4, h5, h6, rfl⟩ | ⟨h4, rfl⟩, hb⟩
 ·rcases Nat.lt_trichotomy i i1 with h7 | h7 | h7
  ·rw [h6 i h7] at h2; cases h2
  ·rw [h7]; exact ⟨rfl, hb⟩
  ·rw [h3 i1 h7] at h5; cases h5
 ·rw [h4 i h1] at h2; cases h2
theorem slices_IndexFunc.none_ (k : Nat) (A0 : Option Addr) (c0 : Nat) (l0 : List (S31)) (s : ByteArray) (sb : Nat) (w : World) (hr0 : Kd.C k31 w A0 l0.length l0) (hc0 : l0.length ≤ c0) (hlen : l0.length < 1152921504606846976) (hbx : w.heap[sb]? = some (.cells #[.string s] 9 (0, 0))) (hall : ∀ x ∈ l0, goneOf k s x = some (isGone k s x))
  (h3 : ∀ j : Nat, j < l0.length → isGone k s (rd_T31 l0 (j : Int)) = false) :
  Calls Try.prog 75 #[.slice A0 l0.length c0, .func (.func 58) #[] #[.pointer (some ⟨sb, 0, none⟩)]] w fun e w' => e = .returned (.int .i64 (-1)) ∧ Below w.heap.size w w' := by
 refine (slices_IndexFunc.calls k A0 c0 l0 s sb w hr0 hc0 hlen hbx hall).mono ?_
 rintro e w1 ⟨⟨i1, h4, h5, h6, rfl⟩ | ⟨h4, rfl⟩, hb⟩
 ·rw [h3 i1 h4] at h5; cases h5
 ·exact ⟨rfl, hb⟩
theorem firstGone (k : Nat) (s : ByteArray) (l0 : List (S31)) : (∀ j : Nat, j < l0.length → isGone k s (rd_T31 l0 (j : Int)) = false) ∨ ∃ i : Nat, i < l0.length ∧ isGone k s (rd_T31 l0 (i : Int)) = true ∧ ∀ j : Nat, j < i → isGone k s (rd_T31 l0 (j : Int)) = false := by
 have h : ∀ n, n ≤ l0.length → (∀ j : Nat, j < n → isGone k s (rd_T31 l0 (j : Int)) = false) ∨ ∃ i : Nat, i < l0.length ∧ isGone k s (rd_T31 l0 (i : Int)) = true ∧ ∀ j : Nat, j < i → isGone k s (rd_T31 l0 (j : Int)) = false := by
  intro n
  induction n with
  | zero => exact fun _ => .inl fun j hj => by omega
  | succ n ih =>
   intro hn
   rcases ih (by omega) with h | h
   ·cases hg : isGone k s (rd_T31 l0 (n : Int)) with
    | true => exact .inr ⟨n, by omega, hg, h⟩
    | false =>
     refine .inl fun j hj => ?_
     rcases Nat.lt_or_ge j n with h1 | h1
     ·exact h j h1
     ·rw [show j = n by omega]; exact hg
   ·exact .inr h
 exact h _ (Nat.le_refl _)
/-- What stands at the round's start: i are kept of the first j. -/
structure Kept_ (k : Nat) (s : ByteArray) (l0 cur : List (S31)) (i j : Nat) : Prop where
 len : cur.length = l0.length
 ij : i < j
 jn : j ≤ l0.length
 front : cur.take i = (l0.take j).filter fun x => !isGone k s x
 back : cur.drop j = l0.drop j
theorem Kept_.start {k : Nat} {s : ByteArray} {l0 : List (S31)} {i : Nat} (h1 : i < l0.length) (h2 : isGone k s (rd_T31 l0 (i : Int)) = true) (h3 : ∀ j : Nat, j < i → isGone k s (rd_T31 l0 (j : Int)) = false) : Kept_ k s l0 l0 i (i + 1) := by
 refine ⟨rfl, by omega, by omega, ?_, rfl⟩
 rw [isGone_at k s l0 i h1] at h2
 rw [List.take_add_one, List.getElem?_eq_getElem h1, List.filter_append]
 have e1 : (l0.take i).filter (fun x => !isGone k s x) = l0.take i := by
  refine List.filter_eq_self.2 fun x hx => ?_
  obtain ⟨j, hj, rfl⟩ := List.getElem_of_mem hx
  rw [List.length_take] at hj
  rw [List.getElem_take, ← isGone_at k s l0 j (by omega), h3 j (by omega)]
  rfl
 rw [e1]
 simp [h2]
theorem Kept_.at_ {k : Nat} {s : ByteArray} {l0 cur : List (S31)} {i j : Nat} (h : Kept_ k s l0 cur i j) (hj : j < l0.length) : cur[j]? = l0[j]? := by
 have h1 := congrArg (fun l => l[0]?) h.back
 simpa [List.getElem?_drop] using h1
theorem Kept_.skip {k : Nat} {s : ByteArray} {l0 cur : List (S31)} {i j : Nat} (h : Kept_ k s l0 cur i j) (hj : j < l0.length) (hg : isGone k s (rd_T31 l0 (j : Int)) = true) : Kept_ k s l0 cur i (j + 1) := by
 have h1 := h.ij
 refine ⟨h.len, by omega, by omega, ?_, ?_⟩
 ·rw [isGone_at k s l0 j hj] at hg
  rw [h.front, List.take_add_one, List.getElem?_eq_getElem hj, List.filter_append]
  simp [hg]
 ·rw [← List.drop_drop, ← List.drop_drop, h.back]
theorem Kept_.keep {k : Nat} {s : ByteArray} {l0 cur : List (S31)} {i j : Nat} (h : Kept_ k s l0 cur i j) (hj : j < l0.length) (hg : isGone k s (rd_T31 l0 (j : Int)) = false) : Kept_ k s l0 (cur.set i (rd_T31 l0 (j : Int))) (i + 1) (j + 1) := by
 have h1 := h.ij
 have h2 := h.len
 rw [isGone_at k s l0 j hj] at hg ⊢
 refine ⟨by simpa using h.len, by omega, by omega, ?_, ?_⟩
 ·rw [List.take_add_one, List.take_set_of_le (Nat.le_refl i), List.getElem?_set_self (by omega), h.front, List.take_add_one, List.getElem?_eq_getElem hj, List.filter_append]
  simp [hg]
 ·rw [List.drop_set_of_lt (by omega), ← List.drop_drop, ← List.drop_drop, h.back]
set_option maxHeartbeats 8000000 in
set_option maxRecDepth 100000 in
theorem slices_DeleteFunc.calls (k base : Nat) (P : Nat → Prop) (A0 : Option Addr) (c0 : Nat) (l0 : List (S31)) (s : ByteArray) (sb : Nat) (r : List (S31)) (w : World) (ho : Kd.N k31 31 w base P (.slice A0 l0.length c0) l0) (hsb : sb < base) (hbase : base ≤ w.heap.size) (hlen : l0.length < 1152921504606846976) (hbx : w.heap[sb]? = some (.cells #[.string s] 9 (0, 0))) (h : keptOf k l0 s = some r) :
  Calls Try.prog 57 #[.slice A0 l0.length c0, .func (.func 58) #[] #[.pointer (some ⟨sb, 0, none⟩)]] w fun e w' => ∃ v0_ : Value, e = .returned v0_ ∧ Kd.N k31 31 w' base P v0_ r ∧ Below base w w' := by
 have hall : ∀ x ∈ l0, goneOf k s x = some (isGone k s x) := by
  intro x hx
  unfold keptOf at h
  split at h
  ·rename_i h1
   obtain ⟨b, hb⟩ := Option.isSome_iff_exists.1 (List.all_eq_true.mp h1 x hx)
   unfold isGone
   rw [hb]; rfl
  ·cases h
 have hr : l0.filter (fun x => !isGone k s x) = r := by
  unfold keptOf at h
  split at h
  ·exact Option.some.inj h
  ·cases h
 clear h
 have hc0 := (Kd.N_reads' ho).2.1
 have HO := Aside0.mk ho
 have HX := Aside0.mk hbx
 have HALL := Aside0.mk hall
 have HR := Aside0.mk hr
 clear ho hbx hall hr
 rcases firstGone k s l0 with hn | ⟨i0, hi1, hi2, hi3⟩
 ·have HN := Aside0.mk hn
  clear hn
  go_enter Try.func57, Try.ntmps57
  go_wp2_with (go_at_call 75; refine (slices_IndexFunc.none_ k A0 c0 l0 s sb _ (Kd.N_reads' HO.out).2.2 hc0 hlen HX.out HALL.out HN.out).mono ?_; rintro e w1 ⟨rfl, hb⟩; have HB := Aside0.mk hb; clear hb)
  go_ret
  refine ⟨_, rfl, ?_, HB.out.mono hbase⟩
  have e1 : r = l0 := by
   rw [← HR.out]
   refine List.filter_eq_self.2 fun x hx => ?_
   obtain ⟨j, hj, rfl⟩ := List.getElem_of_mem hx
   rw [← isGone_at k s l0 j hj, HN.out j hj]
   rfl
  rw [e1]
  exact Kd.N_below HO.out HB.out
 ·have HI2 := Aside0.mk hi2
  have HI3 := Aside0.mk hi3
  have hK0 : Kept_ k s l0 l0 i0 (i0 + 1) := Kept_.start hi1 hi2 hi3
  have HK0 := Aside0.mk hK0
  clear hi2 hi3 hK0
  obtain ⟨g, cap, eA, hgb, hgl, _⟩ := Kd.N_form HO.out (by omega)
  injection eA with ea en ec
  subst ea ec
  clear en
  have d0 : ((i0 : Int) == -1) = false := beq_eq_false_iff_ne.mpr (by omega)
  go_enter Try.func57, Try.ntmps57
  go_wp2_with (go_at_call 75; refine (slices_IndexFunc.at_ k _ c0 l0 s sb i0 _ (Kd.N_reads' HO.out).2.2 hc0 hlen HX.out HALL.out hi1 HI2.out HI3.out).mono ?_; rintro e w1 ⟨rfl, hb⟩; have HB := Aside0.mk hb; clear hb)
  have HO1 := Aside0.mk (Kd.N_below HO.out HB.out)
  have HB1 := Aside0.mk (HB.out.mono hbase)
  go_loopw [5, 6] (fun v5 v6 wr => ∃ (i j : Nat) (cur : List (S31)), v5 = .int .i64 (i : Int) ∧ v6 = .int .i64 (j : Int) ∧ Aside0 (Kept_ k s l0 cur i j) ∧ Aside0 (Kd.N k31 31 wr base P (.slice (some ⟨g, 0, none⟩) l0.length c0) cur) ∧ Aside0 (Below base w wr)) (fun _ v6 _ => l0.length - (intOf v6).toNat)
  case atStart => exact ⟨i0, i0 + 1, l0, rfl, by congr 1, HK0, HO1, HB1⟩
  case round =>
   clear HO1 HB1 HB HI2 HI3 HK0 d0
   obtain ⟨i, j, cur, rfl, rfl, HK, HO1, HB1⟩ := hrel
   have hij : i < j := HK.out.ij
   have hjn : j ≤ l0.length := HK.out.jn
   have HX1 := Aside0.mk ((HB1.out.block sb hsb).trans HX.out)
   have HS1 := Aside0.mk (Nat.le_trans hbase HB1.out.size)
   by_cases c1 : j < l0.length
   ·have d1 : decide (j < l0.length) = true := decide_eq_true c1
    have p : (0 : Int) ≤ (j : Int) := Int.natCast_nonneg j
    have q : (j : Int) < (l0.length : Int) := Int.ofNat_lt.2 c1
    obtain ⟨c, hcl, hM, hcc, hfr⟩ := Kd.N_elem HO1.out z31 (j : Int) p q
    have hxx : cur.getD ((j : Int)).toNat z31 = rd_T31 l0 (j : Int) := by
     rw [isGone_at k s l0 j c1, Int.toNat_natCast, List.getD_eq_getElem?_getD, HK.out.at_ c1, List.getElem?_eq_getElem c1]
     rfl
    rw [hxx] at hM
    clear hxx hfr hcl
    obtain ⟨ua, uc, rfl, ul, ge⟩ := k31_openF hM
    rw [Int.toNat_natCast] at hcc
    have HM := Aside0.mk hM
    have hx0 : wr.cell? ⟨g, j * 5, none⟩ = some (.string (rd_T31 l0 (j : Int)).f0) := hcc 0 _ rfl
    have hx1 : wr.cell? ⟨g, j * 5 + 1, none⟩ = some (.int .i64 (rd_T31 l0 (j : Int)).f1) := hcc 1 _ rfl
    have hx2 : wr.cell? ⟨g, j * 5 + 2, none⟩ = some (.int .i64 (rd_T31 l0 (j : Int)).f2) := hcc 2 _ rfl
    have hx3 : wr.cell? ⟨g, j * 5 + 3, none⟩ = some (.slice ua (rd_T31 l0 (j : Int)).f3.length uc) := hcc 3 _ rfl
    have hx4 : wr.cell? ⟨g, j * 5 + 4, none⟩ = some (.string (rd_T31 l0 (j : Int)).f4) := hcc 4 _ rfl
    clear hcc hM ul ge
    have HG := Aside0.mk (HALL.out (rd_T31 l0 (j : Int)) (by rw [isGone_at k s l0 j c1]; exact List.getElem_mem _))
    obtain ⟨b, hb0⟩ : ∃ b, isGone k s (rd_T31 l0 (j : Int)) = b := ⟨_, rfl⟩
    rw [hb0] at HG
    cases b with
    | true =>
     go_wp2_with (first | ((with_reducible refine gate_dst (N := 7) rfl ?_); refine box_event ?hg (N := 7) ?hd (cs := #[.string (⟨#[]⟩ : ByteArray), .int .i64 0, .int .i64 0, .slice none 0 0, .string (⟨#[]⟩ : ByteArray)]) (t := 31) ?hr ?_; (case hd => rfl); (case hg => rfl); (case hr => first | (go_simp; done) | (go_simp; rfl)); intro gb hg w9 hbox hb; have HBr := Aside0.mk hb; have BK := Aside0.mk hbox; have GE := Aside0.mk (show wr.heap.size ≤ gb by rw [hg]; exact Nat.le_refl _); clear hb hbox hg; have hcz0 : w9.cell? ⟨gb, 0, none⟩ = some (.string (⟨#[]⟩ : ByteArray)) := (blk_cell BK.out 0).trans rfl; have hfz0 := blk_frozen BK.out 0; have hcz1 : w9.cell? ⟨gb, 1, none⟩ = some (.int .i64 0) := (blk_cell BK.out 1).trans rfl; have hfz1 := blk_frozen BK.out 1; have hcz2 : w9.cell? ⟨gb, 2, none⟩ = some (.int .i64 0) := (blk_cell BK.out 2).trans rfl; have hfz2 := blk_frozen BK.out 2; have hcz3 : w9.cell? ⟨gb, 3, none⟩ = some (.slice none 0 0) := (blk_cell BK.out 3).trans rfl; have hfz3 := blk_frozen BK.out 3; have hcz4 : w9.cell? ⟨gb, 4, none⟩ = some (.string (⟨#[]⟩ : ByteArray)) := (blk_cell BK.out 4).trans rfl; have hfz4 := blk_frozen BK.out 4) | (go_at_call 58; refine (tree_Drop1.calls k (rd_T31 l0 (j : Int)) _ s sb true _ rfl (blk_below HX1.out (show Below wr.heap.size wr _ from (by repeat (with_reducible first | exact HBr.out | refine below_set ?_ GE.out)))) HG.out).mono ?_; rintro e w2 ⟨rfl, hb⟩; have n0_ := Aside0.mk (blk_below (g := gb) (o := .cells #[.string (rd_T31 l0 (j : Int)).f0, .int .i64 (rd_T31 l0 (j : Int)).f1, .int .i64 (rd_T31 l0 (j : Int)).f2, .slice ua (rd_T31 l0 (j : Int)).f3.length uc, .string (rd_T31 l0 (j : Int)).f4] 31 (0, 0)) (by refine blk_put (cs := #[.string (rd_T31 l0 (j : Int)).f0, .int .i64 (rd_T31 l0 (j : Int)).f1, .int .i64 (rd_T31 l0 (j : Int)).f2, .slice ua (rd_T31 l0 (j : Int)).f3.length uc, .string (⟨#[]⟩ : ByteArray)]) ?_ 4 _ rfl; refine blk_put (cs := #[.string (rd_T31 l0 (j : Int)).f0, .int .i64 (rd_T31 l0 (j : Int)).f1, .int .i64 (rd_T31 l0 (j : Int)).f2, .slice none 0 0, .string (⟨#[]⟩ : ByteArray)]) ?_ 3 _ rfl; refine blk_put (cs := #[.string (rd_T31 l0 (j : Int)).f0, .int .i64 (rd_T31 l0 (j : Int)).f1, .int .i64 0, .slice none 0 0, .string (⟨#[]⟩ : ByteArray)]) ?_ 2 _ rfl; refine blk_put (cs := #[.string (rd_T31 l0 (j : Int)).f0, .int .i64 0, .int .i64 0, .slice none 0 0, .string (⟨#[]⟩ : ByteArray)]) ?_ 1 _ rfl; refine blk_put (cs := #[.string (⟨#[]⟩ : ByteArray), .int .i64 0, .int .i64 0, .slice none 0 0, .string (⟨#[]⟩ : ByteArray)]) ?_ 0 _ rfl; with_reducible exact BK.out) hb); have n1_ := Aside0.mk (show Below wr.heap.size wr w2 from below_step (by repeat (with_reducible first | exact HBr.out | refine below_set ?_ GE.out)) hb); clear BK HBr hb; have BK := n0_; have HBr := n1_; clear n0_ n1_))
     go_roundw
     case rel => exact ⟨i, j + 1, cur, rfl, by congr 1, ⟨HK.out.skip c1 hb0⟩, ⟨Kd.N_below HO1.out HBr.out⟩, ⟨HB1.out.trans (HBr.out.mono HS1.out)⟩⟩
     case measure => simp [intOf]; omega
    | false =>
     go_wp2_with (first | ((with_reducible refine gate_dst (N := 7) rfl ?_); refine box_event ?hg (N := 7) ?hd (cs := #[.string (⟨#[]⟩ : ByteArray), .int .i64 0, .int .i64 0, .slice none 0 0, .string (⟨#[]⟩ : ByteArray)]) (t := 31) ?hr ?_; (case hd => rfl); (case hg => rfl); (case hr => first | (go_simp; done) | (go_simp; rfl)); intro gb hg w9 hbox hb; have HBr := Aside0.mk hb; have BK := Aside0.mk hbox; have GE := Aside0.mk (show wr.heap.size ≤ gb by rw [hg]; exact Nat.le_refl _); clear hb hbox hg; have hcz0 : w9.cell? ⟨gb, 0, none⟩ = some (.string (⟨#[]⟩ : ByteArray)) := (blk_cell BK.out 0).trans rfl; have hfz0 := blk_frozen BK.out 0; have hcz1 : w9.cell? ⟨gb, 1, none⟩ = some (.int .i64 0) := (blk_cell BK.out 1).trans rfl; have hfz1 := blk_frozen BK.out 1; have hcz2 : w9.cell? ⟨gb, 2, none⟩ = some (.int .i64 0) := (blk_cell BK.out 2).trans rfl; have hfz2 := blk_frozen BK.out 2; have hcz3 : w9.cell? ⟨gb, 3, none⟩ = some (.slice none 0 0) := (blk_cell BK.out 3).trans rfl; have hfz3 := blk_frozen BK.out 3; have hcz4 : w9.cell? ⟨gb, 4, none⟩ = some (.string (⟨#[]⟩ : ByteArray)) := (blk_cell BK.out 4).trans rfl; have hfz4 := blk_frozen BK.out 4) | (go_at_call 58; refine (tree_Drop1.calls k (rd_T31 l0 (j : Int)) _ s sb false _ rfl (blk_below HX1.out (show Below wr.heap.size wr _ from (by repeat (with_reducible first | exact HBr.out | refine below_set ?_ GE.out)))) HG.out).mono ?_; rintro e w2 ⟨rfl, hb⟩; have n0_ := Aside0.mk (blk_below (g := gb) (o := .cells #[.string (rd_T31 l0 (j : Int)).f0, .int .i64 (rd_T31 l0 (j : Int)).f1, .int .i64 (rd_T31 l0 (j : Int)).f2, .slice ua (rd_T31 l0 (j : Int)).f3.length uc, .string (rd_T31 l0 (j : Int)).f4] 31 (0, 0)) (by refine blk_put (cs := #[.string (rd_T31 l0 (j : Int)).f0, .int .i64 (rd_T31 l0 (j : Int)).f1, .int .i64 (rd_T31 l0 (j : Int)).f2, .slice ua (rd_T31 l0 (j : Int)).f3.length uc, .string (⟨#[]⟩ : ByteArray)]) ?_ 4 _ rfl; refine blk_put (cs := #[.string (rd_T31 l0 (j : Int)).f0, .int .i64 (rd_T31 l0 (j : Int)).f1, .int .i64 (rd_T31 l0 (j : Int)).f2, .slice none 0 0, .string (⟨#[]⟩ : ByteArray)]) ?_ 3 _ rfl; refine blk_put (cs := #[.string (rd_T31 l0 (j : Int)).f0, .int .i64 (rd_T31 l0 (j : Int)).f1, .int .i64 0, .slice none 0 0, .string (⟨#[]⟩ : ByteArray)]) ?_ 2 _ rfl; refine blk_put (cs := #[.string (rd_T31 l0 (j : Int)).f0, .int .i64 0, .int .i64 0, .slice none 0 0, .string (⟨#[]⟩ : ByteArray)]) ?_ 1 _ rfl; refine blk_put (cs := #[.string (⟨#[]⟩ : ByteArray), .int .i64 0, .int .i64 0, .slice none 0 0, .string (⟨#[]⟩ : ByteArray)]) ?_ 0 _ rfl; with_reducible exact BK.out) hb); have n1_ := Aside0.mk (show Below wr.heap.size wr w2 from below_step (by repeat (with_reducible first | exact HBr.out | refine below_set ?_ GE.out)) hb); clear BK HBr hb; have BK := n0_; have HBr := n1_; clear n0_ n1_; have HO2 := Aside0.mk (Kd.N_below HO1.out HBr.out); obtain ⟨c2, hcl2, hM2, hcc2, hfr2⟩ := Kd.N_elem HO2.out z31 (i : Int) (by omega) (by omega); obtain ⟨ua2, uc2, rfl, ul2, ge2⟩ := k31_openF hM2; rw [Int.toNat_natCast] at hcc2 hfr2; have hy0 := hcc2 0 _ rfl; have hf0 := hfr2 0; have hy1 := hcc2 1 _ rfl; have hf1 := hfr2 1; have hy2 := hcc2 2 _ rfl; have hf2 := hfr2 2; have hy3 := hcc2 3 _ rfl; have hf3 := hfr2 3; have hy4 := hcc2 4 _ rfl; have hf4 := hfr2 4; simp only [show k31.sz = 5 from rfl, Nat.add_zero] at hy0 hy1 hy2 hy3 hy4 hf0 hf1 hf2 hf3 hf4; clear hcc2 hfr2 hM2 ul2 ge2 hcl2; have hcy0 : w2.cell? ⟨gb, 0, none⟩ = some (.string (rd_T31 l0 (j : Int)).f0) := (blk_cell BK.out 0).trans rfl; have hcy1 : w2.cell? ⟨gb, 1, none⟩ = some (.int .i64 (rd_T31 l0 (j : Int)).f1) := (blk_cell BK.out 1).trans rfl; have hcy2 : w2.cell? ⟨gb, 2, none⟩ = some (.int .i64 (rd_T31 l0 (j : Int)).f2) := (blk_cell BK.out 2).trans rfl; have hcy3 : w2.cell? ⟨gb, 3, none⟩ = some (.slice ua (rd_T31 l0 (j : Int)).f3.length uc) := (blk_cell BK.out 3).trans rfl; have hcy4 : w2.cell? ⟨gb, 4, none⟩ = some (.string (rd_T31 l0 (j : Int)).f4) := (blk_cell BK.out 4).trans rfl) | ((with_reducible refine gate_store (t := 31) (p := 33) rfl ?_); refine store_event (t := 31) (p := 33) (v := ?vo_) (w1 := (((((w2.setCell ⟨g, i * 5, none⟩ (.string (rd_T31 l0 (j : Int)).f0)).setCell ⟨g, i * 5 + 1, none⟩ (.int .i64 (rd_T31 l0 (j : Int)).f1)).setCell ⟨g, i * 5 + 2, none⟩ (.int .i64 (rd_T31 l0 (j : Int)).f2)).setCell ⟨g, i * 5 + 3, none⟩ (.slice ua (rd_T31 l0 (j : Int)).f3.length uc)).setCell ⟨g, i * 5 + 4, none⟩ (.string (rd_T31 l0 (j : Int)).f4))) ?hg ?ho ?hn ?hr ?_; (case ho => rfl); (case hg => rfl); (case hn => rfl); (case hr => first | (go_simp; done) | (go_simp; rfl)); intro w3 hw; obtain ⟨hN3, hG3⟩ := entryN_set HO2.out (show i < l0.length by omega) (x := (rd_T31 l0 (j : Int))) (seg := [.string (rd_T31 l0 (j : Int)).f0, .int .i64 (rd_T31 l0 (j : Int)).f1, .int .i64 (rd_T31 l0 (j : Int)).f2, .slice ua (rd_T31 l0 (j : Int)).f3.length uc, .string (rd_T31 l0 (j : Int)).f4]) (Kd.FK_below HM.out HBr.out); have HO3 := Aside0.mk (by rw [hw]; exact hN3 : Kd.N k31 31 w3 base P (.slice (some ⟨g, 0, none⟩) l0.length c0) (cur.set i (rd_T31 l0 (j : Int)))); have HB3 := Aside0.mk (show Below base w w3 by rw [hw]; exact (((((HB1.out.trans (HBr.out.mono HS1.out)).setCell hgb _).setCell hgb _).setCell hgb _).setCell hgb _).setCell hgb _); clear hN3 hG3 hw))
     go_roundw
     case rel => exact ⟨i + 1, j + 1, _, by congr 1, by congr 1, ⟨HK.out.keep c1 hb0⟩, HO3, HB3⟩
     case measure => simp [intOf]; omega
   ·have d1 : decide (j < l0.length) = false := decide_eq_false c1
    have hin : i < l0.length := by omega
    obtain ⟨hNz, hGz⟩ := entryN_zero (l0.length - i) i wr cur HO1.out (by omega)
    have HNz := Aside0.mk hNz
    have HGz := Aside0.mk hGz
    clear hNz hGz
    have hclr := entryN_clear wr 0 HO1.out hin (c0 - i)
    have h5 : i ≤ c0 := by omega
    go_wp2
    go_ret
    refine ⟨_, rfl, ?_, ?_⟩
    ·have e1 : r = (cur.take i ++ List.replicate (l0.length - i) z31).take i := by
      have e2 : (cur.take i).length = i := by rw [List.length_take, HK.out.len]; omega
      rw [List.take_append_of_le_length (by omega), List.take_of_length_le (by omega), HK.out.front, ← HR.out, show j = l0.length by omega, List.take_length]
     have e3 := Kd.N_take HNz.out (m := i) (by rw [List.length_append, List.length_take, HK.out.len, List.length_replicate]; omega)
     rw [e1]
     exact e3
    ·exact HB1.out.grown HGz.out HS1.out (fun k hk => by injection hk with hk; omega)
def tree_Drop.f (k : Nat) (l0 : List (S31)) (a1 : ByteArray) : Option ((List (S31)) × Int) :=
 (tree_Check.f k l0).bind fun c => if c.1 = 0 then ((tree_place.f k l0 a1).bind fun p => if p.2 = true then ((api_Entry_55.f l0).bind fun x => (keptOf k x a1).bind fun y => (tree_clone.f k y).bind fun z => some (z, 0)) else some ([], 6)) else some ([], c.1)
theorem tree_Drop.mono : ∀ l0 a1 k, LeO (tree_Drop.f k l0 a1) (tree_Drop.f (k + 1) l0 a1) := by
 intro l0 a1 k
 unfold tree_Drop.f
 exact LeO.bind (tree_Check.mono _ _) fun _ => LeO.ite (LeO.bind (tree_place.mono _ _ _) fun _ => LeO.ite (LeO.bind (LeO.refl _) fun _ => LeO.bind (keptOf_mono _ _ _) fun _ => LeO.bind (tree_clone.mono _ _) fun _ => LeO.refl _) (LeO.refl _)) (LeO.refl _)
set_option maxHeartbeats 8000000 in
set_option maxRecDepth 100000 in
theorem tree_Drop.calls2 (k : Nat) (A0 : Option Addr) (c0 : Nat) (l0 : List (S31)) (a1 : ByteArray) (r1 : List (S31)) (r2 : Int) (w : World) (hr0 : Kd.C k31 w A0 l0.length l0) (hc0 : l0.length ≤ c0) (h : tree_Drop.f k l0 a1 = some (r1, r2)) :
  Calls Try.prog 32 #[.slice A0 l0.length c0, .string a1] w fun e w' => ∃ v0_ : Value, e = .returned (.tuple #[v0_, .int .i64 r2]) ∧ Kd.S k31 31 w' w.heap.size (fun _ => True) v0_ r1 ∧ FullRow w' v0_ r1 ∧ Below w.heap.size w w' := by
 obtain ⟨P0_, hs0⟩ : ∃ P0_ : Nat → Prop, Kd.V k31 31 w w.heap.size (fun k_ => P0_ k_) (.slice A0 l0.length c0) l0 := ⟨fun k => k < w.heap.size, Kd.V_mk hc0 (Kd.C_F k31_heap hr0)⟩
 clear hr0
 have HS := Aside0.mk hs0
 clear hs0
 unfold tree_Drop.f at h
 obtain ⟨⟨e1, e2⟩, hchk, h⟩ := Option.bind_eq_some_iff.mp h
 replace h : (if e1 = 0 then ((tree_place.f k l0 a1).bind fun p => if p.2 = true then ((api_Entry_55.f l0).bind fun x => (keptOf k x a1).bind fun y => (tree_clone.f k y).bind fun z => some (z, 0)) else some ([], 6)) else some ([], e1)) = some (r1, r2) := h
 have HC := Aside0.mk hchk
 clear hchk
 by_cases c1 : e1 = 0
 ·rw [if_pos c1] at h
  subst c1
  obtain ⟨⟨p1, p2⟩, hpl, h⟩ := Option.bind_eq_some_iff.mp h
  replace h : (if p2 = true then ((api_Entry_55.f l0).bind fun x => (keptOf k x a1).bind fun y => (tree_clone.f k y).bind fun z => some (z, 0)) else some ([], 6)) = some (r1, r2) := h
  have HP := Aside0.mk hpl
  clear hpl
  by_cases c2 : p2 = true
  ·rw [if_pos c2] at h
   subst c2
   obtain ⟨x, hx, h⟩ := Option.bind_eq_some_iff.mp h
   obtain ⟨y, hy, h⟩ := Option.bind_eq_some_iff.mp h
   obtain ⟨z, hz, h⟩ := Option.bind_eq_some_iff.mp h
   obtain ⟨rfl, rfl⟩ := Prod.mk.inj (Option.some.inj h)
   have HX := Aside0.mk hx
   have HY := Aside0.mk hy
   have HZ := Aside0.mk hz
   have hxl : x = l0 ∧ l0.length < 1152921504606846976 := by
    unfold api_Entry_55.f at hx
    split at hx
    ·exact ⟨(Option.some.inj hx).symm, by omega⟩
    ·cases hx
   obtain ⟨rfl, hlen⟩ := hxl
   have HLEN := Aside0.mk hlen
   clear h hx hy hz hlen
   have HB := Aside0.mk (Below.refl w.heap.size w)
   go_enter Try.func32, Try.ntmps32
   go_wp2_with (first
    | ((with_reducible refine gate_dst (N := 3) rfl ?_); refine box_event ?hg (N := 3) ?hd (cs := #[.string a1]) (t := 9) ?hr ?_; (case hd => rfl); (case hg => rfl); (case hr => first | (go_simp; done) | (go_simp; rfl)); intro gb hg w1 hbox hb; have HB1 := Aside0.mk hb; have BK := Aside0.mk hbox; have GE := Aside0.mk hg; have hsz := Aside0.mk (blk_lt hbox); clear hb hbox hg; have hcz : w1.cell? ⟨gb, 0, none⟩ = some (.string a1) := (blk_cell BK.out 0).trans rfl)
    | (go_at_call 11; refine (tree_Check.calls k A0 c0 _ 0 e2 _ (Kd.V_reads' (Kd.V_below HS.out HB1.out)).2.2 hc0 HC.out).mono ?_; rintro e w2 ⟨rfl, hb⟩; have HB2 := Aside0.mk (below_step HB1.out hb); have BK2 := Aside0.mk (blk_below BK.out hb); clear hb hcz; have hcz : w2.cell? ⟨gb, 0, none⟩ = some (.string a1) := (blk_cell BK2.out 0).trans rfl)
    | (go_at_call 40; refine (tree_place.calls k A0 c0 _ a1 p1 true _ (Kd.V_reads' (Kd.V_below HS.out HB2.out)).2.2 hc0 HP.out).mono ?_; rintro e w3 ⟨rfl, hb⟩; have HB3 := Aside0.mk (below_step HB2.out hb); have BK3 := Aside0.mk (blk_below BK2.out hb); clear hb hcz; have hcz : w3.cell? ⟨gb, 0, none⟩ = some (.string a1) := (blk_cell BK3.out 0).trans rfl)
    | (go_at_call 55; refine (api_Entry_55.calls P0_ A0 c0 _ x _ (Kd.V_map (Kd.V_below HS.out HB3.out) (fun _ hf => hf)) HX.out).mono ?_; rintro e w4 ⟨v4, rfl, hN4, hb⟩; have HB4 := Aside0.mk (below_step HB3.out hb); have BK4 := Aside0.mk (blk_below BK3.out hb); have HN4 := Aside0.mk hN4; obtain ⟨A4, c4, rfl⟩ := Kd.N_slice hN4; clear hb hcz hN4; have hcz : w4.cell? ⟨gb, 0, none⟩ = some (.string a1) := (blk_cell BK4.out 0).trans rfl)
    | (go_at_call 57; refine (slices_DeleteFunc.calls k (gb + 1) (fun k_ => P0_ k_ ∨ w.heap.size ≤ k_) A4 c4 x a1 gb y _ (Kd.N_lower (Kd.N_mono HN4.out (fun k_ hk => hk.imp id (fun hk => Nat.le_trans HB3.out.size hk))) (Nat.succ_le_of_lt (blk_lt BK3.out))) (Nat.lt_succ_self _) (Nat.succ_le_of_lt (blk_lt BK4.out)) HLEN.out BK4.out HY.out).mono ?_; rintro e w5 ⟨v5, rfl, hN5, hb⟩; have HB5 := Aside0.mk (HB4.out.trans (hb.mono (Nat.le_of_lt (Nat.lt_succ_of_le (by rw [GE.out]; exact Nat.le_refl _))))); have HN5 := Aside0.mk hN5; obtain ⟨A5, c5, rfl⟩ := Kd.N_slice hN5; clear hb hcz hN5)
    | (go_at_call 41; refine (tree_clone.calls2 k A5 c5 y z _ (Kd.N_reads' HN5.out).2.2 (Kd.N_reads' HN5.out).2.1 HZ.out).mono ?_; rintro e w6 ⟨v6, rfl, hN6, hF6, hb⟩; have HF6 := Aside0.mk hF6; clear hF6; have HB6 := Aside0.mk (below_step HB5.out hb); have HN6 := Aside0.mk (Kd.S_lower hN6 HB5.out.size); clear hb hN6))
   go_ret2
   exact ⟨_, rfl, HN6.out, HF6.out, HB6.out⟩
  ·rw [if_neg c2] at h
   have c3 : p2 = false := by simpa using c2
   subst c3
   obtain ⟨rfl, rfl⟩ := Prod.mk.inj (Option.some.inj h)
   clear h c2
   have HB := Aside0.mk (Below.refl w.heap.size w)
   go_enter Try.func32, Try.ntmps32
   go_wp2_with (first
    | ((with_reducible refine gate_dst (N := 3) rfl ?_); refine box_event ?hg (N := 3) ?hd (cs := #[.string a1]) (t := 9) ?hr ?_; (case hd => rfl); (case hg => rfl); (case hr => first | (go_simp; done) | (go_simp; rfl)); intro gb hg w1 hbox hb; have HB1 := Aside0.mk hb; have BK := Aside0.mk hbox; have GE := Aside0.mk hg; have hsz := Aside0.mk (blk_lt hbox); clear hb hbox hg; have hcz : w1.cell? ⟨gb, 0, none⟩ = some (.string a1) := (blk_cell BK.out 0).trans rfl)
    | (go_at_call 11; refine (tree_Check.calls k A0 c0 _ 0 e2 _ (Kd.V_reads' (Kd.V_below HS.out HB1.out)).2.2 hc0 HC.out).mono ?_; rintro e w2 ⟨rfl, hb⟩; have HB2 := Aside0.mk (below_step HB1.out hb); have BK2 := Aside0.mk (blk_below BK.out hb); clear hb hcz; have hcz : w2.cell? ⟨gb, 0, none⟩ = some (.string a1) := (blk_cell BK2.out 0).trans rfl)
    | (go_at_call 40; refine (tree_place.calls k A0 c0 _ a1 p1 false _ (Kd.V_reads' (Kd.V_below HS.out HB2.out)).2.2 hc0 HP.out).mono ?_; rintro e w3 ⟨rfl, hb⟩; have HB3 := Aside0.mk (below_step HB2.out hb); have BK3 := Aside0.mk (blk_below BK2.out hb); clear hb hcz; have hcz : w3.cell? ⟨gb, 0, none⟩ = some (.string a1) := (blk_cell BK3.out 0).trans rfl))
   go_ret2
   exact ⟨_, rfl, Kd.S_nil _ _ _ _ _, (fun _ _ _ he => by cases he), HB3.out⟩
 ·rw [if_neg c1] at h
  obtain ⟨rfl, rfl⟩ := Prod.mk.inj (Option.some.inj h)
  clear h
  have c1b : (e1 != 0) = true := bne_iff_ne.mpr c1
  have HB := Aside0.mk (Below.refl w.heap.size w)
  go_enter Try.func32, Try.ntmps32
  go_wp2_with (first
   | ((with_reducible refine gate_dst (N := 3) rfl ?_); refine box_event ?hg (N := 3) ?hd (cs := #[.string a1]) (t := 9) ?hr ?_; (case hd => rfl); (case hg => rfl); (case hr => first | (go_simp; done) | (go_simp; rfl)); intro gb hg w1 hbox hb; have HB1 := Aside0.mk hb; have BK := Aside0.mk hbox; have GE := Aside0.mk hg; have hsz := Aside0.mk (blk_lt hbox); clear hb hbox hg; have hcz : w1.cell? ⟨gb, 0, none⟩ = some (.string a1) := (blk_cell BK.out 0).trans rfl)
   | (go_at_call 11; refine (tree_Check.calls k A0 c0 _ e1 e2 _ (Kd.V_reads' (Kd.V_below HS.out HB1.out)).2.2 hc0 HC.out).mono ?_; rintro e w2 ⟨rfl, hb⟩; have HB2 := Aside0.mk (below_step HB1.out hb); have BK2 := Aside0.mk (blk_below BK.out hb); clear hb hcz; have hcz : w2.cell? ⟨gb, 0, none⟩ = some (.string a1) := (blk_cell BK2.out 0).trans rfl))
  go_ret2
  exact ⟨_, rfl, Kd.S_nil _ _ _ _ _, (fun _ _ _ he => by cases he), HB2.out⟩
theorem tree_Drop.calls (k : Nat) (A0 : Option Addr) (c0 : Nat) (l0 : List (S31)) (a1 : ByteArray) (r1 : List (S31)) (r2 : Int) (w : World) (hr0 : Kd.C k31 w A0 l0.length l0) (hc0 : l0.length ≤ c0) (h : tree_Drop.f k l0 a1 = some (r1, r2)) :
  Calls Try.prog 32 #[.slice A0 l0.length c0, .string a1] w fun e w' => ∃ v0_ : Value, e = .returned (.tuple #[v0_, .int .i64 r2]) ∧ Kd.S k31 31 w' w.heap.size (fun _ => True) v0_ r1 ∧ Below w.heap.size w w' :=
 (tree_Drop.calls2 k A0 c0 l0 a1 r1 r2 w hr0 hc0 h).mono fun e w' ⟨v, h1, h2, _, h4⟩ => ⟨v, h1, h2, h4⟩

end Go.Proofs.Ytopkmchkfcjjmaa.X
end

/-! ## Satchellaw08Sample -/
section
namespace Go.Proofs.Ytopkmchkfcjjmaa.X
open Go.RowKit Go.Proofs.YtopkmchkfcjjmaaW.PrintWords Go.Proofs.YtopkmchkfcjjmaaW.PrintLast Go.Proofs.YtopkmchkfcjjmaaW.PrintMore
attribute [local go_sem] max2_int min2_int max_two min_two max_three min_three max_four min_four   -- for this text's walks alone
set_option linter.unusedVariables false
set_option linter.unusedSimpArgs false

attribute [local go_sem] str_gtr fld_fault0 fld_fault1
/-! ### satchellaw08_sample: function 35 -/
def sampleTree : List S31 := [⟨⟨#[97]⟩, 1, 493, [], ⟨#[]⟩⟩, ⟨⟨#[97, 47, 98]⟩, 2, 420, [120], ⟨#[]⟩⟩, ⟨⟨#[99]⟩, 3, 0, [], ⟨#[97, 47, 98]⟩⟩]
def satchellaw08_sample.f : Option (List S31) := some sampleTree
/-- []byte("x"): a block that is marked behind its end. -/
theorem cv_lit (b n c : Nat) (cs : Array Value) (t : TypeId) (fr : Nat × Nat) (W : World) (h : W.heap[b]? = some (.cells cs t fr)) :
  (convert 29 29 (.slice (some ⟨b, 0, none⟩) n c)).run Try.prog W = .ok (.slice (some ⟨b, 0, none⟩) n c) (W.freeze ⟨b, cs.size, none⟩ 1) := by
 simp [convert, run_underlying Try.underlying29, run_underlying Try.underlying5, markStringish, Sem.run_bind, shape, freeze, Sem.run, World.shape?, h, Result.andThen]
theorem freeze_below {B : Nat} {w W : World} (h : Below B w W) (a : Addr) (n : Nat) (ha : B ≤ a.block) : Below B w (W.freeze a n) := by
 unfold World.freeze
 split
 ·exact h
 ·refine ⟨h.os, h.tape, h.output, by simpa using h.size, fun i hi => ?_⟩
  have hne : a.block ≠ i := by omega
  simp only [Array.getElem?_modify, if_neg hne]
  exact h.block i hi
/-- A row of one byte that is only read. -/
theorem one_byte (W : World) (b : Nat) (x : Int) (t : TypeId) (fr : Nat × Nat) (ok : Nat → Prop) (hb : ok b) (h : W.heap[b]? = some (.cells #[.int .u8 x] t fr)) : Kd.F (Kd.int .u8) W ok (some ⟨b, 0, none⟩) ([x] : List Int).length [x] := by
 intro W' hW
 have h' : W'.heap[b]? = some (.cells #[.int .u8 x] t fr) := (hW b hb (Array.getElem?_eq_some_iff.1 h).1).trans h
 refine ⟨rfl, by simp, fun _ => ⟨_, rfl, fun j p hj => ?_⟩⟩
 obtain ⟨hlt, rfl⟩ := List.getElem?_eq_some_iff.1 hj
 have hj0 : j = 0 := by simpa using hlt
 subst hj0
 refine ⟨[.int .u8 x], rfl, rfl, fun i u hu => ?_⟩
 obtain ⟨hi, rfl⟩ := List.getElem?_eq_some_iff.1 hu
 have hi0 : i = 0 := by simpa using hi
 subst hi0
 simp [World.cell?, Addr.add, h']
set_option maxHeartbeats 2000000 in
set_option maxRecDepth 100000 in
theorem satchellaw08_sample.calls  (r : List (S31)) (w : World) (h : satchellaw08_sample.f  = some r) :
  Calls Try.prog 35 #[] w fun e w' => ∃ v0_ : Value, e = .returned (v0_) ∧ Kd.N k31 31 w' w.heap.size (fun k_ => (w.heap.size ≤ k_)) v0_ r ∧ Below w.heap.size w w' := by
 obtain rfl := Option.some.inj h
 clear h
 have hu31 := Try.underlying31
 obtain ⟨w1, hw1⟩ : ∃ w1, (w.alloc (.cells #[.int .u8 120] 5)).freeze ⟨w.heap.size, 1, none⟩ 1 = w1 := ⟨_, rfl⟩
 have hcv := cv_lit w.heap.size 1 1 #[.int .u8 120] 5 (0, 0) (w.alloc (.cells #[.int .u8 120] 5)) (heap_alloc_new w _)
 replace hcv : (convert 29 29 (.slice (some ⟨w.heap.size, 0, none⟩) 1 1)).run Try.prog (w.alloc (.cells #[.int .u8 120] 5)) = .ok (.slice (some ⟨w.heap.size, 0, none⟩) 1 1) w1 := by rw [← hw1]; exact hcv
 have HB := Aside0.mk (show Below w.heap.size w w1 by rw [← hw1]; exact freeze_below ((Below.refl _ w).alloc (Nat.le_refl _) _) _ _ (Nat.le_refl _))
 have HF := Aside0.mk (show Kd.F (Kd.int .u8) w1 (fun k => w.heap.size ≤ k) (some ⟨w.heap.size, 0, none⟩) ([120] : List Int).length [120] from by
  refine one_byte w1 w.heap.size 120 5 (1, 2) _ (Nat.le_refl _) ?_
  rw [← hw1]
  unfold World.freeze
  rw [if_neg (by decide)]
  simp only [Array.getElem?_modify, heap_alloc_new]
  rfl)
 clear hw1
 go_enter Try.func35, Try.ntmps35
 go_wp2_with ((with_reducible refine gate_dst (N := 6) rfl ?_); refine Kd.N_lit k31 _ 31 ?hg (N' := 6) ?hd (xs := sampleTree) (inner := [.string (⟨#[97]⟩ : ByteArray), .int .i64 1, .int .i64 493, .slice none 0 0, .string (⟨#[]⟩ : ByteArray), .string (⟨#[97, 47, 98]⟩ : ByteArray), .int .i64 2, .int .i64 420, .slice (some ⟨w.heap.size, 0, none⟩) 1 1, .string (⟨#[]⟩ : ByteArray), .string (⟨#[99]⟩ : ByteArray), .int .i64 3, .int .i64 0, .slice none 0 0, .string (⟨#[97, 47, 98]⟩ : ByteArray)]) (ok := (fun k_ => (w.heap.size ≤ k_))) (okp := (fun k_ => (w.heap.size ≤ k_))) ?hr ?hp (fun _ hk => hk) (HB.out.size) (Below.refl _ _) (Nat.le_refl _) (by simp [sampleTree]) ?_; (case hd => rfl); (case hg => rfl); (case hr => first | (go_simp; done) | (go_simp; rfl)); (case hp => exact (Reps.c5 (show Kd.FK k31 _ _ (⟨(⟨#[97]⟩ : ByteArray), 1, 493, ([] : List Int), (⟨#[]⟩ : ByteArray)⟩ : S31) _ from (k31_mkF _ _ (⟨(⟨#[97]⟩ : ByteArray), 1, 493, ([] : List Int), (⟨#[]⟩ : ByteArray)⟩ : S31) (Nat.le_refl _) (Kd.F_nil _ _ _))) (Reps.c5 (show Kd.FK k31 _ _ (⟨(⟨#[97, 47, 98]⟩ : ByteArray), 2, 420, ([120] : List Int), (⟨#[]⟩ : ByteArray)⟩ : S31) _ from (k31_mkF _ _ (⟨(⟨#[97, 47, 98]⟩ : ByteArray), 2, 420, ([120] : List Int), (⟨#[]⟩ : ByteArray)⟩ : S31) (Nat.le_refl _) HF.out)) (Reps.c5 (show Kd.FK k31 _ _ (⟨(⟨#[99]⟩ : ByteArray), 3, 0, ([] : List Int), (⟨#[97, 47, 98]⟩ : ByteArray)⟩ : S31) _ from (k31_mkF _ _ (⟨(⟨#[99]⟩ : ByteArray), 3, 0, ([] : List Int), (⟨#[97, 47, 98]⟩ : ByteArray)⟩ : S31) (Nat.le_refl _) (Kd.F_nil _ _ _))) (Reps.none _ _))))); intro v148 w4 ho5 hb hg_ hnew_; clear hg_ hnew_; have n0_ := Aside0.mk (Kd.N_lower ho5 HB.out.size); have n1_ := Aside0.mk (below_step HB.out hb); clear HB hb ho5)
 go_ret
 exact ⟨_, rfl, n0_.out, n1_.out⟩

end Go.Proofs.Ytopkmchkfcjjmaa.X
end

/-! ## Satchellaw08Fails -/
section
namespace Go.Proofs.Ytopkmchkfcjjmaa.X
open Go.RowKit Go.Proofs.YtopkmchkfcjjmaaW.PrintWords Go.Proofs.YtopkmchkfcjjmaaW.PrintLast Go.Proofs.YtopkmchkfcjjmaaW.PrintMore
attribute [local go_sem] max2_int min2_int max_two min_two max_three min_three max_four min_four   -- for this text's walks alone
set_option linter.unusedVariables false
set_option linter.unusedSimpArgs false

attribute [local go_sem] str_gtr fld_fault0 fld_fault1
/-! ### satchellaw08_fails: function 36 -/
def satchellaw08_fails.f (k : Nat) (l0 : List (S31)) (a1 : Int) (a2 : Int) : Option (Bool) := (tree_Check.f k l0).bind fun bt136 => (if bt136.1 = a1 then (some (bt136.2 == a2)) else (some false))
theorem satchellaw08_fails.mono : ∀ a0 a1 a2 k, LeO (satchellaw08_fails.f k a0 a1 a2) (satchellaw08_fails.f (k + 1) a0 a1 a2) := by
 intro a0 a1 a2 k
 unfold satchellaw08_fails.f
 repeat' first
   | (with_reducible exact tree_Check.mono _ _)
   | (with_reducible exact LeO.refl _)
   | (with_reducible exact LeO.none _)
   | (with_reducible refine LeO.ite ?_ ?_)
   | (with_reducible refine LeO.bind ?_ (fun _ => ?_))
   | exact tree_Check.mono _ _
   | exact LeO.none _
   | refine LeO.ite ?_ ?_
   | refine LeO.bind ?_ (fun _ => ?_)
set_option maxHeartbeats 8000000 in
set_option maxRecDepth 100000 in
theorem satchellaw08_fails.calls (k : Nat) (A0 : Option Addr) (c0 : Nat) (l0 : List (S31)) (a1 : Int) (a2 : Int) (r : Bool) (w : World) (hr0 : Kd.C k31 w A0 l0.length l0) (hc0 : l0.length ≤ c0) (h : satchellaw08_fails.f k l0 a1 a2 = some r) :
  Calls Try.prog 36 #[.slice A0 l0.length c0, .int .i64 a1, .int .i64 a2] w fun e w' => e = .returned (.bool r) ∧ Below w.heap.size w w' := by
 have HR0 := Aside0.mk hr0
 have HC0 := Aside0.mk hc0
 clear hr0 hc0
 have HB := Aside0.mk (Below.refl w.heap.size w)
 have H : ((tree_Check.f k l0).bind fun bt136 => (if bt136.1 = a1 then (some (bt136.2 == a2)) else (some false))) = some r := h
 clear h
 replace H := Option.bind_eq_some_iff.mp H
 obtain ⟨⟨t136, t137⟩, A40, H⟩ := H
 replace H : (if t136 = a1 then (some (t137 == a2)) else (some false)) = some r := H
 have A4 := Aside0.mk A40
 clear A40
 by_cases c5 : t136 = a1
 ·rw [if_pos c5] at H
  have c5b0 : (t136 == a1) = true := beq_iff_eq.mpr c5
  have c5b1 : (t136 != a1) = false := bne_eq_false_iff_eq.mpr c5
  clear c5
  obtain rfl := Option.some.inj H
  go_enter Try.func36, Try.ntmps36
  go_wp2_with (first | ((with_reducible refine gate_callee (f := 11) rfl ?_); refine goesL_ (some 11) rfl rfl Try.func11 (by kernel_rfl) rfl #[.slice A0 l0.length c0] rfl (by (try simp only [List.map_toArray, List.map_cons, List.map_nil]); first | done | rfl | (simp only [List.length_drop, List.length_take]; rfl)) ?_; (with_reducible refine (tree_Check.calls k _ _ l0 t136 t137 _ ?side1 ?side2 A4.out).mono ?_); (case side1 => repeat (first | exact HR0.out | (with_reducible refine Kd.C_alloc ?_ _) | (with_reducible refine Kd.C_drewN ?_ _) | (with_reducible refine Kd.C_drew ?_))); (case side2 => exact HC0.out); rintro e w6 ⟨rfl, hb⟩; refine ⟨_, rfl, ?_⟩; have n0_ := Aside0.mk (below_step (by repeat (first | (with_reducible first | exact HB.out | apply below_alloc | apply pw_below_drewN | apply below_drew1) | exact HB.out)) hb); clear HB; have HB := n0_; clear n0_; (try clear hb); (try clear hb2); (try clear hk); (try clear hi)))
  go_ret
  exact ⟨by first | rfl | (simp [errW_none, errW_some] <;> rfl) | (simp [*, errW_none, errW_some] <;> rfl) | (simp [bt, *]; done) | (simp_all [bt]; done), by repeat (first | (with_reducible first | exact HB.out | apply below_alloc | apply pw_below_drewN | apply below_drew1) | exact HB.out)⟩
 ·rw [if_neg c5] at H
  have c5b0 : (t136 == a1) = false := beq_eq_false_iff_ne.mpr c5
  have c5b1 : (t136 != a1) = true := bne_iff_ne.mpr c5
  obtain rfl := Option.some.inj H
  go_enter Try.func36, Try.ntmps36
  go_wp2_with (first | ((with_reducible refine gate_callee (f := 11) rfl ?_); refine goesL_ (some 11) rfl rfl Try.func11 (by kernel_rfl) rfl #[.slice A0 l0.length c0] rfl (by (try simp only [List.map_toArray, List.map_cons, List.map_nil]); first | done | rfl | (simp only [List.length_drop, List.length_take]; rfl)) ?_; (with_reducible refine (tree_Check.calls k _ _ l0 t136 t137 _ ?side1 ?side2 A4.out).mono ?_); (case side1 => repeat (first | exact HR0.out | (with_reducible refine Kd.C_alloc ?_ _) | (with_reducible refine Kd.C_drewN ?_ _) | (with_reducible refine Kd.C_drew ?_))); (case side2 => exact HC0.out); rintro e w7 ⟨rfl, hb⟩; refine ⟨_, rfl, ?_⟩; have n0_ := Aside0.mk (below_step (by repeat (first | (with_reducible first | exact HB.out | apply below_alloc | apply pw_below_drewN | apply below_drew1) | exact HB.out)) hb); clear HB; have HB := n0_; clear n0_; (try clear hb); (try clear hb2); (try clear hk); (try clear hi)))
  go_ret
  exact ⟨by first | rfl | (simp [errW_none, errW_some] <;> rfl) | (simp [*, errW_none, errW_some] <;> rfl) | (simp [bt, *]; done) | (simp_all [bt]; done), by repeat (first | (with_reducible first | exact HB.out | apply below_alloc | apply pw_below_drewN | apply below_drew1) | exact HB.out)⟩

end Go.Proofs.Ytopkmchkfcjjmaa.X
end

/-! ## Satchellaw08Awake -/
section
namespace Go.Proofs.Ytopkmchkfcjjmaa.X
open Go.RowKit Go.Proofs.YtopkmchkfcjjmaaW.PrintWords Go.Proofs.YtopkmchkfcjjmaaW.PrintLast Go.Proofs.YtopkmchkfcjjmaaW.PrintMore
attribute [local go_sem] max2_int min2_int max_two min_two max_three min_three max_four min_four   -- for this text's walks alone
set_option linter.unusedVariables false
set_option linter.unusedSimpArgs false

attribute [local go_sem] str_gtr fld_fault0 fld_fault1
/-! ### satchellaw08_awake: function 10 -/
def satchellaw08_awake.f (k : Nat)  : Option (Bool) := (satchellaw08_sample.f).bind fun t138 => ((tree_Drop.f k t138 (⟨#[97]⟩ : ByteArray)).bind fun bt141 => ((satchellaw08_sample.f).bind fun t145 => ((satchellaw08_fails.f k t145 0 0).bind fun t148 => (if t148 = true then ((satchellaw08_sample.f).bind fun t149 => (if 1 ≤ (t149.length : Int) then ((satchellaw08_fails.f k (t149.drop 1) 6 0).bind fun t157 => (if t157 = true then (if bt141.2 = 0 then ((satchellaw08_sample.f).bind fun t158 => (if 2 ≤ (t158.length : Int) then ((satchelkit_SameTree.f bt141.1 (t158.drop 2)).bind fun t166 => (some t166)) else (none))) else (some false)) else (some false))) else (none))) else (some false)))))
theorem satchellaw08_awake.mono : ∀ k, LeO (satchellaw08_awake.f k ) (satchellaw08_awake.f (k + 1) ) := by
 intro  k
 unfold satchellaw08_awake.f
 repeat' first
   | (with_reducible exact satchellaw08_fails.mono _ _ _ _)
   | (with_reducible exact tree_Drop.mono _ _ _)
   | (with_reducible exact LeO.refl _)
   | (with_reducible exact LeO.none _)
   | (with_reducible refine LeO.ite ?_ ?_)
   | (with_reducible refine LeO.bind ?_ (fun _ => ?_))
   | exact satchellaw08_fails.mono _ _ _ _
   | exact tree_Drop.mono _ _ _
   | exact LeO.none _
   | refine LeO.ite ?_ ?_
   | refine LeO.bind ?_ (fun _ => ?_)
set_option maxHeartbeats 8000000 in
set_option maxRecDepth 100000 in
theorem satchellaw08_awake.calls (k : Nat)  (r : Bool) (w : World) (h : satchellaw08_awake.f k  = some r) :
  Calls Try.prog 10 #[] w fun e w' => e = .returned (.bool r) ∧ Below w.heap.size w w' := by
 have HB := Aside0.mk (Below.refl w.heap.size w)
 have H : ((satchellaw08_sample.f).bind fun t138 => ((tree_Drop.f k t138 (⟨#[97]⟩ : ByteArray)).bind fun bt141 => ((satchellaw08_sample.f).bind fun t145 => ((satchellaw08_fails.f k t145 0 0).bind fun t148 => (if t148 = true then ((satchellaw08_sample.f).bind fun t149 => (if 1 ≤ (t149.length : Int) then ((satchellaw08_fails.f k (t149.drop 1) 6 0).bind fun t157 => (if t157 = true then (if bt141.2 = 0 then ((satchellaw08_sample.f).bind fun t158 => (if 2 ≤ (t158.length : Int) then ((satchelkit_SameTree.f bt141.1 (t158.drop 2)).bind fun t166 => (some t166)) else (none))) else (some false)) else (some false))) else (none))) else (some false)))))) = some r := h
 clear h
 replace H := Option.bind_eq_some_iff.mp H
 obtain ⟨t138, A10, H⟩ := H
 replace H : ((tree_Drop.f k t138 (⟨#[97]⟩ : ByteArray)).bind fun bt141 => ((satchellaw08_sample.f).bind fun t145 => ((satchellaw08_fails.f k t145 0 0).bind fun t148 => (if t148 = true then ((satchellaw08_sample.f).bind fun t149 => (if 1 ≤ (t149.length : Int) then ((satchellaw08_fails.f k (t149.drop 1) 6 0).bind fun t157 => (if t157 = true then (if bt141.2 = 0 then ((satchellaw08_sample.f).bind fun t158 => (if 2 ≤ (t158.length : Int) then ((satchelkit_SameTree.f bt141.1 (t158.drop 2)).bind fun t166 => (some t166)) else (none))) else (some false)) else (some false))) else (none))) else (some false))))) = some r := H
 have A1 := Aside0.mk A10
 clear A10
 replace H := Option.bind_eq_some_iff.mp H
 obtain ⟨⟨t141, t142⟩, A20, H⟩ := H
 replace H : ((satchellaw08_sample.f).bind fun t145 => ((satchellaw08_fails.f k t145 0 0).bind fun t148 => (if t148 = true then ((satchellaw08_sample.f).bind fun t149 => (if 1 ≤ (t149.length : Int) then ((satchellaw08_fails.f k (t149.drop 1) 6 0).bind fun t157 => (if t157 = true then (if t142 = 0 then ((satchellaw08_sample.f).bind fun t158 => (if 2 ≤ (t158.length : Int) then ((satchelkit_SameTree.f t141 (t158.drop 2)).bind fun t166 => (some t166)) else (none))) else (some false)) else (some false))) else (none))) else (some false)))) = some r := H
 have A2 := Aside0.mk A20
 clear A20
 replace H := Option.bind_eq_some_iff.mp H
 obtain ⟨t145, A30, H⟩ := H
 replace H : ((satchellaw08_fails.f k t145 0 0).bind fun t148 => (if t148 = true then ((satchellaw08_sample.f).bind fun t149 => (if 1 ≤ (t149.length : Int) then ((satchellaw08_fails.f k (t149.drop 1) 6 0).bind fun t157 => (if t157 = true then (if t142 = 0 then ((satchellaw08_sample.f).bind fun t158 => (if 2 ≤ (t158.length : Int) then ((satchelkit_SameTree.f t141 (t158.drop 2)).bind fun t166 => (some t166)) else (none))) else (some false)) else (some false))) else (none))) else (some false))) = some r := H
 have A3 := Aside0.mk A30
 clear A30
 replace H := Option.bind_eq_some_iff.mp H
 obtain ⟨t148, A40, H⟩ := H
 replace H : (if t148 = true then ((satchellaw08_sample.f).bind fun t149 => (if 1 ≤ (t149.length : Int) then ((satchellaw08_fails.f k (t149.drop 1) 6 0).bind fun t157 => (if t157 = true then (if t142 = 0 then ((satchellaw08_sample.f).bind fun t158 => (if 2 ≤ (t158.length : Int) then ((satchelkit_SameTree.f t141 (t158.drop 2)).bind fun t166 => (some t166)) else (none))) else (some false)) else (some false))) else (none))) else (some false)) = some r := H
 have A4 := Aside0.mk A40
 clear A40
 by_cases c5 : t148 = true
 ·subst c5
  have H1 : ((satchellaw08_sample.f).bind fun t149 => (if 1 ≤ (t149.length : Int) then ((satchellaw08_fails.f k (t149.drop 1) 6 0).bind fun t157 => (if t157 = true then (if t142 = 0 then ((satchellaw08_sample.f).bind fun t158 => (if 2 ≤ (t158.length : Int) then ((satchelkit_SameTree.f t141 (t158.drop 2)).bind fun t166 => (some t166)) else (none))) else (some false)) else (some false))) else (none))) = some r := by rw [if_pos rfl] at H; exact H
  clear H
  have H := H1
  clear H1
  replace H := Option.bind_eq_some_iff.mp H
  obtain ⟨t149, A60, H⟩ := H
  replace H : (if 1 ≤ (t149.length : Int) then ((satchellaw08_fails.f k (t149.drop 1) 6 0).bind fun t157 => (if t157 = true then (if t142 = 0 then ((satchellaw08_sample.f).bind fun t158 => (if 2 ≤ (t158.length : Int) then ((satchelkit_SameTree.f t141 (t158.drop 2)).bind fun t166 => (some t166)) else (none))) else (some false)) else (some false))) else (none)) = some r := H
  have A6 := Aside0.mk A60
  clear A60
  by_cases c7 : 1 ≤ (t149.length : Int)
  ·rw [if_pos c7] at H
   have c7b0 := eq_true c7
   have c7b1 : decide (1 ≤ (t149.length : Int)) = true := decide_eq_true c7
   clear c7
   obtain ⟨y152, hy152⟩ : ∃ y_ : List (S31), y_ = (t149.drop 1) := ⟨_, rfl⟩
   replace H : ((satchellaw08_fails.f k y152 6 0).bind fun t157 => (if t157 = true then (if t142 = 0 then ((satchellaw08_sample.f).bind fun t158 => (if 2 ≤ (t158.length : Int) then ((satchelkit_SameTree.f t141 (t158.drop 2)).bind fun t166 => (some t166)) else (none))) else (some false)) else (some false))) = some r := by first | (rw [hy152]; with_reducible exact H) | (have H2_ := (Option.bind_some _ _).symm.trans H; rw [hy152]; with_reducible exact H2_) | (have H2_ := (Option.bind_some _ _).symm.trans H; with_reducible exact H2_) | with_reducible exact H | (rw [hy152]; exact H) | exact H
   have Ny152 := Aside0.mk hy152
   clear hy152
   replace H := Option.bind_eq_some_iff.mp H
   obtain ⟨t157, A80, H⟩ := H
   replace H : (if t157 = true then (if t142 = 0 then ((satchellaw08_sample.f).bind fun t158 => (if 2 ≤ (t158.length : Int) then ((satchelkit_SameTree.f t141 (t158.drop 2)).bind fun t166 => (some t166)) else (none))) else (some false)) else (some false)) = some r := H
   have A8 := Aside0.mk A80
   clear A80
   by_cases c9 : t157 = true
   ·subst c9
    have H1 : (if t142 = 0 then ((satchellaw08_sample.f).bind fun t158 => (if 2 ≤ (t158.length : Int) then ((satchelkit_SameTree.f t141 (t158.drop 2)).bind fun t166 => (some t166)) else (none))) else (some false)) = some r := by rw [if_pos rfl] at H; exact H
    clear H
    have H := H1
    clear H1
    by_cases c10 : t142 = 0
    ·rw [if_pos c10] at H
     have c10b0 : (t142 == 0) = true := beq_iff_eq.mpr c10
     have c10b1 : (t142 != 0) = false := bne_eq_false_iff_eq.mpr c10
     clear c10
     replace H := Option.bind_eq_some_iff.mp H
     obtain ⟨t158, A110, H⟩ := H
     replace H : (if 2 ≤ (t158.length : Int) then ((satchelkit_SameTree.f t141 (t158.drop 2)).bind fun t166 => (some t166)) else (none)) = some r := H
     have A11 := Aside0.mk A110
     clear A110
     by_cases c12 : 2 ≤ (t158.length : Int)
     ·rw [if_pos c12] at H
      have c12b0 := eq_true c12
      have c12b1 : decide (2 ≤ (t158.length : Int)) = true := decide_eq_true c12
      clear c12
      obtain ⟨y161, hy161⟩ : ∃ y_ : List (S31), y_ = (t158.drop 2) := ⟨_, rfl⟩
      replace H : ((satchelkit_SameTree.f t141 y161).bind fun t166 => (some t166)) = some r := by first | (rw [hy161]; with_reducible exact H) | (have H2_ := (Option.bind_some _ _).symm.trans H; rw [hy161]; with_reducible exact H2_) | (have H2_ := (Option.bind_some _ _).symm.trans H; with_reducible exact H2_) | with_reducible exact H | (rw [hy161]; exact H) | exact H
      have Ny161 := Aside0.mk hy161
      clear hy161
      replace H := Option.bind_eq_some_iff.mp H
      obtain ⟨t166, A130, H⟩ := H
      replace H : (some t166) = some r := H
      have A13 := Aside0.mk A130
      clear A130
      obtain rfl := Option.some.inj H
      go_enter Try.func10, Try.ntmps10
      go_wp2_with (first | ((with_reducible refine gate_callee (f := 35) rfl ?_); refine goesL_ (some 4) rfl rfl Try.func35 (by kernel_rfl) rfl #[] rfl (by (try simp only [List.map_toArray, List.map_cons, List.map_nil]); first | done | rfl | (simp only [List.length_drop, List.length_take]; rfl)) ?_; (with_reducible refine (satchellaw08_sample.calls  t138 _ A1.out).mono ?_); rintro e w14 ⟨v139, rfl, ho0, hb⟩; clear A1; refine ⟨_, rfl, ?_⟩; have n0_ := Aside0.mk (Kd.N_lower (Kd.N_mono (ok' := fun k_ => True) ho0 (fun k_ hk_ => trivial)) (below_size (by repeat (first | (with_reducible first | exact HB.out | apply below_alloc | apply pw_below_drewN | apply below_drew1) | exact HB.out)))); have n1_ := Aside0.mk (below_step (by repeat (first | (with_reducible first | exact HB.out | apply below_alloc | apply pw_below_drewN | apply below_drew1) | exact HB.out)) hb); clear HB; have HO140 := n0_; have HB := n1_; clear n0_ n1_; (try clear hb); (try clear hb2); (try clear hk); (try clear hi); (try clear ho0); obtain ⟨Ao15, co15, eo15⟩ := Kd.N_slice HO140.out; subst eo15) | ((with_reducible refine gate_callee (f := 32) rfl ?_); refine goesL_ (some 5) rfl rfl Try.func32 (by kernel_rfl) rfl #[.slice Ao15 t138.length co15, .string (⟨#[97]⟩ : ByteArray)] rfl (by (try simp only [List.map_toArray, List.map_cons, List.map_nil]); first | done | rfl | (simp only [List.length_drop, List.length_take]; rfl)) ?_; (with_reducible refine (tree_Drop.calls k _ _ t138 (⟨#[97]⟩ : ByteArray) t141 t142 _ ?side1 ?side2 A2.out).mono ?_); (case side1 => repeat (first | exact (Kd.N_reads' HO140.out).2.2 | (with_reducible refine Kd.C_alloc ?_ _) | (with_reducible refine Kd.C_drewN ?_ _) | (with_reducible refine Kd.C_drew ?_))); (case side2 => exact (Kd.N_reads' HO140.out).2.1); rintro e w16 ⟨v143, rfl, ho0, hb⟩; refine ⟨_, rfl, ?_⟩; have n0_ := Aside0.mk (Kd.N_elder' (by (with_reducible repeat (first | apply Kd.N_alloc | apply Kd.N_drewN | apply Kd.N_drew)); exact HO140.out) (by first | exact Kd.N_base ho0 | exact Kd.S_base ho0) hb); have n1_ := Aside0.mk (Kd.N_lower (Kd.N_mono (ok' := fun k_ => some k_ ≠ (.slice Ao15 t138.length co15 : Value).ownBlock) (Kd.S_N (Kd.S_bound ho0)) (fun k_ hk_ => (Kd.fresh' (Kd.N_lt (by (with_reducible repeat (first | apply Kd.N_alloc | apply Kd.N_drewN | apply Kd.N_drew)); exact HO140.out)) k_ hk_.2.1))) (below_size (by repeat (first | (with_reducible first | exact HB.out | apply below_alloc | apply pw_below_drewN | apply below_drew1) | exact HB.out)))); have n2_ := Aside0.mk (below_step (by repeat (first | (with_reducible first | exact HB.out | apply below_alloc | apply pw_below_drewN | apply below_drew1) | exact HB.out)) hb); clear HO140; clear HB; have HO140 := n0_; have HO144 := n1_; have HB := n2_; clear n0_ n1_ n2_; (try clear hb); (try clear hb2); (try clear hk); (try clear hi); (try clear ho0)) | ((with_reducible refine gate_callee (f := 35) rfl ?_); refine goesL_ (some 8) rfl rfl Try.func35 (by kernel_rfl) rfl #[] rfl (by (try simp only [List.map_toArray, List.map_cons, List.map_nil]); first | done | rfl | (simp only [List.length_drop, List.length_take]; rfl)) ?_; (with_reducible refine (satchellaw08_sample.calls  t145 _ A3.out).mono ?_); rintro e w17 ⟨v146, rfl, ho0, hb⟩; clear A3; refine ⟨_, rfl, ?_⟩; have n0_ := Aside0.mk (Kd.N_elder' (by (with_reducible repeat (first | apply Kd.N_alloc | apply Kd.N_drewN | apply Kd.N_drew)); exact HO140.out) (by first | exact Kd.N_base ho0 | exact Kd.S_base ho0) hb); have n1_ := Aside0.mk (Kd.N_elder' (by (with_reducible repeat (first | apply Kd.N_alloc | apply Kd.N_drewN | apply Kd.N_drew)); exact HO144.out) (by first | exact Kd.N_base ho0 | exact Kd.S_base ho0) hb); have n2_ := Aside0.mk (Kd.N_lower (Kd.N_mono (ok' := fun k_ => some k_ ≠ (.slice Ao15 t138.length co15 : Value).ownBlock ∧ some k_ ≠ (v143 : Value).ownBlock) ho0 (fun k_ hk_ => ⟨(Kd.fresh' (Kd.N_lt (by (with_reducible repeat (first | apply Kd.N_alloc | apply Kd.N_drewN | apply Kd.N_drew)); exact HO140.out)) k_ hk_), (Kd.fresh' (Kd.N_lt (by (with_reducible repeat (first | apply Kd.N_alloc | apply Kd.N_drewN | apply Kd.N_drew)); exact HO144.out)) k_ hk_)⟩)) (below_size (by repeat (first | (with_reducible first | exact HB.out | apply below_alloc | apply pw_below_drewN | apply below_drew1) | exact HB.out)))); have n3_ := Aside0.mk (below_step (by repeat (first | (with_reducible first | exact HB.out | apply below_alloc | apply pw_below_drewN | apply below_drew1) | exact HB.out)) hb); clear HO140; clear HO144; clear HB; have HO140 := n0_; have HO144 := n1_; have HO147 := n2_; have HB := n3_; clear n0_ n1_ n2_ n3_; (try clear hb); (try clear hb2); (try clear hk); (try clear hi); (try clear ho0); obtain ⟨Ao18, co18, eo18⟩ := Kd.N_slice HO147.out; subst eo18) | ((with_reducible refine gate_callee (f := 36) rfl ?_); refine goesL_ (some 9) rfl rfl Try.func36 (by kernel_rfl) rfl #[.slice Ao18 t145.length co18, .int .i64 0, .int .i64 0] rfl (by (try simp only [List.map_toArray, List.map_cons, List.map_nil]); first | done | rfl | (simp only [List.length_drop, List.length_take]; rfl)) ?_; (with_reducible refine (satchellaw08_fails.calls k _ _ t145 0 0 true _ ?side1 ?side2 A4.out).mono ?_); (case side1 => repeat (first | exact (Kd.N_reads' HO147.out).2.2 | (with_reducible refine Kd.C_alloc ?_ _) | (with_reducible refine Kd.C_drewN ?_ _) | (with_reducible refine Kd.C_drew ?_))); (case side2 => exact (Kd.N_reads' HO147.out).2.1); rintro e w19 ⟨rfl, hb⟩; refine ⟨_, rfl, ?_⟩; have n0_ := Aside0.mk (Kd.N_below (by (with_reducible repeat (first | apply Kd.N_alloc | apply Kd.N_drewN | apply Kd.N_drew)); exact HO140.out) hb); have n1_ := Aside0.mk (Kd.N_below (by (with_reducible repeat (first | apply Kd.N_alloc | apply Kd.N_drewN | apply Kd.N_drew)); exact HO144.out) hb); have n2_ := Aside0.mk (Kd.N_below (by (with_reducible repeat (first | apply Kd.N_alloc | apply Kd.N_drewN | apply Kd.N_drew)); exact HO147.out) hb); have n3_ := Aside0.mk (below_step (by repeat (first | (with_reducible first | exact HB.out | apply below_alloc | apply pw_below_drewN | apply below_drew1) | exact HB.out)) hb); clear HO140; clear HO144; clear HO147; clear HB; have HO140 := n0_; have HO144 := n1_; have HO147 := n2_; have HB := n3_; clear n0_ n1_ n2_ n3_; (try clear hb); (try clear hb2); (try clear hk); (try clear hi)) | (go_at_call 35; (with_reducible refine (satchellaw08_sample.calls  t149 _ A6.out).mono ?_); rintro e w20 ⟨v150, rfl, ho0, hb⟩; clear A6; have n0_ := Aside0.mk (Kd.N_elder' (by (with_reducible repeat (first | apply Kd.N_alloc | apply Kd.N_drewN | apply Kd.N_drew)); exact HO140.out) (by first | exact Kd.N_base ho0 | exact Kd.S_base ho0) hb); have n1_ := Aside0.mk (Kd.N_elder' (by (with_reducible repeat (first | apply Kd.N_alloc | apply Kd.N_drewN | apply Kd.N_drew)); exact HO144.out) (by first | exact Kd.N_base ho0 | exact Kd.S_base ho0) hb); have n2_ := Aside0.mk (Kd.N_elder' (by (with_reducible repeat (first | apply Kd.N_alloc | apply Kd.N_drewN | apply Kd.N_drew)); exact HO147.out) (by first | exact Kd.N_base ho0 | exact Kd.S_base ho0) hb); have n3_ := Aside0.mk (Kd.N_lower (Kd.N_mono (ok' := fun k_ => some k_ ≠ (.slice Ao15 t138.length co15 : Value).ownBlock ∧ some k_ ≠ (v143 : Value).ownBlock ∧ some k_ ≠ (.slice Ao18 t145.length co18 : Value).ownBlock) ho0 (fun k_ hk_ => ⟨(Kd.fresh' (Kd.N_lt (by (with_reducible repeat (first | apply Kd.N_alloc | apply Kd.N_drewN | apply Kd.N_drew)); exact HO140.out)) k_ hk_), (Kd.fresh' (Kd.N_lt (by (with_reducible repeat (first | apply Kd.N_alloc | apply Kd.N_drewN | apply Kd.N_drew)); exact HO144.out)) k_ hk_), (Kd.fresh' (Kd.N_lt (by (with_reducible repeat (first | apply Kd.N_alloc | apply Kd.N_drewN | apply Kd.N_drew)); exact HO147.out)) k_ hk_)⟩)) (below_size (by repeat (first | (with_reducible first | exact HB.out | apply below_alloc | apply pw_below_drewN | apply below_drew1) | exact HB.out)))); have n4_ := Aside0.mk (below_step (by repeat (first | (with_reducible first | exact HB.out | apply below_alloc | apply pw_below_drewN | apply below_drew1) | exact HB.out)) hb); clear HO140; clear HO144; clear HO147; clear HB; have HO140 := n0_; have HO144 := n1_; have HO147 := n2_; have HO151 := n3_; have HB := n4_; clear n0_ n1_ n2_ n3_ n4_; (try clear hb); (try clear hb2); (try clear hk); (try clear hi); (try clear ho0); obtain ⟨Ao22, co22, eo22⟩ := Kd.N_slice HO151.out; subst eo22; have q21 : (1 : Int) ≤ ((t149.length : Int) : Int) := of_decide_eq_true (by first | (with_reducible assumption) | assumption); obtain ⟨i021, hi021, _, hsz21, _⟩ := info_parts info31; have hroom21 : t149.length ≤ co22 := (Kd.N_reads' HO151.out).2.1; have hC21 : Kd.F k31 _ _ Ao22 t149.length t149 := (Kd.V_at (base := w.heap.size) (Kd.N_V HO151.out)).2.2; have hcut21 := cut_from (P := Try.prog) 22 31 .i64 Try.underlying22 hi021 5 hsz21 Ao22 t149.length co22 1 (by omega) q21; have hr21 := Kd.F_cut (m := (1 : Int).toNat) (c := co22) hC21 (by omega) hroom21; obtain ⟨A21, hA21⟩ : ∃ A1, A1 = (if co22 = (1 : Int).toNat then Ao22 else (Ao22 : Option Addr).map (·.add ((1 : Int).toNat * 5))) := ⟨_, rfl⟩; obtain ⟨c21, hc21⟩ : ∃ c1, c1 = co22 - (1 : Int).toNat := ⟨_, rfl⟩; have hy21 : y152.length = t149.length - (1 : Int).toNat := (by rw [Ny152.out, List.length_drop] <;> omega); rw [show (t149).drop (1 : Int).toNat = y152 from Ny152.out.symm] at hr21; replace hr21 : Kd.F k31 _ _ A21 y152.length y152 := (by rw [hA21]; exact hr21); rw [← hy21, ← hA21, ← hc21] at hcut21; have HO156 := Aside0.mk (show Kd.V k31 31 _ w.heap.size _ (.slice A21 y152.length c21) y152 from Kd.V_mk (by rw [hy21, hc21]; exact Nat.sub_le_sub_right hroom21 _) hr21); have HC156 := Aside0.mk (show y152.length ≤ c21 from by rw [hy21, hc21]; exact Nat.sub_le_sub_right hroom21 _); clear hr21 hC21 hroom21 hi021 hsz21 hc21; have KY21 := Aside0.mk hy21; have KA21 := Aside0.mk hA21; clear hy21 hA21; replace q21 := eq_true q21) | (go_at_call 36; (with_reducible refine (satchellaw08_fails.calls k _ _ y152 6 0 true _ ?side1 ?side2 A8.out).mono ?_); (case side1 => repeat (first | exact (Kd.V_reads' HO156.out).2.2 | (with_reducible refine Kd.C_alloc ?_ _) | (with_reducible refine Kd.C_drewN ?_ _) | (with_reducible refine Kd.C_drew ?_))); (case side2 => exact (Kd.V_reads' HO156.out).2.1); rintro e w23 ⟨rfl, hb⟩; have n0_ := Aside0.mk (Kd.N_below (by (with_reducible repeat (first | apply Kd.N_alloc | apply Kd.N_drewN | apply Kd.N_drew)); exact HO140.out) hb); have n1_ := Aside0.mk (Kd.N_below (by (with_reducible repeat (first | apply Kd.N_alloc | apply Kd.N_drewN | apply Kd.N_drew)); exact HO144.out) hb); have n2_ := Aside0.mk (Kd.N_below (by (with_reducible repeat (first | apply Kd.N_alloc | apply Kd.N_drewN | apply Kd.N_drew)); exact HO147.out) hb); have n3_ := Aside0.mk (Kd.N_below (by (with_reducible repeat (first | apply Kd.N_alloc | apply Kd.N_drewN | apply Kd.N_drew)); exact HO151.out) hb); have n4_ := Aside0.mk (Kd.V_below (by (with_reducible repeat (first | apply Kd.V_alloc | apply Kd.V_drewN | apply Kd.V_drew)); exact HO156.out) hb); have n5_ := Aside0.mk (below_step (by repeat (first | (with_reducible first | exact HB.out | apply below_alloc | apply pw_below_drewN | apply below_drew1) | exact HB.out)) hb); clear HO140; clear HO144; clear HO147; clear HO151; clear HO156; clear HB; have HO140 := n0_; have HO144 := n1_; have HO147 := n2_; have HO151 := n3_; have HO156 := n4_; have HB := n5_; clear n0_ n1_ n2_ n3_ n4_ n5_; (try clear hb); (try clear hb2); (try clear hk); (try clear hi)) | (go_at_call 35; (with_reducible refine (satchellaw08_sample.calls  t158 _ A11.out).mono ?_); rintro e w24 ⟨v159, rfl, ho0, hb⟩; clear A11; have n0_ := Aside0.mk (Kd.N_elder' (by (with_reducible repeat (first | apply Kd.N_alloc | apply Kd.N_drewN | apply Kd.N_drew)); exact HO140.out) (by first | exact Kd.N_base ho0 | exact Kd.S_base ho0) hb); have n1_ := Aside0.mk (Kd.N_elder' (by (with_reducible repeat (first | apply Kd.N_alloc | apply Kd.N_drewN | apply Kd.N_drew)); exact HO144.out) (by first | exact Kd.N_base ho0 | exact Kd.S_base ho0) hb); have n2_ := Aside0.mk (Kd.N_elder' (by (with_reducible repeat (first | apply Kd.N_alloc | apply Kd.N_drewN | apply Kd.N_drew)); exact HO147.out) (by first | exact Kd.N_base ho0 | exact Kd.S_base ho0) hb); have n3_ := Aside0.mk (Kd.N_elder' (by (with_reducible repeat (first | apply Kd.N_alloc | apply Kd.N_drewN | apply Kd.N_drew)); exact HO151.out) (by first | exact Kd.N_base ho0 | exact Kd.S_base ho0) hb); have n4_ := Aside0.mk (Kd.V_elder' (by (with_reducible repeat (first | apply Kd.V_alloc | apply Kd.V_drewN | apply Kd.V_drew)); exact HO156.out) (by first | exact Kd.N_base ho0 | exact Kd.S_base ho0) hb); have n5_ := Aside0.mk (Kd.N_lower (Kd.N_mono (ok' := fun k_ => some k_ ≠ (.slice Ao15 t138.length co15 : Value).ownBlock ∧ some k_ ≠ (v143 : Value).ownBlock ∧ some k_ ≠ (.slice Ao18 t145.length co18 : Value).ownBlock ∧ some k_ ≠ (.slice Ao22 t149.length co22 : Value).ownBlock) ho0 (fun k_ hk_ => ⟨(Kd.fresh' (Kd.N_lt (by (with_reducible repeat (first | apply Kd.N_alloc | apply Kd.N_drewN | apply Kd.N_drew)); exact HO140.out)) k_ hk_), (Kd.fresh' (Kd.N_lt (by (with_reducible repeat (first | apply Kd.N_alloc | apply Kd.N_drewN | apply Kd.N_drew)); exact HO144.out)) k_ hk_), (Kd.fresh' (Kd.N_lt (by (with_reducible repeat (first | apply Kd.N_alloc | apply Kd.N_drewN | apply Kd.N_drew)); exact HO147.out)) k_ hk_), (Kd.fresh' (Kd.N_lt (by (with_reducible repeat (first | apply Kd.N_alloc | apply Kd.N_drewN | apply Kd.N_drew)); exact HO151.out)) k_ hk_)⟩)) (below_size (by repeat (first | (with_reducible first | exact HB.out | apply below_alloc | apply pw_below_drewN | apply below_drew1) | exact HB.out)))); have n6_ := Aside0.mk (below_step (by repeat (first | (with_reducible first | exact HB.out | apply below_alloc | apply pw_below_drewN | apply below_drew1) | exact HB.out)) hb); clear HO140; clear HO144; clear HO147; clear HO151; clear HO156; clear HB; have HO140 := n0_; have HO144 := n1_; have HO147 := n2_; have HO151 := n3_; have HO156 := n4_; have HO160 := n5_; have HB := n6_; clear n0_ n1_ n2_ n3_ n4_ n5_ n6_; (try clear hb); (try clear hb2); (try clear hk); (try clear hi); (try clear ho0); obtain ⟨Ao26, co26, eo26⟩ := Kd.N_slice HO160.out; subst eo26; have q25 : (2 : Int) ≤ ((t158.length : Int) : Int) := of_decide_eq_true (by first | (with_reducible assumption) | assumption); obtain ⟨i025, hi025, _, hsz25, _⟩ := info_parts info31; have hroom25 : t158.length ≤ co26 := (Kd.N_reads' HO160.out).2.1; have hC25 : Kd.F k31 _ _ Ao26 t158.length t158 := (Kd.V_at (base := w.heap.size) (Kd.N_V HO160.out)).2.2; have hcut25 := cut_from (P := Try.prog) 22 31 .i64 Try.underlying22 hi025 5 hsz25 Ao26 t158.length co26 2 (by omega) q25; have hr25 := Kd.F_cut (m := (2 : Int).toNat) (c := co26) hC25 (by omega) hroom25; obtain ⟨A25, hA25⟩ : ∃ A1, A1 = (if co26 = (2 : Int).toNat then Ao26 else (Ao26 : Option Addr).map (·.add ((2 : Int).toNat * 5))) := ⟨_, rfl⟩; obtain ⟨c25, hc25⟩ : ∃ c1, c1 = co26 - (2 : Int).toNat := ⟨_, rfl⟩; have hy25 : y161.length = t158.length - (2 : Int).toNat := (by rw [Ny161.out, List.length_drop] <;> omega); rw [show (t158).drop (2 : Int).toNat = y161 from Ny161.out.symm] at hr25; replace hr25 : Kd.F k31 _ _ A25 y161.length y161 := (by rw [hA25]; exact hr25); rw [← hy25, ← hA25, ← hc25] at hcut25; have HO165 := Aside0.mk (show Kd.V k31 31 _ w.heap.size _ (.slice A25 y161.length c25) y161 from Kd.V_mk (by rw [hy25, hc25]; exact Nat.sub_le_sub_right hroom25 _) hr25); have HC165 := Aside0.mk (show y161.length ≤ c25 from by rw [hy25, hc25]; exact Nat.sub_le_sub_right hroom25 _); clear hr25 hC25 hroom25 hi025 hsz25 hc25; have KY25 := Aside0.mk hy25; have KA25 := Aside0.mk hA25; clear hy25 hA25; replace q25 := eq_true q25; obtain ⟨Ao27, co27, eo27⟩ := Kd.N_slice HO144.out; subst eo27) | (go_at_call 16; (with_reducible refine (satchelkit_SameTree.calls _ _ t141 _ _ y161 t166 _ ?side1 ?side2 ?side3 ?side4 A13.out).mono ?_); (case side1 => repeat (first | exact (Kd.N_reads' HO144.out).2.2 | (with_reducible refine Kd.C_alloc ?_ _) | (with_reducible refine Kd.C_drewN ?_ _) | (with_reducible refine Kd.C_drew ?_))); (case side2 => exact (Kd.N_reads' HO144.out).2.1); (case side3 => repeat (first | exact (Kd.V_reads' HO165.out).2.2 | (with_reducible refine Kd.C_alloc ?_ _) | (with_reducible refine Kd.C_drewN ?_ _) | (with_reducible refine Kd.C_drew ?_))); (case side4 => exact (Kd.V_reads' HO165.out).2.1); rintro e w' ⟨rfl, ⟨nd, rfl⟩⟩))
      go_ret
      exact ⟨by first | rfl | (simp [errW_none, errW_some] <;> rfl) | (simp [*, errW_none, errW_some] <;> rfl) | (simp [bt, *]; done) | (simp_all [bt]; done), by repeat (first | (with_reducible first | exact HB.out | apply below_alloc | apply pw_below_drewN | apply below_drew1) | exact HB.out)⟩
     ·rw [if_neg c12] at H
      exact absurd H (by simp)
    ·rw [if_neg c10] at H
     have c10b0 : (t142 == 0) = false := beq_eq_false_iff_ne.mpr c10
     have c10b1 : (t142 != 0) = true := bne_iff_ne.mpr c10
     obtain rfl := Option.some.inj H
     go_enter Try.func10, Try.ntmps10
     go_wp2_with (first | ((with_reducible refine gate_callee (f := 35) rfl ?_); refine goesL_ (some 4) rfl rfl Try.func35 (by kernel_rfl) rfl #[] rfl (by (try simp only [List.map_toArray, List.map_cons, List.map_nil]); first | done | rfl | (simp only [List.length_drop, List.length_take]; rfl)) ?_; (with_reducible refine (satchellaw08_sample.calls  t138 _ A1.out).mono ?_); rintro e w28 ⟨v139, rfl, ho0, hb⟩; clear A1; refine ⟨_, rfl, ?_⟩; have n0_ := Aside0.mk (Kd.N_lower (Kd.N_mono (ok' := fun k_ => True) ho0 (fun k_ hk_ => trivial)) (below_size (by repeat (first | (with_reducible first | exact HB.out | apply below_alloc | apply pw_below_drewN | apply below_drew1) | exact HB.out)))); have n1_ := Aside0.mk (below_step (by repeat (first | (with_reducible first | exact HB.out | apply below_alloc | apply pw_below_drewN | apply below_drew1) | exact HB.out)) hb); clear HB; have HO140 := n0_; have HB := n1_; clear n0_ n1_; (try clear hb); (try clear hb2); (try clear hk); (try clear hi); (try clear ho0); obtain ⟨Ao29, co29, eo29⟩ := Kd.N_slice HO140.out; subst eo29) | ((with_reducible refine gate_callee (f := 32) rfl ?_); refine goesL_ (some 5) rfl rfl Try.func32 (by kernel_rfl) rfl #[.slice Ao29 t138.length co29, .string (⟨#[97]⟩ : ByteArray)] rfl (by (try simp only [List.map_toArray, List.map_cons, List.map_nil]); first | done | rfl | (simp only [List.length_drop, List.length_take]; rfl)) ?_; (with_reducible refine (tree_Drop.calls k _ _ t138 (⟨#[97]⟩ : ByteArray) t141 t142 _ ?side1 ?side2 A2.out).mono ?_); (case side1 => repeat (first | exact (Kd.N_reads' HO140.out).2.2 | (with_reducible refine Kd.C_alloc ?_ _) | (with_reducible refine Kd.C_drewN ?_ _) | (with_reducible refine Kd.C_drew ?_))); (case side2 => exact (Kd.N_reads' HO140.out).2.1); rintro e w30 ⟨v143, rfl, ho0, hb⟩; refine ⟨_, rfl, ?_⟩; have n0_ := Aside0.mk (Kd.N_elder' (by (with_reducible repeat (first | apply Kd.N_alloc | apply Kd.N_drewN | apply Kd.N_drew)); exact HO140.out) (by first | exact Kd.N_base ho0 | exact Kd.S_base ho0) hb); have n1_ := Aside0.mk (Kd.N_lower (Kd.N_mono (ok' := fun k_ => some k_ ≠ (.slice Ao29 t138.length co29 : Value).ownBlock) (Kd.S_N (Kd.S_bound ho0)) (fun k_ hk_ => (Kd.fresh' (Kd.N_lt (by (with_reducible repeat (first | apply Kd.N_alloc | apply Kd.N_drewN | apply Kd.N_drew)); exact HO140.out)) k_ hk_.2.1))) (below_size (by repeat (first | (with_reducible first | exact HB.out | apply below_alloc | apply pw_below_drewN | apply below_drew1) | exact HB.out)))); have n2_ := Aside0.mk (below_step (by repeat (first | (with_reducible first | exact HB.out | apply below_alloc | apply pw_below_drewN | apply below_drew1) | exact HB.out)) hb); clear HO140; clear HB; have HO140 := n0_; have HO144 := n1_; have HB := n2_; clear n0_ n1_ n2_; (try clear hb); (try clear hb2); (try clear hk); (try clear hi); (try clear ho0)) | ((with_reducible refine gate_callee (f := 35) rfl ?_); refine goesL_ (some 8) rfl rfl Try.func35 (by kernel_rfl) rfl #[] rfl (by (try simp only [List.map_toArray, List.map_cons, List.map_nil]); first | done | rfl | (simp only [List.length_drop, List.length_take]; rfl)) ?_; (with_reducible refine (satchellaw08_sample.calls  t145 _ A3.out).mono ?_); rintro e w31 ⟨v146, rfl, ho0, hb⟩; clear A3; refine ⟨_, rfl, ?_⟩; have n0_ := Aside0.mk (Kd.N_elder' (by (with_reducible repeat (first | apply Kd.N_alloc | apply Kd.N_drewN | apply Kd.N_drew)); exact HO140.out) (by first | exact Kd.N_base ho0 | exact Kd.S_base ho0) hb); have n1_ := Aside0.mk (Kd.N_elder' (by (with_reducible repeat (first | apply Kd.N_alloc | apply Kd.N_drewN | apply Kd.N_drew)); exact HO144.out) (by first | exact Kd.N_base ho0 | exact Kd.S_base ho0) hb); have n2_ := Aside0.mk (Kd.N_lower (Kd.N_mono (ok' := fun k_ => some k_ ≠ (.slice Ao29 t138.length co29 : Value).ownBlock ∧ some k_ ≠ (v143 : Value).ownBlock) ho0 (fun k_ hk_ => ⟨(Kd.fresh' (Kd.N_lt (by (with_reducible repeat (first | apply Kd.N_alloc | apply Kd.N_drewN | apply Kd.N_drew)); exact HO140.out)) k_ hk_), (Kd.fresh' (Kd.N_lt (by (with_reducible repeat (first | apply Kd.N_alloc | apply Kd.N_drewN | apply Kd.N_drew)); exact HO144.out)) k_ hk_)⟩)) (below_size (by repeat (first | (with_reducible first | exact HB.out | apply below_alloc | apply pw_below_drewN | apply below_drew1) | exact HB.out)))); have n3_ := Aside0.mk (below_step (by repeat (first | (with_reducible first | exact HB.out | apply below_alloc | apply pw_below_drewN | apply below_drew1) | exact HB.out)) hb); clear HO140; clear HO144; clear HB; have HO140 := n0_; have HO144 := n1_; have HO147 := n2_; have HB := n3_; clear n0_ n1_ n2_ n3_; (try clear hb); (try clear hb2); (try clear hk); (try clear hi); (try clear ho0); obtain ⟨Ao32, co32, eo32⟩ := Kd.N_slice HO147.out; subst eo32) | ((with_reducible refine gate_callee (f := 36) rfl ?_); refine goesL_ (some 9) rfl rfl Try.func36 (by kernel_rfl) rfl #[.slice Ao32 t145.length co32, .int .i64 0, .int .i64 0] rfl (by (try simp only [List.map_toArray, List.map_cons, List.map_nil]); first | done | rfl | (simp only [List.length_drop, List.length_take]; rfl)) ?_; (with_reducible refine (satchellaw08_fails.calls k _ _ t145 0 0 true _ ?side1 ?side2 A4.out).mono ?_); (case side1 => repeat (first | exact (Kd.N_reads' HO147.out).2.2 | (with_reducible refine Kd.C_alloc ?_ _) | (with_reducible refine Kd.C_drewN ?_ _) | (with_reducible refine Kd.C_drew ?_))); (case side2 => exact (Kd.N_reads' HO147.out).2.1); rintro e w33 ⟨rfl, hb⟩; refine ⟨_, rfl, ?_⟩; have n0_ := Aside0.mk (Kd.N_below (by (with_reducible repeat (first | apply Kd.N_alloc | apply Kd.N_drewN | apply Kd.N_drew)); exact HO140.out) hb); have n1_ := Aside0.mk (Kd.N_below (by (with_reducible repeat (first | apply Kd.N_alloc | apply Kd.N_drewN | apply Kd.N_drew)); exact HO144.out) hb); have n2_ := Aside0.mk (Kd.N_below (by (with_reducible repeat (first | apply Kd.N_alloc | apply Kd.N_drewN | apply Kd.N_drew)); exact HO147.out) hb); have n3_ := Aside0.mk (below_step (by repeat (first | (with_reducible first | exact HB.out | apply below_alloc | apply pw_below_drewN | apply below_drew1) | exact HB.out)) hb); clear HO140; clear HO144; clear HO147; clear HB; have HO140 := n0_; have HO144 := n1_; have HO147 := n2_; have HB := n3_; clear n0_ n1_ n2_ n3_; (try clear hb); (try clear hb2); (try clear hk); (try clear hi)) | (go_at_call 35; (with_reducible refine (satchellaw08_sample.calls  t149 _ A6.out).mono ?_); rintro e w34 ⟨v150, rfl, ho0, hb⟩; clear A6; have n0_ := Aside0.mk (Kd.N_elder' (by (with_reducible repeat (first | apply Kd.N_alloc | apply Kd.N_drewN | apply Kd.N_drew)); exact HO140.out) (by first | exact Kd.N_base ho0 | exact Kd.S_base ho0) hb); have n1_ := Aside0.mk (Kd.N_elder' (by (with_reducible repeat (first | apply Kd.N_alloc | apply Kd.N_drewN | apply Kd.N_drew)); exact HO144.out) (by first | exact Kd.N_base ho0 | exact Kd.S_base ho0) hb); have n2_ := Aside0.mk (Kd.N_elder' (by (with_reducible repeat (first | apply Kd.N_alloc | apply Kd.N_drewN | apply Kd.N_drew)); exact HO147.out) (by first | exact Kd.N_base ho0 | exact Kd.S_base ho0) hb); have n3_ := Aside0.mk (Kd.N_lower (Kd.N_mono (ok' := fun k_ => some k_ ≠ (.slice Ao29 t138.length co29 : Value).ownBlock ∧ some k_ ≠ (v143 : Value).ownBlock ∧ some k_ ≠ (.slice Ao32 t145.length co32 : Value).ownBlock) ho0 (fun k_ hk_ => ⟨(Kd.fresh' (Kd.N_lt (by (with_reducible repeat (first | apply Kd.N_alloc | apply Kd.N_drewN | apply Kd.N_drew)); exact HO140.out)) k_ hk_), (Kd.fresh' (Kd.N_lt (by (with_reducible repeat (first | apply Kd.N_alloc | apply Kd.N_drewN | apply Kd.N_drew)); exact HO144.out)) k_ hk_), (Kd.fresh' (Kd.N_lt (by (with_reducible repeat (first | apply Kd.N_alloc | apply Kd.N_drewN | apply Kd.N_drew)); exact HO147.out)) k_ hk_)⟩)) (below_size (by repeat (first | (with_reducible first | exact HB.out | apply below_alloc | apply pw_below_drewN | apply below_drew1) | exact HB.out)))); have n4_ := Aside0.mk (below_step (by repeat (first | (with_reducible first | exact HB.out | apply below_alloc | apply pw_below_drewN | apply below_drew1) | exact HB.out)) hb); clear HO140; clear HO144; clear HO147; clear HB; have HO140 := n0_; have HO144 := n1_; have HO147 := n2_; have HO151 := n3_; have HB := n4_; clear n0_ n1_ n2_ n3_ n4_; (try clear hb); (try clear hb2); (try clear hk); (try clear hi); (try clear ho0); obtain ⟨Ao36, co36, eo36⟩ := Kd.N_slice HO151.out; subst eo36; have q35 : (1 : Int) ≤ ((t149.length : Int) : Int) := of_decide_eq_true (by first | (with_reducible assumption) | assumption); obtain ⟨i035, hi035, _, hsz35, _⟩ := info_parts info31; have hroom35 : t149.length ≤ co36 := (Kd.N_reads' HO151.out).2.1; have hC35 : Kd.F k31 _ _ Ao36 t149.length t149 := (Kd.V_at (base := w.heap.size) (Kd.N_V HO151.out)).2.2; have hcut35 := cut_from (P := Try.prog) 22 31 .i64 Try.underlying22 hi035 5 hsz35 Ao36 t149.length co36 1 (by omega) q35; have hr35 := Kd.F_cut (m := (1 : Int).toNat) (c := co36) hC35 (by omega) hroom35; obtain ⟨A35, hA35⟩ : ∃ A1, A1 = (if co36 = (1 : Int).toNat then Ao36 else (Ao36 : Option Addr).map (·.add ((1 : Int).toNat * 5))) := ⟨_, rfl⟩; obtain ⟨c35, hc35⟩ : ∃ c1, c1 = co36 - (1 : Int).toNat := ⟨_, rfl⟩; have hy35 : y152.length = t149.length - (1 : Int).toNat := (by rw [Ny152.out, List.length_drop] <;> omega); rw [show (t149).drop (1 : Int).toNat = y152 from Ny152.out.symm] at hr35; replace hr35 : Kd.F k31 _ _ A35 y152.length y152 := (by rw [hA35]; exact hr35); rw [← hy35, ← hA35, ← hc35] at hcut35; have HO156 := Aside0.mk (show Kd.V k31 31 _ w.heap.size _ (.slice A35 y152.length c35) y152 from Kd.V_mk (by rw [hy35, hc35]; exact Nat.sub_le_sub_right hroom35 _) hr35); have HC156 := Aside0.mk (show y152.length ≤ c35 from by rw [hy35, hc35]; exact Nat.sub_le_sub_right hroom35 _); clear hr35 hC35 hroom35 hi035 hsz35 hc35; have KY35 := Aside0.mk hy35; have KA35 := Aside0.mk hA35; clear hy35 hA35; replace q35 := eq_true q35) | (go_at_call 36; (with_reducible refine (satchellaw08_fails.calls k _ _ y152 6 0 true _ ?side1 ?side2 A8.out).mono ?_); (case side1 => repeat (first | exact (Kd.V_reads' HO156.out).2.2 | (with_reducible refine Kd.C_alloc ?_ _) | (with_reducible refine Kd.C_drewN ?_ _) | (with_reducible refine Kd.C_drew ?_))); (case side2 => exact (Kd.V_reads' HO156.out).2.1); rintro e w37 ⟨rfl, hb⟩; have n0_ := Aside0.mk (Kd.N_below (by (with_reducible repeat (first | apply Kd.N_alloc | apply Kd.N_drewN | apply Kd.N_drew)); exact HO140.out) hb); have n1_ := Aside0.mk (Kd.N_below (by (with_reducible repeat (first | apply Kd.N_alloc | apply Kd.N_drewN | apply Kd.N_drew)); exact HO144.out) hb); have n2_ := Aside0.mk (Kd.N_below (by (with_reducible repeat (first | apply Kd.N_alloc | apply Kd.N_drewN | apply Kd.N_drew)); exact HO147.out) hb); have n3_ := Aside0.mk (Kd.N_below (by (with_reducible repeat (first | apply Kd.N_alloc | apply Kd.N_drewN | apply Kd.N_drew)); exact HO151.out) hb); have n4_ := Aside0.mk (Kd.V_below (by (with_reducible repeat (first | apply Kd.V_alloc | apply Kd.V_drewN | apply Kd.V_drew)); exact HO156.out) hb); have n5_ := Aside0.mk (below_step (by repeat (first | (with_reducible first | exact HB.out | apply below_alloc | apply pw_below_drewN | apply below_drew1) | exact HB.out)) hb); clear HO140; clear HO144; clear HO147; clear HO151; clear HO156; clear HB; have HO140 := n0_; have HO144 := n1_; have HO147 := n2_; have HO151 := n3_; have HO156 := n4_; have HB := n5_; clear n0_ n1_ n2_ n3_ n4_ n5_; (try clear hb); (try clear hb2); (try clear hk); (try clear hi)))
     go_ret
     exact ⟨by first | rfl | (simp [errW_none, errW_some] <;> rfl) | (simp [*, errW_none, errW_some] <;> rfl) | (simp [bt, *]; done) | (simp_all [bt]; done), by repeat (first | (with_reducible first | exact HB.out | apply below_alloc | apply pw_below_drewN | apply below_drew1) | exact HB.out)⟩
   ·replace c9 := Bool.eq_false_iff.mpr c9
    subst c9
    have H1 : (some false) = some r := by rw [if_neg (show ¬ (false = true) by decide)] at H; exact H
    clear H
    have H := H1
    clear H1
    obtain rfl := Option.some.inj H
    go_enter Try.func10, Try.ntmps10
    go_wp2_with (first | ((with_reducible refine gate_callee (f := 35) rfl ?_); refine goesL_ (some 4) rfl rfl Try.func35 (by kernel_rfl) rfl #[] rfl (by (try simp only [List.map_toArray, List.map_cons, List.map_nil]); first | done | rfl | (simp only [List.length_drop, List.length_take]; rfl)) ?_; (with_reducible refine (satchellaw08_sample.calls  t138 _ A1.out).mono ?_); rintro e w38 ⟨v139, rfl, ho0, hb⟩; clear A1; refine ⟨_, rfl, ?_⟩; have n0_ := Aside0.mk (Kd.N_lower (Kd.N_mono (ok' := fun k_ => True) ho0 (fun k_ hk_ => trivial)) (below_size (by repeat (first | (with_reducible first | exact HB.out | apply below_alloc | apply pw_below_drewN | apply below_drew1) | exact HB.out)))); have n1_ := Aside0.mk (below_step (by repeat (first | (with_reducible first | exact HB.out | apply below_alloc | apply pw_below_drewN | apply below_drew1) | exact HB.out)) hb); clear HB; have HO140 := n0_; have HB := n1_; clear n0_ n1_; (try clear hb); (try clear hb2); (try clear hk); (try clear hi); (try clear ho0); obtain ⟨Ao39, co39, eo39⟩ := Kd.N_slice HO140.out; subst eo39) | ((with_reducible refine gate_callee (f := 32) rfl ?_); refine goesL_ (some 5) rfl rfl Try.func32 (by kernel_rfl) rfl #[.slice Ao39 t138.length co39, .string (⟨#[97]⟩ : ByteArray)] rfl (by (try simp only [List.map_toArray, List.map_cons, List.map_nil]); first | done | rfl | (simp only [List.length_drop, List.length_take]; rfl)) ?_; (with_reducible refine (tree_Drop.calls k _ _ t138 (⟨#[97]⟩ : ByteArray) t141 t142 _ ?side1 ?side2 A2.out).mono ?_); (case side1 => repeat (first | exact (Kd.N_reads' HO140.out).2.2 | (with_reducible refine Kd.C_alloc ?_ _) | (with_reducible refine Kd.C_drewN ?_ _) | (with_reducible refine Kd.C_drew ?_))); (case side2 => exact (Kd.N_reads' HO140.out).2.1); rintro e w40 ⟨v143, rfl, ho0, hb⟩; refine ⟨_, rfl, ?_⟩; have n0_ := Aside0.mk (Kd.N_elder' (by (with_reducible repeat (first | apply Kd.N_alloc | apply Kd.N_drewN | apply Kd.N_drew)); exact HO140.out) (by first | exact Kd.N_base ho0 | exact Kd.S_base ho0) hb); have n1_ := Aside0.mk (Kd.N_lower (Kd.N_mono (ok' := fun k_ => some k_ ≠ (.slice Ao39 t138.length co39 : Value).ownBlock) (Kd.S_N (Kd.S_bound ho0)) (fun k_ hk_ => (Kd.fresh' (Kd.N_lt (by (with_reducible repeat (first | apply Kd.N_alloc | apply Kd.N_drewN | apply Kd.N_drew)); exact HO140.out)) k_ hk_.2.1))) (below_size (by repeat (first | (with_reducible first | exact HB.out | apply below_alloc | apply pw_below_drewN | apply below_drew1) | exact HB.out)))); have n2_ := Aside0.mk (below_step (by repeat (first | (with_reducible first | exact HB.out | apply below_alloc | apply pw_below_drewN | apply below_drew1) | exact HB.out)) hb); clear HO140; clear HB; have HO140 := n0_; have HO144 := n1_; have HB := n2_; clear n0_ n1_ n2_; (try clear hb); (try clear hb2); (try clear hk); (try clear hi); (try clear ho0)) | ((with_reducible refine gate_callee (f := 35) rfl ?_); refine goesL_ (some 8) rfl rfl Try.func35 (by kernel_rfl) rfl #[] rfl (by (try simp only [List.map_toArray, List.map_cons, List.map_nil]); first | done | rfl | (simp only [List.length_drop, List.length_take]; rfl)) ?_; (with_reducible refine (satchellaw08_sample.calls  t145 _ A3.out).mono ?_); rintro e w41 ⟨v146, rfl, ho0, hb⟩; clear A3; refine ⟨_, rfl, ?_⟩; have n0_ := Aside0.mk (Kd.N_elder' (by (with_reducible repeat (first | apply Kd.N_alloc | apply Kd.N_drewN | apply Kd.N_drew)); exact HO140.out) (by first | exact Kd.N_base ho0 | exact Kd.S_base ho0) hb); have n1_ := Aside0.mk (Kd.N_elder' (by (with_reducible repeat (first | apply Kd.N_alloc | apply Kd.N_drewN | apply Kd.N_drew)); exact HO144.out) (by first | exact Kd.N_base ho0 | exact Kd.S_base ho0) hb); have n2_ := Aside0.mk (Kd.N_lower (Kd.N_mono (ok' := fun k_ => some k_ ≠ (.slice Ao39 t138.length co39 : Value).ownBlock ∧ some k_ ≠ (v143 : Value).ownBlock) ho0 (fun k_ hk_ => ⟨(Kd.fresh' (Kd.N_lt (by (with_reducible repeat (first | apply Kd.N_alloc | apply Kd.N_drewN | apply Kd.N_drew)); exact HO140.out)) k_ hk_), (Kd.fresh' (Kd.N_lt (by (with_reducible repeat (first | apply Kd.N_alloc | apply Kd.N_drewN | apply Kd.N_drew)); exact HO144.out)) k_ hk_)⟩)) (below_size (by repeat (first | (with_reducible first | exact HB.out | apply below_alloc | apply pw_below_drewN | apply below_drew1) | exact HB.out)))); have n3_ := Aside0.mk (below_step (by repeat (first | (with_reducible first | exact HB.out | apply below_alloc | apply pw_below_drewN | apply below_drew1) | exact HB.out)) hb); clear HO140; clear HO144; clear HB; have HO140 := n0_; have HO144 := n1_; have HO147 := n2_; have HB := n3_; clear n0_ n1_ n2_ n3_; (try clear hb); (try clear hb2); (try clear hk); (try clear hi); (try clear ho0); obtain ⟨Ao42, co42, eo42⟩ := Kd.N_slice HO147.out; subst eo42) | ((with_reducible refine gate_callee (f := 36) rfl ?_); refine goesL_ (some 9) rfl rfl Try.func36 (by kernel_rfl) rfl #[.slice Ao42 t145.length co42, .int .i64 0, .int .i64 0] rfl (by (try simp only [List.map_toArray, List.map_cons, List.map_nil]); first | done | rfl | (simp only [List.length_drop, List.length_take]; rfl)) ?_; (with_reducible refine (satchellaw08_fails.calls k _ _ t145 0 0 true _ ?side1 ?side2 A4.out).mono ?_); (case side1 => repeat (first | exact (Kd.N_reads' HO147.out).2.2 | (with_reducible refine Kd.C_alloc ?_ _) | (with_reducible refine Kd.C_drewN ?_ _) | (with_reducible refine Kd.C_drew ?_))); (case side2 => exact (Kd.N_reads' HO147.out).2.1); rintro e w43 ⟨rfl, hb⟩; refine ⟨_, rfl, ?_⟩; have n0_ := Aside0.mk (Kd.N_below (by (with_reducible repeat (first | apply Kd.N_alloc | apply Kd.N_drewN | apply Kd.N_drew)); exact HO140.out) hb); have n1_ := Aside0.mk (Kd.N_below (by (with_reducible repeat (first | apply Kd.N_alloc | apply Kd.N_drewN | apply Kd.N_drew)); exact HO144.out) hb); have n2_ := Aside0.mk (Kd.N_below (by (with_reducible repeat (first | apply Kd.N_alloc | apply Kd.N_drewN | apply Kd.N_drew)); exact HO147.out) hb); have n3_ := Aside0.mk (below_step (by repeat (first | (with_reducible first | exact HB.out | apply below_alloc | apply pw_below_drewN | apply below_drew1) | exact HB.out)) hb); clear HO140; clear HO144; clear HO147; clear HB; have HO140 := n0_; have HO144 := n1_; have HO147 := n2_; have HB := n3_; clear n0_ n1_ n2_ n3_; (try clear hb); (try clear hb2); (try clear hk); (try clear hi)) | (go_at_call 35; (with_reducible refine (satchellaw08_sample.calls  t149 _ A6.out).mono ?_); rintro e w44 ⟨v150, rfl, ho0, hb⟩; clear A6; have n0_ := Aside0.mk (Kd.N_elder' (by (with_reducible repeat (first | apply Kd.N_alloc | apply Kd.N_drewN | apply Kd.N_drew)); exact HO140.out) (by first | exact Kd.N_base ho0 | exact Kd.S_base ho0) hb); have n1_ := Aside0.mk (Kd.N_elder' (by (with_reducible repeat (first | apply Kd.N_alloc | apply Kd.N_drewN | apply Kd.N_drew)); exact HO144.out) (by first | exact Kd.N_base ho0 | exact Kd.S_base ho0) hb); have n2_ := Aside0.mk (Kd.N_elder' (by (with_reducible repeat (first | apply Kd.N_alloc | apply Kd.N_drewN | apply Kd.N_drew)); exact HO147.out) (by first | exact Kd.N_base ho0 | exact Kd.S_base ho0) hb); have n3_ := Aside0.mk (Kd.N_lower (Kd.N_mono (ok' := fun k_ => some k_ ≠ (.slice Ao39 t138.length co39 : Value).ownBlock ∧ some k_ ≠ (v143 : Value).ownBlock ∧ some k_ ≠ (.slice Ao42 t145.length co42 : Value).ownBlock) ho0 (fun k_ hk_ => ⟨(Kd.fresh' (Kd.N_lt (by (with_reducible repeat (first | apply Kd.N_alloc | apply Kd.N_drewN | apply Kd.N_drew)); exact HO140.out)) k_ hk_), (Kd.fresh' (Kd.N_lt (by (with_reducible repeat (first | apply Kd.N_alloc | apply Kd.N_drewN | apply Kd.N_drew)); exact HO144.out)) k_ hk_), (Kd.fresh' (Kd.N_lt (by (with_reducible repeat (first | apply Kd.N_alloc | apply Kd.N_drewN | apply Kd.N_drew)); exact HO147.out)) k_ hk_)⟩)) (below_size (by repeat (first | (with_reducible first | exact HB.out | apply below_alloc | apply pw_below_drewN | apply below_drew1) | exact HB.out)))); have n4_ := Aside0.mk (below_step (by repeat (first | (with_reducible first | exact HB.out | apply below_alloc | apply pw_below_drewN | apply below_drew1) | exact HB.out)) hb); clear HO140; clear HO144; clear HO147; clear HB; have HO140 := n0_; have HO144 := n1_; have HO147 := n2_; have HO151 := n3_; have HB := n4_; clear n0_ n1_ n2_ n3_ n4_; (try clear hb); (try clear hb2); (try clear hk); (try clear hi); (try clear ho0); obtain ⟨Ao46, co46, eo46⟩ := Kd.N_slice HO151.out; subst eo46; have q45 : (1 : Int) ≤ ((t149.length : Int) : Int) := of_decide_eq_true (by first | (with_reducible assumption) | assumption); obtain ⟨i045, hi045, _, hsz45, _⟩ := info_parts info31; have hroom45 : t149.length ≤ co46 := (Kd.N_reads' HO151.out).2.1; have hC45 : Kd.F k31 _ _ Ao46 t149.length t149 := (Kd.V_at (base := w.heap.size) (Kd.N_V HO151.out)).2.2; have hcut45 := cut_from (P := Try.prog) 22 31 .i64 Try.underlying22 hi045 5 hsz45 Ao46 t149.length co46 1 (by omega) q45; have hr45 := Kd.F_cut (m := (1 : Int).toNat) (c := co46) hC45 (by omega) hroom45; obtain ⟨A45, hA45⟩ : ∃ A1, A1 = (if co46 = (1 : Int).toNat then Ao46 else (Ao46 : Option Addr).map (·.add ((1 : Int).toNat * 5))) := ⟨_, rfl⟩; obtain ⟨c45, hc45⟩ : ∃ c1, c1 = co46 - (1 : Int).toNat := ⟨_, rfl⟩; have hy45 : y152.length = t149.length - (1 : Int).toNat := (by rw [Ny152.out, List.length_drop] <;> omega); rw [show (t149).drop (1 : Int).toNat = y152 from Ny152.out.symm] at hr45; replace hr45 : Kd.F k31 _ _ A45 y152.length y152 := (by rw [hA45]; exact hr45); rw [← hy45, ← hA45, ← hc45] at hcut45; have HO156 := Aside0.mk (show Kd.V k31 31 _ w.heap.size _ (.slice A45 y152.length c45) y152 from Kd.V_mk (by rw [hy45, hc45]; exact Nat.sub_le_sub_right hroom45 _) hr45); have HC156 := Aside0.mk (show y152.length ≤ c45 from by rw [hy45, hc45]; exact Nat.sub_le_sub_right hroom45 _); clear hr45 hC45 hroom45 hi045 hsz45 hc45; have KY45 := Aside0.mk hy45; have KA45 := Aside0.mk hA45; clear hy45 hA45; replace q45 := eq_true q45) | (go_at_call 36; (with_reducible refine (satchellaw08_fails.calls k _ _ y152 6 0 false _ ?side1 ?side2 A8.out).mono ?_); (case side1 => repeat (first | exact (Kd.V_reads' HO156.out).2.2 | (with_reducible refine Kd.C_alloc ?_ _) | (with_reducible refine Kd.C_drewN ?_ _) | (with_reducible refine Kd.C_drew ?_))); (case side2 => exact (Kd.V_reads' HO156.out).2.1); rintro e w47 ⟨rfl, hb⟩; have n0_ := Aside0.mk (Kd.N_below (by (with_reducible repeat (first | apply Kd.N_alloc | apply Kd.N_drewN | apply Kd.N_drew)); exact HO140.out) hb); have n1_ := Aside0.mk (Kd.N_below (by (with_reducible repeat (first | apply Kd.N_alloc | apply Kd.N_drewN | apply Kd.N_drew)); exact HO144.out) hb); have n2_ := Aside0.mk (Kd.N_below (by (with_reducible repeat (first | apply Kd.N_alloc | apply Kd.N_drewN | apply Kd.N_drew)); exact HO147.out) hb); have n3_ := Aside0.mk (Kd.N_below (by (with_reducible repeat (first | apply Kd.N_alloc | apply Kd.N_drewN | apply Kd.N_drew)); exact HO151.out) hb); have n4_ := Aside0.mk (Kd.V_below (by (with_reducible repeat (first | apply Kd.V_alloc | apply Kd.V_drewN | apply Kd.V_drew)); exact HO156.out) hb); have n5_ := Aside0.mk (below_step (by repeat (first | (with_reducible first | exact HB.out | apply below_alloc | apply pw_below_drewN | apply below_drew1) | exact HB.out)) hb); clear HO140; clear HO144; clear HO147; clear HO151; clear HO156; clear HB; have HO140 := n0_; have HO144 := n1_; have HO147 := n2_; have HO151 := n3_; have HO156 := n4_; have HB := n5_; clear n0_ n1_ n2_ n3_ n4_ n5_; (try clear hb); (try clear hb2); (try clear hk); (try clear hi)))
    go_ret
    exact ⟨by first | rfl | (simp [errW_none, errW_some] <;> rfl) | (simp [*, errW_none, errW_some] <;> rfl) | (simp [bt, *]; done) | (simp_all [bt]; done), by repeat (first | (with_reducible first | exact HB.out | apply below_alloc | apply pw_below_drewN | apply below_drew1) | exact HB.out)⟩
  ·rw [if_neg c7] at H
   exact absurd H (by simp)
 ·replace c5 := Bool.eq_false_iff.mpr c5
  subst c5
  have H1 : (some false) = some r := by rw [if_neg (show ¬ (false = true) by decide)] at H; exact H
  clear H
  have H := H1
  clear H1
  obtain rfl := Option.some.inj H
  go_enter Try.func10, Try.ntmps10
  go_wp2_with (first | ((with_reducible refine gate_callee (f := 35) rfl ?_); refine goesL_ (some 4) rfl rfl Try.func35 (by kernel_rfl) rfl #[] rfl (by (try simp only [List.map_toArray, List.map_cons, List.map_nil]); first | done | rfl | (simp only [List.length_drop, List.length_take]; rfl)) ?_; (with_reducible refine (satchellaw08_sample.calls  t138 _ A1.out).mono ?_); rintro e w48 ⟨v139, rfl, ho0, hb⟩; clear A1; refine ⟨_, rfl, ?_⟩; have n0_ := Aside0.mk (Kd.N_lower (Kd.N_mono (ok' := fun k_ => True) ho0 (fun k_ hk_ => trivial)) (below_size (by repeat (first | (with_reducible first | exact HB.out | apply below_alloc | apply pw_below_drewN | apply below_drew1) | exact HB.out)))); have n1_ := Aside0.mk (below_step (by repeat (first | (with_reducible first | exact HB.out | apply below_alloc | apply pw_below_drewN | apply below_drew1) | exact HB.out)) hb); clear HB; have HO140 := n0_; have HB := n1_; clear n0_ n1_; (try clear hb); (try clear hb2); (try clear hk); (try clear hi); (try clear ho0); obtain ⟨Ao49, co49, eo49⟩ := Kd.N_slice HO140.out; subst eo49) | ((with_reducible refine gate_callee (f := 32) rfl ?_); refine goesL_ (some 5) rfl rfl Try.func32 (by kernel_rfl) rfl #[.slice Ao49 t138.length co49, .string (⟨#[97]⟩ : ByteArray)] rfl (by (try simp only [List.map_toArray, List.map_cons, List.map_nil]); first | done | rfl | (simp only [List.length_drop, List.length_take]; rfl)) ?_; (with_reducible refine (tree_Drop.calls k _ _ t138 (⟨#[97]⟩ : ByteArray) t141 t142 _ ?side1 ?side2 A2.out).mono ?_); (case side1 => repeat (first | exact (Kd.N_reads' HO140.out).2.2 | (with_reducible refine Kd.C_alloc ?_ _) | (with_reducible refine Kd.C_drewN ?_ _) | (with_reducible refine Kd.C_drew ?_))); (case side2 => exact (Kd.N_reads' HO140.out).2.1); rintro e w50 ⟨v143, rfl, ho0, hb⟩; refine ⟨_, rfl, ?_⟩; have n0_ := Aside0.mk (Kd.N_elder' (by (with_reducible repeat (first | apply Kd.N_alloc | apply Kd.N_drewN | apply Kd.N_drew)); exact HO140.out) (by first | exact Kd.N_base ho0 | exact Kd.S_base ho0) hb); have n1_ := Aside0.mk (Kd.N_lower (Kd.N_mono (ok' := fun k_ => some k_ ≠ (.slice Ao49 t138.length co49 : Value).ownBlock) (Kd.S_N (Kd.S_bound ho0)) (fun k_ hk_ => (Kd.fresh' (Kd.N_lt (by (with_reducible repeat (first | apply Kd.N_alloc | apply Kd.N_drewN | apply Kd.N_drew)); exact HO140.out)) k_ hk_.2.1))) (below_size (by repeat (first | (with_reducible first | exact HB.out | apply below_alloc | apply pw_below_drewN | apply below_drew1) | exact HB.out)))); have n2_ := Aside0.mk (below_step (by repeat (first | (with_reducible first | exact HB.out | apply below_alloc | apply pw_below_drewN | apply below_drew1) | exact HB.out)) hb); clear HO140; clear HB; have HO140 := n0_; have HO144 := n1_; have HB := n2_; clear n0_ n1_ n2_; (try clear hb); (try clear hb2); (try clear hk); (try clear hi); (try clear ho0)) | ((with_reducible refine gate_callee (f := 35) rfl ?_); refine goesL_ (some 8) rfl rfl Try.func35 (by kernel_rfl) rfl #[] rfl (by (try simp only [List.map_toArray, List.map_cons, List.map_nil]); first | done | rfl | (simp only [List.length_drop, List.length_take]; rfl)) ?_; (with_reducible refine (satchellaw08_sample.calls  t145 _ A3.out).mono ?_); rintro e w51 ⟨v146, rfl, ho0, hb⟩; clear A3; refine ⟨_, rfl, ?_⟩; have n0_ := Aside0.mk (Kd.N_elder' (by (with_reducible repeat (first | apply Kd.N_alloc | apply Kd.N_drewN | apply Kd.N_drew)); exact HO140.out) (by first | exact Kd.N_base ho0 | exact Kd.S_base ho0) hb); have n1_ := Aside0.mk (Kd.N_elder' (by (with_reducible repeat (first | apply Kd.N_alloc | apply Kd.N_drewN | apply Kd.N_drew)); exact HO144.out) (by first | exact Kd.N_base ho0 | exact Kd.S_base ho0) hb); have n2_ := Aside0.mk (Kd.N_lower (Kd.N_mono (ok' := fun k_ => some k_ ≠ (.slice Ao49 t138.length co49 : Value).ownBlock ∧ some k_ ≠ (v143 : Value).ownBlock) ho0 (fun k_ hk_ => ⟨(Kd.fresh' (Kd.N_lt (by (with_reducible repeat (first | apply Kd.N_alloc | apply Kd.N_drewN | apply Kd.N_drew)); exact HO140.out)) k_ hk_), (Kd.fresh' (Kd.N_lt (by (with_reducible repeat (first | apply Kd.N_alloc | apply Kd.N_drewN | apply Kd.N_drew)); exact HO144.out)) k_ hk_)⟩)) (below_size (by repeat (first | (with_reducible first | exact HB.out | apply below_alloc | apply pw_below_drewN | apply below_drew1) | exact HB.out)))); have n3_ := Aside0.mk (below_step (by repeat (first | (with_reducible first | exact HB.out | apply below_alloc | apply pw_below_drewN | apply below_drew1) | exact HB.out)) hb); clear HO140; clear HO144; clear HB; have HO140 := n0_; have HO144 := n1_; have HO147 := n2_; have HB := n3_; clear n0_ n1_ n2_ n3_; (try clear hb); (try clear hb2); (try clear hk); (try clear hi); (try clear ho0); obtain ⟨Ao52, co52, eo52⟩ := Kd.N_slice HO147.out; subst eo52) | ((with_reducible refine gate_callee (f := 36) rfl ?_); refine goesL_ (some 9) rfl rfl Try.func36 (by kernel_rfl) rfl #[.slice Ao52 t145.length co52, .int .i64 0, .int .i64 0] rfl (by (try simp only [List.map_toArray, List.map_cons, List.map_nil]); first | done | rfl | (simp only [List.length_drop, List.length_take]; rfl)) ?_; (with_reducible refine (satchellaw08_fails.calls k _ _ t145 0 0 false _ ?side1 ?side2 A4.out).mono ?_); (case side1 => repeat (first | exact (Kd.N_reads' HO147.out).2.2 | (with_reducible refine Kd.C_alloc ?_ _) | (with_reducible refine Kd.C_drewN ?_ _) | (with_reducible refine Kd.C_drew ?_))); (case side2 => exact (Kd.N_reads' HO147.out).2.1); rintro e w53 ⟨rfl, hb⟩; refine ⟨_, rfl, ?_⟩; have n0_ := Aside0.mk (Kd.N_below (by (with_reducible repeat (first | apply Kd.N_alloc | apply Kd.N_drewN | apply Kd.N_drew)); exact HO140.out) hb); have n1_ := Aside0.mk (Kd.N_below (by (with_reducible repeat (first | apply Kd.N_alloc | apply Kd.N_drewN | apply Kd.N_drew)); exact HO144.out) hb); have n2_ := Aside0.mk (Kd.N_below (by (with_reducible repeat (first | apply Kd.N_alloc | apply Kd.N_drewN | apply Kd.N_drew)); exact HO147.out) hb); have n3_ := Aside0.mk (below_step (by repeat (first | (with_reducible first | exact HB.out | apply below_alloc | apply pw_below_drewN | apply below_drew1) | exact HB.out)) hb); clear HO140; clear HO144; clear HO147; clear HB; have HO140 := n0_; have HO144 := n1_; have HO147 := n2_; have HB := n3_; clear n0_ n1_ n2_ n3_; (try clear hb); (try clear hb2); (try clear hk); (try clear hi)))
  go_ret
  exact ⟨by first | rfl | (simp [errW_none, errW_some] <;> rfl) | (simp [*, errW_none, errW_some] <;> rfl) | (simp [bt, *]; done) | (simp_all [bt]; done), by repeat (first | (with_reducible first | exact HB.out | apply below_alloc | apply pw_below_drewN | apply below_drew1) | exact HB.out)⟩

end Go.Proofs.Ytopkmchkfcjjmaa.X
end

/-! ## PureG -/
section
namespace Go.Proofs.Ytopkmchkfcjjmaa.X
open Go.RowKit Go.Proofs.YtopkmchkfcjjmaaW.PrintWords Go.Proofs.YtopkmchkfcjjmaaW.PrintLast Go.Proofs.YtopkmchkfcjjmaaW.PrintMore
set_option linter.unusedVariables false
set_option linter.unusedSimpArgs false
theorem awake_ev : Ev (fun k => satchellaw08_awake.f k) true := Ev.of_mono satchellaw08_awake.mono (K := 30) (by kernel_rfl)
theorem alikeE_is (x y : S31) : alikeE x y = some (sameEntry x y) := by
 unfold alikeE tree_alike.f sameEntry bytes_Equal.f sameBytes
 cases h0 : (x.f0.toList == y.f0.toList) <;> cases h1 : (x.f1 == y.f1) <;> cases h2 : (x.f2 == y.f2) <;> cases h4 : (x.f4.toList == y.f4.toList) <;> simp
/-! ### Rising lists of entries -/
def Up (l : List (S31)) : Prop := l.Pairwise fun x y => cmpV x.f0 y.f0 < 0
theorem Rising.up {l : List (S31)} (h : Rising l) : Up l := by
 refine List.pairwise_iff_getElem.2 fun i j hi hj hij => ?_
 have := h i j hij hj
 rw [rd_at l i hi, rd_at l j hj] at this
 exact this
theorem Good.Up {l : List (S31)} (h : Good l) : Up l := h.rising.up
def hasP (a : List (S31)) (s : ByteArray) : Bool := a.any fun x => decide (x.f0 = s)
def addedV (a b : List (S31)) : List ByteArray := (b.filter fun y => !hasP a y.f0).map fun y => y.f0
def turnedE (a : List (S31)) (y : S31) : Bool := a.any fun x => decide (x.f0 = y.f0) && !sameEntry x y
def changedV (a b : List (S31)) : List ByteArray := (b.filter (turnedE a)).map fun y => y.f0
theorem hasP_cons (x : S31) (a : List (S31)) (s : ByteArray) : hasP (x :: a) s = (decide (x.f0 = s) || hasP a s) := rfl
theorem turnedE_cons (x : S31) (a : List (S31)) (y : S31) : turnedE (x :: a) y = ((decide (x.f0 = y.f0) && !sameEntry x y) || turnedE a y) := rfl
theorem turnedE_none {a : List (S31)} {y : S31} (h : hasP a y.f0 = false) : turnedE a y = false := by
 induction a with
 | nil => rfl
 | cons x a ih =>
  rw [hasP_cons, Bool.or_eq_false_iff] at h
  rw [turnedE_cons, h.1, ih h.2]
  rfl
theorem addedV_cons (a : List (S31)) (y : S31) (b : List (S31)) : addedV a (y :: b) = if hasP a y.f0 = true then addedV a b else y.f0 :: addedV a b := by
 unfold addedV
 rw [List.filter_cons]
 cases hasP a y.f0 <;> simp
theorem changedV_cons (a : List (S31)) (y : S31) (b : List (S31)) : changedV a (y :: b) = if turnedE a y = true then y.f0 :: changedV a b else changedV a b := by
 unfold changedV
 rw [List.filter_cons]
 cases turnedE a y <;> simp
/-- A path that is met in none of them turns nothing. -/
theorem addedV_skip {x : S31} {a b : List (S31)} (h : ∀ y ∈ b, x.f0 ≠ y.f0) : addedV (x :: a) b = addedV a b := by
 unfold addedV
 congr 1
 refine List.filter_congr fun y hy => ?_
 rw [hasP_cons, decide_eq_false (h y hy), Bool.false_or]
theorem changedV_skip {x : S31} {a b : List (S31)} (h : ∀ y ∈ b, x.f0 ≠ y.f0) : changedV (x :: a) b = changedV a b := by
 unfold changedV
 congr 1
 refine List.filter_congr fun y hy => ?_
 rw [turnedE_cons, decide_eq_false (h y hy), Bool.false_and, Bool.false_or]
theorem hasP_none {a : List (S31)} {s : ByteArray} (h : ∀ x ∈ a, x.f0 ≠ s) : hasP a s = false := by
 unfold hasP
 rw [List.any_eq_false]
 intro x hx
 simpa using h x hx
theorem cmpV_ne {a b : ByteArray} (h : cmpV a b < 0) : a ≠ b := fun e => by rw [e, cmpV_self] at h; omega
/-- What stands ahead of a rising list's head is met in none of it. -/
theorem Up.ahead {x : S31} {b : List (S31)} {y : S31} (hb : Up (y :: b)) (h : cmpV x.f0 y.f0 < 0) : ∀ q ∈ y :: b, x.f0 ≠ q.f0 := by
 intro q hq
 refine cmpV_ne ?_
 rcases List.mem_cons.1 hq with rfl | h1
 ·exact h
 ·exact cmpV_trans h (List.rel_of_pairwise_cons hb h1)
theorem Up.tail {y : S31} {b : List (S31)} (hb : Up (y :: b)) : Up b := (List.pairwise_cons.1 hb).2
theorem Up.head {y : S31} {b : List (S31)} (hb : Up (y :: b)) : ∀ q ∈ b, y.f0 ≠ q.f0 := fun q hq => cmpV_ne (List.rel_of_pairwise_cons hb hq)
theorem addedV_nil (b : List (S31)) : addedV [] b = b.map fun y => y.f0 := by unfold addedV; congr 1; exact List.filter_eq_self.2 (fun y _ => rfl)
theorem changedV_nil (b : List (S31)) : changedV [] b = [] := by unfold changedV; rw [List.filter_eq_nil_iff.2 (fun y _ => by simp [turnedE])]; rfl
theorem rd0 (x : S31) (a : List (S31)) : rd_T31 (x :: a) 0 = x := rfl
theorem diff_l0 : ∀ (n : Nat) (a b : List (S31)) (x y z : List ByteArray), a.length + b.length ≤ n → Up a → Up b → x.length + n ≤ 1000000 → y.length + n ≤ 1000000 → z.length + n ≤ 1000000 →
  Ev (fun k => tree_Diff.l0 k a b x y z) (x ++ addedV a b, y ++ addedV b a, z ++ changedV a b) := by
 intro n
 induction n with
 | zero =>
  intro a b x y z hn _ _ hx hy hz
  obtain rfl : a = [] := List.length_eq_zero_iff.1 (by omega)
  obtain rfl : b = [] := List.length_eq_zero_iff.1 (by omega)
  refine Ev.shift ?_
  simp only [tree_Diff.l0]
  refine Ev.ifp (by omega) (Ev.ifp rfl (Ev.ifp rfl ?_))
  simp only [addedV_nil, changedV_nil, List.map_nil, List.append_nil]
  exact Ev.const _
 | succ n ih =>
  intro a b x y z hn ha hb hx hy hz
  refine Ev.shift ?_
  simp only [tree_Diff.l0, alikeE_is, Option.bind_some]
  refine Ev.ifp (by omega) ?_
  cases a with
  | nil =>
   refine Ev.ifp rfl ?_
   cases b with
   | nil =>
    refine Ev.ifp rfl ?_
    simp only [addedV_nil, changedV_nil, List.map_nil, List.append_nil]
    exact Ev.const _
   | cons v b =>
    refine Ev.ifn (by simp) ?_
    have h := ih [] b (x ++ [v.f0]) y z (by simp at hn ⊢; omega) ha hb.tail (by simp; omega) (by omega) (by omega)
    refine h.to_eq ?_
    simp [addedV_nil, changedV_nil, show ∀ l, addedV l [] = [] from fun _ => rfl]
  | cons u a =>
   refine Ev.ifn (by simp) ?_
   cases b with
   | nil =>
    refine Ev.ifp rfl ?_
    have h := ih a [] x (y ++ [u.f0]) z (by simp at hn ⊢; omega) ha.tail hb (by omega) (by simp; omega) (by omega)
    refine h.to_eq ?_
    simp [addedV_nil, show ∀ l, addedV l [] = [] from fun _ => rfl, show ∀ l, changedV l [] = [] from fun _ => rfl]
   | cons v b =>
    refine Ev.ifn (by simp) (Ev.bind (compare_ev _ _) ?_)
    rw [rd0, rd0]
    show Ev (fun k => if 0 < cmpV u.f0 v.f0 then tree_Diff.l0 k (u :: a) b (x ++ [v.f0]) y z else if cmpV u.f0 v.f0 < 0 then tree_Diff.l0 k a (v :: b) x (y ++ [u.f0]) z else tree_Diff.l0 k a b x y (if sameEntry u v = true then z else z ++ [u.f0])) _
    have hs := cmpV_swap u.f0 v.f0
    by_cases h1 : 0 < cmpV u.f0 v.f0
    ·refine Ev.ifp h1 ?_
     have hne := ha.ahead (x := v) (by omega)
     have h := ih (u :: a) b (x ++ [v.f0]) y z (by simp at hn ⊢; omega) ha hb.tail (by simp; omega) (by omega) (by omega)
     refine h.to_eq ?_
     have h2 : hasP (u :: a) v.f0 = false := hasP_none (fun q hq => (hne q hq).symm)
     rw [addedV_cons (u :: a) v b, changedV_cons (u :: a) v b, turnedE_none h2, h2, addedV_skip hne]
     simp
    ·refine Ev.ifn h1 ?_
     by_cases h2 : cmpV u.f0 v.f0 < 0
     ·refine Ev.ifp h2 ?_
      have hne := hb.ahead (x := u) h2
      have h := ih a (v :: b) x (y ++ [u.f0]) z (by simp at hn ⊢; omega) ha.tail hb (by omega) (by simp; omega) (by omega)
      refine h.to_eq ?_
      have h3 : hasP (v :: b) u.f0 = false := hasP_none (fun q hq => (hne q hq).symm)
      rw [addedV_cons (v :: b) u a, h3, addedV_skip hne, changedV_skip hne]
      simp
     ·refine Ev.ifn h2 ?_
      have he : u.f0 = v.f0 := cmpV_zero (by omega)
      have h := ih a b x y (if sameEntry u v = true then z else z ++ [u.f0]) (by simp at hn ⊢; omega) ha.tail hb.tail (by omega) (by omega) (by split <;> (try simp) <;> omega)
      refine h.to_eq ?_
      have hu := ha.head
      have hv := hb.head
      have p1 : hasP (u :: a) v.f0 = true := by rw [hasP_cons, decide_eq_true he, Bool.true_or]
      have p2 : hasP (v :: b) u.f0 = true := by rw [hasP_cons, decide_eq_true he.symm, Bool.true_or]
      have p3 : turnedE (u :: a) v = !sameEntry u v := by
       rw [turnedE_cons, decide_eq_true he, turnedE_none (hasP_none fun q hq e => hu q hq (he.trans e.symm))]
       simp
      rw [addedV_cons (u :: a) v b, p1, addedV_cons (v :: b) u a, p2, changedV_cons (u :: a) v b, p3, addedV_skip (fun q hq => he ▸ hv q hq), addedV_skip (fun q hq => he ▸ hu q hq), changedV_skip (fun q hq => he ▸ hv q hq)]
      cases sameEntry u v <;> simp [he]
/-! ### The document's way -/
theorem hasP_of (a : List (S31)) (s : ByteArray) : (∀ j : Nat, j < a.length → (rd_T31 a (j : Int)).f0 ≠ s) → hasP a s = false := fun h => hasP_none fun x hx => by
 obtain ⟨j, hj, rfl⟩ := List.mem_iff_getElem.1 hx
 rw [← rd_at a j hj]
 exact h j hj
theorem hasP_at {a : List (S31)} {s : ByteArray} {q : Nat} (hq : q < a.length) (h : (rd_T31 a (q : Int)).f0 = s) : hasP a s = true := by
 unfold hasP
 refine List.any_eq_true.2 ⟨a[q], List.getElem_mem hq, ?_⟩
 rw [← rd_at a q hq]
 exact decide_eq_true h
theorem turned_at {a : List (S31)} (ha : Up a) {y : S31} {q : Nat} (hq : q < a.length) (h : (rd_T31 a (q : Int)).f0 = y.f0) : turnedE a y = !sameEntry (rd_T31 a (q : Int)) y := by
 have huniq : ∀ j : Nat, ∀ hj : j < a.length, a[j].f0 = y.f0 → j = q := by
  intro j hj hj2
  rw [rd_at a q hq] at h
  rcases Nat.lt_trichotomy j q with h3 | h3 | h3
  ·have := cmpV_ne (List.pairwise_iff_getElem.1 ha j q hj hq h3)
   exact absurd (hj2.trans h.symm) this
  ·exact h3
  ·have := cmpV_ne (List.pairwise_iff_getElem.1 ha q j hq hj h3)
   exact absurd (h.trans hj2.symm) this
 unfold turnedE
 rw [Bool.eq_iff_iff]
 rw [List.any_eq_true]
 constructor
 ·rintro ⟨x, hx, hx2⟩
  obtain ⟨j, hj, rfl⟩ := List.mem_iff_getElem.1 hx
  rw [Bool.and_eq_true] at hx2
  have := huniq j hj (of_decide_eq_true hx2.1)
  subst this
  rw [rd_at a j hj]
  exact hx2.2
 ·intro h1
  refine ⟨a[q], List.getElem_mem hq, ?_⟩
  rw [rd_at a q hq] at h h1
  rw [h1, decide_eq_true h]
  rfl
def diffV (a b : List (S31)) : List ByteArray × List ByteArray × List ByteArray := if (treeV a).1 = 0 ∧ (treeV b).1 = 0 then (addedV a b, addedV b a, changedV a b) else ([], [], [])
theorem diff_ev (a b : List (S31)) (ha : a.length ≤ 1000) (hb : b.length ≤ 1000) : Ev (fun k => tree_Diff.f k a b) (diffV a b) := by
 simp only [tree_Diff.f]
 refine Ev.ifp (by omega) (Ev.bind (tree_ev a) (Ev.bind (tree_ev b) ?_))
 unfold diffV
 by_cases h : (treeV a).1 = 0 ∧ (treeV b).1 = 0
 ·rw [if_pos h]
  refine Ev.ifp h ?_
  exact diff_l0 (a.length + b.length) a b [] [] [] (Nat.le_refl _) (good_of h.1).Up (good_of h.2).Up (by simp; omega) (by simp; omega) (by simp; omega)
 ·rw [if_neg h]
  exact Ev.ifn h (Ev.const _)
/-! ### The same -/
def sameV (a b : List (S31)) : Bool := decide (a.length = b.length) && (a.zip b).all fun p => sameEntry p.1 p.2
theorem sameTree_f (a b : List (S31)) : satchelkit_SameTree.f a b = some (sameV a b) := rfl
/-! ### Texts, copies -/
/-- Entries whose bytes are no longer than a machine's. -/
def Fits (l : List (S31)) : Prop := ∀ e ∈ l, e.f3.length < 140737488355328
theorem Fits.at {l : List (S31)} (h : Fits l) {i : Nat} (hi : i < l.length) : (rd_T31 l (i : Int)).f3.length < 140737488355328 := by rw [rd_at l i hi]; exact h _ (List.getElem_mem hi)
theorem sameV_refl (l : List (S31)) : sameV l l = true := by
 have := same_refl l
 rw [sameTree_f] at this
 exact Option.some.inj this
end Go.Proofs.Ytopkmchkfcjjmaa.X
end

/-! ## Insert -/
section
namespace Go.Proofs.Ytopkmchkfcjjmaa.X
open Go.RowKit Go.Proofs.YtopkmchkfcjjmaaW.PrintWords Go.Proofs.YtopkmchkfcjjmaaW.PrintLast Go.Proofs.YtopkmchkfcjjmaaW.PrintMore
set_option linter.unusedVariables false
set_option linter.unusedSimpArgs false
/-- A builtin copy of elements of k cells. -/
theorem run_copy_cells_k {P : Program} (w : World) (dT sT ty elem : TypeId) (b o dLen dCap : Nat) (a : Addr) (sLen sCap k : Nat) (cs : List Value)
  (hu : P.underlying dT = some (.slice elem)) (hs : (P.info? elem).map (·.size) = some k) (hn : cs.length = Nat.min sLen dLen * k)
  (hsrc : ∀ j v, cs[j]? = some v → w.cell? (a.add j) = some v) (hc : ∀ j, j < cs.length → (w.cell? ⟨b, o + j, none⟩).isSome = true) (hf : ∀ j, j < cs.length → w.frozen? ⟨b, o + j, none⟩ = false) (h1 : ∀ v ∈ cs, v.oneCell' = true) :
  (Builtin.copy_ #[dT, sT] ty #[.slice (some ⟨b, o, none⟩) dLen dCap, .slice (some a) sLen sCap]).run P w = .ok (goInt (Nat.min sLen dLen)) (w.setCells b o cs) := by
 have hl := run_loadCells_list (P := P) w a cs hsrc
 have hst := run_storeCells_cells (P := P) b o cs 0 w (by simpa using hc) (by simpa using hf) h1
 rw [hn] at hl
 cases hq : P.info? elem with
 | none => simp [hq] at hs
 | some i =>
  have hi : i.size = k := by simpa [hq] using hs
  simp [Builtin.copy_, run_underlying hu, Builtin.lenOf, Builtin.firstCells, sizeOf, typeInfo, hq, hi, hl, hst]
set_option maxHeartbeats 4000000 in
set_option maxRecDepth 100000 in
/-- There is room, and something stands behind the place: in place. -/
theorem insert_shift (b n c i vb : Nat) (cs vs : List Value) (w : World) (hi : i < n) (hroom : n + 1 ≤ c) (hc63 : c ≤ 9223372036854775807) (hn63 : n < 1000000) (hvb : vb ≠ b)
  (hcl : cs.length = n * 5) (hvl : vs.length = 5)
  (hcs : ∀ j v, cs[j]? = some v → w.cell? ⟨b, j, none⟩ = some v) (hsp : ∀ j, j < (n + 1) * 5 → (w.cell? ⟨b, j, none⟩).isSome = true) (hfz : ∀ j, j < (n + 1) * 5 → w.frozen? ⟨b, j, none⟩ = false)
  (hvs : ∀ j v, vs[j]? = some v → w.cell? ⟨vb, j, none⟩ = some v) (h1c : ∀ v ∈ cs, v.oneCell' = true) (h1v : ∀ v ∈ vs, v.oneCell' = true)
  (tA tB : TypeId) (kA kB : Nat) (hsa : w.shape? vb = some (tA, kA)) (hsb : w.shape? b = some (tB, kB)) (hkB : kB ≠ 0) (hfa : w.frozen? ⟨vb, 0, none⟩ = false) (hfe : w.frozen? ⟨vb, kA, none⟩ = false) :
  Calls Try.prog 56 #[.slice (some ⟨b, 0, none⟩) n c, .int .i64 i, .slice (some ⟨vb, 0, none⟩) 1 1] w fun e w' =>
   e = .returned (.slice (some ⟨b, 0, none⟩) (n + 1) c) ∧ w' = (w.drew.setCells b ((i + 1) * 5) (cs.drop (i * 5))).setCells b (i * 5) vs := by
 obtain ⟨i0, hi0, hz0, hzs, hzb⟩ := info_parts info31
 have hsz : (Try.prog.info? 31).map (·.size) = some 5 := by rw [hi0]; simp [hzs]
 have hz2 : ¬ ((i : Int) = (n : Int)) := by omega
 have hov : ∀ lb cb, (callFunc 73 #[.slice (some ⟨vb, 0, none⟩) 1 1, .slice (some ⟨b, (i + 1) * 5, none⟩) lb cb]).run Try.prog w = .ok (.value (.bool false)) w := fun lb cb => by
  rw [run_callFunc_extern Try.func73 (by kernel_rfl) (by kernel_rfl) (by kernel_rfl) (e := Extern.SlicesOverlaps.overlaps #[22, 22] #[4]) (by kernel_rfl),
   Lib.run_overlaps_apart w 22 4 31 Try.underlying22 5 (fun w => by simp [sizeOf, typeInfo, hi0, hzs]) ⟨vb, 0, none⟩ ⟨b, (i + 1) * 5, none⟩ 1 1 lb cb hvb tA tB kA kB hsa hsb hkB hfa hfe]
  rfl
 have hdl : (cs.drop (i * 5)).length = (n - i) * 5 := by rw [List.length_drop, hcl, Nat.sub_mul]
 have hw1 : IntKind.i64.wrap ((i : Int) + 1) = (i : Int) + 1 := by rw [IntKind.wrap_i64]; omega
 have hb1 : (0 : Int) ≤ (i : Int) + 1 := by omega
 have hin : i ≤ n := by omega
 have htn : ((i : Int) + 1).toNat = i + 1 := by omega
 have hb2 : ¬ (c = i + 1) := by omega
 have hb3 : (i : Int) ≤ (n : Int) + 1 := by omega
 have hb4 : ¬ (c = i) := by omega
 have hb5 : (i : Int) + 1 ≤ (n : Int) + 1 := by omega
 have hcp1 : ∀ ty dc sc, (Builtin.copy_ #[22, 22] ty #[.slice (some ⟨b, (i + 1) * 5, none⟩) (n - i) dc, .slice (some ⟨b, i * 5, none⟩) (n + 1 - i) sc]).run Try.prog w.drew = .ok (goInt (Nat.min (n + 1 - i) (n - i))) (w.drew.setCells b ((i + 1) * 5) (cs.drop (i * 5))) := fun ty dc sc =>
  run_copy_cells_k w.drew _ _ ty 31 b ((i + 1) * 5) (n - i) dc ⟨b, i * 5, none⟩ (n + 1 - i) sc 5 (cs.drop (i * 5)) Try.underlying22 hsz (by rw [hdl]; congr 1; simp only [Nat.min_def]; split <;> omega)
   (fun j v hj => by rw [Addr.add_lit]; exact hcs (i * 5 + j) v (by rwa [List.getElem?_drop] at hj))
   (fun j hj => hsp _ (by omega)) (fun j hj => hfz _ (by omega)) (fun v hv => h1c v (List.mem_of_mem_drop hv))
 obtain ⟨W1, hW1⟩ : ∃ W1, W1 = w.drew.setCells b ((i + 1) * 5) (cs.drop (i * 5)) := ⟨_, rfl⟩
 have hsp1 : ∀ k, k < (n + 1) * 5 → (W1.cell? ⟨b, k, none⟩).isSome = true := fun k hk => by
  rw [hW1]
  exact isSome_setCells b (cs.drop (i * 5)) ((i + 1) * 5) w.drew (fun j hj => hsp _ (by rw [hdl] at hj; omega)) k (hsp k hk)
 have hcp2 : ∀ (W : World), (∀ x, W.cell? x = W1.cell? x) → (∀ x, W.frozen? x = W1.frozen? x) → ∀ ty dc, (Builtin.copy_ #[22, 22] ty #[.slice (some ⟨b, i * 5, none⟩) (n + 1 - i) dc, .slice (some ⟨vb, 0, none⟩) 1 1]).run Try.prog W = .ok (goInt (Nat.min 1 (n + 1 - i))) (W.setCells b (i * 5) vs) := fun W hWc hWf ty dc =>
  run_copy_cells_k W _ _ ty 31 b (i * 5) (n + 1 - i) dc ⟨vb, 0, none⟩ 1 1 5 vs Try.underlying22 hsz (by rw [hvl, show Nat.min 1 (n + 1 - i) = 1 from Nat.min_eq_left (by omega)])
   (fun j v hj => by
    rw [Addr.add_lit, hWc, hW1, World.cell?_setCells_out b _ _ _ _ (fun h _ => absurd h hvb), Nat.zero_add]
    exact hvs j v hj)
   (fun j hj => by rw [hWc]; exact hsp1 _ (by omega)) (fun j hj => by rw [hWf, hW1, World.frozen?_setCells]; exact hfz _ (by omega)) h1v
 rw [← hW1] at hcp1
 go_enter Try.func56, Try.ntmps56
 go_wp2_with (simp only [hov])
 go_region_law (refine step_copy_runI rfl _ _ 22 22 rfl _ _ (by simp [Act.eval, Act.put]) (by simp [Act.eval, Act.put]) (hcp1 _ _ _) ?_)
 go_wp2_with (at_builtin; refine wpList_copy_runI _ rfl _ _ 22 22 rfl _ _ rfl rfl (hcp2 _ (fun _ => rfl) (fun _ => rfl) _ _) ?_)
 go_ret
 first | exact ⟨rfl, rfl⟩ | exact ⟨rfl, by rw [hW1]⟩
set_option maxHeartbeats 4000000 in
set_option maxRecDepth 100000 in
/-- There is no room, and something stands behind the place: a new row. -/
theorem insert_grow (b n i vb : Nat) (cs vs : List Value) (w : World) (hi : i < n) (hn63 : n < 1000000)
  (hcl : cs.length = n * 5) (hvl : vs.length = 5)
  (hcs : ∀ j v, cs[j]? = some v → w.cell? ⟨b, j, none⟩ = some v)
  (hvs : ∀ j v, vs[j]? = some v → w.cell? ⟨vb, j, none⟩ = some v) (h1c : ∀ v ∈ cs, v.oneCell' = true) (h1v : ∀ v ∈ vs, v.oneCell' = true) :
  Calls Try.prog 56 #[.slice (some ⟨b, 0, none⟩) n n, .int .i64 i, .slice (some ⟨vb, 0, none⟩) 1 1] w fun e w' => ∃ (G : Nat) (ROW : Array Value), n + 1 ≤ G ∧ G ≤ maxLen ∧ ROW.size = G * 5 ∧ ROW.toList.take (i * 5) = cs.take (i * 5) ∧
   e = .returned (.slice (some ⟨w.heap.size, 0, none⟩) (n + 1) G) ∧
   w' = (((w.alloc (.cells ROW 31)).drew.setCells w.heap.size (i * 5) vs).drew).setCells w.heap.size ((i + 1) * 5) (cs.drop (i * 5)) := by
 obtain ⟨i0, hi0, hz0, hzs, hzb⟩ := info_parts info31
 have hsz : (Try.prog.info? 31).map (·.size) = some 5 := by rw [hi0]; simp [hzs]
 have hz2 : ¬ ((i : Int) = (n : Int)) := by omega
 have hz3 : (n : Int) < (n : Int) + 1 := by omega
 have hbw : b < w.heap.size := block_lt_of_cell (hcs 0 _ (List.getElem?_eq_getElem (by omega)))
 have hvw : vb < w.heap.size := block_lt_of_cell (hvs 0 _ (List.getElem?_eq_getElem (by omega)))
 have hkk : (n : Int) + 1 - (i : Int) = ((n + 1 - i : Nat) : Int) := by omega
 have hik : i + (n + 1 - i) = n + 1 := by omega
 have hold : (Builtin.firstCells i0.size i (.slice (some ⟨b, 0, none⟩) i n)).run Try.prog w.drew = .ok (cs.take (i * 5)).toArray w.drew := by
  rw [hzs]
  exact run_firstCells_some w.drew 5 i ⟨b, 0, none⟩ i n (cs.take (i * 5)) (by rw [List.length_take]; omega) (fun j v hj => by
   rw [Addr.add_lit, Nat.zero_add]
   rw [List.getElem?_take] at hj
   split at hj
   ·exact hcs j v hj
   ·cases hj)
 obtain ⟨z, hz⟩ : ∃ z : Value, z = .agg #[.string (⟨#[]⟩ : ByteArray), .int .i64 0, .int .i64 0, .slice none 0 0, .string (⟨#[]⟩ : ByteArray)] := ⟨_, rfl⟩
 have hzc : z.cells.size = 5 := by rw [hz]; rfl
 have hz0' : i0.zero = some z := by rw [hz]; exact hz0
 have hrz : ∀ ty, (Builtin.append_ #[22, 3] ty #[.slice (some ⟨b, 0, none⟩) i n, .int .i64 ((n : Int) + 1 - (i : Int))]).run Try.prog w =
   .ok (.slice (some ⟨w.heap.size, 0, none⟩) (n + 1) (grownCap w (n + 1) n 31)) (w.drew.alloc (.cells ((cs.take (i * 5)).toArray ++ Builtin.zeroCells z.cells (n + 1 - i) ++ Builtin.zeroCells z.cells (grownCap w (n + 1) n 31 - (n + 1))) 31)) := fun ty => by
  have h := Lib.run_append_grow_zeros w 22 3 ty 31 i0 _ .i64 .i64 Try.underlying22 Try.underlying3 hi0 hz0' (some ⟨b, 0, none⟩) i n (cs.take (i * 5)) hold (n + 1 - i) (by omega) (by omega) (by omega) (by omega) (by rw [hzb]; omega) (by rw [hzb, hik]; exact growslice_fits (by omega) (by omega))
  rw [hik] at h
  rw [hkk]
  exact h
 have hGn : n + 1 ≤ grownCap w (n + 1) n 31 := grownCap_ge w _ _ _
 have hGm : grownCap w (n + 1) n 31 ≤ maxLen := grownCap_le_maxLen w (n + 1) n 31 (by unfold maxLen; omega)
 generalize grownCap w (n + 1) n 31 = G at hrz hGn hGm
 obtain ⟨ROW, hROW⟩ : ∃ ROW : Array Value, ROW = (cs.take (i * 5)).toArray ++ Builtin.zeroCells z.cells (n + 1 - i) ++ Builtin.zeroCells z.cells (G - (n + 1)) := ⟨_, rfl⟩
 rw [← hROW] at hrz
 have hRl : ROW.size = G * 5 := by
  rw [hROW]
  simp only [Array.size_append, size_zeroCells, hzc, List.size_toArray, List.length_take, hcl]
  omega
 have hRt : ROW.toList.take (i * 5) = cs.take (i * 5) := by
  rw [hROW, Array.append_assoc, Array.toList_append]
  rw [List.take_left' (by simp [hcl]; omega)]
 refine Calls.mono (R := fun e w' => e = .returned (.slice (some ⟨w.heap.size, 0, none⟩) (n + 1) G) ∧ w' = (((w.alloc (.cells ROW 31)).drew.setCells w.heap.size (i * 5) vs).drew).setCells w.heap.size ((i + 1) * 5) (cs.drop (i * 5))) ?_ (fun e w' h => ⟨G, ROW, hGn, hGm, hRl, hRt, h.1, h.2⟩)
 obtain ⟨W1, hW1⟩ : ∃ W1, W1 = w.drew.alloc (.cells ROW 31) := ⟨_, rfl⟩
 rw [← hW1] at hrz
 have hN : ∀ j, j < (n + 1) * 5 → (W1.cell? ⟨w.heap.size, j, none⟩).isSome = true := fun j hj => by
  rw [hW1, World.cell?_alloc_at (w := w.drew) ROW _ w.heap.size j rfl, Array.getElem?_eq_getElem (by omega)]; rfl
 have hNf : ∀ j, W1.frozen? ⟨w.heap.size, j, none⟩ = false := fun j => by rw [hW1]; exact World.frozen?_alloc_at (w := w.drew) ROW _ w.heap.size j rfl
 have hOb : ∀ j v, w.cell? ⟨b, j, none⟩ = some v → W1.cell? ⟨b, j, none⟩ = some v := fun j v h => by rw [hW1, World.cell?_alloc_past (w := w.drew) _ b j hbw]; exact h
 have hOv : ∀ j v, w.cell? ⟨vb, j, none⟩ = some v → W1.cell? ⟨vb, j, none⟩ = some v := fun j v h => by rw [hW1, World.cell?_alloc_past (w := w.drew) _ vb j hvw]; exact h
 have hcpA : ∀ (W : World), (∀ x, W.cell? x = W1.cell? x) → (∀ x, W.frozen? x = W1.frozen? x) → ∀ ty dc, (Builtin.copy_ #[22, 22] ty #[.slice (some ⟨w.heap.size, i * 5, none⟩) (n + 1 - i) dc, .slice (some ⟨vb, 0, none⟩) 1 1]).run Try.prog W = .ok (goInt (Nat.min 1 (n + 1 - i))) (W.setCells w.heap.size (i * 5) vs) := fun W hWc hWf ty dc =>
  run_copy_cells_k W _ _ ty 31 w.heap.size (i * 5) (n + 1 - i) dc ⟨vb, 0, none⟩ 1 1 5 vs Try.underlying22 hsz (by rw [hvl, show Nat.min 1 (n + 1 - i) = 1 from Nat.min_eq_left (by omega)])
   (fun j v hj => by rw [Addr.add_lit, Nat.zero_add, hWc]; exact hOv _ v (hvs j v hj))
   (fun j hj => by rw [hWc]; exact hN _ (by omega)) (fun j hj => by rw [hWf]; exact hNf _) h1v
 have hG63 : G ≤ 9223372036854775807 := by unfold maxLen at hGm; omega
 have hGi : ¬ (G = i) := by omega
 have hGim : ¬ (G = i + 1) := by omega
 have hci : ¬ (n = i) := by omega
 have hbN : b ≠ w.heap.size := by omega
 have hdl : (cs.drop (i * 5)).length = (n - i) * 5 := by rw [List.length_drop, hcl, Nat.sub_mul]
 have hcpB : ∀ (W : World), (∀ x, W.cell? x = (W1.setCells w.heap.size (i * 5) vs).cell? x) → (∀ x, W.frozen? x = (W1.setCells w.heap.size (i * 5) vs).frozen? x) → ∀ ty dc sc, (Builtin.copy_ #[22, 22] ty #[.slice (some ⟨w.heap.size, (i + 1) * 5, none⟩) (n - i) dc, .slice (some ⟨b, i * 5, none⟩) (n - i) sc]).run Try.prog W = .ok (goInt (Nat.min (n - i) (n - i))) (W.setCells w.heap.size ((i + 1) * 5) (cs.drop (i * 5))) := fun W hWc hWf ty dc sc =>
  run_copy_cells_k W _ _ ty 31 w.heap.size ((i + 1) * 5) (n - i) dc ⟨b, i * 5, none⟩ (n - i) sc 5 (cs.drop (i * 5)) Try.underlying22 hsz (by rw [hdl]; congr 1; simp only [Nat.min_def]; split <;> omega)
   (fun j v hj => by
    rw [Addr.add_lit, hWc, World.cell?_setCells_out _ _ _ _ _ (fun h _ => absurd h hbN)]
    exact hOb _ v (hcs (i * 5 + j) v (by rwa [List.getElem?_drop] at hj)))
   (fun j hj => by rw [hWc]; exact isSome_setCells _ _ _ _ (fun t ht => hN _ (by omega)) _ (hN _ (by omega)))
   (fun j hj => by rw [hWf, World.frozen?_setCells]; exact hNf _) (fun v hv => h1c v (List.mem_of_mem_drop hv))
 subst hW1
 have hE1 : ∀ x, ((w.alloc (.cells ROW 31)).drew).cell? x = (w.drew.alloc (.cells ROW 31)).cell? x := fun x => rfl
 have hE2 : ∀ x, ((w.alloc (.cells ROW 31)).drew).frozen? x = (w.drew.alloc (.cells ROW 31)).frozen? x := fun x => rfl
 have hF1 : ∀ x, (((w.alloc (.cells ROW 31)).drew.setCells w.heap.size (i * 5) vs).drew).cell? x = ((w.drew.alloc (.cells ROW 31)).setCells w.heap.size (i * 5) vs).cell? x := fun x => rfl
 have hF2 : ∀ x, (((w.alloc (.cells ROW 31)).drew.setCells w.heap.size (i * 5) vs).drew).frozen? x = ((w.drew.alloc (.cells ROW 31)).setCells w.heap.size (i * 5) vs).frozen? x := fun x => rfl
 have hw1 : IntKind.i64.wrap ((i : Int) + 1) = (i : Int) + 1 := by rw [IntKind.wrap_i64]; omega
 have hb1 : (0 : Int) ≤ (i : Int) + 1 := by omega
 have hin : i ≤ n := by omega
 have htn : ((i : Int) + 1).toNat = i + 1 := by omega
 have hb3 : (i : Int) ≤ (n : Int) := by omega
 clear hkk hik hold hROW hRl hRt hz0 hz0' hz hzc
 go_enter Try.func56, Try.ntmps56
 go_wp2_with (first
  | (at_builtin; refine Lib.wpList_append_run _ rfl _ _ _ _ rfl _ _ rfl rfl _ _ (hrz _) ?_)
  | (at_builtin; refine wpList_copy_runI _ rfl _ _ 22 22 rfl _ _ rfl rfl (hcpA _ hE1 hE2 _ _) ?_)
  | (at_builtin; refine wpList_copy_runI _ rfl _ _ 22 22 rfl _ _ rfl rfl (hcpB _ (fun _ => rfl) (fun _ => rfl) _ _ _) ?_))
 go_region_law (refine step_copy_runI rfl _ _ 22 22 rfl (.slice (some ⟨w.heap.size, (i + 1) * 5, none⟩) (n - i) (G - (i + 1))) (.slice (some ⟨b, i * 5, none⟩) (n - i) (n - i)) (by simp [Act.eval, Act.put]) (by simp [Act.eval, Act.put]) (hcpB _ hF1 hF2 3 (G - (i + 1)) (n - i)) ?_)
 go_wp2
 go_ret
 exact ⟨rfl, rfl⟩
set_option maxHeartbeats 4000000 in
set_option maxRecDepth 100000 in
/-- At the end: an append (a nil row, too). -/
theorem insert_end (base n vb : Nat) (v : Value) (xs vs : List Value) (w : World) (hn63 : n < 1000000) (hbase : base ≤ w.heap.size) (hown : w.ownsRow base 31 5 v n xs) (hvl : vs.length = 5)
  (hvs : ∀ j v, vs[j]? = some v → w.cell? ⟨vb, j, none⟩ = some v) (h1v : ∀ v ∈ vs, v.oneCell' = true) :
  Calls Try.prog 56 #[v, .int .i64 n, .slice (some ⟨vb, 0, none⟩) 1 1] w fun e w' => ∃ v', e = .returned v' ∧ w'.ownsRow base 31 5 v' (n + 1) (xs ++ vs) ∧ w.grownBy w' v.ownBlock := by
 obtain ⟨i0, hi0, hz0, hzs, hzb⟩ := info_parts info31
 obtain ⟨A, c, rfl⟩ := own_slice hown
 have hnc : n ≤ c := by
  rcases hown.2 with ⟨h1, rfl⟩ | ⟨g, cap, cur, h1, _, _, h2, _⟩
  ·omega
  ·injection h1 with _ _ h1; omega
 have HOWN := Aside0.mk hown
 have HVS := Aside0.mk hvs
 have hcut := fun (W : World) => cut_from (P := Try.prog) 22 31 .i64 Try.underlying22 hi0 5 hzs A n c (n : Int) (by omega) (by omega) W
 clear hown hvs
 go_enter Try.func56, Try.ntmps56
 go_wp2_with (at_builtin; refine wpList_append_own _ rfl _ _ 22 rfl base 31 i0 _ 5 72 Try.underlying22 hi0 hz0 hzs hzb rfl (by decide) _ _ _ rfl HOWN.out ⟨vb, 0, none⟩ 1 1 vs rfl hvl ?c1 ?c2 ?c3 ?c4 ?c5 ?_; (case c1 => exact fun j u hj => by rw [Addr.add_lit, Nat.zero_add]; exact HVS.out j u hj); (case c2 => exact h1v); (case c3 => unfold maxLen; omega); (case c4 => omega); (case c5 => exact hbase); intro v' w1 ho hg _)
 all_goals
  go_ret
  refine ⟨_, rfl, ho, ?_⟩
  cases A <;> exact hg
/-! ### The row -/
theorem insert_list1 {cu cu1 cu2 xs vs : List Value} {i n : Nat} (hi : i < n) (h : cu.take (n * 5) = xs) (hvl : vs.length = 5) (hl : (n + 1) * 5 ≤ cu.length)
  (h1 : cu1 = cu.take ((i + 1) * 5) ++ xs.drop (i * 5) ++ cu.drop ((i + 1) * 5 + (xs.drop (i * 5)).length)) (h2 : cu2 = cu1.take (i * 5) ++ vs ++ cu1.drop (i * 5 + vs.length)) :
  cu2.take ((n + 1) * 5) = xs.take (i * 5) ++ vs ++ xs.drop (i * 5) := by
 have hxl : xs.length = n * 5 := by rw [← h, List.length_take]; omega
 have ha : cu1.take (i * 5) = xs.take (i * 5) := by
  rw [h1, List.append_assoc, List.take_append_of_le_length (by rw [List.length_take]; omega), List.take_take, ← h, List.take_take]
  congr 1; omega
 have hb : cu1.drop (i * 5 + vs.length) = xs.drop (i * 5) ++ cu.drop ((i + 1) * 5 + (xs.drop (i * 5)).length) := by
  rw [h1, List.append_assoc, List.drop_left' (by rw [List.length_take]; omega)]
 rw [h2, ha, hb, ← List.append_assoc]
 rw [List.take_left' (by rw [List.length_append, List.length_append, List.length_take, List.length_drop]; omega)]
theorem insert_list2 {ro ro1 ro2 xs vs : List Value} {i n : Nat} (hi : i < n) (hxl : xs.length = n * 5) (h : ro.take (i * 5) = xs.take (i * 5)) (hvl : vs.length = 5) (hl : (n + 1) * 5 ≤ ro.length)
  (h1 : ro1 = ro.take (i * 5) ++ vs ++ ro.drop (i * 5 + vs.length)) (h2 : ro2 = ro1.take ((i + 1) * 5) ++ xs.drop (i * 5) ++ ro1.drop ((i + 1) * 5 + (xs.drop (i * 5)).length)) :
  ro2.take ((n + 1) * 5) = xs.take (i * 5) ++ vs ++ xs.drop (i * 5) := by
 have ha : ro1.take ((i + 1) * 5) = xs.take (i * 5) ++ vs := by
  rw [h1, h, List.take_left' (by rw [List.length_append, List.length_take]; omega)]
 rw [h2, ha]
 rw [List.take_left' (by rw [List.length_append, List.length_append, List.length_take, List.length_drop]; omega)]
theorem slices_Insert.calls (base n i vb : Nat) (v : Value) (xs vs : List Value) (w : World) (hn63 : n < 1000000) (hi : i ≤ n) (hbase : base ≤ w.heap.size) (hown : w.ownsRow base 31 5 v n xs) (h1x : ∀ u ∈ xs, u.oneCell' = true)
  (hvl : vs.length = 5) (hvb : v.ownBlock ≠ some vb) (hv : w.heap[vb]? = some (.cells vs.toArray 31 (0, 0))) (h1v : ∀ u ∈ vs, u.oneCell' = true) :
  Calls Try.prog 56 #[v, .int .i64 i, .slice (some ⟨vb, 0, none⟩) 1 1] w fun e w' => ∃ v', e = .returned v' ∧ w'.ownsRow base 31 5 v' (n + 1) (xs.take (i * 5) ++ vs ++ xs.drop (i * 5)) ∧ w.grownBy w' v.ownBlock := by
 have hvs : ∀ j u, vs[j]? = some u → w.cell? ⟨vb, j, none⟩ = some u := fun j u hj => by rw [blk_cell hv]; simpa using hj
 have hxl := hown.1
 by_cases hin : i = n
 ·subst hin
  have e1 : xs.take (i * 5) = xs := List.take_of_length_le (by omega)
  have e2 : xs.drop (i * 5) = [] := List.drop_eq_nil_of_le (by omega)
  rw [e1, e2, List.append_nil]
  exact insert_end base i vb v xs vs w hn63 hbase hown hvl hvs h1v
 ·have hlt : i < n := by omega
  rcases hown.2 with ⟨_, hz⟩ | ⟨g, c, cur, hvv, hg, hh, hnc, hcm, hcs, htk⟩
  ·omega
  ·subst hvv
   have hne : vb ≠ g := fun e => hvb (by rw [e]; rfl)
   have hcs2 : ∀ j u, xs[j]? = some u → w.cell? ⟨g, j, none⟩ = some u := fun j u hj => by
    have hjl : j < n * 5 := by have := (List.getElem?_eq_some_iff.1 hj).1; omega
    rw [blk_cell hh]
    rw [← htk, List.getElem?_take_of_lt hjl, Array.getElem?_toList] at hj
    exact hj
   by_cases hroom : n + 1 ≤ c
   ·refine (insert_shift g n c i vb xs vs w hlt hroom (by unfold maxLen at hcm; omega) hn63 hne hxl hvl hcs2 (fun j hj => by rw [blk_cell hh, Array.getElem?_eq_getElem (by omega)]; rfl) (fun j _ => blk_frozen hh j) hvs h1x h1v 31 31 5 cur.size
     (by simp [World.shape?, hv, hvl]) (by simp [World.shape?, hh]) (by omega) (blk_frozen hv 0) (blk_frozen hv 5)).mono ?_
    rintro e w' ⟨rfl, rfl⟩
    obtain ⟨cur1, h1, h2, h3⟩ := setCells_row (xs.drop (i * 5)) ((i + 1) * 5) w.drew cur hh (by rw [List.length_drop]; omega)
    obtain ⟨cur2, h4, h5, h6⟩ := setCells_row vs (i * 5) _ cur1 h1 (by omega)
    have s1 := setCells_same g (xs.drop (i * 5)) ((i + 1) * 5) w.drew
    have s2 := setCells_same g vs (i * 5) (w.drew.setCells g ((i + 1) * 5) (xs.drop (i * 5)))
    refine ⟨_, rfl, ⟨?_, .inr ⟨g, c, cur2, rfl, hg, h4, hroom, hcm, by omega, ?_⟩⟩, ⟨s2.1.trans s1.1, s2.2.1.trans s1.2.1, s2.2.2.1.trans s1.2.2.1, ?_, fun k hk hr => ?_⟩⟩
    ·rw [List.length_append, List.length_append, List.length_take, List.length_drop]; omega
    ·exact insert_list1 hlt htk hvl (by rw [Array.length_toList]; omega) h3 h6
    ·rw [s2.2.2.2, s1.2.2.2]; exact Nat.le_refl _
    ·have hkg : k ≠ g := fun e => hr (by rw [e]; rfl)
     rw [setCells_far _ _ k hkg, setCells_far _ _ k hkg]
     rfl
   ·obtain rfl : c = n := by omega
    refine (insert_grow g c i vb xs vs w hlt hn63 hxl hvl hcs2 hvs h1x h1v).mono ?_
    rintro e w' ⟨G, ROW, hG, hGm, hRs, hRt, rfl, rfl⟩
    have h0 : (w.alloc (.cells ROW 31)).drew.heap[w.heap.size]? = some (.cells ROW 31 (0, 0)) := heap_alloc_new w (.cells ROW 31)
    obtain ⟨cur1, h1, h2, h3⟩ := setCells_row vs (i * 5) _ ROW h0 (by omega)
    obtain ⟨cur2, h4, h5, h6⟩ := setCells_row (xs.drop (i * 5)) ((i + 1) * 5) ((w.alloc (.cells ROW 31)).drew.setCells w.heap.size (i * 5) vs).drew cur1 h1 (by rw [List.length_drop]; omega)
    have s1 := setCells_same w.heap.size vs (i * 5) (w.alloc (.cells ROW 31)).drew
    have s2 := setCells_same w.heap.size (xs.drop (i * 5)) ((i + 1) * 5) ((w.alloc (.cells ROW 31)).drew.setCells w.heap.size (i * 5) vs).drew
    refine ⟨_, rfl, ⟨?_, .inr ⟨w.heap.size, G, cur2, rfl, hbase, h4, hG, hGm, by omega, ?_⟩⟩, ⟨s2.1.trans s1.1, s2.2.1.trans s1.2.1, s2.2.2.1.trans s1.2.2.1, ?_, fun k hk hr => ?_⟩⟩
    ·rw [List.length_append, List.length_append, List.length_take, List.length_drop]; omega
    ·exact insert_list2 hlt hxl hRt hvl (by rw [Array.length_toList]; omega) h3 h6
    ·rw [s2.2.2.2]
     show _ ≤ ((w.alloc (.cells ROW 31)).drew.setCells w.heap.size (i * 5) vs).heap.size
     rw [s1.2.2.2]
     show _ ≤ (w.alloc (.cells ROW 31)).heap.size
     simp
    ·rw [setCells_far _ _ k (by omega)]
     show ((w.alloc (.cells ROW 31)).drew.setCells w.heap.size (i * 5) vs).heap[k]? = _
     rw [setCells_far _ _ k (by omega)]
     exact Below.heap_alloc w _ k hk
end Go.Proofs.Ytopkmchkfcjjmaa.X
end

/-! ## PutLem -/
section
namespace Go.Proofs.Ytopkmchkfcjjmaa.X
open Go.RowKit Go.Proofs.YtopkmchkfcjjmaaW.PrintWords Go.Proofs.YtopkmchkfcjjmaaW.PrintLast Go.Proofs.YtopkmchkfcjjmaaW.PrintMore
set_option linter.unusedVariables false
/-- A row of entries, opened: its cells, and that they read as the entries wherever what they lead to stays. -/
theorem N_cells {w : World} {base : Nat} {ok : Nat → Prop} {v : Value} {l : List (S31)} (h : Kd.N k31 31 w base ok v l) : ∃ inner : List Value, w.ownsRow base 31 5 v l.length inner ∧ (∀ u ∈ inner, u.oneCell' = true) ∧
  ∀ w' : World, (∀ k, (ok k ∧ some k ≠ v.ownBlock) → k < w.heap.size → w'.heap[k]? = w.heap[k]?) → Reps (fun x c => k31.K w' x c) 5 l inner := by
 obtain ⟨h0, rows, hrl, ⟨_, inner, hown, hreps⟩, hF⟩ := h
 rw [hrl] at hown
 refine ⟨inner, hown, ?_, fun w' hw => ⟨by rw [hreps.1, hrl]; rfl, fun j p hj => ?_⟩⟩
 ·intro u hu
  obtain ⟨q, hq, rfl⟩ := List.mem_iff_getElem.1 hu
  have hl : inner.length = rows.length * 5 := hreps.1
  have hjr : q / 5 < rows.length := by omega
  obtain ⟨h1, h2, h3⟩ := hreps.2 (q / 5) rows[q / 5] (List.getElem?_eq_getElem hjr)
  refine h3 _ ?_
  refine List.mem_iff_getElem?.2 ⟨q % 5, ?_⟩
  show ((inner.drop (q / 5 * 5)).take 5)[q % 5]? = _
  rw [List.getElem?_take_of_lt (by omega), List.getElem?_drop, show q / 5 * 5 + q % 5 = q by omega, List.getElem?_eq_getElem hq]
 ·have hjl : j < l.length := (List.getElem?_eq_some_iff.1 hj).1
  have hjr : j < rows.length := by omega
  obtain ⟨h1, _, _⟩ := hreps.2 j rows[j] (List.getElem?_eq_getElem hjr)
  rw [show (inner.drop (j * 5)).take 5 = rows[j] from h1]
  exact hF j p rows[j] hj (List.getElem?_eq_getElem hjr) w' hw
theorem reps_mid {α : Type} {R : α → List Value → Prop} {size : Nat} {ps : List α} {cs : List Value} (h : Reps R size ps cs) (i j : Nat) (hi : i ≤ ps.length) {x : α} {vs : List Value} (hx : R x vs) (hvl : vs.length = size) : Reps R size (ps.take i ++ x :: ps.drop j) (cs.take (i * size) ++ vs ++ cs.drop (j * size)) := by
 have h1 := Kd.reps_append ((Kd.reps_take h hi).snoc hx hvl) (Kd.reps_drop (m := j) h)
 rw [List.append_assoc, List.singleton_append] at h1
 exact h1
/-- A row read out of the block that it owns. -/
theorem own_C {w : World} {base n : Nat} {v : Value} {l : List (S31)} {inner : List Value} (h : w.ownsRow base 31 5 v n inner) (hr : Reps (fun x c => k31.K w x c) 5 l inner) (hn : l.length = n) : ∃ A c, v = .slice A l.length c ∧ l.length ≤ c ∧ Kd.C k31 w A l.length l := by
 subst hn
 obtain ⟨A, c, rfl, hC⟩ := own_reads_row h hr rfl
 refine ⟨A, c, rfl, ?_, hC⟩
 rcases h.2 with ⟨h1, h2⟩ | ⟨g, cap, cur, h1, _, _, h2, _⟩
 ·omega
 ·injection h1 with _ _ h1; omega
theorem lay_list {L vs inner : List Value} {i n : Nat} (hi : i < n) (hL : n * 5 ≤ L.length) (htk : L.take (n * 5) = inner) (hvl : vs.length = 5) : (L.take (i * 5) ++ vs ++ L.drop (i * 5 + vs.length)).take (n * 5) = inner.take (i * 5) ++ vs ++ inner.drop ((i + 1) * 5) := by
 subst htk
 have e1 : L.drop (i * 5 + vs.length) = (L.take (n * 5)).drop ((i + 1) * 5) ++ L.drop (n * 5) := by
  have h1 : L = L.take (n * 5) ++ L.drop (n * 5) := (List.take_append_drop _ _).symm
  conv => lhs; rw [h1]
  rw [List.drop_append_of_le_length (by rw [List.length_take]; omega), hvl, show (i + 1) * 5 = i * 5 + 5 by omega]
 have e2 : L.take (i * 5) = (L.take (n * 5)).take (i * 5) := by rw [List.take_take, show min (i * 5) (n * 5) = i * 5 by omega]
 rw [e1, ← List.append_assoc, e2]
 refine List.take_left' ?_
 simp only [List.length_append, List.length_take, List.length_drop]
 omega
theorem own_ge {w : World} {base : Nat} {e : TypeId} {size n : Nat} {v : Value} {xs : List Value} (h : w.ownsRow base e size v n xs) (k : Nat) (hk : v.ownBlock = some k) : base ≤ k := by
 rcases h.2 with ⟨rfl, _⟩ | ⟨g, cap, cur, rfl, hb, hh, _⟩
 ·simp [Value.ownBlock] at hk
 ·have : g = k := by simpa [Value.ownBlock] using hk
  omega
theorem one5 (a : ByteArray) (b c : Int) (A : Option Addr) (n m : Nat) (d : ByteArray) : ∀ u ∈ [Value.string a, .int .i64 b, .int .i64 c, .slice A n m, .string d], u.oneCell' = true := by
 intro u hu
 simp only [List.mem_cons, List.not_mem_nil, or_false] at hu
 rcases hu with rfl | rfl | rfl | rfl | rfl <;> rfl
/-- An entry laid over the one that is there. -/
theorem own_lay {w : World} {base n i g c : Nat} {inner vs : List Value} (h : w.ownsRow base 31 5 (.slice (some ⟨g, 0, none⟩) n c) n inner) (hi : i < n) (hvl : vs.length = 5) :
  (w.setCells g (i * 5) vs).ownsRow base 31 5 (.slice (some ⟨g, 0, none⟩) n c) n (inner.take (i * 5) ++ vs ++ inner.drop ((i + 1) * 5)) ∧ ∀ k, k ≠ g → (w.setCells g (i * 5) vs).heap[k]? = w.heap[k]? := by
 refine ⟨?_, fun k hk => setCells_far _ _ k hk⟩
 have hil := h.1
 rcases h.2 with ⟨h1, _⟩ | ⟨g', cap, cur, hv, hg, hh, hnc, hcm, hcs, htk⟩
 ·cases h1
 ·injection hv with ha _ hc
  injection ha with ha
  injection ha with ha _ _
  subst ha hc
  obtain ⟨cur', h4, h5, h6⟩ := setCells_row vs (i * 5) w cur hh (by omega)
  refine ⟨by rw [List.length_append, List.length_append, List.length_take, List.length_drop]; omega, .inr ⟨g, c, cur', rfl, hg, h4, hnc, hcm, by omega, ?_⟩⟩
  have hcl : cur.toList.length = c * 5 := by rw [Array.length_toList]; exact hcs
  rw [h6]
  exact lay_list hi (by omega) htk hvl
theorem own_there {w : World} {base n i q g c : Nat} {inner : List Value} (h : w.ownsRow base 31 5 (.slice (some ⟨g, 0, none⟩) n c) n inner) (hi : i < n) (hq : q < 5) : (w.cell? ⟨g, i * 5 + q, none⟩).isSome = true ∧ w.frozen? ⟨g, i * 5 + q, none⟩ = false := by
 rcases h.2 with ⟨h1, _⟩ | ⟨g', cap, cur, hv, hg, hh, hnc, hcm, hcs, htk⟩
 ·cases h1
 ·injection hv with ha _ hc
  injection ha with ha
  injection ha with ha _ _
  subst ha hc
  exact ⟨by rw [blk_cell hh, Array.getElem?_eq_getElem (by omega)]; rfl, blk_frozen hh _⟩
/-- A row of one entry, read out of its block. -/
theorem row1_C {W : World} {g : Nat} {x : S31} {A3 : Option Addr} {c3 : Nat} (h : W.heap[g]? = some (.cells #[.string x.f0, .int .i64 x.f1, .int .i64 x.f2, .slice A3 x.f3.length c3, .string x.f4] 31 (0, 0))) (hl : x.f3.length ≤ c3) (hr : Kd.C (Kd.int .u8) W A3 x.f3.length x.f3) : Kd.C k31 W (some ⟨g, 0, none⟩) 1 [x] := by
 have ho : W.ownsRow g 31 5 (.slice (some ⟨g, 0, none⟩) 1 1) 1 [.string x.f0, .int .i64 x.f1, .int .i64 x.f2, .slice A3 x.f3.length c3, .string x.f4] :=
  ⟨rfl, .inr ⟨g, 1, _, rfl, Nat.le_refl _, h, Nat.le_refl _, by decide, rfl, rfl⟩⟩
 obtain ⟨A, c, he, _, hC⟩ := own_C (l := [x]) ho ⟨rfl, fun j p hj => by
  match j with
  | 0 =>
   obtain rfl := Option.some.inj hj
   exact k31_mk W x hl hr
  | j + 1 => cases hj⟩ rfl
 injection he with ha _ _
 rw [ha]
 exact hC
end Go.Proofs.Ytopkmchkfcjjmaa.X
end

/-! ## TreePut -/
section
namespace Go.Proofs.Ytopkmchkfcjjmaa.X
open Go.RowKit Go.Proofs.YtopkmchkfcjjmaaW.PrintWords Go.Proofs.YtopkmchkfcjjmaaW.PrintLast Go.Proofs.YtopkmchkfcjjmaaW.PrintMore
attribute [local go_sem] max2_int min2_int max_two min_two max_three min_three max_four min_four   -- for this text's walks alone
set_option linter.unusedVariables false
set_option linter.unusedSimpArgs false

attribute [local go_sem] str_gtr fld_fault0 fld_fault1
/-! ### tree_Put: function 30 -/
/-- A tree with an entry at the place p (laid over the one that is there, or put in). -/
def putAt (l : List (S31)) (p : Int × Bool) (x : S31) : List (S31) := if p.2 = true then l.set p.1.toNat x else l.take p.1.toNat ++ x :: l.drop p.1.toNat
def tree_Put.f (k : Nat) (l0 : List (S31)) (a1_0 : ByteArray) (a1_1 : Int) (a1_2 : Int) (l1_3 : List Int) (a1_4 : ByteArray) : Option ((List (S31)) × Int) :=
 if l0.length < 1000000 then ((tree_Check.f k l0).bind fun c => if c.1 = 0 then ((tree_place.f k l0 a1_0).bind fun p => if 0 ≤ p.1 ∧ p.1 ≤ (l0.length : Int) ∧ (p.2 = true → p.1 < (l0.length : Int)) then
  ((tree_Check.f k (putAt l0 p ⟨a1_0, a1_1, a1_2, l1_3, a1_4⟩)).bind fun c2 => if c2.1 = 0 then ((tree_clone.f k (putAt l0 p ⟨a1_0, a1_1, a1_2, l1_3, a1_4⟩)).bind fun r => some (r, 0)) else some ([], c2.1)) else none) else some ([], c.1)) else none
theorem tree_Put.mono : ∀ l0 a1 a2 a3 a4 a5 k, LeO (tree_Put.f k l0 a1 a2 a3 a4 a5) (tree_Put.f (k + 1) l0 a1 a2 a3 a4 a5) := by
 intro l0 a1 a2 a3 a4 a5 k
 unfold tree_Put.f
 exact LeO.ite (LeO.bind (tree_Check.mono _ _) fun _ => LeO.ite (LeO.bind (tree_place.mono _ _ _) fun _ => LeO.ite (LeO.bind (tree_Check.mono _ _) fun _ => LeO.ite (LeO.bind (tree_clone.mono _ _) fun _ => LeO.refl _) (LeO.refl _)) (LeO.refl _)) (LeO.refl _)) (LeO.refl _)
set_option maxHeartbeats 8000000 in
set_option maxRecDepth 100000 in
/-- The tree's row with the entry in it, up to the second check: what is told of it there. -/
theorem tree_Put.bad (k : Nat) (A0 : Option Addr) (c0 : Nat) (l0 : List (S31)) (a1_0 : ByteArray) (a1_1 : Int) (a1_2 : Int) (A1_3 : Option Addr) (c1_3 : Nat) (l1_3 : List Int) (a1_4 : ByteArray) (r1 : List (S31)) (r2 : Int) (w : World) (hr0 : Kd.C k31 w A0 l0.length l0) (hc0 : l0.length ≤ c0) (hr1_3 : Kd.C (Kd.int .u8) w A1_3 l1_3.length l1_3) (hc1_3 : l1_3.length ≤ c1_3) (e1 e2 : Int) (hck : tree_Check.f k l0 = some (e1, e2)) (h : e1 ≠ 0) :
  Calls Try.prog 30 #[.slice A0 l0.length c0, .agg #[.string a1_0, .int .i64 a1_1, .int .i64 a1_2, .slice A1_3 l1_3.length c1_3, .string a1_4]] w fun e w' =>  e = .returned (.tuple #[.slice none 0 0, .int .i64 e1]) ∧ Below w.heap.size w w' := by
 have HC := Aside0.mk hck
 have HR0 := Aside0.mk hr0
 have d4 : (e1 != 0) = true := bne_iff_ne.mpr h
 clear hck hr0 hr1_3
 go_enter Try.func30, Try.ntmps30
 go_wp2_with (go_at_call 11; refine (tree_Check.calls k A0 c0 l0 e1 e2 _ (Kd.C_below HR0.out (below_alloc (Below.refl _ w) (.cells #[.string a1_0, .int .i64 a1_1, .int .i64 a1_2, .slice A1_3 l1_3.length c1_3, .string a1_4] 31))) hc0 HC.out).mono ?_; rintro e w2 ⟨rfl, hb⟩; have HB2 := Aside0.mk (below_step (below_alloc (Below.refl _ w) (.cells #[.string a1_0, .int .i64 a1_1, .int .i64 a1_2, .slice A1_3 l1_3.length c1_3, .string a1_4] 31)) hb); have BK2 := Aside0.mk (blk_below (heap_alloc_new w (.cells #[.string a1_0, .int .i64 a1_1, .int .i64 a1_2, .slice A1_3 l1_3.length c1_3, .string a1_4] 31)) hb); clear hb; have hx0 : w2.cell? ⟨w.heap.size, 0, none⟩ = some (.string a1_0) := (blk_cell BK2.out 0).trans rfl)
 go_ret2
 exact ⟨rfl, HB2.out⟩
set_option maxHeartbeats 8000000 in
set_option maxRecDepth 100000 in
theorem tree_Put.there_ok (k : Nat) (A0 : Option Addr) (c0 : Nat) (l0 : List (S31)) (a1_0 : ByteArray) (a1_1 : Int) (a1_2 : Int) (A1_3 : Option Addr) (c1_3 : Nat) (l1_3 : List Int) (a1_4 : ByteArray) (r1 : List (S31)) (r2 : Int) (w : World) (hr0 : Kd.C k31 w A0 l0.length l0) (hc0 : l0.length ≤ c0) (hr1_3 : Kd.C (Kd.int .u8) w A1_3 l1_3.length l1_3) (hc1_3 : l1_3.length ≤ c1_3) (e2 f1 f2 : Int) (i : Nat) (hck : tree_Check.f k l0 = some (0, e2)) (hpl : tree_place.f k l0 a1_0 = some ((i : Int), true)) (hlen : l0.length < 1000000) (hi : i < l0.length) (hc2 : tree_Check.f k (putAt l0 ((i : Int), true) (⟨a1_0, a1_1, a1_2, l1_3, a1_4⟩ : S31)) = some (0, f2)) (hcl : tree_clone.f k (putAt l0 ((i : Int), true) (⟨a1_0, a1_1, a1_2, l1_3, a1_4⟩ : S31)) = some r1) :
  Calls Try.prog 30 #[.slice A0 l0.length c0, .agg #[.string a1_0, .int .i64 a1_1, .int .i64 a1_2, .slice A1_3 l1_3.length c1_3, .string a1_4]] w fun e w' =>  ∃ v0_ : Value, e = .returned (.tuple #[v0_, .int .i64 0]) ∧ Kd.S k31 31 w' w.heap.size (fun _ => True) v0_ r1 ∧ FullRow w' v0_ r1 ∧ Below w.heap.size w w' := by
 obtain ⟨out, hout⟩ : ∃ out, out = putAt l0 ((i : Int), true) (⟨a1_0, a1_1, a1_2, l1_3, a1_4⟩ : S31) := ⟨_, rfl⟩
 rw [← hout] at hc2 hcl
 have HOUT := Aside0.mk hout
 have HC := Aside0.mk hck
 have HP := Aside0.mk hpl
 have HC2 := Aside0.mk hc2
 have HR0 := Aside0.mk hr0
 have HR1 := Aside0.mk hr1_3
 have HCL := Aside0.mk (show api_Entry_55.f l0 = some l0 by unfold api_Entry_55.f; rw [if_pos (by omega)])
 have HR := Aside0.mk hcl
 clear hcl
 clear hout hck hpl hc2 hr0 hr1_3
 go_enter Try.func30, Try.ntmps30
 go_wp2_with (first
  | (go_at_call 11; refine (tree_Check.calls k A0 c0 l0 0 e2 _ (Kd.C_below HR0.out (below_alloc (Below.refl _ w) (.cells #[.string a1_0, .int .i64 a1_1, .int .i64 a1_2, .slice A1_3 l1_3.length c1_3, .string a1_4] 31))) hc0 HC.out).mono ?_; rintro e w2 ⟨rfl, hb⟩; have HB2 := Aside0.mk (below_step (below_alloc (Below.refl _ w) (.cells #[.string a1_0, .int .i64 a1_1, .int .i64 a1_2, .slice A1_3 l1_3.length c1_3, .string a1_4] 31)) hb); have BK2 := Aside0.mk (blk_below (heap_alloc_new w (.cells #[.string a1_0, .int .i64 a1_1, .int .i64 a1_2, .slice A1_3 l1_3.length c1_3, .string a1_4] 31)) hb); clear hb; have hx0 : w2.cell? ⟨w.heap.size, 0, none⟩ = some (.string a1_0) := (blk_cell BK2.out 0).trans rfl)
  | (go_at_call 40; refine (tree_place.calls k A0 c0 l0 a1_0 (i : Int) true _ (Kd.C_below HR0.out HB2.out) hc0 HP.out).mono ?_; rintro e w3 ⟨rfl, hb⟩; have HB3 := Aside0.mk (below_step HB2.out hb); have BK3 := Aside0.mk (blk_below BK2.out hb); clear hb hx0))
 go_at_call 55
 refine (api_Entry_55.calls (fun k => k < w3.heap.size) A0 c0 l0 l0 _ (Kd.V_mk hc0 (Kd.C_F k31_heap (Kd.C_below HR0.out HB3.out))) HCL.out).mono ?_
 rintro e w4 ⟨v10, rfl, hn, hb⟩
 obtain ⟨inner, ho, h1c, hrp⟩ := N_cells hn
 have HN := Aside0.mk hn
 have HO := Aside0.mk ho
 have H1C := Aside0.mk h1c
 have HRP := Aside0.mk hrp
 have HB4 := Aside0.mk (below_step HB3.out hb)
 have HB34 := Aside0.mk hb.size
 have BK4 := Aside0.mk (blk_below BK3.out hb)
 clear hb hn ho h1c hrp
 have hx0 : w4.cell? ⟨w.heap.size, 0, none⟩ = some (.string a1_0) := (blk_cell BK4.out 0).trans rfl
 have hx1 : w4.cell? ⟨w.heap.size, 1, none⟩ = some (.int .i64 a1_1) := (blk_cell BK4.out 1).trans rfl
 have hx2 : w4.cell? ⟨w.heap.size, 2, none⟩ = some (.int .i64 a1_2) := (blk_cell BK4.out 2).trans rfl
 have hx3 : w4.cell? ⟨w.heap.size, 3, none⟩ = some (.slice A1_3 l1_3.length c1_3) := (blk_cell BK4.out 3).trans rfl
 have hx4 : w4.cell? ⟨w.heap.size, 4, none⟩ = some (.string a1_4) := (blk_cell BK4.out 4).trans rfl
 obtain ⟨g, c, rfl, hg0, hgl, hgc⟩ := Kd.N_form HN.out (by omega)
 have HG0 := Aside0.mk hg0
 have HGL := Aside0.mk hgl
 have HGC := Aside0.mk hgc
 clear hg0 hgl hgc
 have hd : (i : Int) < (l0.length : Int) := by omega
 obtain ⟨y0, hy0⟩ := Option.isSome_iff_exists.1 (own_there HO.out (i := i) (q := 0) (by omega) (by decide)).1
 have hf0 := (own_there HO.out (i := i) (q := 0) (by omega) (by decide)).2
 obtain ⟨y1, hy1⟩ := Option.isSome_iff_exists.1 (own_there HO.out (i := i) (q := 1) (by omega) (by decide)).1
 have hf1 := (own_there HO.out (i := i) (q := 1) (by omega) (by decide)).2
 obtain ⟨y2, hy2⟩ := Option.isSome_iff_exists.1 (own_there HO.out (i := i) (q := 2) (by omega) (by decide)).1
 have hf2 := (own_there HO.out (i := i) (q := 2) (by omega) (by decide)).2
 obtain ⟨y3, hy3⟩ := Option.isSome_iff_exists.1 (own_there HO.out (i := i) (q := 3) (by omega) (by decide)).1
 have hf3 := (own_there HO.out (i := i) (q := 3) (by omega) (by decide)).2
 obtain ⟨y4, hy4⟩ := Option.isSome_iff_exists.1 (own_there HO.out (i := i) (q := 4) (by omega) (by decide)).1
 have hf4 := (own_there HO.out (i := i) (q := 4) (by omega) (by decide)).2
 rw [Nat.add_zero] at hy0 hf0
 go_wp2_with (fail)
 obtain ⟨hol, hfar⟩ := own_lay (vs := [.string a1_0, .int .i64 a1_1, .int .i64 a1_2, .slice A1_3 l1_3.length c1_3, .string a1_4]) HO.out (i := i) (by omega) rfl
 have hrp2 := HRP.out (w4.setCells g (i * 5) [.string a1_0, .int .i64 a1_1, .int .i64 a1_2, .slice A1_3 l1_3.length c1_3, .string a1_4]) (fun k hk _ => hfar k (fun e => hk.2 (by rw [e]; rfl)))
 have hbs : Below w.heap.size w (w4.setCells g (i * 5) [.string a1_0, .int .i64 a1_1, .int .i64 a1_2, .slice A1_3 l1_3.length c1_3, .string a1_4]) := by
  have s := setCells_same g [.string a1_0, .int .i64 a1_1, .int .i64 a1_2, .slice A1_3 l1_3.length c1_3, .string a1_4] (i * 5) w4
  exact ⟨s.1.trans HB4.out.os, s.2.1.trans HB4.out.tape, s.2.2.1.trans HB4.out.output, by rw [s.2.2.2]; exact HB4.out.size, fun k hk => (hfar k (by have := HG0.out; have := HB3.out.size; omega)).trans (HB4.out.block k hk)⟩
 have hxk : k31.K (w4.setCells g (i * 5) [.string a1_0, .int .i64 a1_1, .int .i64 a1_2, .slice A1_3 l1_3.length c1_3, .string a1_4]) (⟨a1_0, a1_1, a1_2, l1_3, a1_4⟩ : S31) [.string a1_0, .int .i64 a1_1, .int .i64 a1_2, .slice A1_3 l1_3.length c1_3, .string a1_4] := k31_mk _ (⟨a1_0, a1_1, a1_2, l1_3, a1_4⟩ : S31) hc1_3 (Kd.C_below HR1.out hbs)
 obtain ⟨Ao, co, hoe, hlo, hCO⟩ := own_C (l := out) hol (by rw [HOUT.out, putAt, if_pos rfl, List.set_eq_take_append_cons_drop, if_pos (by simpa using hi)]; exact reps_mid hrp2 i (i + 1) (by omega) hxk rfl) (by rw [HOUT.out, putAt, if_pos rfl, List.length_set])
 have hol2 : out.length = l0.length := by rw [HOUT.out, putAt, if_pos rfl, List.length_set]
 have hoe2 : Value.slice (some ⟨g, 0, none⟩) l0.length c = .slice Ao out.length co := hoe
 have HCO := Aside0.mk hCO
 have HLO := Aside0.mk hlo
 have HBO := Aside0.mk hbs
 rw [hoe2]
 clear hol hfar hrp2 hbs hxk hlo hCO hoe hoe2 hol2
 go_at_call 11
 refine (tree_Check.calls k Ao co out 0 f2 _ HCO.out HLO.out HC2.out).mono ?_
 rintro e w7 ⟨rfl, hb⟩
 have HBO7 := Aside0.mk hb
 have HB7 := Aside0.mk (below_step HBO.out hb)
 clear hb
 go_wp2_with ((go_at_call 41; refine (tree_clone.calls2 k Ao co out r1 _ (Kd.C_below HCO.out HBO7.out) HLO.out HR.out).mono ?_; rintro e w8 ⟨v8, rfl, hs, hf, hb⟩; have HS8 := Aside0.mk (Kd.S_lower hs HB7.out.size); have HF8 := Aside0.mk hf; have HB8 := Aside0.mk (below_step HB7.out hb); clear hs hf hb))
 go_ret2
 exact ⟨_, rfl, HS8.out, HF8.out, HB8.out⟩
set_option maxHeartbeats 8000000 in
set_option maxRecDepth 100000 in
theorem tree_Put.there_bad (k : Nat) (A0 : Option Addr) (c0 : Nat) (l0 : List (S31)) (a1_0 : ByteArray) (a1_1 : Int) (a1_2 : Int) (A1_3 : Option Addr) (c1_3 : Nat) (l1_3 : List Int) (a1_4 : ByteArray) (r1 : List (S31)) (r2 : Int) (w : World) (hr0 : Kd.C k31 w A0 l0.length l0) (hc0 : l0.length ≤ c0) (hr1_3 : Kd.C (Kd.int .u8) w A1_3 l1_3.length l1_3) (hc1_3 : l1_3.length ≤ c1_3) (e2 f1 f2 : Int) (i : Nat) (hck : tree_Check.f k l0 = some (0, e2)) (hpl : tree_place.f k l0 a1_0 = some ((i : Int), true)) (hlen : l0.length < 1000000) (hi : i < l0.length) (hc2 : tree_Check.f k (putAt l0 ((i : Int), true) (⟨a1_0, a1_1, a1_2, l1_3, a1_4⟩ : S31)) = some (f1, f2)) (hf1 : f1 ≠ 0) :
  Calls Try.prog 30 #[.slice A0 l0.length c0, .agg #[.string a1_0, .int .i64 a1_1, .int .i64 a1_2, .slice A1_3 l1_3.length c1_3, .string a1_4]] w fun e w' =>  e = .returned (.tuple #[.slice none 0 0, .int .i64 f1]) ∧ Below w.heap.size w w' := by
 obtain ⟨out, hout⟩ : ∃ out, out = putAt l0 ((i : Int), true) (⟨a1_0, a1_1, a1_2, l1_3, a1_4⟩ : S31) := ⟨_, rfl⟩
 rw [← hout] at hc2
 have HOUT := Aside0.mk hout
 have HC := Aside0.mk hck
 have HP := Aside0.mk hpl
 have HC2 := Aside0.mk hc2
 have HR0 := Aside0.mk hr0
 have HR1 := Aside0.mk hr1_3
 have HCL := Aside0.mk (show api_Entry_55.f l0 = some l0 by unfold api_Entry_55.f; rw [if_pos (by omega)])
 have d6 : (f1 != 0) = true := bne_iff_ne.mpr hf1
 clear hout hck hpl hc2 hr0 hr1_3
 go_enter Try.func30, Try.ntmps30
 go_wp2_with (first
  | (go_at_call 11; refine (tree_Check.calls k A0 c0 l0 0 e2 _ (Kd.C_below HR0.out (below_alloc (Below.refl _ w) (.cells #[.string a1_0, .int .i64 a1_1, .int .i64 a1_2, .slice A1_3 l1_3.length c1_3, .string a1_4] 31))) hc0 HC.out).mono ?_; rintro e w2 ⟨rfl, hb⟩; have HB2 := Aside0.mk (below_step (below_alloc (Below.refl _ w) (.cells #[.string a1_0, .int .i64 a1_1, .int .i64 a1_2, .slice A1_3 l1_3.length c1_3, .string a1_4] 31)) hb); have BK2 := Aside0.mk (blk_below (heap_alloc_new w (.cells #[.string a1_0, .int .i64 a1_1, .int .i64 a1_2, .slice A1_3 l1_3.length c1_3, .string a1_4] 31)) hb); clear hb; have hx0 : w2.cell? ⟨w.heap.size, 0, none⟩ = some (.string a1_0) := (blk_cell BK2.out 0).trans rfl)
  | (go_at_call 40; refine (tree_place.calls k A0 c0 l0 a1_0 (i : Int) true _ (Kd.C_below HR0.out HB2.out) hc0 HP.out).mono ?_; rintro e w3 ⟨rfl, hb⟩; have HB3 := Aside0.mk (below_step HB2.out hb); have BK3 := Aside0.mk (blk_below BK2.out hb); clear hb hx0))
 go_at_call 55
 refine (api_Entry_55.calls (fun k => k < w3.heap.size) A0 c0 l0 l0 _ (Kd.V_mk hc0 (Kd.C_F k31_heap (Kd.C_below HR0.out HB3.out))) HCL.out).mono ?_
 rintro e w4 ⟨v10, rfl, hn, hb⟩
 obtain ⟨inner, ho, h1c, hrp⟩ := N_cells hn
 have HN := Aside0.mk hn
 have HO := Aside0.mk ho
 have H1C := Aside0.mk h1c
 have HRP := Aside0.mk hrp
 have HB4 := Aside0.mk (below_step HB3.out hb)
 have HB34 := Aside0.mk hb.size
 have BK4 := Aside0.mk (blk_below BK3.out hb)
 clear hb hn ho h1c hrp
 have hx0 : w4.cell? ⟨w.heap.size, 0, none⟩ = some (.string a1_0) := (blk_cell BK4.out 0).trans rfl
 have hx1 : w4.cell? ⟨w.heap.size, 1, none⟩ = some (.int .i64 a1_1) := (blk_cell BK4.out 1).trans rfl
 have hx2 : w4.cell? ⟨w.heap.size, 2, none⟩ = some (.int .i64 a1_2) := (blk_cell BK4.out 2).trans rfl
 have hx3 : w4.cell? ⟨w.heap.size, 3, none⟩ = some (.slice A1_3 l1_3.length c1_3) := (blk_cell BK4.out 3).trans rfl
 have hx4 : w4.cell? ⟨w.heap.size, 4, none⟩ = some (.string a1_4) := (blk_cell BK4.out 4).trans rfl
 obtain ⟨g, c, rfl, hg0, hgl, hgc⟩ := Kd.N_form HN.out (by omega)
 have HG0 := Aside0.mk hg0
 have HGL := Aside0.mk hgl
 have HGC := Aside0.mk hgc
 clear hg0 hgl hgc
 have hd : (i : Int) < (l0.length : Int) := by omega
 obtain ⟨y0, hy0⟩ := Option.isSome_iff_exists.1 (own_there HO.out (i := i) (q := 0) (by omega) (by decide)).1
 have hf0 := (own_there HO.out (i := i) (q := 0) (by omega) (by decide)).2
 obtain ⟨y1, hy1⟩ := Option.isSome_iff_exists.1 (own_there HO.out (i := i) (q := 1) (by omega) (by decide)).1
 have hf1 := (own_there HO.out (i := i) (q := 1) (by omega) (by decide)).2
 obtain ⟨y2, hy2⟩ := Option.isSome_iff_exists.1 (own_there HO.out (i := i) (q := 2) (by omega) (by decide)).1
 have hf2 := (own_there HO.out (i := i) (q := 2) (by omega) (by decide)).2
 obtain ⟨y3, hy3⟩ := Option.isSome_iff_exists.1 (own_there HO.out (i := i) (q := 3) (by omega) (by decide)).1
 have hf3 := (own_there HO.out (i := i) (q := 3) (by omega) (by decide)).2
 obtain ⟨y4, hy4⟩ := Option.isSome_iff_exists.1 (own_there HO.out (i := i) (q := 4) (by omega) (by decide)).1
 have hf4 := (own_there HO.out (i := i) (q := 4) (by omega) (by decide)).2
 rw [Nat.add_zero] at hy0 hf0
 go_wp2_with (fail)
 obtain ⟨hol, hfar⟩ := own_lay (vs := [.string a1_0, .int .i64 a1_1, .int .i64 a1_2, .slice A1_3 l1_3.length c1_3, .string a1_4]) HO.out (i := i) (by omega) rfl
 have hrp2 := HRP.out (w4.setCells g (i * 5) [.string a1_0, .int .i64 a1_1, .int .i64 a1_2, .slice A1_3 l1_3.length c1_3, .string a1_4]) (fun k hk _ => hfar k (fun e => hk.2 (by rw [e]; rfl)))
 have hbs : Below w.heap.size w (w4.setCells g (i * 5) [.string a1_0, .int .i64 a1_1, .int .i64 a1_2, .slice A1_3 l1_3.length c1_3, .string a1_4]) := by
  have s := setCells_same g [.string a1_0, .int .i64 a1_1, .int .i64 a1_2, .slice A1_3 l1_3.length c1_3, .string a1_4] (i * 5) w4
  exact ⟨s.1.trans HB4.out.os, s.2.1.trans HB4.out.tape, s.2.2.1.trans HB4.out.output, by rw [s.2.2.2]; exact HB4.out.size, fun k hk => (hfar k (by have := HG0.out; have := HB3.out.size; omega)).trans (HB4.out.block k hk)⟩
 have hxk : k31.K (w4.setCells g (i * 5) [.string a1_0, .int .i64 a1_1, .int .i64 a1_2, .slice A1_3 l1_3.length c1_3, .string a1_4]) (⟨a1_0, a1_1, a1_2, l1_3, a1_4⟩ : S31) [.string a1_0, .int .i64 a1_1, .int .i64 a1_2, .slice A1_3 l1_3.length c1_3, .string a1_4] := k31_mk _ (⟨a1_0, a1_1, a1_2, l1_3, a1_4⟩ : S31) hc1_3 (Kd.C_below HR1.out hbs)
 obtain ⟨Ao, co, hoe, hlo, hCO⟩ := own_C (l := out) hol (by rw [HOUT.out, putAt, if_pos rfl, List.set_eq_take_append_cons_drop, if_pos (by simpa using hi)]; exact reps_mid hrp2 i (i + 1) (by omega) hxk rfl) (by rw [HOUT.out, putAt, if_pos rfl, List.length_set])
 have hol2 : out.length = l0.length := by rw [HOUT.out, putAt, if_pos rfl, List.length_set]
 have hoe2 : Value.slice (some ⟨g, 0, none⟩) l0.length c = .slice Ao out.length co := hoe
 have HCO := Aside0.mk hCO
 have HLO := Aside0.mk hlo
 have HBO := Aside0.mk hbs
 rw [hoe2]
 clear hol hfar hrp2 hbs hxk hlo hCO hoe hoe2 hol2
 go_at_call 11
 refine (tree_Check.calls k Ao co out f1 f2 _ HCO.out HLO.out HC2.out).mono ?_
 rintro e w7 ⟨rfl, hb⟩
 have HB7 := Aside0.mk (below_step HBO.out hb)
 clear hb
 go_wp2_with (fail)
 go_ret2
 exact ⟨rfl, HB7.out⟩
set_option maxHeartbeats 8000000 in
set_option maxRecDepth 100000 in
theorem tree_Put.new_ok (k : Nat) (A0 : Option Addr) (c0 : Nat) (l0 : List (S31)) (a1_0 : ByteArray) (a1_1 : Int) (a1_2 : Int) (A1_3 : Option Addr) (c1_3 : Nat) (l1_3 : List Int) (a1_4 : ByteArray) (r1 : List (S31)) (r2 : Int) (w : World) (hr0 : Kd.C k31 w A0 l0.length l0) (hc0 : l0.length ≤ c0) (hr1_3 : Kd.C (Kd.int .u8) w A1_3 l1_3.length l1_3) (hc1_3 : l1_3.length ≤ c1_3) (e2 f1 f2 : Int) (i : Nat) (hck : tree_Check.f k l0 = some (0, e2)) (hpl : tree_place.f k l0 a1_0 = some ((i : Int), false)) (hlen : l0.length < 1000000) (hi : i ≤ l0.length) (hc2 : tree_Check.f k (putAt l0 ((i : Int), false) (⟨a1_0, a1_1, a1_2, l1_3, a1_4⟩ : S31)) = some (0, f2)) (hcl : tree_clone.f k (putAt l0 ((i : Int), false) (⟨a1_0, a1_1, a1_2, l1_3, a1_4⟩ : S31)) = some r1) :
  Calls Try.prog 30 #[.slice A0 l0.length c0, .agg #[.string a1_0, .int .i64 a1_1, .int .i64 a1_2, .slice A1_3 l1_3.length c1_3, .string a1_4]] w fun e w' =>  ∃ v0_ : Value, e = .returned (.tuple #[v0_, .int .i64 0]) ∧ Kd.S k31 31 w' w.heap.size (fun _ => True) v0_ r1 ∧ FullRow w' v0_ r1 ∧ Below w.heap.size w w' := by
 obtain ⟨out, hout⟩ : ∃ out, out = putAt l0 ((i : Int), false) (⟨a1_0, a1_1, a1_2, l1_3, a1_4⟩ : S31) := ⟨_, rfl⟩
 rw [← hout] at hc2 hcl
 have HOUT := Aside0.mk hout
 have HC := Aside0.mk hck
 have HP := Aside0.mk hpl
 have HC2 := Aside0.mk hc2
 have HR0 := Aside0.mk hr0
 have HR1 := Aside0.mk hr1_3
 have HCL := Aside0.mk (show api_Entry_55.f l0 = some l0 by unfold api_Entry_55.f; rw [if_pos (by omega)])
 have HR := Aside0.mk hcl
 clear hcl
 clear hout hck hpl hc2 hr0 hr1_3
 go_enter Try.func30, Try.ntmps30
 go_wp2_with (first
  | (go_at_call 11; refine (tree_Check.calls k A0 c0 l0 0 e2 _ (Kd.C_below HR0.out (below_alloc (Below.refl _ w) (.cells #[.string a1_0, .int .i64 a1_1, .int .i64 a1_2, .slice A1_3 l1_3.length c1_3, .string a1_4] 31))) hc0 HC.out).mono ?_; rintro e w2 ⟨rfl, hb⟩; have HB2 := Aside0.mk (below_step (below_alloc (Below.refl _ w) (.cells #[.string a1_0, .int .i64 a1_1, .int .i64 a1_2, .slice A1_3 l1_3.length c1_3, .string a1_4] 31)) hb); have BK2 := Aside0.mk (blk_below (heap_alloc_new w (.cells #[.string a1_0, .int .i64 a1_1, .int .i64 a1_2, .slice A1_3 l1_3.length c1_3, .string a1_4] 31)) hb); clear hb; have hx0 : w2.cell? ⟨w.heap.size, 0, none⟩ = some (.string a1_0) := (blk_cell BK2.out 0).trans rfl)
  | (go_at_call 40; refine (tree_place.calls k A0 c0 l0 a1_0 (i : Int) false _ (Kd.C_below HR0.out HB2.out) hc0 HP.out).mono ?_; rintro e w3 ⟨rfl, hb⟩; have HB3 := Aside0.mk (below_step HB2.out hb); have BK3 := Aside0.mk (blk_below BK2.out hb); clear hb hx0))
 go_at_call 55
 refine (api_Entry_55.calls (fun k => k < w3.heap.size) A0 c0 l0 l0 _ (Kd.V_mk hc0 (Kd.C_F k31_heap (Kd.C_below HR0.out HB3.out))) HCL.out).mono ?_
 rintro e w4 ⟨v10, rfl, hn, hb⟩
 obtain ⟨inner, ho, h1c, hrp⟩ := N_cells hn
 have HN := Aside0.mk hn
 have HO := Aside0.mk ho
 have H1C := Aside0.mk h1c
 have HRP := Aside0.mk hrp
 have HB4 := Aside0.mk (below_step HB3.out hb)
 have HB34 := Aside0.mk hb.size
 have BK4 := Aside0.mk (blk_below BK3.out hb)
 clear hb hn ho h1c hrp
 have hx0 : w4.cell? ⟨w.heap.size, 0, none⟩ = some (.string a1_0) := (blk_cell BK4.out 0).trans rfl
 have hx1 : w4.cell? ⟨w.heap.size, 1, none⟩ = some (.int .i64 a1_1) := (blk_cell BK4.out 1).trans rfl
 have hx2 : w4.cell? ⟨w.heap.size, 2, none⟩ = some (.int .i64 a1_2) := (blk_cell BK4.out 2).trans rfl
 have hx3 : w4.cell? ⟨w.heap.size, 3, none⟩ = some (.slice A1_3 l1_3.length c1_3) := (blk_cell BK4.out 3).trans rfl
 have hx4 : w4.cell? ⟨w.heap.size, 4, none⟩ = some (.string a1_4) := (blk_cell BK4.out 4).trans rfl
 obtain ⟨A10, c10, rfl⟩ := Kd.N_slice HN.out
 go_wp2_with (fail)
 go_at_call 56
 refine (slices_Insert.calls w3.heap.size l0.length i w4.heap.size _ inner [.string a1_0, .int .i64 a1_1, .int .i64 a1_2, .slice A1_3 l1_3.length c1_3, .string a1_4] _ hlen hi (Nat.le_trans HB34.out (by simp)) (pw_own_below HO.out (below_alloc (Below.refl _ w4) (.cells #[.string a1_0, .int .i64 a1_1, .int .i64 a1_2, .slice A1_3 l1_3.length c1_3, .string a1_4] 31))) H1C.out rfl (fun e => Nat.lt_irrefl _ (own_lt HO.out _ e)) (heap_alloc_new w4 (.cells #[.string a1_0, .int .i64 a1_1, .int .i64 a1_2, .slice A1_3 l1_3.length c1_3, .string a1_4] 31)) (one5 _ _ _ _ _ _ _)).mono ?_
 rintro e w6 ⟨v6, rfl, ho, hg⟩
 have HO6 := Aside0.mk ho
 have HG6 := Aside0.mk hg
 clear ho hg
 go_wp2_with (fail)
 have hfar : ∀ k, k < w4.heap.size → some k ≠ (Value.slice A10 l0.length c10).ownBlock → w6.heap[k]? = w4.heap[k]? := fun k hk hne => (HG6.out.block k (Nat.lt_of_lt_of_le hk (by simp)) hne).trans (Below.heap_alloc w4 _ k hk)
 have hrp2 := HRP.out w6 (fun k hk hlt => hfar k hlt hk.2)
 have hbs : Below w.heap.size w w6 := by
  refine ⟨HG6.out.os.trans HB4.out.os, HG6.out.tape.trans HB4.out.tape, HG6.out.output.trans HB4.out.output, Nat.le_trans HB4.out.size (Nat.le_trans (by simp) HG6.out.size), fun k hk => (hfar k (Nat.lt_of_lt_of_le hk HB4.out.size) (fun e => ?_)).trans (HB4.out.block k hk)⟩
  have h1 := own_ge HO.out k e.symm
  have h2 := HB3.out.size
  omega
 have hxk : k31.K w6 (⟨a1_0, a1_1, a1_2, l1_3, a1_4⟩ : S31) [.string a1_0, .int .i64 a1_1, .int .i64 a1_2, .slice A1_3 l1_3.length c1_3, .string a1_4] := k31_mk _ (⟨a1_0, a1_1, a1_2, l1_3, a1_4⟩ : S31) hc1_3 (Kd.C_below HR1.out hbs)
 have hol2 : out.length = l0.length + 1 := by rw [HOUT.out, putAt, if_neg (fun h => Bool.noConfusion h)]; simp only [List.length_append, List.length_cons, List.length_take, List.length_drop, Int.toNat_natCast]; omega
 obtain ⟨Ao, co, hoe, hlo, hCO⟩ := own_C (l := out) HO6.out (by rw [HOUT.out, putAt, if_neg (fun h => Bool.noConfusion h)]; exact reps_mid hrp2 i i hi hxk rfl) hol2
 have HCO := Aside0.mk hCO
 have HLO := Aside0.mk hlo
 have HBO := Aside0.mk hbs
 subst hoe
 clear hfar hrp2 hbs hxk hlo hCO hol2
 go_at_call 11
 refine (tree_Check.calls k Ao co out 0 f2 _ HCO.out HLO.out HC2.out).mono ?_
 rintro e w7 ⟨rfl, hb⟩
 have HBO7 := Aside0.mk hb
 have HB7 := Aside0.mk (below_step HBO.out hb)
 clear hb
 go_wp2_with ((go_at_call 41; refine (tree_clone.calls2 k Ao co out r1 _ (Kd.C_below HCO.out HBO7.out) HLO.out HR.out).mono ?_; rintro e w8 ⟨v8, rfl, hs, hf, hb⟩; have HS8 := Aside0.mk (Kd.S_lower hs HB7.out.size); have HF8 := Aside0.mk hf; have HB8 := Aside0.mk (below_step HB7.out hb); clear hs hf hb))
 go_ret2
 exact ⟨_, rfl, HS8.out, HF8.out, HB8.out⟩
set_option maxHeartbeats 8000000 in
set_option maxRecDepth 100000 in
theorem tree_Put.new_bad (k : Nat) (A0 : Option Addr) (c0 : Nat) (l0 : List (S31)) (a1_0 : ByteArray) (a1_1 : Int) (a1_2 : Int) (A1_3 : Option Addr) (c1_3 : Nat) (l1_3 : List Int) (a1_4 : ByteArray) (r1 : List (S31)) (r2 : Int) (w : World) (hr0 : Kd.C k31 w A0 l0.length l0) (hc0 : l0.length ≤ c0) (hr1_3 : Kd.C (Kd.int .u8) w A1_3 l1_3.length l1_3) (hc1_3 : l1_3.length ≤ c1_3) (e2 f1 f2 : Int) (i : Nat) (hck : tree_Check.f k l0 = some (0, e2)) (hpl : tree_place.f k l0 a1_0 = some ((i : Int), false)) (hlen : l0.length < 1000000) (hi : i ≤ l0.length) (hc2 : tree_Check.f k (putAt l0 ((i : Int), false) (⟨a1_0, a1_1, a1_2, l1_3, a1_4⟩ : S31)) = some (f1, f2)) (hf1 : f1 ≠ 0) :
  Calls Try.prog 30 #[.slice A0 l0.length c0, .agg #[.string a1_0, .int .i64 a1_1, .int .i64 a1_2, .slice A1_3 l1_3.length c1_3, .string a1_4]] w fun e w' =>  e = .returned (.tuple #[.slice none 0 0, .int .i64 f1]) ∧ Below w.heap.size w w' := by
 obtain ⟨out, hout⟩ : ∃ out, out = putAt l0 ((i : Int), false) (⟨a1_0, a1_1, a1_2, l1_3, a1_4⟩ : S31) := ⟨_, rfl⟩
 rw [← hout] at hc2
 have HOUT := Aside0.mk hout
 have HC := Aside0.mk hck
 have HP := Aside0.mk hpl
 have HC2 := Aside0.mk hc2
 have HR0 := Aside0.mk hr0
 have HR1 := Aside0.mk hr1_3
 have HCL := Aside0.mk (show api_Entry_55.f l0 = some l0 by unfold api_Entry_55.f; rw [if_pos (by omega)])
 have d6 : (f1 != 0) = true := bne_iff_ne.mpr hf1
 clear hout hck hpl hc2 hr0 hr1_3
 go_enter Try.func30, Try.ntmps30
 go_wp2_with (first
  | (go_at_call 11; refine (tree_Check.calls k A0 c0 l0 0 e2 _ (Kd.C_below HR0.out (below_alloc (Below.refl _ w) (.cells #[.string a1_0, .int .i64 a1_1, .int .i64 a1_2, .slice A1_3 l1_3.length c1_3, .string a1_4] 31))) hc0 HC.out).mono ?_; rintro e w2 ⟨rfl, hb⟩; have HB2 := Aside0.mk (below_step (below_alloc (Below.refl _ w) (.cells #[.string a1_0, .int .i64 a1_1, .int .i64 a1_2, .slice A1_3 l1_3.length c1_3, .string a1_4] 31)) hb); have BK2 := Aside0.mk (blk_below (heap_alloc_new w (.cells #[.string a1_0, .int .i64 a1_1, .int .i64 a1_2, .slice A1_3 l1_3.length c1_3, .string a1_4] 31)) hb); clear hb; have hx0 : w2.cell? ⟨w.heap.size, 0, none⟩ = some (.string a1_0) := (blk_cell BK2.out 0).trans rfl)
  | (go_at_call 40; refine (tree_place.calls k A0 c0 l0 a1_0 (i : Int) false _ (Kd.C_below HR0.out HB2.out) hc0 HP.out).mono ?_; rintro e w3 ⟨rfl, hb⟩; have HB3 := Aside0.mk (below_step HB2.out hb); have BK3 := Aside0.mk (blk_below BK2.out hb); clear hb hx0))
 go_at_call 55
 refine (api_Entry_55.calls (fun k => k < w3.heap.size) A0 c0 l0 l0 _ (Kd.V_mk hc0 (Kd.C_F k31_heap (Kd.C_below HR0.out HB3.out))) HCL.out).mono ?_
 rintro e w4 ⟨v10, rfl, hn, hb⟩
 obtain ⟨inner, ho, h1c, hrp⟩ := N_cells hn
 have HN := Aside0.mk hn
 have HO := Aside0.mk ho
 have H1C := Aside0.mk h1c
 have HRP := Aside0.mk hrp
 have HB4 := Aside0.mk (below_step HB3.out hb)
 have HB34 := Aside0.mk hb.size
 have BK4 := Aside0.mk (blk_below BK3.out hb)
 clear hb hn ho h1c hrp
 have hx0 : w4.cell? ⟨w.heap.size, 0, none⟩ = some (.string a1_0) := (blk_cell BK4.out 0).trans rfl
 have hx1 : w4.cell? ⟨w.heap.size, 1, none⟩ = some (.int .i64 a1_1) := (blk_cell BK4.out 1).trans rfl
 have hx2 : w4.cell? ⟨w.heap.size, 2, none⟩ = some (.int .i64 a1_2) := (blk_cell BK4.out 2).trans rfl
 have hx3 : w4.cell? ⟨w.heap.size, 3, none⟩ = some (.slice A1_3 l1_3.length c1_3) := (blk_cell BK4.out 3).trans rfl
 have hx4 : w4.cell? ⟨w.heap.size, 4, none⟩ = some (.string a1_4) := (blk_cell BK4.out 4).trans rfl
 obtain ⟨A10, c10, rfl⟩ := Kd.N_slice HN.out
 go_wp2_with (fail)
 go_at_call 56
 refine (slices_Insert.calls w3.heap.size l0.length i w4.heap.size _ inner [.string a1_0, .int .i64 a1_1, .int .i64 a1_2, .slice A1_3 l1_3.length c1_3, .string a1_4] _ hlen hi (Nat.le_trans HB34.out (by simp)) (pw_own_below HO.out (below_alloc (Below.refl _ w4) (.cells #[.string a1_0, .int .i64 a1_1, .int .i64 a1_2, .slice A1_3 l1_3.length c1_3, .string a1_4] 31))) H1C.out rfl (fun e => Nat.lt_irrefl _ (own_lt HO.out _ e)) (heap_alloc_new w4 (.cells #[.string a1_0, .int .i64 a1_1, .int .i64 a1_2, .slice A1_3 l1_3.length c1_3, .string a1_4] 31)) (one5 _ _ _ _ _ _ _)).mono ?_
 rintro e w6 ⟨v6, rfl, ho, hg⟩
 have HO6 := Aside0.mk ho
 have HG6 := Aside0.mk hg
 clear ho hg
 go_wp2_with (fail)
 have hfar : ∀ k, k < w4.heap.size → some k ≠ (Value.slice A10 l0.length c10).ownBlock → w6.heap[k]? = w4.heap[k]? := fun k hk hne => (HG6.out.block k (Nat.lt_of_lt_of_le hk (by simp)) hne).trans (Below.heap_alloc w4 _ k hk)
 have hrp2 := HRP.out w6 (fun k hk hlt => hfar k hlt hk.2)
 have hbs : Below w.heap.size w w6 := by
  refine ⟨HG6.out.os.trans HB4.out.os, HG6.out.tape.trans HB4.out.tape, HG6.out.output.trans HB4.out.output, Nat.le_trans HB4.out.size (Nat.le_trans (by simp) HG6.out.size), fun k hk => (hfar k (Nat.lt_of_lt_of_le hk HB4.out.size) (fun e => ?_)).trans (HB4.out.block k hk)⟩
  have h1 := own_ge HO.out k e.symm
  have h2 := HB3.out.size
  omega
 have hxk : k31.K w6 (⟨a1_0, a1_1, a1_2, l1_3, a1_4⟩ : S31) [.string a1_0, .int .i64 a1_1, .int .i64 a1_2, .slice A1_3 l1_3.length c1_3, .string a1_4] := k31_mk _ (⟨a1_0, a1_1, a1_2, l1_3, a1_4⟩ : S31) hc1_3 (Kd.C_below HR1.out hbs)
 have hol2 : out.length = l0.length + 1 := by rw [HOUT.out, putAt, if_neg (fun h => Bool.noConfusion h)]; simp only [List.length_append, List.length_cons, List.length_take, List.length_drop, Int.toNat_natCast]; omega
 obtain ⟨Ao, co, hoe, hlo, hCO⟩ := own_C (l := out) HO6.out (by rw [HOUT.out, putAt, if_neg (fun h => Bool.noConfusion h)]; exact reps_mid hrp2 i i hi hxk rfl) hol2
 have HCO := Aside0.mk hCO
 have HLO := Aside0.mk hlo
 have HBO := Aside0.mk hbs
 subst hoe
 clear hfar hrp2 hbs hxk hlo hCO hol2
 go_at_call 11
 refine (tree_Check.calls k Ao co out f1 f2 _ HCO.out HLO.out HC2.out).mono ?_
 rintro e w7 ⟨rfl, hb⟩
 have HB7 := Aside0.mk (below_step HBO.out hb)
 clear hb
 go_wp2_with (fail)
 go_ret2
 exact ⟨rfl, HB7.out⟩
theorem tree_Put.calls2 (k : Nat) (A0 : Option Addr) (c0 : Nat) (l0 : List (S31)) (a1_0 : ByteArray) (a1_1 : Int) (a1_2 : Int) (A1_3 : Option Addr) (c1_3 : Nat) (l1_3 : List Int) (a1_4 : ByteArray) (r1 : List (S31)) (r2 : Int) (w : World) (hr0 : Kd.C k31 w A0 l0.length l0) (hc0 : l0.length ≤ c0) (hr1_3 : Kd.C (Kd.int .u8) w A1_3 l1_3.length l1_3) (hc1_3 : l1_3.length ≤ c1_3) (h : tree_Put.f k l0 a1_0 a1_1 a1_2 l1_3 a1_4 = some (r1, r2)) :
  Calls Try.prog 30 #[.slice A0 l0.length c0, .agg #[.string a1_0, .int .i64 a1_1, .int .i64 a1_2, .slice A1_3 l1_3.length c1_3, .string a1_4]] w fun e w' =>  ∃ v0_ : Value, e = .returned (.tuple #[v0_, .int .i64 r2]) ∧ Kd.S k31 31 w' w.heap.size (fun _ => True) v0_ r1 ∧ FullRow w' v0_ r1 ∧ Below w.heap.size w w' := by
 have hnil : ∀ W : World, FullRow W (.slice none 0 0) [] := fun W ad n c he => by cases he
 unfold tree_Put.f at h
 split at h
 ·rename_i hlen
  cases hck : tree_Check.f k l0 with
  | none => rw [hck] at h; cases h
  | some ec =>
   obtain ⟨e1, e2⟩ := ec
   rw [hck] at h
   simp only [Option.bind_some] at h
   by_cases c1 : e1 = 0
   ·rw [if_pos c1] at h
    subst c1
    cases hpl : tree_place.f k l0 a1_0 with
    | none => rw [hpl] at h; cases h
    | some p =>
     obtain ⟨pi, pb⟩ := p
     rw [hpl] at h
     simp only [Option.bind_some] at h
     split at h
     ·rename_i hpp
      obtain ⟨h1, h2, h3⟩ := hpp
      obtain ⟨i, rfl⟩ : ∃ i : Nat, pi = (i : Int) := ⟨pi.toNat, by omega⟩
      cases hc2 : tree_Check.f k (putAt l0 ((i : Int), pb) (⟨a1_0, a1_1, a1_2, l1_3, a1_4⟩ : S31)) with
      | none => rw [hc2] at h; cases h
      | some fc =>
       obtain ⟨f1, f2⟩ := fc
       rw [hc2] at h
       simp only [Option.bind_some] at h
       by_cases c2 : f1 = 0
       ·rw [if_pos c2] at h
        subst c2
        cases hcl : tree_clone.f k (putAt l0 ((i : Int), pb) (⟨a1_0, a1_1, a1_2, l1_3, a1_4⟩ : S31)) with
        | none => rw [hcl] at h; cases h
        | some r =>
         rw [hcl] at h
         simp only [Option.bind_some] at h
         obtain ⟨rfl, rfl⟩ := Prod.mk.inj (Option.some.inj h)
         cases pb with
         | true => exact tree_Put.there_ok k A0 c0 l0 a1_0 a1_1 a1_2 A1_3 c1_3 l1_3 a1_4 r 0 w hr0 hc0 hr1_3 hc1_3 e2 0 f2 i hck hpl hlen (by have := h3 rfl; omega) hc2 hcl
         | false => exact tree_Put.new_ok k A0 c0 l0 a1_0 a1_1 a1_2 A1_3 c1_3 l1_3 a1_4 r 0 w hr0 hc0 hr1_3 hc1_3 e2 0 f2 i hck hpl hlen (by omega) hc2 hcl
       ·rw [if_neg c2] at h
        obtain ⟨rfl, rfl⟩ := Prod.mk.inj (Option.some.inj h)
        cases pb with
        | true => exact (tree_Put.there_bad k A0 c0 l0 a1_0 a1_1 a1_2 A1_3 c1_3 l1_3 a1_4 [] 0 w hr0 hc0 hr1_3 hc1_3 e2 f1 f2 i hck hpl hlen (by have := h3 rfl; omega) hc2 c2).mono fun e w' ⟨q1, q2⟩ => ⟨_, q1, Kd.S_nil _ _ _ _ _, hnil _, q2⟩
        | false => exact (tree_Put.new_bad k A0 c0 l0 a1_0 a1_1 a1_2 A1_3 c1_3 l1_3 a1_4 [] 0 w hr0 hc0 hr1_3 hc1_3 e2 f1 f2 i hck hpl hlen (by omega) hc2 c2).mono fun e w' ⟨q1, q2⟩ => ⟨_, q1, Kd.S_nil _ _ _ _ _, hnil _, q2⟩
     ·cases h
   ·rw [if_neg c1] at h
    obtain ⟨rfl, rfl⟩ := Prod.mk.inj (Option.some.inj h)
    exact (tree_Put.bad k A0 c0 l0 a1_0 a1_1 a1_2 A1_3 c1_3 l1_3 a1_4 [] 0 w hr0 hc0 hr1_3 hc1_3 e1 e2 hck c1).mono fun e w' ⟨q1, q2⟩ => ⟨_, q1, Kd.S_nil _ _ _ _ _, hnil _, q2⟩
 ·cases h
theorem tree_Put.calls (k : Nat) (A0 : Option Addr) (c0 : Nat) (l0 : List (S31)) (a1_0 : ByteArray) (a1_1 : Int) (a1_2 : Int) (A1_3 : Option Addr) (c1_3 : Nat) (l1_3 : List Int) (a1_4 : ByteArray) (r1 : List (S31)) (r2 : Int) (w : World) (hr0 : Kd.C k31 w A0 l0.length l0) (hc0 : l0.length ≤ c0) (hr1_3 : Kd.C (Kd.int .u8) w A1_3 l1_3.length l1_3) (hc1_3 : l1_3.length ≤ c1_3) (h : tree_Put.f k l0 a1_0 a1_1 a1_2 l1_3 a1_4 = some (r1, r2)) :
  Calls Try.prog 30 #[.slice A0 l0.length c0, .agg #[.string a1_0, .int .i64 a1_1, .int .i64 a1_2, .slice A1_3 l1_3.length c1_3, .string a1_4]] w fun e w' =>  ∃ v0_ : Value, e = .returned (.tuple #[v0_, .int .i64 r2]) ∧ Kd.S k31 31 w' w.heap.size (fun _ => True) v0_ r1 ∧ Below w.heap.size w w' :=
 (tree_Put.calls2 k A0 c0 l0 a1_0 a1_1 a1_2 A1_3 c1_3 l1_3 a1_4 r1 r2 w hr0 hc0 hr1_3 hc1_3 h).mono fun e w' ⟨v, h1, h2, _, h4⟩ => ⟨v, h1, h2, h4⟩

end Go.Proofs.Ytopkmchkfcjjmaa.X
end

/-! ## Satchelref08Own -/
section
namespace Go.Proofs.Ytopkmchkfcjjmaa.X
open Go.RowKit Go.Proofs.YtopkmchkfcjjmaaW.PrintWords Go.Proofs.YtopkmchkfcjjmaaW.PrintLast Go.Proofs.YtopkmchkfcjjmaaW.PrintMore
attribute [local go_sem] max2_int min2_int max_two min_two max_three min_three max_four min_four   -- for this text's walks alone
set_option linter.unusedVariables false
set_option linter.unusedSimpArgs false

attribute [local go_sem] str_gtr fld_fault0 fld_fault1
/-! ### satchelref08_Own: function 52 -/

end Go.Proofs.Ytopkmchkfcjjmaa.X
end

/-! ## Satchelref08Put -/
section
namespace Go.Proofs.Ytopkmchkfcjjmaa.X
open Go.RowKit Go.Proofs.YtopkmchkfcjjmaaW.PrintWords Go.Proofs.YtopkmchkfcjjmaaW.PrintLast Go.Proofs.YtopkmchkfcjjmaaW.PrintMore
attribute [local go_sem] max2_int min2_int max_two min_two max_three min_three max_four min_four   -- for this text's walks alone
set_option linter.unusedVariables false
set_option linter.unusedSimpArgs false

attribute [local go_sem] str_gtr fld_fault0 fld_fault1
/-! ### satchelref08_Put: function 31 -/

end Go.Proofs.Ytopkmchkfcjjmaa.X
end

/-! ## Satchelref07Under -/
section
namespace Go.Proofs.Ytopkmchkfcjjmaa.X
open Go.RowKit Go.Proofs.YtopkmchkfcjjmaaW.PrintWords Go.Proofs.YtopkmchkfcjjmaaW.PrintLast Go.Proofs.YtopkmchkfcjjmaaW.PrintMore
attribute [local go_sem] max2_int min2_int max_two min_two max_three min_three max_four min_four   -- for this text's walks alone
set_option linter.unusedVariables false
set_option linter.unusedSimpArgs false

attribute [local go_sem] str_gtr fld_fault0 fld_fault1
/-! ### satchelref07_Under: function 59 -/

end Go.Proofs.Ytopkmchkfcjjmaa.X
end

/-! ## Satchelref08Drop -/
section
namespace Go.Proofs.Ytopkmchkfcjjmaa.X
open Go.RowKit Go.Proofs.YtopkmchkfcjjmaaW.PrintWords Go.Proofs.YtopkmchkfcjjmaaW.PrintLast Go.Proofs.YtopkmchkfcjjmaaW.PrintMore
attribute [local go_sem] max2_int min2_int max_two min_two max_three min_three max_four min_four   -- for this text's walks alone
set_option linter.unusedVariables false
set_option linter.unusedSimpArgs false

attribute [local go_sem] str_gtr fld_fault0 fld_fault1
/-! ### satchelref08_Drop: function 33 -/

end Go.Proofs.Ytopkmchkfcjjmaa.X
end

/-! ## PurePuts -/
section
namespace Go.Proofs.Ytopkmchkfcjjmaa.X
open Go.RowKit Go.Proofs.YtopkmchkfcjjmaaW.PrintWords Go.Proofs.YtopkmchkfcjjmaaW.PrintLast Go.Proofs.YtopkmchkfcjjmaaW.PrintMore
set_option linter.unusedVariables false
set_option linter.unusedSimpArgs false
theorem Fits.take {l : List (S31)} (h : Fits l) (n : Nat) : Fits (l.take n) := fun e he => h e (List.mem_of_mem_take he)
theorem Fits.drop {l : List (S31)} (h : Fits l) (n : Nat) : Fits (l.drop n) := fun e he => h e (List.mem_of_mem_drop he)
theorem Fits.app {l m : List (S31)} (h : Fits l) (h' : Fits m) : Fits (l ++ m) := fun e he => by
 rcases List.mem_append.1 he with h1 | h1
 ·exact h e h1
 ·exact h' e h1
theorem Fits.cons {l : List (S31)} {x : S31} (hx : x.f3.length < 140737488355328) (h : Fits l) : Fits (x :: l) := fun e he => by
 rcases List.mem_cons.1 he with rfl | h1
 ·exact hx
 ·exact h e h1
theorem Fits.data {l : List (S31)} (h : Fits l) : ∀ i : Nat, i < l.length → (rd_T31 l (i : Int)).f3.length < 140737488355328 := fun i hi => h.at hi
/-! ### Put -/
theorem set_split (l : List (S31)) (n : Nat) (x : S31) (h : n < l.length) : l.set n x = l.take n ++ x :: l.drop (n + 1) := by
 rw [List.set_eq_take_append_cons_drop, if_pos h]
/-- What comes of a put: the tree, or why it may not be. -/
def putV (l : List (S31)) (x : S31) : List (S31) × Int := if (treeV l).1 = 0 then (if (treeV (putAt l (placeV l x.f0) x)).1 = 0 then (putAt l (placeV l x.f0) x, 0) else ([], (treeV (putAt l (placeV l x.f0) x)).1)) else ([], (treeV l).1)
/-! ### Drop -/
def underV (s d : ByteArray) : Bool := validV s && validV d && decide (d.size < s.size ∧ s.toList.take d.size = d.toList ∧ s.toList[d.size]? = some 47)
theorem under_ev (s d : ByteArray) : Ev (fun k => path_Under.f k s d) (underV s d) := by
 simp only [path_Under.f]
 refine Ev.bind (valid_ev s) ?_
 unfold underV
 by_cases h1 : validV s = true
 ·refine Ev.ifp h1 (Ev.bind (valid_ev d) ?_)
  by_cases h2 : validV d = true
  ·have hs := valid_size h1
   have hd := valid_size h2
   refine Ev.ifp h2 (Ev.ifp (by omega) ?_)
   rw [h1, h2]
   simp only [strings_HasPrefix.f, stringslite_HasPrefix.f]
   have hsz : (d ++ (⟨#[47]⟩ : ByteArray)).size = d.size + 1 := by rw [← toList_len, app_list, List.length_append, toList_len, toList_len]; rfl
   have hli : (d ++ (⟨#[47]⟩ : ByteArray)).toList = d.toList ++ [47] := by rw [app_list]; congr 1; rw [ByteArray.toList_eq]
   rw [hsz]
   by_cases h3 : d.size < s.size
   ·refine Ev.bind (Ev.bind (Ev.ifp (by omega) (Ev.ifp (by omega) (Ev.ifp (by omega) (Ev.const _)))) (Ev.const _)) ?_
    have he : ((s.extract 0 (((d.size + 1 : Nat) : Int)).toNat).toList == (d ++ (⟨#[47]⟩ : ByteArray)).toList) = (true && true && decide (d.size < s.size ∧ s.toList.take d.size = d.toList ∧ s.toList[d.size]? = some 47)) := by
     rw [Int.toNat_natCast, extract_list, List.drop_zero, hli, Bool.eq_iff_iff, beq_iff_eq]
     have hl : d.size < s.toList.length := by rw [toList_len]; exact h3
     rw [List.take_succ_eq_append_getElem hl, List.getElem?_eq_getElem hl]
     have hlt : (s.toList.take d.size).length = d.toList.length := by rw [List.length_take, toList_len, toList_len]; omega
     constructor
     ·intro h
      obtain ⟨h4, h5⟩ := List.append_inj h hlt
      simp only [Bool.true_and, decide_eq_true_eq]
      exact ⟨h3, h4, by injection h5 with h5 _; rw [h5]⟩
     ·intro h
      simp only [Bool.true_and, decide_eq_true_eq] at h
      rw [h.2.1, Option.some.inj h.2.2]
    rw [he]
    exact Ev.const _
   ·refine Ev.bind (Ev.bind (Ev.ifn (by omega) (Ev.const _)) (Ev.const _)) ?_
    rw [show decide (d.size < s.size ∧ s.toList.take d.size = d.toList ∧ s.toList[d.size]? = some 47) = false from decide_eq_false (fun c => h3 c.1)]
    exact Ev.const _
  ·rw [h1, show validV d = false by simpa using h2]
   exact Ev.ifn (by simp) (Ev.const _)
 ·rw [show validV s = false by simpa using h1]
  exact Ev.ifn (by simp) (Ev.const _)
def goneV (s : ByteArray) (x : S31) : Bool := decide (x.f0 = s) || underV x.f0 s
theorem gone_ev (s : ByteArray) (x : S31) : Ev (fun k => goneOf k s x) (goneV s x) := by
 simp only [goneOf]
 unfold goneV
 by_cases h : x.f0 = s
 ·rw [decide_eq_true h]
  exact Ev.ifp (by rw [h]) (Ev.const _)
 ·rw [decide_eq_false h, Bool.false_or]
  exact Ev.ifn (fun e => h (bytes_ext e)) (under_ev _ _)
theorem kept_ev (s : ByteArray) (l : List (S31)) : Ev (fun k => keptOf k l s) (l.filter fun x => !goneV s x) := by
 have hall : ∃ K, ∀ k, K ≤ k → ∀ x ∈ l, goneOf k s x = some (goneV s x) := by
  induction l with
  | nil => exact ⟨0, fun _ _ x hx => by cases hx⟩
  | cons y t ih =>
   obtain ⟨K1, h1⟩ := ih
   obtain ⟨K2, h2⟩ := gone_ev s y
   refine ⟨K1 + K2, fun k hk x hx => ?_⟩
   rcases List.mem_cons.1 hx with rfl | hx
   ·exact h2 k (by omega)
   ·exact h1 k (by omega) x hx
 obtain ⟨K, hK⟩ := hall
 refine ⟨K, fun k hk => ?_⟩
 show keptOf k l s = _
 unfold keptOf
 rw [if_pos (List.all_eq_true.2 fun x hx => by rw [hK k hk x hx]; rfl)]
 congr 1
 refine List.filter_congr fun x hx => ?_
 unfold isGone
 rw [hK k hk x hx]
 rfl
/-- What comes of a drop. -/
def dropV (l : List (S31)) (s : ByteArray) : List (S31) × Int := if (treeV l).1 = 0 then (if hasP l s = true then (l.filter fun x => !goneV s x, 0) else ([], 6)) else ([], (treeV l).1)
theorem drop_ev (l : List (S31)) (hl : l.length < 1000000) (hf : Fits l) (s : ByteArray) : Ev (fun k => tree_Drop.f k l s) (dropV l s) := by
 unfold dropV
 simp only [tree_Drop.f]
 by_cases hg : (treeV l).1 = 0
 ·rw [if_pos hg]
  have hG := good_of hg
  have hlen := hG.1
  obtain ⟨n, h0, h1, h2, h3⟩ := place_spec hG.rising s
  refine Ev.bind (tree_ev l) (Ev.ifp hg (Ev.bind (place_ev l s (by omega)) ?_))
  rcases h3 with ⟨h3, h4, h5⟩ | ⟨h3, h4⟩
  ·rw [h3, hasP_at h4 h5, if_pos rfl]
   refine Ev.ifp rfl ?_
   rw [show api_Entry_55.f l = some l from by unfold api_Entry_55.f; rw [if_pos (by omega)]]
   simp only [Option.bind_some]
   have hff : Fits (l.filter fun x => !goneV s x) := fun e he => hf e (List.mem_filter.1 he).1
   have hlf := List.length_filter_le (fun x => !goneV s x) l
   exact Ev.bind (kept_ev s l) (Ev.bind (clone_ev _ (by omega) hff.data) (Ev.const _))
  ·rw [h3, hasP_of l s h4, if_neg (by simp)]
   exact Ev.ifn (by simp) (Ev.const _)
 ·rw [if_neg hg]
  exact Ev.bind (tree_ev l) (Ev.ifn hg (Ev.const _))
end Go.Proofs.Ytopkmchkfcjjmaa.X
end

/-! ## PureDrops -/
section
namespace Go.Proofs.Ytopkmchkfcjjmaa.X
open Go.RowKit Go.Proofs.YtopkmchkfcjjmaaW.PrintWords Go.Proofs.YtopkmchkfcjjmaaW.PrintLast Go.Proofs.YtopkmchkfcjjmaaW.PrintMore
set_option linter.unusedVariables false
set_option linter.unusedSimpArgs false
theorem sameEntry_self (x : S31) : sameEntry x x = true := by simp [sameEntry, sameBytes]
theorem hasP_mem {a : List (S31)} {x : S31} (h : x ∈ a) : hasP a x.f0 = true := List.any_eq_true.2 ⟨x, h, decide_eq_true rfl⟩
theorem turned_mem {a : List (S31)} (ha : Up a) {x : S31} (h : x ∈ a) : turnedE a x = false := by
  obtain ⟨q, hq, rfl⟩ := List.mem_iff_getElem.1 h
  rw [turned_at ha hq (by rw [rd_at a q hq]), rd_at a q hq, sameEntry_self]
  rfl
theorem filter_mid {p : S31 → Bool} {A B : List (S31)} {x : S31} (hA : ∀ z ∈ A, p z = false) (hB : ∀ z ∈ B, p z = false) : (A ++ x :: B).filter p = if p x = true then [x] else [] := by
  rw [List.filter_append, List.filter_cons, List.filter_eq_nil_iff.2 (fun z hz => by rw [hA z hz]; exact Bool.false_ne_true), List.filter_eq_nil_iff.2 (fun z hz => by rw [hB z hz]; exact Bool.false_ne_true)]
  split <;> rfl
theorem filter_none {p : S31 → Bool} {A : List (S31)} (hA : ∀ z ∈ A, p z = false) : A.filter p = [] := List.filter_eq_nil_iff.2 (fun z hz => by rw [hA z hz]; exact Bool.false_ne_true)
/-- What a put adds, takes, changes. -/
theorem put_laws {l : List (S31)} {x : S31} (hG : Good l) : ∃ n : Nat, (putAt l (placeV l x.f0) x)[n]? = some x ∧ addedV (putAt l (placeV l x.f0) x) l = [] ∧
    ((addedV l (putAt l (placeV l x.f0) x) = [] ∧ (changedV l (putAt l (placeV l x.f0) x) = [] ∨ changedV l (putAt l (placeV l x.f0) x) = [x.f0]) ∧ (putAt l (placeV l x.f0) x).length = l.length) ∨
     (addedV l (putAt l (placeV l x.f0) x) = [x.f0] ∧ changedV l (putAt l (placeV l x.f0) x) = [] ∧ (putAt l (placeV l x.f0) x).length = l.length + 1)) := by
  have hU := hG.Up
  obtain ⟨n, h0, h1, h2, h3⟩ := place_spec hG.rising x.f0
  rcases h3 with ⟨h3, h4, h5⟩ | ⟨h3, h4⟩
  · have hm : putAt l (placeV l x.f0) x = l.take n ++ x :: l.drop (n + 1) := by
      rw [h3]
      unfold putAt
      rw [if_pos rfl]
      exact set_split l n x h4
    have hl : l = l.take n ++ l[n] :: l.drop (n + 1) := by rw [← List.drop_eq_getElem_cons h4, List.take_append_drop]
    have hA : ∀ z ∈ l.take n, z ∈ l := fun z hz => List.mem_of_mem_take hz
    have hB : ∀ z ∈ l.drop (n + 1), z ∈ l := fun z hz => List.mem_of_mem_drop hz
    have hx : hasP l x.f0 = true := hasP_at h4 h5
    rw [rd_at l n h4] at h5
    rw [hm]
    refine ⟨n, ?_, ?_, .inl ⟨?_, ?_, ?_⟩⟩
    · rw [List.getElem?_append_right (by rw [List.length_take]; omega), List.length_take, show n - min n l.length = 0 by omega]
      rfl
    · unfold addedV
      rw [filter_none (A := l)]
      · rfl
      · intro z hz
        rw [hl] at hz
        rcases List.mem_append.1 hz with h | h
        · rw [hasP_mem (List.mem_append_left _ h)]; rfl
        · rcases List.mem_cons.1 h with rfl | h
          · rw [h5, hasP_mem (x := x) (by simp)]; rfl
          · rw [hasP_mem (List.mem_append_right _ (List.mem_cons_of_mem _ h))]; rfl
    · unfold addedV
      rw [filter_mid (fun z hz => by rw [hasP_mem (hA z hz)]; rfl) (fun z hz => by rw [hasP_mem (hB z hz)]; rfl), if_neg (by rw [hx]; decide)]
      rfl
    · unfold changedV
      rw [filter_mid (fun z hz => turned_mem hU (hA z hz)) (fun z hz => turned_mem hU (hB z hz))]
      split
      · exact .inr rfl
      · exact .inl rfl
    · rw [List.length_append, List.length_cons, List.length_take, List.length_drop]; omega
  · have hm : putAt l (placeV l x.f0) x = l.take n ++ x :: l.drop n := by
      rw [h3]
      unfold putAt
      rw [if_neg (fun h => Bool.noConfusion h)]
      rfl
    have hA : ∀ z ∈ l.take n, z ∈ l := fun z hz => List.mem_of_mem_take hz
    have hB : ∀ z ∈ l.drop n, z ∈ l := fun z hz => List.mem_of_mem_drop hz
    have hx : hasP l x.f0 = false := hasP_of l x.f0 h4
    rw [hm]
    refine ⟨n, ?_, ?_, .inr ⟨?_, ?_, ?_⟩⟩
    · rw [List.getElem?_append_right (by rw [List.length_take]; omega), List.length_take, show n - min n l.length = 0 by omega]
      rfl
    · unfold addedV
      rw [filter_none (A := l)]
      · rfl
      · intro z hz
        rw [← List.take_append_drop n l] at hz
        rcases List.mem_append.1 hz with h | h
        · rw [hasP_mem (List.mem_append_left _ h)]; rfl
        · rw [hasP_mem (List.mem_append_right _ (List.mem_cons_of_mem _ h))]; rfl
    · unfold addedV
      rw [filter_mid (fun z hz => by rw [hasP_mem (hA z hz)]; rfl) (fun z hz => by rw [hasP_mem (hB z hz)]; rfl), if_pos (by rw [hx]; rfl)]
      rfl
    · unfold changedV
      rw [filter_mid (fun z hz => turned_mem hU (hA z hz)) (fun z hz => turned_mem hU (hB z hz)), if_neg (by rw [turnedE_none hx]; exact Bool.false_ne_true)]
      rfl
    · rw [List.length_append, List.length_cons, List.length_take, List.length_drop]; omega
theorem fits_putAt {l : List (S31)} (hf : Fits l) {x : S31} (hx : x.f3.length < 140737488355328) (p : Int × Bool) : Fits (putAt l p x) := by
  unfold putAt
  split
  · intro e he
    rcases List.mem_or_eq_of_mem_set he with h | rfl
    · exact hf _ h
    · exact hx
  · exact (hf.take _).app (Fits.cons hx (hf.drop _))
theorem put_ev (l : List (S31)) (hl : l.length < 1000000) (hf : Fits l) (x : S31) (hx : x.f3.length < 140737488355328) : Ev (fun k => tree_Put.f k l x.f0 x.f1 x.f2 x.f3 x.f4) (putV l x) := by
  unfold putV
  simp only [tree_Put.f]
  by_cases hg : (treeV l).1 = 0
  · rw [if_pos hg]
    have hG := good_of hg
    have hlen := hG.1
    obtain ⟨n, h0, h1, h2, h3⟩ := place_spec hG.rising x.f0
    have hout : 0 ≤ (placeV l x.f0).1 ∧ (placeV l x.f0).1 ≤ (l.length : Int) ∧ ((placeV l x.f0).2 = true → (placeV l x.f0).1 < (l.length : Int)) := by
      rcases h3 with ⟨h3, h4, h5⟩ | ⟨h3, h4⟩
      · rw [h3]
        exact ⟨by simp, by simp; omega, fun _ => by simp; omega⟩
      · rw [h3]
        exact ⟨by simp, by simp; omega, fun h => by cases h⟩
    refine Ev.ifp hl (Ev.bind (tree_ev l) (Ev.ifp hg (Ev.bind (place_ev l x.f0 (by omega)) (Ev.ifp hout (Ev.bind (tree_ev _) ?_)))))
    by_cases hc : (treeV (putAt l (placeV l x.f0) x)).1 = 0
    · rw [if_pos hc]
      have hG2 := good_of hc
      have := hG2.1
      exact Ev.ifp hc (Ev.bind (clone_ev (putAt l (placeV l x.f0) x) (by omega) (fits_putAt hf hx _).data) (Ev.const _))
    · rw [if_neg hc]
      exact Ev.ifn hc (Ev.const _)
  · rw [if_neg hg]
    exact Ev.ifp hl (Ev.bind (tree_ev l) (Ev.ifn hg (Ev.const _)))
/-- All that the walk asks of the put, at one number of rounds. -/
theorem put_at (l : List (S31)) (hG : Good l) (hl : l.length ≤ 60) (hf : Fits l) (x : S31) (hx : x.f3.length < 140737488355328) : ∃ (k : Nat) (r : List (S31)) (e1 : Int), tree_Put.f k l x.f0 x.f1 x.f2 x.f3 x.f4 = some (r, e1) ∧ (e1 ≠ 0 → r = []) ∧
    (e1 = 0 → ∃ (a c : List ByteArray) (f2 : Int), tree_Find.f k r x.f0 = some (x.f0, x.f1, x.f2, x.f3, x.f4, true) ∧ tree_Diff.f k l r = some (a, [], c) ∧ tree_Check.f k r = some (0, f2) ∧
      ((a = [] ∧ (c = [] ∨ c = [x.f0]) ∧ r.length = l.length) ∨ (a = [x.f0] ∧ c = [] ∧ r.length = l.length + 1))) := by
  obtain ⟨K1, h1⟩ := put_ev l (by omega) hf x hx
  obtain ⟨n, p1, p2, p3⟩ := put_laws (x := x) hG
  have ht : (treeV l).1 = 0 := by rw [hG.tree]
  obtain ⟨m, hm⟩ : ∃ m, m = putAt l (placeV l x.f0) x := ⟨_, rfl⟩
  rw [← hm] at p1 p2 p3
  by_cases hc : (treeV m).1 = 0
  · have hv : putV l x = (m, 0) := by unfold putV; rw [if_pos ht, ← hm, if_pos hc]
    rw [hv] at h1
    have hG2 := good_of hc
    have hn : n < m.length := (List.getElem?_eq_some_iff.1 p1).1
    have hrd : rd_T31 m (n : Int) = x := by rw [rd_at m n hn]; exact (List.getElem?_eq_some_iff.1 p1).2
    obtain ⟨K2, h2⟩ := find_hit hG2 hn
    rw [hrd] at h2
    obtain ⟨K3, h3⟩ := diff_ev l m (by omega) (by have := hG2.1; omega)
    have hd : diffV l m = (addedV l m, [], changedV l m) := by unfold diffV; rw [if_pos ⟨ht, hc⟩, p2]
    rw [hd] at h3
    obtain ⟨K4, h4⟩ := tree_ev m
    generalize treeV m = tv at h4 hc
    obtain ⟨t1, t2⟩ := tv
    simp only at hc
    subst hc
    let k := K1 + K2 + K3 + K4
    refine ⟨k, m, 0, h1 k (by omega), fun h => absurd rfl h, fun _ => ⟨addedV l m, changedV l m, t2, h2 k (by omega), h3 k (by omega), h4 k (by omega), p3⟩⟩
  · have hv : putV l x = ([], (treeV m).1) := by unfold putV; rw [if_pos ht, ← hm, if_neg hc]
    rw [hv] at h1
    exact ⟨K1, [], (treeV m).1, h1 K1 (Nat.le_refl _), fun _ => rfl, fun h => absurd h hc⟩
/-! ### What a drop leaves -/
def leftV (l : List (S31)) (s : ByteArray) : List (S31) := l.filter fun x => !goneV s x
theorem left_step (l : List (S31)) (s : ByteArray) (i : Nat) (hi : i < l.length) : (goneV s l[i] = true → (leftV (l.take (i + 1)) s).length = (leftV (l.take i) s).length) ∧
    (goneV s l[i] = false → (leftV (l.take (i + 1)) s).length = (leftV (l.take i) s).length + 1 ∧ (leftV (l.take i) s).length < (leftV l s).length ∧ (leftV l s)[(leftV (l.take i) s).length]? = some l[i]) := by
  have e1 : l.take (i + 1) = l.take i ++ [l[i]] := by rw [List.take_add_one, List.getElem?_eq_getElem hi]; rfl
  have e2 : leftV l s = leftV (l.take i) s ++ leftV (l.drop i) s := by
    unfold leftV
    rw [← List.filter_append, List.take_append_drop]
  constructor
  · intro h
    rw [e1]
    unfold leftV
    rw [List.filter_append, List.filter_cons, if_neg (by rw [h]; decide), List.filter_nil, List.append_nil]
  · intro h
    have e3 : leftV (l.drop i) s = l[i] :: leftV (l.drop (i + 1)) s := by
      rw [List.drop_eq_getElem_cons hi]
      unfold leftV
      rw [List.filter_cons, if_pos (by rw [h]; rfl)]
    refine ⟨?_, ?_, ?_⟩
    · rw [e1]
      unfold leftV
      rw [List.filter_append, List.length_append, List.filter_cons, if_pos (by rw [h]; rfl)]
      rfl
    · rw [e2, e3, List.length_append, List.length_cons]; omega
    · rw [e2, e3, List.getElem?_append_right (Nat.le_refl _), Nat.sub_self]
      rfl
end Go.Proofs.Ytopkmchkfcjjmaa.X
end

/-! ## FindFull -/
section
namespace Go.Proofs.Ytopkmchkfcjjmaa.X
open Go.RowKit Go.Proofs.YtopkmchkfcjjmaaW.PrintWords Go.Proofs.YtopkmchkfcjjmaaW.PrintLast Go.Proofs.YtopkmchkfcjjmaaW.PrintMore
attribute [local go_sem] max2_int min2_int max_two min_two max_three min_three max_four min_four
set_option linter.unusedVariables false
set_option linter.unusedSimpArgs false
attribute [local go_sem] str_gtr fld_fault0 fld_fault1
set_option maxHeartbeats 8000000 in
set_option maxRecDepth 100000 in
theorem tree_Find.calls2 (k : Nat) (A0 : Option Addr) (c0 : Nat) (l0 : List (S31)) (a1 : ByteArray) (r1 : ByteArray) (r2 : Int) (r3 : Int) (r4 : List Int) (r5 : ByteArray) (r6 : Bool) (w : World) (hr0 : Kd.C k31 w A0 l0.length l0) (hc0 : l0.length ≤ c0) (h : tree_Find.f k l0 a1 = some (r1, r2, r3, r4, r5, r6)) :
  Calls Try.prog 14 #[.slice A0 l0.length c0, .string a1] w fun e w' => ∃ v3_ : Value, e = .returned (.tuple #[.agg #[.string r1, .int .i64 r2, .int .i64 r3, v3_, .string r5], .bool r6]) ∧ Kd.R (Kd.int .u8) 5 w' w.heap.size (fun _ => True) v3_ r4 ∧ Full8 w' v3_ ∧ Below w.heap.size w w' := by
 have hu31 := Try.underlying31
 have HR0 := Aside0.mk hr0
 have HC0 := Aside0.mk hc0
 clear hr0 hc0
 have HB := Aside0.mk (Below.refl w.heap.size w)
 have H : ((tree_Check.f k l0).bind fun bt171 => (if bt171.1 = 0 then ((tree_place.f k l0 a1).bind fun bt173 => (if bt173.2 = true then (if 0 ≤ bt173.1 then (if bt173.1 ≤ (wrap64 (bt173.1 + 1)) then (if (wrap64 (bt173.1 + 1)) ≤ (l0.length : Int) then ((tree_clone.f k ((l0.take ((wrap64 (bt173.1 + 1)) : Int).toNat).drop (bt173.1 : Int).toNat)).bind fun t179 => (if 0 < (t179.length : Int) then (some ((rd_T31 t179 0).f0, (rd_T31 t179 0).f1, (rd_T31 t179 0).f2, (rd_T31 t179 0).f3, (rd_T31 t179 0).f4, true)) else (none))) else (none)) else (none)) else (none)) else (some ((⟨#[]⟩ : ByteArray), 0, 0, ([] : List Int), (⟨#[]⟩ : ByteArray), false)))) else (some ((⟨#[]⟩ : ByteArray), 0, 0, ([] : List Int), (⟨#[]⟩ : ByteArray), false)))) = some (r1, r2, r3, r4, r5, r6) := h
 clear h
 replace H := Option.bind_eq_some_iff.mp H
 obtain ⟨⟨t171, t172⟩, A30, H⟩ := H
 replace H : (if t171 = 0 then ((tree_place.f k l0 a1).bind fun bt173 => (if bt173.2 = true then (if 0 ≤ bt173.1 then (if bt173.1 ≤ (wrap64 (bt173.1 + 1)) then (if (wrap64 (bt173.1 + 1)) ≤ (l0.length : Int) then ((tree_clone.f k ((l0.take ((wrap64 (bt173.1 + 1)) : Int).toNat).drop (bt173.1 : Int).toNat)).bind fun t179 => (if 0 < (t179.length : Int) then (some ((rd_T31 t179 0).f0, (rd_T31 t179 0).f1, (rd_T31 t179 0).f2, (rd_T31 t179 0).f3, (rd_T31 t179 0).f4, true)) else (none))) else (none)) else (none)) else (none)) else (some ((⟨#[]⟩ : ByteArray), 0, 0, ([] : List Int), (⟨#[]⟩ : ByteArray), false)))) else (some ((⟨#[]⟩ : ByteArray), 0, 0, ([] : List Int), (⟨#[]⟩ : ByteArray), false))) = some (r1, r2, r3, r4, r5, r6) := H
 have A3 := Aside0.mk A30
 clear A30
 by_cases c4 : t171 = 0
 ·rw [if_pos c4] at H
  have c4b0 : (t171 == 0) = true := beq_iff_eq.mpr c4
  have c4b1 : (t171 != 0) = false := bne_eq_false_iff_eq.mpr c4
  clear c4
  replace H := Option.bind_eq_some_iff.mp H
  obtain ⟨⟨t173, t174⟩, A50, H⟩ := H
  replace H : (if t174 = true then (if 0 ≤ t173 then (if t173 ≤ (wrap64 (t173 + 1)) then (if (wrap64 (t173 + 1)) ≤ (l0.length : Int) then ((tree_clone.f k ((l0.take ((wrap64 (t173 + 1)) : Int).toNat).drop (t173 : Int).toNat)).bind fun t179 => (if 0 < (t179.length : Int) then (some ((rd_T31 t179 0).f0, (rd_T31 t179 0).f1, (rd_T31 t179 0).f2, (rd_T31 t179 0).f3, (rd_T31 t179 0).f4, true)) else (none))) else (none)) else (none)) else (none)) else (some ((⟨#[]⟩ : ByteArray), 0, 0, ([] : List Int), (⟨#[]⟩ : ByteArray), false))) = some (r1, r2, r3, r4, r5, r6) := H
  have A5 := Aside0.mk A50
  clear A50
  by_cases c6 : t174 = true
  ·subst c6
   have H1 : (if 0 ≤ t173 then (if t173 ≤ (wrap64 (t173 + 1)) then (if (wrap64 (t173 + 1)) ≤ (l0.length : Int) then ((tree_clone.f k ((l0.take ((wrap64 (t173 + 1)) : Int).toNat).drop (t173 : Int).toNat)).bind fun t179 => (if 0 < (t179.length : Int) then (some ((rd_T31 t179 0).f0, (rd_T31 t179 0).f1, (rd_T31 t179 0).f2, (rd_T31 t179 0).f3, (rd_T31 t179 0).f4, true)) else (none))) else (none)) else (none)) else (none)) = some (r1, r2, r3, r4, r5, r6) := by rw [if_pos rfl] at H; exact H
   clear H
   have H := H1
   clear H1
   by_cases c7 : 0 ≤ t173
   ·rw [if_pos c7] at H
    have c7b0 := eq_true c7
    have c7b1 : decide (0 ≤ t173) = true := decide_eq_true c7
    clear c7
    by_cases c8 : t173 ≤ (wrap64 (t173 + 1))
    ·rw [if_pos c8] at H
     have c8b0 := eq_true c8
     have c8b1 : decide (t173 ≤ (wrap64 (t173 + 1))) = true := decide_eq_true c8
     by_cases c9 : (wrap64 (t173 + 1)) ≤ (l0.length : Int)
     ·rw [if_pos c9] at H
      have c9b0 := eq_true c9
      have c9b1 : decide ((wrap64 (t173 + 1)) ≤ (l0.length : Int)) = true := decide_eq_true c9
      obtain ⟨y175, hy175⟩ : ∃ y_ : List (S31), y_ = ((l0.take ((wrap64 (t173 + 1)) : Int).toNat).drop (t173 : Int).toNat) := ⟨_, rfl⟩
      replace H : ((tree_clone.f k y175).bind fun t179 => (if 0 < (t179.length : Int) then (some ((rd_T31 t179 0).f0, (rd_T31 t179 0).f1, (rd_T31 t179 0).f2, (rd_T31 t179 0).f3, (rd_T31 t179 0).f4, true)) else (none))) = some (r1, r2, r3, r4, r5, r6) := by first | (rw [hy175]; with_reducible exact H) | (have H2_ := (Option.bind_some _ _).symm.trans H; rw [hy175]; with_reducible exact H2_) | (have H2_ := (Option.bind_some _ _).symm.trans H; with_reducible exact H2_) | with_reducible exact H | (rw [hy175]; exact H) | exact H
      have Ny175 := Aside0.mk hy175
      clear hy175
      replace H := Option.bind_eq_some_iff.mp H
      obtain ⟨t179, A100, H⟩ := H
      replace H : (if 0 < (t179.length : Int) then (some ((rd_T31 t179 0).f0, (rd_T31 t179 0).f1, (rd_T31 t179 0).f2, (rd_T31 t179 0).f3, (rd_T31 t179 0).f4, true)) else (none)) = some (r1, r2, r3, r4, r5, r6) := H
      have A10 := Aside0.mk A100
      clear A100
      by_cases c11 : 0 < (t179.length : Int)
      ·rw [if_pos c11] at H
       have c11b0 : decide (0 < (t179.length : Int)) = true := decide_eq_true c11
       have c11b1 : decide (0 < t179.length) = true := decide_eq_true (by omega)
       clear c11
       simp only [Option.some.injEq, Prod.mk.injEq] at H
       obtain ⟨rfl, rfl, rfl, rfl, rfl, rfl⟩ := H
       go_enter Try.func14, Try.ntmps14
       go_wp2_with (first | ((with_reducible refine gate_dst (N := 4) rfl ?_); refine box_event ?hg (N := 4) ?hd (cs := #[.string (⟨#[]⟩ : ByteArray), .int .i64 0, .int .i64 0, .slice none 0 0, .string (⟨#[]⟩ : ByteArray)]) (t := 31) ?hr ?_; (case hd => rfl); (case hg => rfl); (case hr => first | (go_simp; done) | (go_simp; rfl)); intro gb170 hg w12 hbox hb; have n0_ := Aside0.mk (below_step (by repeat (first | (with_reducible first | exact HB.out | apply below_alloc | apply pw_below_drewN | apply below_drew1) | exact HB.out)) hb); have n1_ := Aside0.mk (hbox); have n2_ := Aside0.mk ((by rw [hg]; exact (below_size (by repeat (first | (with_reducible first | exact HB.out | apply below_alloc | apply pw_below_drewN | apply below_drew1) | exact HB.out))) : w.heap.size ≤ gb170)); have n3_ := Aside0.mk ((by rw [hg]; exact (below_size (by repeat (first | (with_reducible first | exact HB.out | apply below_alloc | apply pw_below_drewN | apply below_drew1) | exact HB.out))) : w.heap.size ≤ gb170)); clear HB; have HB := n0_; have BK170 := n1_; have GW170 := n2_; have GE170 := n3_; clear n0_ n1_ n2_ n3_; clear hb hbox hg) | ((with_reducible refine gate_callee (f := 11) rfl ?_); refine goesL_ (some 12) rfl rfl Try.func11 (by kernel_rfl) rfl #[.slice A0 l0.length c0] rfl (by (try simp only [List.map_toArray, List.map_cons, List.map_nil]); first | done | rfl | (simp only [List.length_drop, List.length_take]; rfl)) ?_; (with_reducible refine (tree_Check.calls k _ _ l0 t171 t172 _ ?side1 ?side2 A3.out).mono ?_); (case side1 => repeat (first | exact (Kd.C_below HR0.out HB.out) | (with_reducible refine Kd.C_alloc ?_ _) | (with_reducible refine Kd.C_drewN ?_ _) | (with_reducible refine Kd.C_drew ?_))); (case side2 => exact HC0.out); rintro e w13 ⟨rfl, hb⟩; refine ⟨_, rfl, ?_⟩; have n0_ := Aside0.mk (blk_below (g := gb170) (o := .cells #[.string (⟨#[]⟩ : ByteArray), .int .i64 0, .int .i64 0, .slice none 0 0, .string (⟨#[]⟩ : ByteArray)] 31 (0, 0)) (by (with_reducible repeat (first | refine blk_drewN ?_ _ | refine blk_drew ?_ | refine blk_alloc ?_ _)); exact BK170.out) hb); have n1_ := Aside0.mk (below_step (by repeat (first | (with_reducible first | exact HB.out | apply below_alloc | apply pw_below_drewN | apply below_drew1 | refine below_set ?_ GE170.out) | exact HB.out)) hb); clear BK170; clear HB; have BK170 := n0_; have HB := n1_; clear n0_ n1_; (try clear hb); (try clear hb2); (try clear hk); (try clear hi)) | ((with_reducible refine gate_callee (f := 40) rfl ?_); refine goesL_ (some 21) rfl rfl Try.func40 (by kernel_rfl) rfl #[.slice A0 l0.length c0, .string a1] rfl (by (try simp only [List.map_toArray, List.map_cons, List.map_nil]); first | done | rfl | (simp only [List.length_drop, List.length_take]; rfl)) ?_; (with_reducible refine (tree_place.calls k _ _ l0 a1 t173 true _ ?side1 ?side2 A5.out).mono ?_); (case side1 => repeat (first | exact (Kd.C_below HR0.out HB.out) | (with_reducible refine Kd.C_alloc ?_ _) | (with_reducible refine Kd.C_drewN ?_ _) | (with_reducible refine Kd.C_drew ?_))); (case side2 => exact HC0.out); rintro e w14 ⟨rfl, hb⟩; refine ⟨_, rfl, ?_⟩; have n0_ := Aside0.mk (blk_below (g := gb170) (o := .cells #[.string (⟨#[]⟩ : ByteArray), .int .i64 0, .int .i64 0, .slice none 0 0, .string (⟨#[]⟩ : ByteArray)] 31 (0, 0)) (by (with_reducible repeat (first | refine blk_drewN ?_ _ | refine blk_drew ?_ | refine blk_alloc ?_ _)); exact BK170.out) hb); have n1_ := Aside0.mk (below_step (by repeat (first | (with_reducible first | exact HB.out | apply below_alloc | apply pw_below_drewN | apply below_drew1 | refine below_set ?_ GE170.out) | exact HB.out)) hb); clear BK170; clear HB; have BK170 := n0_; have HB := n1_; clear n0_ n1_; (try clear hb); (try clear hb2); (try clear hk); (try clear hi); have q15 : ((wrap64 (t173 + 1)) : Int) ≤ ((l0.length : Int) : Int) := of_decide_eq_true (by first | (with_reducible assumption) | assumption); obtain ⟨i015, hi015, _, hsz15, _⟩ := info_parts info31; have hroom15 : l0.length ≤ c0 := HC0.out; have hC15 : Kd.C k31 _ A0 l0.length l0 := HR0.out; have ql15 : (t173 : Int) ≤ ((wrap64 (t173 + 1)) : Int) := of_decide_eq_true (by first | (with_reducible assumption) | assumption); have q015 : (0 : Int) ≤ (t173 : Int) := of_decide_eq_true (by first | (with_reducible assumption) | assumption); have hcut15 := cut_mid (P := Try.prog) 22 31 .i64 .i64 Try.underlying22 hi015 5 hsz15 A0 l0.length c0 t173 (wrap64 (t173 + 1)) q015 ql15 q15 hroom15; have hr15 := Kd.C_mid (lo := (t173 : Int).toNat) (hi := ((wrap64 (t173 + 1)) : Int).toNat) (c := c0) hC15 (by omega) (by omega) hroom15; obtain ⟨A15, hA15⟩ : ∃ A1, A1 = (if c0 = (t173 : Int).toNat then A0 else (A0 : Option Addr).map (·.add ((t173 : Int).toNat * 5))) := ⟨_, rfl⟩; obtain ⟨c15, hc15⟩ : ∃ c1, c1 = c0 - (t173 : Int).toNat := ⟨_, rfl⟩; have hy15 : y175.length = ((wrap64 (t173 + 1)) : Int).toNat - (t173 : Int).toNat := (by rw [Ny175.out, List.length_drop, List.length_take] <;> omega); rw [show ((l0).take ((wrap64 (t173 + 1)) : Int).toNat).drop (t173 : Int).toNat = y175 from Ny175.out.symm] at hr15; replace hr15 : Kd.C k31 _ A15 y175.length y175 := (by rw [hA15]; exact hr15); rw [← hy15, ← hA15, ← hc15] at hcut15; have HR178 := Aside0.mk hr15; have HC178 := Aside0.mk (show y175.length ≤ c15 from by rw [hy15, hc15]; exact Nat.sub_le_sub_right (Nat.le_trans (by omega) hroom15) _); clear hr15 hC15 hroom15 hi015 hsz15 hc15; have KY15 := Aside0.mk hy15; have KA15 := Aside0.mk hA15; clear hy15 hA15; replace q15 := eq_true q15) | ((with_reducible refine gate_callee (f := 41) rfl ?_); refine goesL_ (some 32) rfl rfl Try.func41 (by kernel_rfl) rfl #[.slice A15 y175.length c15] rfl (by (try simp only [List.map_toArray, List.map_cons, List.map_nil]); first | done | rfl | (simp only [List.length_drop, List.length_take]; rfl)) ?_; (with_reducible refine (tree_clone.calls2 k _ _ y175 t179 _ ?side1 ?side2 A10.out).mono ?_); (case side1 => repeat (first | exact (Kd.C_below HR178.out HB.out) | (with_reducible refine Kd.C_alloc ?_ _) | (with_reducible refine Kd.C_drewN ?_ _) | (with_reducible refine Kd.C_drew ?_))); (case side2 => exact HC178.out); rintro e w16 ⟨v180, rfl, ho0, hfr, hb⟩; have HFR := Aside0.mk hfr; clear hfr; refine ⟨_, rfl, ?_⟩; have n0_ := Aside0.mk (Kd.S_lower (Kd.S_newB ho0 (g := gb170) (o := .cells #[.string (⟨#[]⟩ : ByteArray), .int .i64 0, .int .i64 0, .slice none 0 0, .string (⟨#[]⟩ : ByteArray)] 31 (0, 0)) (by (with_reducible repeat (first | refine blk_drewN ?_ _ | refine blk_drew ?_ | refine blk_alloc ?_ _)); exact BK170.out)) (below_size (by repeat (first | (with_reducible first | exact HB.out | apply below_alloc | apply pw_below_drewN | apply below_drew1 | refine below_set ?_ GE170.out) | exact HB.out)))); have n1_ := Aside0.mk (blk_below (g := gb170) (o := .cells #[.string (⟨#[]⟩ : ByteArray), .int .i64 0, .int .i64 0, .slice none 0 0, .string (⟨#[]⟩ : ByteArray)] 31 (0, 0)) (by (with_reducible repeat (first | refine blk_drewN ?_ _ | refine blk_drew ?_ | refine blk_alloc ?_ _)); exact BK170.out) hb); have n2_ := Aside0.mk (below_step (by repeat (first | (with_reducible first | exact HB.out | apply below_alloc | apply pw_below_drewN | apply below_drew1 | refine below_set ?_ GE170.out) | exact HB.out)) hb); clear BK170; clear HB; have HO181 := n0_; have BK170 := n1_; have HB := n2_; clear n0_ n1_ n2_; (try clear hb); (try clear hb2); (try clear hk); (try clear hi); (try clear ho0); obtain ⟨Ao17, co17, eo17⟩ := Kd.S_slice HO181.out; subst eo17; have p182 : 0 ≤ (0 : Int) := (by omega); have q182 : 0 < (t179.length : Int) := of_decide_eq_true (by first | (with_reducible assumption) | assumption); obtain ⟨ad182, A182_3, c182_3, e182, hx182_0, hx182_1, hx182_2, hx182_3, hx182_4, hl182_3, hi182_3⟩ := at_T31 (Kd.S_reads' HO181.out).2.2 0 p182 q182; cases e182; obtain ⟨ce182, hce182, hMe182, hcc182⟩ := Kd.S_get HO181.out z31 0 p182 (by first | exact q182 | exact of_decide_eq_true (by first | (with_reducible assumption) | assumption) | (have e_ := (Kd.S_reads' HO181.out).1; omega)); obtain ⟨ve182_3, rfl, ge182_3⟩ := k31_openM hMe182; have hv182_3 := hcc182 3 _ rfl; rw [add_field _ _ 3 (by omega)] at hv182_3; replace hv182_3 := Option.some.inj (hv182_3.symm.trans hx182_3); rw [hv182_3] at ge182_3; have HL182_3 := Aside0.mk (show Kd.R (Kd.int .u8) 5 _ _ _ _ ((rd_T31 t179 0).f3) from ge182_3); clear hv182_3 ge182_3; clear hcc182 hce182; have qi182 : (0 < t179.length) = True := eq_true (by omega); (try rw [show ((0 : Int)).toNat = 0 from rfl] at hx182_0); (try rw [show 0 * 5 = 0 from rfl] at hx182_0); (try rw [Addr.add_zero'] at hx182_0); (try rw [show ((0 : Int)).toNat = 0 from rfl] at hx182_1); (try rw [show 0 * 5 = 0 from rfl] at hx182_1); (try rw [Addr.add_zero'] at hx182_1); (try rw [show ((0 : Int)).toNat = 0 from rfl] at hx182_2); (try rw [show 0 * 5 = 0 from rfl] at hx182_2); (try rw [Addr.add_zero'] at hx182_2); (try rw [show ((0 : Int)).toNat = 0 from rfl] at hx182_3); (try rw [show 0 * 5 = 0 from rfl] at hx182_3); (try rw [Addr.add_zero'] at hx182_3); (try rw [show ((0 : Int)).toNat = 0 from rfl] at hx182_4); (try rw [show 0 * 5 = 0 from rfl] at hx182_4); (try rw [Addr.add_zero'] at hx182_4); have HF3 := Aside0.mk (show Full8 w16 (.slice A182_3 ((rd_T31 t179 0).f3).length c182_3) from by obtain ⟨vj, h1_, h2_⟩ := HFR.out ad182 _ _ rfl 0 (by omega); rw [Nat.zero_mul, Nat.zero_add] at h1_; rw [hx182_3] at h1_; obtain rfl := Option.some.inj h1_; exact h2_); have HR182_3 := Aside0.mk hi182_3; have HC182_3 := Aside0.mk hl182_3; clear hi182_3 hl182_3; replace p182 := eq_true p182; replace q182 := eq_true q182; have hcz18_0 : w16.cell? ⟨gb170, 0, none⟩ = some (.string (⟨#[]⟩ : ByteArray)) := (blk_cell BK170.out 0).trans rfl; have hcz18_1 : w16.cell? ⟨gb170, 1, none⟩ = some (.int .i64 0) := (blk_cell BK170.out 1).trans rfl; have hcz18_2 : w16.cell? ⟨gb170, 2, none⟩ = some (.int .i64 0) := (blk_cell BK170.out 2).trans rfl; have hcz18_3 : w16.cell? ⟨gb170, 3, none⟩ = some (.slice none 0 0) := (blk_cell BK170.out 3).trans rfl; have hcz18_4 : w16.cell? ⟨gb170, 4, none⟩ = some (.string (⟨#[]⟩ : ByteArray)) := (blk_cell BK170.out 4).trans rfl; have hfz18_0 := blk_frozen BK170.out 0; have hfz18_1 := blk_frozen BK170.out 1; have hfz18_2 := blk_frozen BK170.out 2; have hfz18_3 := blk_frozen BK170.out 3; have hfz18_4 := blk_frozen BK170.out 4))
       refine bodyPost_ret (results_ct rfl _ _ gb170 31 #[.string ((rd_T31 t179 0).f0), .int .i64 ((rd_T31 t179 0).f1), .int .i64 ((rd_T31 t179 0).f2), .slice A182_3 ((rd_T31 t179 0).f3).length c182_3, .string ((rd_T31 t179 0).f4)] (0, 0) _ rfl (by (with_reducible repeat (first | refine blk_drewN ?_ _ | refine blk_drew ?_ | refine blk_alloc ?_ _)); refine blk_put (cs := #[.string ((rd_T31 t179 0).f0), .int .i64 ((rd_T31 t179 0).f1), .int .i64 ((rd_T31 t179 0).f2), .slice A182_3 ((rd_T31 t179 0).f3).length c182_3, .string (⟨#[]⟩ : ByteArray)]) ?_ 4 _ rfl; (with_reducible repeat (first | refine blk_drewN ?_ _ | refine blk_drew ?_ | refine blk_alloc ?_ _)); refine blk_put (cs := #[.string ((rd_T31 t179 0).f0), .int .i64 ((rd_T31 t179 0).f1), .int .i64 ((rd_T31 t179 0).f2), .slice none 0 0, .string (⟨#[]⟩ : ByteArray)]) ?_ 3 _ rfl; (with_reducible repeat (first | refine blk_drewN ?_ _ | refine blk_drew ?_ | refine blk_alloc ?_ _)); refine blk_put (cs := #[.string ((rd_T31 t179 0).f0), .int .i64 ((rd_T31 t179 0).f1), .int .i64 0, .slice none 0 0, .string (⟨#[]⟩ : ByteArray)]) ?_ 2 _ rfl; (with_reducible repeat (first | refine blk_drewN ?_ _ | refine blk_drew ?_ | refine blk_alloc ?_ _)); refine blk_put (cs := #[.string ((rd_T31 t179 0).f0), .int .i64 0, .int .i64 0, .slice none 0 0, .string (⟨#[]⟩ : ByteArray)]) ?_ 1 _ rfl; (with_reducible repeat (first | refine blk_drewN ?_ _ | refine blk_drew ?_ | refine blk_alloc ?_ _)); refine blk_put (cs := #[.string (⟨#[]⟩ : ByteArray), .int .i64 0, .int .i64 0, .slice none 0 0, .string (⟨#[]⟩ : ByteArray)]) ?_ 0 _ rfl; (with_reducible repeat (first | refine blk_drewN ?_ _ | refine blk_drew ?_ | refine blk_alloc ?_ _)); exact BK170.out) Try.underlying31 rfl (by kernel_rfl)) rfl ?_
       exact ⟨_, by first | rfl | (simp [errW_none, errW_some] <;> rfl) | (simp [*, errW_none, errW_some] <;> rfl) | (simp [bt, *]; done) | (simp_all [bt]; done), by (with_reducible repeat (first | apply Kd.R_alloc | apply Kd.R_drewN | apply Kd.R_drew)); exact Kd.R_mono (Kd.R_far (p := ⟨gb170, 4, none⟩) (Kd.R_far (p := ⟨gb170, 3, none⟩) (Kd.R_far (p := ⟨gb170, 2, none⟩) (Kd.R_far (p := ⟨gb170, 1, none⟩) (Kd.R_far (p := ⟨gb170, 0, none⟩) (Kd.R_types HL182_3.out BK170.out (by decide)) (fun _ hk => hk.2) (.string ((rd_T31 t179 0).f0))) (fun _ hk => hk.2) (.int .i64 ((rd_T31 t179 0).f1))) (fun _ hk => hk.2) (.int .i64 ((rd_T31 t179 0).f2))) (fun _ hk => hk.2) (.slice A182_3 ((rd_T31 t179 0).f3).length c182_3)) (fun _ hk => hk.2) (.string ((rd_T31 t179 0).f4))) (fun _ hk => trivial), (Full8.far (p := ⟨gb170, 4, none⟩) (Full8.far (p := ⟨gb170, 3, none⟩) (Full8.far (p := ⟨gb170, 2, none⟩) (Full8.far (p := ⟨gb170, 1, none⟩) (Full8.far (p := ⟨gb170, 0, none⟩) HF3.out (fun k hk => ((Kd.R_types HL182_3.out BK170.out (by decide)).1 k hk).2) _) (fun k hk => ((Kd.R_types HL182_3.out BK170.out (by decide)).1 k hk).2) _) (fun k hk => ((Kd.R_types HL182_3.out BK170.out (by decide)).1 k hk).2) _) (fun k hk => ((Kd.R_types HL182_3.out BK170.out (by decide)).1 k hk).2) _) (fun k hk => ((Kd.R_types HL182_3.out BK170.out (by decide)).1 k hk).2) _), by repeat (first | (with_reducible first | exact HB.out | apply below_alloc | apply pw_below_drewN | apply below_drew1 | refine below_set ?_ GE170.out) | exact HB.out)⟩
      ·rw [if_neg c11] at H
       exact absurd H (by simp)
     ·rw [if_neg c9] at H
      exact absurd H (by simp)
    ·rw [if_neg c8] at H
     exact absurd H (by simp)
   ·rw [if_neg c7] at H
    exact absurd H (by simp)
  ·replace c6 := Bool.eq_false_iff.mpr c6
   subst c6
   have H1 : (some ((⟨#[]⟩ : ByteArray), 0, 0, ([] : List Int), (⟨#[]⟩ : ByteArray), false)) = some (r1, r2, r3, r4, r5, r6) := by rw [if_neg (show ¬ (false = true) by decide)] at H; exact H
   clear H
   have H := H1
   clear H1
   simp only [Option.some.injEq, Prod.mk.injEq] at H
   obtain ⟨rfl, rfl, rfl, rfl, rfl, rfl⟩ := H
   go_enter Try.func14, Try.ntmps14
   go_wp2_with (first | ((with_reducible refine gate_dst (N := 4) rfl ?_); refine box_event ?hg (N := 4) ?hd (cs := #[.string (⟨#[]⟩ : ByteArray), .int .i64 0, .int .i64 0, .slice none 0 0, .string (⟨#[]⟩ : ByteArray)]) (t := 31) ?hr ?_; (case hd => rfl); (case hg => rfl); (case hr => first | (go_simp; done) | (go_simp; rfl)); intro gb170 hg w19 hbox hb; have n0_ := Aside0.mk (below_step (by repeat (first | (with_reducible first | exact HB.out | apply below_alloc | apply pw_below_drewN | apply below_drew1) | exact HB.out)) hb); have n1_ := Aside0.mk (hbox); have n2_ := Aside0.mk ((by rw [hg]; exact (below_size (by repeat (first | (with_reducible first | exact HB.out | apply below_alloc | apply pw_below_drewN | apply below_drew1) | exact HB.out))) : w.heap.size ≤ gb170)); have n3_ := Aside0.mk ((by rw [hg]; exact (below_size (by repeat (first | (with_reducible first | exact HB.out | apply below_alloc | apply pw_below_drewN | apply below_drew1) | exact HB.out))) : w.heap.size ≤ gb170)); clear HB; have HB := n0_; have BK170 := n1_; have GW170 := n2_; have GE170 := n3_; clear n0_ n1_ n2_ n3_; clear hb hbox hg) | ((with_reducible refine gate_callee (f := 11) rfl ?_); refine goesL_ (some 12) rfl rfl Try.func11 (by kernel_rfl) rfl #[.slice A0 l0.length c0] rfl (by (try simp only [List.map_toArray, List.map_cons, List.map_nil]); first | done | rfl | (simp only [List.length_drop, List.length_take]; rfl)) ?_; (with_reducible refine (tree_Check.calls k _ _ l0 t171 t172 _ ?side1 ?side2 A3.out).mono ?_); (case side1 => repeat (first | exact (Kd.C_below HR0.out HB.out) | (with_reducible refine Kd.C_alloc ?_ _) | (with_reducible refine Kd.C_drewN ?_ _) | (with_reducible refine Kd.C_drew ?_))); (case side2 => exact HC0.out); rintro e w20 ⟨rfl, hb⟩; refine ⟨_, rfl, ?_⟩; have n0_ := Aside0.mk (blk_below (g := gb170) (o := .cells #[.string (⟨#[]⟩ : ByteArray), .int .i64 0, .int .i64 0, .slice none 0 0, .string (⟨#[]⟩ : ByteArray)] 31 (0, 0)) (by (with_reducible repeat (first | refine blk_drewN ?_ _ | refine blk_drew ?_ | refine blk_alloc ?_ _)); exact BK170.out) hb); have n1_ := Aside0.mk (below_step (by repeat (first | (with_reducible first | exact HB.out | apply below_alloc | apply pw_below_drewN | apply below_drew1 | refine below_set ?_ GE170.out) | exact HB.out)) hb); clear BK170; clear HB; have BK170 := n0_; have HB := n1_; clear n0_ n1_; (try clear hb); (try clear hb2); (try clear hk); (try clear hi)) | ((with_reducible refine gate_callee (f := 40) rfl ?_); refine goesL_ (some 21) rfl rfl Try.func40 (by kernel_rfl) rfl #[.slice A0 l0.length c0, .string a1] rfl (by (try simp only [List.map_toArray, List.map_cons, List.map_nil]); first | done | rfl | (simp only [List.length_drop, List.length_take]; rfl)) ?_; (with_reducible refine (tree_place.calls k _ _ l0 a1 t173 false _ ?side1 ?side2 A5.out).mono ?_); (case side1 => repeat (first | exact (Kd.C_below HR0.out HB.out) | (with_reducible refine Kd.C_alloc ?_ _) | (with_reducible refine Kd.C_drewN ?_ _) | (with_reducible refine Kd.C_drew ?_))); (case side2 => exact HC0.out); rintro e w21 ⟨rfl, hb⟩; refine ⟨_, rfl, ?_⟩; have n0_ := Aside0.mk (blk_below (g := gb170) (o := .cells #[.string (⟨#[]⟩ : ByteArray), .int .i64 0, .int .i64 0, .slice none 0 0, .string (⟨#[]⟩ : ByteArray)] 31 (0, 0)) (by (with_reducible repeat (first | refine blk_drewN ?_ _ | refine blk_drew ?_ | refine blk_alloc ?_ _)); exact BK170.out) hb); have n1_ := Aside0.mk (below_step (by repeat (first | (with_reducible first | exact HB.out | apply below_alloc | apply pw_below_drewN | apply below_drew1 | refine below_set ?_ GE170.out) | exact HB.out)) hb); clear BK170; clear HB; have BK170 := n0_; have HB := n1_; clear n0_ n1_; (try clear hb); (try clear hb2); (try clear hk); (try clear hi); have hcz22_0 : w21.cell? ⟨gb170, 0, none⟩ = some (.string (⟨#[]⟩ : ByteArray)) := (blk_cell BK170.out 0).trans rfl; have hcz22_1 : w21.cell? ⟨gb170, 1, none⟩ = some (.int .i64 0) := (blk_cell BK170.out 1).trans rfl; have hcz22_2 : w21.cell? ⟨gb170, 2, none⟩ = some (.int .i64 0) := (blk_cell BK170.out 2).trans rfl; have hcz22_3 : w21.cell? ⟨gb170, 3, none⟩ = some (.slice none 0 0) := (blk_cell BK170.out 3).trans rfl; have hcz22_4 : w21.cell? ⟨gb170, 4, none⟩ = some (.string (⟨#[]⟩ : ByteArray)) := (blk_cell BK170.out 4).trans rfl; have hfz22_0 := blk_frozen BK170.out 0; have hfz22_1 := blk_frozen BK170.out 1; have hfz22_2 := blk_frozen BK170.out 2; have hfz22_3 := blk_frozen BK170.out 3; have hfz22_4 := blk_frozen BK170.out 4))
   refine bodyPost_ret (results_ct rfl _ _ gb170 31 #[.string (⟨#[]⟩ : ByteArray), .int .i64 0, .int .i64 0, .slice none 0 0, .string (⟨#[]⟩ : ByteArray)] (0, 0) _ rfl (by (with_reducible repeat (first | refine blk_drewN ?_ _ | refine blk_drew ?_ | refine blk_alloc ?_ _)); refine blk_put (cs := #[.string (⟨#[]⟩ : ByteArray), .int .i64 0, .int .i64 0, .slice none 0 0, .string (⟨#[]⟩ : ByteArray)]) ?_ 4 _ rfl; (with_reducible repeat (first | refine blk_drewN ?_ _ | refine blk_drew ?_ | refine blk_alloc ?_ _)); refine blk_put (cs := #[.string (⟨#[]⟩ : ByteArray), .int .i64 0, .int .i64 0, .slice none 0 0, .string (⟨#[]⟩ : ByteArray)]) ?_ 3 _ rfl; (with_reducible repeat (first | refine blk_drewN ?_ _ | refine blk_drew ?_ | refine blk_alloc ?_ _)); refine blk_put (cs := #[.string (⟨#[]⟩ : ByteArray), .int .i64 0, .int .i64 0, .slice none 0 0, .string (⟨#[]⟩ : ByteArray)]) ?_ 2 _ rfl; (with_reducible repeat (first | refine blk_drewN ?_ _ | refine blk_drew ?_ | refine blk_alloc ?_ _)); refine blk_put (cs := #[.string (⟨#[]⟩ : ByteArray), .int .i64 0, .int .i64 0, .slice none 0 0, .string (⟨#[]⟩ : ByteArray)]) ?_ 1 _ rfl; (with_reducible repeat (first | refine blk_drewN ?_ _ | refine blk_drew ?_ | refine blk_alloc ?_ _)); refine blk_put (cs := #[.string (⟨#[]⟩ : ByteArray), .int .i64 0, .int .i64 0, .slice none 0 0, .string (⟨#[]⟩ : ByteArray)]) ?_ 0 _ rfl; (with_reducible repeat (first | refine blk_drewN ?_ _ | refine blk_drew ?_ | refine blk_alloc ?_ _)); exact BK170.out) Try.underlying31 rfl (by kernel_rfl)) rfl ?_
   exact ⟨_, by first | rfl | (simp [errW_none, errW_some] <;> rfl) | (simp [*, errW_none, errW_some] <;> rfl) | (simp [bt, *]; done) | (simp_all [bt]; done), by first | exact Kd.R_nil _ _ _ _ _ | exact Kd.N_nil _ _ _ _ _ | exact Kd.V_nil _ _ _ _ _ | exact Kd.Q_nil _ _ _ _ _ | exact Kd.S_nil _ _ _ _ _, Full8.nil _, by repeat (first | (with_reducible first | exact HB.out | apply below_alloc | apply pw_below_drewN | apply below_drew1 | refine below_set ?_ GE170.out) | exact HB.out)⟩
 ·rw [if_neg c4] at H
  have c4b0 : (t171 == 0) = false := beq_eq_false_iff_ne.mpr c4
  have c4b1 : (t171 != 0) = true := bne_iff_ne.mpr c4
  simp only [Option.some.injEq, Prod.mk.injEq] at H
  obtain ⟨rfl, rfl, rfl, rfl, rfl, rfl⟩ := H
  go_enter Try.func14, Try.ntmps14
  go_wp2_with (first | ((with_reducible refine gate_dst (N := 4) rfl ?_); refine box_event ?hg (N := 4) ?hd (cs := #[.string (⟨#[]⟩ : ByteArray), .int .i64 0, .int .i64 0, .slice none 0 0, .string (⟨#[]⟩ : ByteArray)]) (t := 31) ?hr ?_; (case hd => rfl); (case hg => rfl); (case hr => first | (go_simp; done) | (go_simp; rfl)); intro gb170 hg w23 hbox hb; have n0_ := Aside0.mk (below_step (by repeat (first | (with_reducible first | exact HB.out | apply below_alloc | apply pw_below_drewN | apply below_drew1) | exact HB.out)) hb); have n1_ := Aside0.mk (hbox); have n2_ := Aside0.mk ((by rw [hg]; exact (below_size (by repeat (first | (with_reducible first | exact HB.out | apply below_alloc | apply pw_below_drewN | apply below_drew1) | exact HB.out))) : w.heap.size ≤ gb170)); have n3_ := Aside0.mk ((by rw [hg]; exact (below_size (by repeat (first | (with_reducible first | exact HB.out | apply below_alloc | apply pw_below_drewN | apply below_drew1) | exact HB.out))) : w.heap.size ≤ gb170)); clear HB; have HB := n0_; have BK170 := n1_; have GW170 := n2_; have GE170 := n3_; clear n0_ n1_ n2_ n3_; clear hb hbox hg) | ((with_reducible refine gate_callee (f := 11) rfl ?_); refine goesL_ (some 12) rfl rfl Try.func11 (by kernel_rfl) rfl #[.slice A0 l0.length c0] rfl (by (try simp only [List.map_toArray, List.map_cons, List.map_nil]); first | done | rfl | (simp only [List.length_drop, List.length_take]; rfl)) ?_; (with_reducible refine (tree_Check.calls k _ _ l0 t171 t172 _ ?side1 ?side2 A3.out).mono ?_); (case side1 => repeat (first | exact (Kd.C_below HR0.out HB.out) | (with_reducible refine Kd.C_alloc ?_ _) | (with_reducible refine Kd.C_drewN ?_ _) | (with_reducible refine Kd.C_drew ?_))); (case side2 => exact HC0.out); rintro e w24 ⟨rfl, hb⟩; refine ⟨_, rfl, ?_⟩; have n0_ := Aside0.mk (blk_below (g := gb170) (o := .cells #[.string (⟨#[]⟩ : ByteArray), .int .i64 0, .int .i64 0, .slice none 0 0, .string (⟨#[]⟩ : ByteArray)] 31 (0, 0)) (by (with_reducible repeat (first | refine blk_drewN ?_ _ | refine blk_drew ?_ | refine blk_alloc ?_ _)); exact BK170.out) hb); have n1_ := Aside0.mk (below_step (by repeat (first | (with_reducible first | exact HB.out | apply below_alloc | apply pw_below_drewN | apply below_drew1 | refine below_set ?_ GE170.out) | exact HB.out)) hb); clear BK170; clear HB; have BK170 := n0_; have HB := n1_; clear n0_ n1_; (try clear hb); (try clear hb2); (try clear hk); (try clear hi); have hcz25_0 : w24.cell? ⟨gb170, 0, none⟩ = some (.string (⟨#[]⟩ : ByteArray)) := (blk_cell BK170.out 0).trans rfl; have hcz25_1 : w24.cell? ⟨gb170, 1, none⟩ = some (.int .i64 0) := (blk_cell BK170.out 1).trans rfl; have hcz25_2 : w24.cell? ⟨gb170, 2, none⟩ = some (.int .i64 0) := (blk_cell BK170.out 2).trans rfl; have hcz25_3 : w24.cell? ⟨gb170, 3, none⟩ = some (.slice none 0 0) := (blk_cell BK170.out 3).trans rfl; have hcz25_4 : w24.cell? ⟨gb170, 4, none⟩ = some (.string (⟨#[]⟩ : ByteArray)) := (blk_cell BK170.out 4).trans rfl; have hfz25_0 := blk_frozen BK170.out 0; have hfz25_1 := blk_frozen BK170.out 1; have hfz25_2 := blk_frozen BK170.out 2; have hfz25_3 := blk_frozen BK170.out 3; have hfz25_4 := blk_frozen BK170.out 4))
  refine bodyPost_ret (results_ct rfl _ _ gb170 31 #[.string (⟨#[]⟩ : ByteArray), .int .i64 0, .int .i64 0, .slice none 0 0, .string (⟨#[]⟩ : ByteArray)] (0, 0) _ rfl (by (with_reducible repeat (first | refine blk_drewN ?_ _ | refine blk_drew ?_ | refine blk_alloc ?_ _)); refine blk_put (cs := #[.string (⟨#[]⟩ : ByteArray), .int .i64 0, .int .i64 0, .slice none 0 0, .string (⟨#[]⟩ : ByteArray)]) ?_ 4 _ rfl; (with_reducible repeat (first | refine blk_drewN ?_ _ | refine blk_drew ?_ | refine blk_alloc ?_ _)); refine blk_put (cs := #[.string (⟨#[]⟩ : ByteArray), .int .i64 0, .int .i64 0, .slice none 0 0, .string (⟨#[]⟩ : ByteArray)]) ?_ 3 _ rfl; (with_reducible repeat (first | refine blk_drewN ?_ _ | refine blk_drew ?_ | refine blk_alloc ?_ _)); refine blk_put (cs := #[.string (⟨#[]⟩ : ByteArray), .int .i64 0, .int .i64 0, .slice none 0 0, .string (⟨#[]⟩ : ByteArray)]) ?_ 2 _ rfl; (with_reducible repeat (first | refine blk_drewN ?_ _ | refine blk_drew ?_ | refine blk_alloc ?_ _)); refine blk_put (cs := #[.string (⟨#[]⟩ : ByteArray), .int .i64 0, .int .i64 0, .slice none 0 0, .string (⟨#[]⟩ : ByteArray)]) ?_ 1 _ rfl; (with_reducible repeat (first | refine blk_drewN ?_ _ | refine blk_drew ?_ | refine blk_alloc ?_ _)); refine blk_put (cs := #[.string (⟨#[]⟩ : ByteArray), .int .i64 0, .int .i64 0, .slice none 0 0, .string (⟨#[]⟩ : ByteArray)]) ?_ 0 _ rfl; (with_reducible repeat (first | refine blk_drewN ?_ _ | refine blk_drew ?_ | refine blk_alloc ?_ _)); exact BK170.out) Try.underlying31 rfl (by kernel_rfl)) rfl ?_
  exact ⟨_, by first | rfl | (simp [errW_none, errW_some] <;> rfl) | (simp [*, errW_none, errW_some] <;> rfl) | (simp [bt, *]; done) | (simp_all [bt]; done), by first | exact Kd.R_nil _ _ _ _ _ | exact Kd.N_nil _ _ _ _ _ | exact Kd.V_nil _ _ _ _ _ | exact Kd.Q_nil _ _ _ _ _ | exact Kd.S_nil _ _ _ _ _, Full8.nil _, by repeat (first | (with_reducible first | exact HB.out | apply below_alloc | apply pw_below_drewN | apply below_drew1 | refine below_set ?_ GE170.out) | exact HB.out)⟩

end Go.Proofs.Ytopkmchkfcjjmaa.X
end
