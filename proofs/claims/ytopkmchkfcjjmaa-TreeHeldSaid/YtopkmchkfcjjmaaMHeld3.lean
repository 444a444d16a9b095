/- Functions, one behind the other: a plain Lean function for each, and the proof that the call comes to its answer, whatever the world (conditions: what the arguments read as); and plain laws of them. -/
import Derived.Test.YtopkmchkfcjjmaaMHeld1
import Derived.Test.YtopkmchkfcjjmaaMHeld2
import Derived.Lib.LazyBuf
/-! ## TreeDrop -/
namespace Go.Proofs.Ytopkmchkfcjjmaa.X
open Go.RowKit Go.Proofs.YtopkmchkfcjjmaaW.PrintWords Go.Proofs.YtopkmchkfcjjmaaW.PrintLast Go.Proofs.YtopkmchkfcjjmaaW.PrintMore
attribute [local go_sem] max2_int min2_int max_two min_two max_three min_three max_four min_four   -- for this text's walks alone
set_option linter.unusedVariables false
set_option linter.unusedSimpArgs false

attribute [local go_sem] str_gtr fld_fault0 fld_fault1
/-! ### tree_Drop: function 32 -/
/-- Is an entry dropped with a path? -/
def goneOf (k : Nat) (s : ByteArray) (x : S31) : Option Bool := if x.f0.toList = s.toList then some true else path_Under.f k x.f0 s
theorem goneOf_mono (k : Nat) (s : ByteArray) (x : S31) : LeO (goneOf k s x) (goneOf (k + 1) s x) := by
  unfold goneOf
  exact LeO.ite (LeO.refl _) (path_Under.mono _ _ _)
def isGone (k : Nat) (s : ByteArray) (x : S31) : Bool := (goneOf k s x).getD false
def keptOf (k : Nat) (l : List (S31)) (s : ByteArray) : Option (List (S31)) := if l.all (fun x => (goneOf k s x).isSome) = true then some (l.filter fun x => !isGone k s x) else none
theorem keptOf_mono (k : Nat) (l : List (S31)) (s : ByteArray) : LeO (keptOf k l s) (keptOf (k + 1) l s) := by
  intro r h
  unfold keptOf at h ⊢
  split at h
  · rename_i h1
    have h2 : ∀ x, x ∈ l → goneOf (k + 1) s x = goneOf k s x := by
      intro x hx
      have h3 := List.all_eq_true.mp h1 x hx
      obtain ⟨b, hb⟩ := Option.isSome_iff_exists.1 h3
      rw [hb]
      exact goneOf_mono k s x _ hb
    have h4 : l.all (fun x => (goneOf (k + 1) s x).isSome) = true := by
      refine List.all_eq_true.mpr fun x hx => ?_
      rw [h2 x hx]
      exact List.all_eq_true.mp h1 x hx
    rw [if_pos h4, ← h]
    congr 1
    refine List.filter_congr fun x hx => ?_
    unfold isGone
    rw [h2 x hx]
  · cases h
theorem zeroCells_succ (z : Array Value) (m : Nat) (hz : 0 < z.size) : (Builtin.zeroCells z (m + 1)).toList = z.toList ++ (Builtin.zeroCells z m).toList := by
  apply List.ext_getElem?
  intro i
  simp only [Builtin.zeroCells, Array.toList_map, Array.toList_range, List.getElem?_map, List.getElem?_append]
  have hs : (m + 1) * z.size = z.size + m * z.size := by rw [Nat.succ_mul, Nat.add_comm]
  rcases Nat.lt_or_ge i z.size with h1 | h1
  · rw [if_pos (by simpa using h1), List.getElem?_range (by omega)]
    simp [Nat.mod_eq_of_lt h1, h1]
  · rw [if_neg (by simpa using h1)]
    rcases Nat.lt_or_ge i (z.size + m * z.size) with h2 | h2
    · rw [List.getElem?_range (by omega), List.getElem?_range (by simp; omega)]
      simp only [Option.map_some, Array.length_toList, Option.some.injEq]
      rw [Nat.mod_eq_sub_mod h1]
    · rw [List.getElem?_eq_none (by simp; omega), List.getElem?_eq_none (by simp; omega)]
theorem setCells_append (b : Nat) : ∀ (l1 l2 : List Value) (o : Nat) (w : World), World.setCells w b o (l1 ++ l2) = World.setCells (World.setCells w b o l1) b (o + l1.length) l2
  | [], _, _, _ => rfl
  | v :: r, l2, o, w => by
    rw [List.cons_append, World.setCells, World.setCells, setCells_append b r l2 (o + 1), List.length_cons, show o + 1 + r.length = o + (r.length + 1) by omega]
/-- The cells of element i, all at once. -/
theorem entryN_set {W : World} {base n cap g i : Nat} {ok : Nat → Prop} {xs : List (S31)} (h : Kd.N k31 31 W base ok (.slice (some ⟨g, 0, none⟩) n cap) xs) (hi : i < n) {x : S31} {seg : List Value} (hF : Kd.FK k31 W (fun k => ok k ∧ k ≠ g) x seg) :
    Kd.N k31 31 (W.setCells g (i * 5) seg) base ok (.slice (some ⟨g, 0, none⟩) n cap) (xs.set i x) ∧ W.grownBy (W.setCells g (i * 5) seg) (some g) := by
  obtain ⟨c, hcl, _, hcc, _⟩ := Kd.N_elem h z31 (i : Int) (by omega) (by omega)
  have hl : seg.length = k31.sz := k31.K_len (Kd.FK_now hF)
  have hs : c.take 0 ++ seg ++ c.drop (0 + seg.length) = seg := by
    rw [Nat.zero_add, hl, ← hcl, List.drop_length]
    simp
  have := Kd.N_seg h (i : Int) (by omega) (by omega) (seg := seg) (j := 0) hcl hcc (by omega) (x' := x) (by rw [hs]; exact hF) (fun _ hk => hk)
  exact (by simpa using this : Kd.N k31 31 (W.setCells g (i * k31.sz) seg) base ok (.slice (some ⟨g, 0, none⟩) n cap) (xs.set i x) ∧ W.grownBy (W.setCells g (i * k31.sz) seg) (some g))
/-- The zero entry's cells. -/
def zeroEntry : Array Value := #[.string ⟨#[]⟩, .int .i64 0, .int .i64 0, .slice none 0 0, .string ⟨#[]⟩]
theorem zeroEntry_F (W : World) (ok : Nat → Prop) : Kd.FK k31 W ok z31 zeroEntry.toList := k31_mkF W ok z31 (A3 := none) (c3 := 0) (Nat.le_refl _) (Kd.F_nil _ _ _)
theorem entryN_zero {base n cap g : Nat} {ok : Nat → Prop} : ∀ (m i : Nat) (W : World) (xs : List (S31)), Kd.N k31 31 W base ok (.slice (some ⟨g, 0, none⟩) n cap) xs → i + m = n →
    Kd.N k31 31 (W.setCells g (i * 5) (Builtin.zeroCells zeroEntry m).toList) base ok (.slice (some ⟨g, 0, none⟩) n cap) (xs.take i ++ List.replicate m z31) ∧ W.grownBy (W.setCells g (i * 5) (Builtin.zeroCells zeroEntry m).toList) (some g)
  | 0, i, W, xs, h, he => by
    have hl := (Kd.N_reads' h).1
    have e1 : (Builtin.zeroCells zeroEntry 0).toList = [] := by simp [Builtin.zeroCells]
    rw [e1, show i = xs.length by omega, List.take_length]
    exact ⟨by simpa [World.setCells] using h, World.grownBy.refl _ _⟩
  | m + 1, i, W, xs, h, he => by
    have hl := (Kd.N_reads' h).1
    obtain ⟨h1, g1⟩ := entryN_set h (show i < n by omega) (zeroEntry_F W (fun k => ok k ∧ k ≠ g))
    obtain ⟨h2, g2⟩ := entryN_zero m (i + 1) _ _ h1 (by omega)
    rw [zeroCells_succ zeroEntry m (by decide), setCells_append]
    have e1 : i * 5 + zeroEntry.toList.length = (i + 1) * 5 := by show i * 5 + 5 = _; omega
    rw [e1]
    have e2 : (xs.set i z31).take (i + 1) ++ List.replicate m z31 = xs.take i ++ List.replicate (m + 1) z31 := by
      rw [List.take_add_one, List.take_set_of_le (Nat.le_refl i), List.getElem?_set_self (by omega)]
      simp [List.replicate_succ]
    rw [e2] at h2
    exact ⟨h2, g1.trans g2⟩
theorem entryN_clear (w : World) (ty : TypeId) {base n cap g i : Nat} {ok : Nat → Prop} {xs : List (S31)} (h : Kd.N k31 31 w base ok (.slice (some ⟨g, 0, none⟩) n cap) xs) (hi : i < n) (c : Nat) :
    (Builtin.clear_ #[22] ty #[.slice (some ⟨g, i * 5, none⟩) (n - i) c]).run Try.prog w = .ok (.tuple #[]) (w.setCells g (i * 5) (Builtin.zeroCells zeroEntry (n - i)).toList) := by
  have hv : ∀ w, (zeroValue 31).run Try.prog w = .ok (.agg zeroEntry) w := fun w => rfl
  have hl : (Builtin.zeroCells zeroEntry (n - i)).toList.length = (n - i) * 5 := by simp [Builtin.zeroCells]; rfl
  have hat : ∀ j, j < (n - i) * 5 → (w.cell? ⟨g, i * 5 + j, none⟩).isSome = true ∧ w.frozen? ⟨g, i * 5 + j, none⟩ = false := by
    intro j hj
    obtain ⟨c, hcl, _, hcc, hfr⟩ := Kd.N_elem h z31 ((i + j / 5 : Nat) : Int) (by omega) (by omega)
    have hcl' : c.length = 5 := hcl
    have h1 := hcc (j % 5) _ (List.getElem?_eq_getElem (by omega))
    have h2 := hfr (j % 5)
    have e : ((i + j / 5 : Nat) : Int).toNat * k31.sz + j % 5 = i * 5 + j := by
      show ((i + j / 5 : Nat) : Int).toNat * 5 + j % 5 = i * 5 + j
      rw [Int.toNat_natCast]; omega
    rw [e] at h1 h2
    exact ⟨by rw [h1]; rfl, h2⟩
  have hst := run_storeCells_cells (P := Try.prog) g (i * 5) (Builtin.zeroCells zeroEntry (n - i)).toList 0 w (by intro j hj; rw [hl] at hj; rw [Nat.add_zero]; exact (hat j hj).1) (by intro j hj; rw [hl] at hj; rw [Nat.add_zero]; exact (hat j hj).2) (by
    intro v hv'
    simp only [Builtin.zeroCells, Array.toList_map, List.mem_map] at hv'
    obtain ⟨q, _, rfl⟩ := hv'
    have hq : q % zeroEntry.size < 5 := Nat.mod_lt _ (by decide)
    generalize q % zeroEntry.size = y at hq
    match y, hq with
    | 0, _ => rfl
    | 1, _ => rfl
    | 2, _ => rfl
    | 3, _ => rfl
    | 4, _ => rfl)
  rw [Nat.add_zero] at hst
  obtain ⟨m, hm⟩ : ∃ m, n - i = m + 1 := ⟨n - i - 1, by omega⟩
  rw [hm] at hst ⊢
  simp [Builtin.clear_, run_underlying Try.underlying22, hv, Value.cells, hst]
set_option maxHeartbeats 2000000 in
set_option maxRecDepth 100000 in
theorem tree_Drop1.calls (k : Nat) (x : S31) (v3 : Value) (s : ByteArray) (sb : Nat) (r : Bool) (w : World) (hv : v3.oneCell' = true) (hbx : w.heap[sb]? = some (.cells #[.string s] 9 (0, 0))) (h : goneOf k s x = some r) :
    Calls Try.prog 58 #[.agg #[.string x.f0, .int .i64 x.f1, .int .i64 x.f2, v3, .string x.f4], .pointer (some ⟨sb, 0, none⟩)] w fun e w' => e = .returned (.bool r) ∧ Below w.heap.size w w' := by
  have hc : ∀ o, (w.alloc o).cell? ⟨sb, 0, none⟩ = some (.string s) := fun o => blk_cell (blk_alloc hbx o) 0
  unfold goneOf at h
  by_cases c1 : x.f0.toList = s.toList
  · rw [if_pos c1] at h
    obtain rfl := Option.some.inj h
    clear h hbx
    have c1b0 : (x.f0.toList == s.toList) = true := beq_iff_eq.mpr c1
    clear c1
    go_enter Try.func58, Try.ntmps58
    go_wp2
    go_ret
    exact ⟨rfl, by repeat (first | (with_reducible first | exact Below.refl _ _ | apply below_alloc | apply pw_below_drewN | apply below_drew1) | exact Below.refl _ _)⟩
  · rw [if_neg c1] at h
    have H := Aside0.mk h
    clear h hbx
    have c1b0 : (x.f0.toList == s.toList) = false := beq_eq_false_iff_ne.mpr c1
    clear c1
    go_enter Try.func58, Try.ntmps58
    go_wp2_with (go_at_call 37; refine (path_Under.calls k _ _ _ _ H.out).mono ?_; rintro e w1 ⟨rfl, hb⟩; have HB := Aside0.mk hb; clear hb)
    go_ret
    exact ⟨rfl, below_then ((Below.refl _ w).alloc (Nat.le_refl _) _) (by simp) HB.out⟩
set_option maxHeartbeats 4000000 in
set_option maxRecDepth 100000 in
theorem slices_IndexFunc.calls (k : Nat) (A0 : Option Addr) (c0 : Nat) (l0 : List (S31)) (s : ByteArray) (sb : Nat) (w : World) (hr0 : Kd.C k31 w A0 l0.length l0) (hc0 : l0.length ≤ c0) (hlen : l0.length < 1152921504606846976) (hbx : w.heap[sb]? = some (.cells #[.string s] 9 (0, 0))) (hall : ∀ x ∈ l0, goneOf k s x = some (isGone k s x)) :
    Calls Try.prog 75 #[.slice A0 l0.length c0, .func (.func 58) #[] #[.pointer (some ⟨sb, 0, none⟩)]] w fun e w' => ((∃ i : Nat, i < l0.length ∧ isGone k s (rd_T31 l0 (i : Int)) = true ∧ (∀ j : Nat, j < i → isGone k s (rd_T31 l0 (j : Int)) = false) ∧ e = .returned (.int .i64 (i : Int))) ∨ ((∀ j : Nat, j < l0.length → isGone k s (rd_T31 l0 (j : Int)) = false) ∧ e = .returned (.int .i64 (-1)))) ∧ Below w.heap.size w w' := by
  have HR0 := Aside0.mk hr0
  have HX := Aside0.mk hbx
  have HALL := Aside0.mk hall
  clear hr0 hbx hall
  go_enter Try.func75, Try.ntmps75
  go_wp2
  go_loopw [8] (fun v8 wr => ∃ (i : Nat), v8 = .int .i64 (i : Int) ∧ i ≤ l0.length ∧ Aside0 (∀ j : Nat, j < i → isGone k s (rd_T31 l0 (j : Int)) = false) ∧ Aside0 (Below w.heap.size w wr)) (fun v8 _ => l0.length - (intOf v8).toNat)
  case atStart => exact ⟨0, rfl, by omega, ⟨fun j hj => by omega⟩, ⟨Below.refl _ _⟩⟩
  case round =>
    obtain ⟨i, rfl, hil, HJ, HB⟩ := hrel
    by_cases c1 : i < l0.length
    · have d1 : decide (i < l0.length) = true := decide_eq_true c1
      have p : (0 : Int) ≤ (i : Int) := by omega
      have q : (i : Int) < (l0.length : Int) := by omega
      obtain ⟨ad, A3, c3, e, hx0, hx1, hx2, hx3, hx4, hl3, hi3⟩ := at_T31 (Kd.C_below HR0.out HB.out) _ p q
      cases e
      rw [Int.toNat_natCast] at hx0 hx1 hx2 hx3 hx4
      clear hl3 hi3
      have HG := Aside0.mk (HALL.out (rd_T31 l0 (i : Int)) (by
        unfold rd_T31
        rw [Int.toNat_natCast, List.getD_eq_getElem?_getD, List.getElem?_eq_getElem c1]
        exact List.getElem_mem _))
      obtain ⟨b, hb0⟩ : ∃ b, isGone k s (rd_T31 l0 (i : Int)) = b := ⟨_, rfl⟩
      rw [hb0] at HG
      cases b with
      | false =>
        go_wp2_with (go_at_call 58; refine (tree_Drop1.calls k (rd_T31 l0 (i : Int)) _ s sb false _ rfl (blk_below HX.out HB.out) HG.out).mono ?_; rintro e w2 ⟨rfl, hb⟩; have HB2 := Aside0.mk (below_then HB.out HB.out.size hb); clear hb HB)
        go_roundw
        case rel => exact ⟨i + 1, by congr 1, by omega, ⟨fun j hj => by
          rcases Nat.lt_or_ge j i with h1 | h1
          · exact HJ.out j h1
          · rw [show j = i by omega]; exact hb0⟩, HB2⟩
        case measure => simp [intOf]; omega
      | true =>
        go_wp2_with (go_at_call 58; refine (tree_Drop1.calls k (rd_T31 l0 (i : Int)) _ s sb true _ rfl (blk_below HX.out HB.out) HG.out).mono ?_; rintro e w2 ⟨rfl, hb⟩; have HB2 := Aside0.mk (below_then HB.out HB.out.size hb); clear hb HB)
        go_ret
        exact ⟨.inl ⟨i, c1, hb0, HJ.out, rfl⟩, HB2.out⟩
    · have d1 : decide (i < l0.length) = false := decide_eq_false c1
      go_wp2
      go_ret
      exact ⟨.inr ⟨fun j hj => HJ.out j (by omega), rfl⟩, HB.out⟩
theorem isGone_at (k : Nat) (s : ByteArray) (l0 : List (S31)) (i : Nat) (h : i < l0.length) : rd_T31 l0 (i : Int) = l0[i] := by
  unfold rd_T31
  rw [Int.toNat_natCast, List.getD_eq_getElem?_getD, List.getElem?_eq_getElem h]
  rfl
theorem slices_IndexFunc.at_ (k : Nat) (A0 : Option Addr) (c0 : Nat) (l0 : List (S31)) (s : ByteArray) (sb : Nat) (i : Nat) (w : World) (hr0 : Kd.C k31 w A0 l0.length l0) (hc0 : l0.length ≤ c0) (hlen : l0.length < 1152921504606846976) (hbx : w.heap[sb]? = some (.cells #[.string s] 9 (0, 0))) (hall : ∀ x ∈ l0, goneOf k s x = some (isGone k s x))
    (h1 : i < l0.length) (h2 : isGone k s (rd_T31 l0 (i : Int)) = true) (h3 : ∀ j : Nat, j < i → isGone k s (rd_T31 l0 (j : Int)) = false) :
    Calls Try.prog 75 #[.slice A0 l0.length c0, .func (.func 58) #[] #[.pointer (some ⟨sb, 0, none⟩)]] w fun e w' => e = .returned (.int .i64 (i : Int)) ∧ Below w.heap.size w w' := by
  refine (slices_IndexFunc.calls k A0 c0 l0 s sb w hr0 hc0 hlen hbx hall).mono ?_
  rintro e w1 ⟨⟨i1, h4, h5, h6, rfl⟩ | ⟨h4, rfl⟩, hb⟩
  · rcases Nat.lt_trichotomy i i1 with h7 | h7 | h7
    · rw [h6 i h7] at h2; cases h2
    · rw [h7]; exact ⟨rfl, hb⟩
    · rw [h3 i1 h7] at h5; cases h5
  · rw [h4 i h1] at h2; cases h2
theorem slices_IndexFunc.none_ (k : Nat) (A0 : Option Addr) (c0 : Nat) (l0 : List (S31)) (s : ByteArray) (sb : Nat) (w : World) (hr0 : Kd.C k31 w A0 l0.length l0) (hc0 : l0.length ≤ c0) (hlen : l0.length < 1152921504606846976) (hbx : w.heap[sb]? = some (.cells #[.string s] 9 (0, 0))) (hall : ∀ x ∈ l0, goneOf k s x = some (isGone k s x))
    (h3 : ∀ j : Nat, j < l0.length → isGone k s (rd_T31 l0 (j : Int)) = false) :
    Calls Try.prog 75 #[.slice A0 l0.length c0, .func (.func 58) #[] #[.pointer (some ⟨sb, 0, none⟩)]] w fun e w' => e = .returned (.int .i64 (-1)) ∧ Below w.heap.size w w' := by
  refine (slices_IndexFunc.calls k A0 c0 l0 s sb w hr0 hc0 hlen hbx hall).mono ?_
  rintro e w1 ⟨⟨i1, h4, h5, h6, rfl⟩ | ⟨h4, rfl⟩, hb⟩
  · rw [h3 i1 h4] at h5; cases h5
  · exact ⟨rfl, hb⟩
theorem firstGone (k : Nat) (s : ByteArray) (l0 : List (S31)) : (∀ j : Nat, j < l0.length → isGone k s (rd_T31 l0 (j : Int)) = false) ∨ ∃ i : Nat, i < l0.length ∧ isGone k s (rd_T31 l0 (i : Int)) = true ∧ ∀ j : Nat, j < i → isGone k s (rd_T31 l0 (j : Int)) = false := by
  have h : ∀ n, n ≤ l0.length → (∀ j : Nat, j < n → isGone k s (rd_T31 l0 (j : Int)) = false) ∨ ∃ i : Nat, i < l0.length ∧ isGone k s (rd_T31 l0 (i : Int)) = true ∧ ∀ j : Nat, j < i → isGone k s (rd_T31 l0 (j : Int)) = false := by
    intro n
    induction n with
    | zero => exact fun _ => .inl fun j hj => by omega
    | succ n ih =>
      intro hn
      rcases ih (by omega) with h | h
      · cases hg : isGone k s (rd_T31 l0 (n : Int)) with
        | true => exact .inr ⟨n, by omega, hg, h⟩
        | false =>
          refine .inl fun j hj => ?_
          rcases Nat.lt_or_ge j n with h1 | h1
          · exact h j h1
          · rw [show j = n by omega]; exact hg
      · exact .inr h
  exact h _ (Nat.le_refl _)
/-- What stands at the round's start: i are kept of the first j. -/
structure Kept_ (k : Nat) (s : ByteArray) (l0 cur : List (S31)) (i j : Nat) : Prop where
  len : cur.length = l0.length
  ij : i < j
  jn : j ≤ l0.length
  front : cur.take i = (l0.take j).filter fun x => !isGone k s x
  back : cur.drop j = l0.drop j
theorem Kept_.start {k : Nat} {s : ByteArray} {l0 : List (S31)} {i : Nat} (h1 : i < l0.length) (h2 : isGone k s (rd_T31 l0 (i : Int)) = true) (h3 : ∀ j : Nat, j < i → isGone k s (rd_T31 l0 (j : Int)) = false) : Kept_ k s l0 l0 i (i + 1) := by
  refine ⟨rfl, by omega, by omega, ?_, rfl⟩
  rw [isGone_at k s l0 i h1] at h2
  rw [List.take_add_one, List.getElem?_eq_getElem h1, List.filter_append]
  have e1 : (l0.take i).filter (fun x => !isGone k s x) = l0.take i := by
    refine List.filter_eq_self.2 fun x hx => ?_
    obtain ⟨j, hj, rfl⟩ := List.getElem_of_mem hx
    rw [List.length_take] at hj
    rw [List.getElem_take, ← isGone_at k s l0 j (by omega), h3 j (by omega)]
    rfl
  rw [e1]
  simp [h2]
theorem Kept_.at_ {k : Nat} {s : ByteArray} {l0 cur : List (S31)} {i j : Nat} (h : Kept_ k s l0 cur i j) (hj : j < l0.length) : cur[j]? = l0[j]? := by
  have h1 := congrArg (fun l => l[0]?) h.back
  simpa [List.getElem?_drop] using h1
theorem Kept_.skip {k : Nat} {s : ByteArray} {l0 cur : List (S31)} {i j : Nat} (h : Kept_ k s l0 cur i j) (hj : j < l0.length) (hg : isGone k s (rd_T31 l0 (j : Int)) = true) : Kept_ k s l0 cur i (j + 1) := by
  have h1 := h.ij
  refine ⟨h.len, by omega, by omega, ?_, ?_⟩
  · rw [isGone_at k s l0 j hj] at hg
    rw [h.front, List.take_add_one, List.getElem?_eq_getElem hj, List.filter_append]
    simp [hg]
  · rw [← List.drop_drop, ← List.drop_drop, h.back]
theorem Kept_.keep {k : Nat} {s : ByteArray} {l0 cur : List (S31)} {i j : Nat} (h : Kept_ k s l0 cur i j) (hj : j < l0.length) (hg : isGone k s (rd_T31 l0 (j : Int)) = false) : Kept_ k s l0 (cur.set i (rd_T31 l0 (j : Int))) (i + 1) (j + 1) := by
  have h1 := h.ij
  have h2 := h.len
  rw [isGone_at k s l0 j hj] at hg ⊢
  refine ⟨by simpa using h.len, by omega, by omega, ?_, ?_⟩
  · rw [List.take_add_one, List.take_set_of_le (Nat.le_refl i), List.getElem?_set_self (by omega), h.front, List.take_add_one, List.getElem?_eq_getElem hj, List.filter_append]
    simp [hg]
  · rw [List.drop_set_of_lt (by omega), ← List.drop_drop, ← List.drop_drop, h.back]
theorem wrap_small (i : Nat) (h : i < 1152921504606846976) : wrap64 ((i : Int) + 1) = ((i + 1 : Nat) : Int) := by
  unfold wrap64
  omega
set_option maxHeartbeats 8000000 in
set_option maxRecDepth 100000 in
theorem slices_DeleteFunc.calls (k base : Nat) (P : Nat → Prop) (A0 : Option Addr) (c0 : Nat) (l0 : List (S31)) (s : ByteArray) (sb : Nat) (r : List (S31)) (w : World) (ho : Kd.N k31 31 w base P (.slice A0 l0.length c0) l0) (hsb : sb < base) (hbase : base ≤ w.heap.size) (hlen : l0.length < 1152921504606846976) (hbx : w.heap[sb]? = some (.cells #[.string s] 9 (0, 0))) (h : keptOf k l0 s = some r) :
    Calls Try.prog 57 #[.slice A0 l0.length c0, .func (.func 58) #[] #[.pointer (some ⟨sb, 0, none⟩)]] w fun e w' => ∃ v0_ : Value, e = .returned v0_ ∧ Kd.N k31 31 w' base P v0_ r ∧ Below base w w' := by
  have hall : ∀ x ∈ l0, goneOf k s x = some (isGone k s x) := by
    intro x hx
    unfold keptOf at h
    split at h
    · rename_i h1
      obtain ⟨b, hb⟩ := Option.isSome_iff_exists.1 (List.all_eq_true.mp h1 x hx)
      unfold isGone
      rw [hb]; rfl
    · cases h
  have hr : l0.filter (fun x => !isGone k s x) = r := by
    unfold keptOf at h
    split at h
    · exact Option.some.inj h
    · cases h
  clear h
  have hc0 := (Kd.N_reads' ho).2.1
  have HO := Aside0.mk ho
  have HX := Aside0.mk hbx
  have HALL := Aside0.mk hall
  have HR := Aside0.mk hr
  clear ho hbx hall hr
  rcases firstGone k s l0 with hn | ⟨i0, hi1, hi2, hi3⟩
  · have HN := Aside0.mk hn
    clear hn
    go_enter Try.func57, Try.ntmps57
    go_wp2_with (go_at_call 75; refine (slices_IndexFunc.none_ k A0 c0 l0 s sb _ (Kd.N_reads' HO.out).2.2 hc0 hlen HX.out HALL.out HN.out).mono ?_; rintro e w1 ⟨rfl, hb⟩; have HB := Aside0.mk hb; clear hb)
    go_ret
    refine ⟨_, rfl, ?_, HB.out.mono hbase⟩
    have e1 : r = l0 := by
      rw [← HR.out]
      refine List.filter_eq_self.2 fun x hx => ?_
      obtain ⟨j, hj, rfl⟩ := List.getElem_of_mem hx
      rw [← isGone_at k s l0 j hj, HN.out j hj]
      rfl
    rw [e1]
    exact Kd.N_below HO.out HB.out
  · have HI2 := Aside0.mk hi2
    have HI3 := Aside0.mk hi3
    have hK0 : Kept_ k s l0 l0 i0 (i0 + 1) := Kept_.start hi1 hi2 hi3
    have HK0 := Aside0.mk hK0
    clear hi2 hi3 hK0
    obtain ⟨g, cap, eA, hgb, hgl, _⟩ := Kd.N_form HO.out (by omega)
    injection eA with ea en ec
    subst ea ec
    clear en
    have d0 : ((i0 : Int) == -1) = false := beq_eq_false_iff_ne.mpr (by omega)
    go_enter Try.func57, Try.ntmps57
    go_wp2_with (go_at_call 75; refine (slices_IndexFunc.at_ k _ c0 l0 s sb i0 _ (Kd.N_reads' HO.out).2.2 hc0 hlen HX.out HALL.out hi1 HI2.out HI3.out).mono ?_; rintro e w1 ⟨rfl, hb⟩; have HB := Aside0.mk hb; clear hb)
    have HO1 := Aside0.mk (Kd.N_below HO.out HB.out)
    have HB1 := Aside0.mk (HB.out.mono hbase)
    go_loopw [5, 6] (fun v5 v6 wr => ∃ (i j : Nat) (cur : List (S31)), v5 = .int .i64 (i : Int) ∧ v6 = .int .i64 (j : Int) ∧ Aside0 (Kept_ k s l0 cur i j) ∧ Aside0 (Kd.N k31 31 wr base P (.slice (some ⟨g, 0, none⟩) l0.length c0) cur) ∧ Aside0 (Below base w wr)) (fun _ v6 _ => l0.length - (intOf v6).toNat)
    case atStart => exact ⟨i0, i0 + 1, l0, rfl, by congr 1, HK0, HO1, HB1⟩
    case round =>
      clear HO1 HB1 HB HI2 HI3 HK0 d0
      obtain ⟨i, j, cur, rfl, rfl, HK, HO1, HB1⟩ := hrel
      have hij : i < j := HK.out.ij
      have hjn : j ≤ l0.length := HK.out.jn
      have HX1 := Aside0.mk ((HB1.out.block sb hsb).trans HX.out)
      have HS1 := Aside0.mk (Nat.le_trans hbase HB1.out.size)
      by_cases c1 : j < l0.length
      · have d1 : decide (j < l0.length) = true := decide_eq_true c1
        have p : (0 : Int) ≤ (j : Int) := Int.natCast_nonneg j
        have q : (j : Int) < (l0.length : Int) := Int.ofNat_lt.2 c1
        obtain ⟨c, hcl, hM, hcc, hfr⟩ := Kd.N_elem HO1.out z31 (j : Int) p q
        have hxx : cur.getD ((j : Int)).toNat z31 = rd_T31 l0 (j : Int) := by
          rw [isGone_at k s l0 j c1, Int.toNat_natCast, List.getD_eq_getElem?_getD, HK.out.at_ c1, List.getElem?_eq_getElem c1]
          rfl
        rw [hxx] at hM
        clear hxx hfr hcl
        obtain ⟨ua, uc, rfl, ul, ge⟩ := k31_openF hM
        rw [Int.toNat_natCast] at hcc
        have HM := Aside0.mk hM
        have hx0 : wr.cell? ⟨g, j * 5, none⟩ = some (.string (rd_T31 l0 (j : Int)).f0) := hcc 0 _ rfl
        have hx1 : wr.cell? ⟨g, j * 5 + 1, none⟩ = some (.int .i64 (rd_T31 l0 (j : Int)).f1) := hcc 1 _ rfl
        have hx2 : wr.cell? ⟨g, j * 5 + 2, none⟩ = some (.int .i64 (rd_T31 l0 (j : Int)).f2) := hcc 2 _ rfl
        have hx3 : wr.cell? ⟨g, j * 5 + 3, none⟩ = some (.slice ua (rd_T31 l0 (j : Int)).f3.length uc) := hcc 3 _ rfl
        have hx4 : wr.cell? ⟨g, j * 5 + 4, none⟩ = some (.string (rd_T31 l0 (j : Int)).f4) := hcc 4 _ rfl
        clear hcc hM ul ge
        have HG := Aside0.mk (HALL.out (rd_T31 l0 (j : Int)) (by rw [isGone_at k s l0 j c1]; exact List.getElem_mem _))
        obtain ⟨b, hb0⟩ : ∃ b, isGone k s (rd_T31 l0 (j : Int)) = b := ⟨_, rfl⟩
        rw [hb0] at HG
        cases b with
        | true =>
          go_wp2_with (first | ((with_reducible refine gate_dst (N := 7) rfl ?_); refine box_event ?hg (N := 7) ?hd (cs := #[.string (⟨#[]⟩ : ByteArray), .int .i64 0, .int .i64 0, .slice none 0 0, .string (⟨#[]⟩ : ByteArray)]) (t := 31) ?hr ?_; (case hd => rfl); (case hg => rfl); (case hr => first | (go_simp; done) | (go_simp; rfl)); intro gb hg w9 hbox hb; have HBr := Aside0.mk hb; have BK := Aside0.mk hbox; have GE := Aside0.mk (show wr.heap.size ≤ gb by rw [hg]; exact Nat.le_refl _); clear hb hbox hg; have hcz0 : w9.cell? ⟨gb, 0, none⟩ = some (.string (⟨#[]⟩ : ByteArray)) := (blk_cell BK.out 0).trans rfl; have hfz0 := blk_frozen BK.out 0; have hcz1 : w9.cell? ⟨gb, 1, none⟩ = some (.int .i64 0) := (blk_cell BK.out 1).trans rfl; have hfz1 := blk_frozen BK.out 1; have hcz2 : w9.cell? ⟨gb, 2, none⟩ = some (.int .i64 0) := (blk_cell BK.out 2).trans rfl; have hfz2 := blk_frozen BK.out 2; have hcz3 : w9.cell? ⟨gb, 3, none⟩ = some (.slice none 0 0) := (blk_cell BK.out 3).trans rfl; have hfz3 := blk_frozen BK.out 3; have hcz4 : w9.cell? ⟨gb, 4, none⟩ = some (.string (⟨#[]⟩ : ByteArray)) := (blk_cell BK.out 4).trans rfl; have hfz4 := blk_frozen BK.out 4) | (go_at_call 58; refine (tree_Drop1.calls k (rd_T31 l0 (j : Int)) _ s sb true _ rfl (blk_below HX1.out (show Below wr.heap.size wr _ from (by repeat (with_reducible first | exact HBr.out | refine below_set ?_ GE.out)))) HG.out).mono ?_; rintro e w2 ⟨rfl, hb⟩; have n0_ := Aside0.mk (blk_below (g := gb) (o := .cells #[.string (rd_T31 l0 (j : Int)).f0, .int .i64 (rd_T31 l0 (j : Int)).f1, .int .i64 (rd_T31 l0 (j : Int)).f2, .slice ua (rd_T31 l0 (j : Int)).f3.length uc, .string (rd_T31 l0 (j : Int)).f4] 31 (0, 0)) (by refine blk_put (cs := #[.string (rd_T31 l0 (j : Int)).f0, .int .i64 (rd_T31 l0 (j : Int)).f1, .int .i64 (rd_T31 l0 (j : Int)).f2, .slice ua (rd_T31 l0 (j : Int)).f3.length uc, .string (⟨#[]⟩ : ByteArray)]) ?_ 4 _ rfl; refine blk_put (cs := #[.string (rd_T31 l0 (j : Int)).f0, .int .i64 (rd_T31 l0 (j : Int)).f1, .int .i64 (rd_T31 l0 (j : Int)).f2, .slice none 0 0, .string (⟨#[]⟩ : ByteArray)]) ?_ 3 _ rfl; refine blk_put (cs := #[.string (rd_T31 l0 (j : Int)).f0, .int .i64 (rd_T31 l0 (j : Int)).f1, .int .i64 0, .slice none 0 0, .string (⟨#[]⟩ : ByteArray)]) ?_ 2 _ rfl; refine blk_put (cs := #[.string (rd_T31 l0 (j : Int)).f0, .int .i64 0, .int .i64 0, .slice none 0 0, .string (⟨#[]⟩ : ByteArray)]) ?_ 1 _ rfl; refine blk_put (cs := #[.string (⟨#[]⟩ : ByteArray), .int .i64 0, .int .i64 0, .slice none 0 0, .string (⟨#[]⟩ : ByteArray)]) ?_ 0 _ rfl; with_reducible exact BK.out) hb); have n1_ := Aside0.mk (show Below wr.heap.size wr w2 from below_step (by repeat (with_reducible first | exact HBr.out | refine below_set ?_ GE.out)) hb); clear BK HBr hb; have BK := n0_; have HBr := n1_; clear n0_ n1_))
          go_roundw
          case rel => exact ⟨i, j + 1, cur, rfl, by congr 1, ⟨HK.out.skip c1 hb0⟩, ⟨Kd.N_below HO1.out HBr.out⟩, ⟨HB1.out.trans (HBr.out.mono HS1.out)⟩⟩
          case measure => simp [intOf]; omega
        | false =>
          go_wp2_with (first | ((with_reducible refine gate_dst (N := 7) rfl ?_); refine box_event ?hg (N := 7) ?hd (cs := #[.string (⟨#[]⟩ : ByteArray), .int .i64 0, .int .i64 0, .slice none 0 0, .string (⟨#[]⟩ : ByteArray)]) (t := 31) ?hr ?_; (case hd => rfl); (case hg => rfl); (case hr => first | (go_simp; done) | (go_simp; rfl)); intro gb hg w9 hbox hb; have HBr := Aside0.mk hb; have BK := Aside0.mk hbox; have GE := Aside0.mk (show wr.heap.size ≤ gb by rw [hg]; exact Nat.le_refl _); clear hb hbox hg; have hcz0 : w9.cell? ⟨gb, 0, none⟩ = some (.string (⟨#[]⟩ : ByteArray)) := (blk_cell BK.out 0).trans rfl; have hfz0 := blk_frozen BK.out 0; have hcz1 : w9.cell? ⟨gb, 1, none⟩ = some (.int .i64 0) := (blk_cell BK.out 1).trans rfl; have hfz1 := blk_frozen BK.out 1; have hcz2 : w9.cell? ⟨gb, 2, none⟩ = some (.int .i64 0) := (blk_cell BK.out 2).trans rfl; have hfz2 := blk_frozen BK.out 2; have hcz3 : w9.cell? ⟨gb, 3, none⟩ = some (.slice none 0 0) := (blk_cell BK.out 3).trans rfl; have hfz3 := blk_frozen BK.out 3; have hcz4 : w9.cell? ⟨gb, 4, none⟩ = some (.string (⟨#[]⟩ : ByteArray)) := (blk_cell BK.out 4).trans rfl; have hfz4 := blk_frozen BK.out 4) | (go_at_call 58; refine (tree_Drop1.calls k (rd_T31 l0 (j : Int)) _ s sb false _ rfl (blk_below HX1.out (show Below wr.heap.size wr _ from (by repeat (with_reducible first | exact HBr.out | refine below_set ?_ GE.out)))) HG.out).mono ?_; rintro e w2 ⟨rfl, hb⟩; have n0_ := Aside0.mk (blk_below (g := gb) (o := .cells #[.string (rd_T31 l0 (j : Int)).f0, .int .i64 (rd_T31 l0 (j : Int)).f1, .int .i64 (rd_T31 l0 (j : Int)).f2, .slice ua (rd_T31 l0 (j : Int)).f3.length uc, .string (rd_T31 l0 (j : Int)).f4] 31 (0, 0)) (by refine blk_put (cs := #[.string (rd_T31 l0 (j : Int)).f0, .int .i64 (rd_T31 l0 (j : Int)).f1, .int .i64 (rd_T31 l0 (j : Int)).f2, .slice ua (rd_T31 l0 (j : Int)).f3.length uc, .string (⟨#[]⟩ : ByteArray)]) ?_ 4 _ rfl; refine blk_put (cs := #[.string (rd_T31 l0 (j : Int)).f0, .int .i64 (rd_T31 l0 (j : Int)).f1, .int .i64 (rd_T31 l0 (j : Int)).f2, .slice none 0 0, .string (⟨#[]⟩ : ByteArray)]) ?_ 3 _ rfl; refine blk_put (cs := #[.string (rd_T31 l0 (j : Int)).f0, .int .i64 (rd_T31 l0 (j : Int)).f1, .int .i64 0, .slice none 0 0, .string (⟨#[]⟩ : ByteArray)]) ?_ 2 _ rfl; refine blk_put (cs := #[.string (rd_T31 l0 (j : Int)).f0, .int .i64 0, .int .i64 0, .slice none 0 0, .string (⟨#[]⟩ : ByteArray)]) ?_ 1 _ rfl; refine blk_put (cs := #[.string (⟨#[]⟩ : ByteArray), .int .i64 0, .int .i64 0, .slice none 0 0, .string (⟨#[]⟩ : ByteArray)]) ?_ 0 _ rfl; with_reducible exact BK.out) hb); have n1_ := Aside0.mk (show Below wr.heap.size wr w2 from below_step (by repeat (with_reducible first | exact HBr.out | refine below_set ?_ GE.out)) hb); clear BK HBr hb; have BK := n0_; have HBr := n1_; clear n0_ n1_; have HO2 := Aside0.mk (Kd.N_below HO1.out HBr.out); obtain ⟨c2, hcl2, hM2, hcc2, hfr2⟩ := Kd.N_elem HO2.out z31 (i : Int) (by omega) (by omega); obtain ⟨ua2, uc2, rfl, ul2, ge2⟩ := k31_openF hM2; rw [Int.toNat_natCast] at hcc2 hfr2; have hy0 := hcc2 0 _ rfl; have hf0 := hfr2 0; have hy1 := hcc2 1 _ rfl; have hf1 := hfr2 1; have hy2 := hcc2 2 _ rfl; have hf2 := hfr2 2; have hy3 := hcc2 3 _ rfl; have hf3 := hfr2 3; have hy4 := hcc2 4 _ rfl; have hf4 := hfr2 4; simp only [show k31.sz = 5 from rfl, Nat.add_zero] at hy0 hy1 hy2 hy3 hy4 hf0 hf1 hf2 hf3 hf4; clear hcc2 hfr2 hM2 ul2 ge2 hcl2; have hcy0 : w2.cell? ⟨gb, 0, none⟩ = some (.string (rd_T31 l0 (j : Int)).f0) := (blk_cell BK.out 0).trans rfl; have hcy1 : w2.cell? ⟨gb, 1, none⟩ = some (.int .i64 (rd_T31 l0 (j : Int)).f1) := (blk_cell BK.out 1).trans rfl; have hcy2 : w2.cell? ⟨gb, 2, none⟩ = some (.int .i64 (rd_T31 l0 (j : Int)).f2) := (blk_cell BK.out 2).trans rfl; have hcy3 : w2.cell? ⟨gb, 3, none⟩ = some (.slice ua (rd_T31 l0 (j : Int)).f3.length uc) := (blk_cell BK.out 3).trans rfl; have hcy4 : w2.cell? ⟨gb, 4, none⟩ = some (.string (rd_T31 l0 (j : Int)).f4) := (blk_cell BK.out 4).trans rfl) | ((with_reducible refine gate_store (t := 31) (p := 33) rfl ?_); refine store_event (t := 31) (p := 33) (v := ?vo_) (w1 := (((((w2.setCell ⟨g, i * 5, none⟩ (.string (rd_T31 l0 (j : Int)).f0)).setCell ⟨g, i * 5 + 1, none⟩ (.int .i64 (rd_T31 l0 (j : Int)).f1)).setCell ⟨g, i * 5 + 2, none⟩ (.int .i64 (rd_T31 l0 (j : Int)).f2)).setCell ⟨g, i * 5 + 3, none⟩ (.slice ua (rd_T31 l0 (j : Int)).f3.length uc)).setCell ⟨g, i * 5 + 4, none⟩ (.string (rd_T31 l0 (j : Int)).f4))) ?hg ?ho ?hn ?hr ?_; (case ho => rfl); (case hg => rfl); (case hn => rfl); (case hr => first | (go_simp; done) | (go_simp; rfl)); intro w3 hw; obtain ⟨hN3, hG3⟩ := entryN_set HO2.out (show i < l0.length by omega) (x := (rd_T31 l0 (j : Int))) (seg := [.string (rd_T31 l0 (j : Int)).f0, .int .i64 (rd_T31 l0 (j : Int)).f1, .int .i64 (rd_T31 l0 (j : Int)).f2, .slice ua (rd_T31 l0 (j : Int)).f3.length uc, .string (rd_T31 l0 (j : Int)).f4]) (Kd.FK_below HM.out HBr.out); have HO3 := Aside0.mk (by rw [hw]; exact hN3 : Kd.N k31 31 w3 base P (.slice (some ⟨g, 0, none⟩) l0.length c0) (cur.set i (rd_T31 l0 (j : Int)))); have HB3 := Aside0.mk (show Below base w w3 by rw [hw]; exact (((((HB1.out.trans (HBr.out.mono HS1.out)).setCell hgb _).setCell hgb _).setCell hgb _).setCell hgb _).setCell hgb _); clear hN3 hG3 hw))
          go_roundw
          case rel => exact ⟨i + 1, j + 1, _, by congr 1, by congr 1, ⟨HK.out.keep c1 hb0⟩, HO3, HB3⟩
          case measure => simp [intOf]; omega
      · have d1 : decide (j < l0.length) = false := decide_eq_false c1
        have hin : i < l0.length := by omega
        obtain ⟨hNz, hGz⟩ := entryN_zero (l0.length - i) i wr cur HO1.out (by omega)
        have HNz := Aside0.mk hNz
        have HGz := Aside0.mk hGz
        clear hNz hGz
        have hclr := entryN_clear wr 0 HO1.out hin (c0 - i)
        have h5 : i ≤ c0 := by omega
        go_wp2
        go_ret
        refine ⟨_, rfl, ?_, ?_⟩
        · have e1 : r = (cur.take i ++ List.replicate (l0.length - i) z31).take i := by
            have e2 : (cur.take i).length = i := by rw [List.length_take, HK.out.len]; omega
            rw [List.take_append_of_le_length (by omega), List.take_of_length_le (by omega), HK.out.front, ← HR.out, show j = l0.length by omega, List.take_length]
          have e3 := Kd.N_take HNz.out (m := i) (by rw [List.length_append, List.length_take, HK.out.len, List.length_replicate]; omega)
          rw [e1]
          exact e3
        · exact HB1.out.grown HGz.out HS1.out (fun k hk => by injection hk with hk; omega)
def tree_Drop.f (k : Nat) (l0 : List (S31)) (a1 : ByteArray) : Option ((List (S31)) × Int) :=
  (tree_Check.f k l0).bind fun c => if c.1 = 0 then ((tree_place.f k l0 a1).bind fun p => if p.2 = true then ((api_Entry_55.f l0).bind fun x => (keptOf k x a1).bind fun y => (tree_clone.f k y).bind fun z => some (z, 0)) else some ([], 6)) else some ([], c.1)
theorem tree_Drop.mono : ∀ l0 a1 k, LeO (tree_Drop.f k l0 a1) (tree_Drop.f (k + 1) l0 a1) := by
  intro l0 a1 k
  unfold tree_Drop.f
  exact LeO.bind (tree_Check.mono _ _) fun _ => LeO.ite (LeO.bind (tree_place.mono _ _ _) fun _ => LeO.ite (LeO.bind (LeO.refl _) fun _ => LeO.bind (keptOf_mono _ _ _) fun _ => LeO.bind (tree_clone.mono _ _) fun _ => LeO.refl _) (LeO.refl _)) (LeO.refl _)
set_option maxHeartbeats 8000000 in
set_option maxRecDepth 100000 in
theorem tree_Drop.calls (k : Nat) (P0_ : Nat → Prop) (A0 : Option Addr) (c0 : Nat) (l0 : List (S31)) (a1 : ByteArray) (r1 : List (S31)) (r2 : Int) (w : World) (hs0 : Kd.V k31 31 w w.heap.size (fun k_ => P0_ k_) (.slice A0 l0.length c0) l0) (h : tree_Drop.f k l0 a1 = some (r1, r2)) :
    Calls Try.prog 32 #[.slice A0 l0.length c0, .string a1] w fun e w' => ∃ v0_ : Value, e = .returned (.tuple #[v0_, .int .i64 r2]) ∧ Kd.N k31 31 w' w.heap.size (fun k_ => (P0_ k_ ∨ w.heap.size ≤ k_)) v0_ r1 ∧ Below w.heap.size w w' := by
  have hc0 := (Kd.V_reads' hs0).2.1
  have HS := Aside0.mk hs0
  clear hs0
  unfold tree_Drop.f at h
  obtain ⟨⟨e1, e2⟩, hchk, h⟩ := Option.bind_eq_some_iff.mp h
  replace h : (if e1 = 0 then ((tree_place.f k l0 a1).bind fun p => if p.2 = true then ((api_Entry_55.f l0).bind fun x => (keptOf k x a1).bind fun y => (tree_clone.f k y).bind fun z => some (z, 0)) else some ([], 6)) else some ([], e1)) = some (r1, r2) := h
  have HC := Aside0.mk hchk
  clear hchk
  by_cases c1 : e1 = 0
  · rw [if_pos c1] at h
    subst c1
    obtain ⟨⟨p1, p2⟩, hpl, h⟩ := Option.bind_eq_some_iff.mp h
    replace h : (if p2 = true then ((api_Entry_55.f l0).bind fun x => (keptOf k x a1).bind fun y => (tree_clone.f k y).bind fun z => some (z, 0)) else some ([], 6)) = some (r1, r2) := h
    have HP := Aside0.mk hpl
    clear hpl
    by_cases c2 : p2 = true
    · rw [if_pos c2] at h
      subst c2
      obtain ⟨x, hx, h⟩ := Option.bind_eq_some_iff.mp h
      obtain ⟨y, hy, h⟩ := Option.bind_eq_some_iff.mp h
      obtain ⟨z, hz, h⟩ := Option.bind_eq_some_iff.mp h
      obtain ⟨rfl, rfl⟩ := Prod.mk.inj (Option.some.inj h)
      have HX := Aside0.mk hx
      have HY := Aside0.mk hy
      have HZ := Aside0.mk hz
      have hxl : x = l0 ∧ l0.length < 1152921504606846976 := by
        unfold api_Entry_55.f at hx
        split at hx
        · exact ⟨(Option.some.inj hx).symm, by omega⟩
        · cases hx
      obtain ⟨rfl, hlen⟩ := hxl
      have HLEN := Aside0.mk hlen
      clear h hx hy hz hlen
      have HB := Aside0.mk (Below.refl w.heap.size w)
      go_enter Try.func32, Try.ntmps32
      go_wp2_with (first
        | ((with_reducible refine gate_dst (N := 3) rfl ?_); refine box_event ?hg (N := 3) ?hd (cs := #[.string a1]) (t := 9) ?hr ?_; (case hd => rfl); (case hg => rfl); (case hr => first | (go_simp; done) | (go_simp; rfl)); intro gb hg w1 hbox hb; have HB1 := Aside0.mk hb; have BK := Aside0.mk hbox; have GE := Aside0.mk hg; have hsz := Aside0.mk (blk_lt hbox); clear hb hbox hg; have hcz : w1.cell? ⟨gb, 0, none⟩ = some (.string a1) := (blk_cell BK.out 0).trans rfl)
        | (go_at_call 11; refine (tree_Check.calls k A0 c0 _ 0 e2 _ (Kd.V_reads' (Kd.V_below HS.out HB1.out)).2.2 hc0 HC.out).mono ?_; rintro e w2 ⟨rfl, hb⟩; have HB2 := Aside0.mk (below_step HB1.out hb); have BK2 := Aside0.mk (blk_below BK.out hb); clear hb hcz; have hcz : w2.cell? ⟨gb, 0, none⟩ = some (.string a1) := (blk_cell BK2.out 0).trans rfl)
        | (go_at_call 40; refine (tree_place.calls k A0 c0 _ a1 p1 true _ (Kd.V_reads' (Kd.V_below HS.out HB2.out)).2.2 hc0 HP.out).mono ?_; rintro e w3 ⟨rfl, hb⟩; have HB3 := Aside0.mk (below_step HB2.out hb); have BK3 := Aside0.mk (blk_below BK2.out hb); clear hb hcz; have hcz : w3.cell? ⟨gb, 0, none⟩ = some (.string a1) := (blk_cell BK3.out 0).trans rfl)
        | (go_at_call 55; refine (api_Entry_55.calls P0_ A0 c0 _ x _ (Kd.V_map (Kd.V_below HS.out HB3.out) (fun _ hf => hf)) HX.out).mono ?_; rintro e w4 ⟨v4, rfl, hN4, hb⟩; have HB4 := Aside0.mk (below_step HB3.out hb); have BK4 := Aside0.mk (blk_below BK3.out hb); have HN4 := Aside0.mk hN4; obtain ⟨A4, c4, rfl⟩ := Kd.N_slice hN4; clear hb hcz hN4; have hcz : w4.cell? ⟨gb, 0, none⟩ = some (.string a1) := (blk_cell BK4.out 0).trans rfl)
        | (go_at_call 57; refine (slices_DeleteFunc.calls k (gb + 1) (fun k_ => P0_ k_ ∨ w.heap.size ≤ k_) A4 c4 x a1 gb y _ (Kd.N_lower (Kd.N_mono HN4.out (fun k_ hk => hk.imp id (fun hk => Nat.le_trans HB3.out.size hk))) (Nat.succ_le_of_lt (blk_lt BK3.out))) (Nat.lt_succ_self _) (Nat.succ_le_of_lt (blk_lt BK4.out)) HLEN.out BK4.out HY.out).mono ?_; rintro e w5 ⟨v5, rfl, hN5, hb⟩; have HB5 := Aside0.mk (HB4.out.trans (hb.mono (Nat.le_of_lt (Nat.lt_succ_of_le (by rw [GE.out]; exact Nat.le_refl _))))); have HN5 := Aside0.mk hN5; obtain ⟨A5, c5, rfl⟩ := Kd.N_slice hN5; clear hb hcz hN5)
        | (go_at_call 41; refine (tree_clone.calls k (fun k_ => P0_ k_ ∨ w.heap.size ≤ k_) A5 c5 y z _ (Kd.N_V HN5.out) HZ.out).mono ?_; rintro e w6 ⟨v6, rfl, hN6, hb⟩; have HB6 := Aside0.mk (below_step HB5.out hb); have HN6 := Aside0.mk (Kd.N_lower (Kd.N_mono (ok' := fun k_ => P0_ k_ ∨ w.heap.size ≤ k_) hN6 (fun k_ hk => hk.elim id (fun hk => .inr (Nat.le_trans HB5.out.size hk)))) HB5.out.size); clear hb hN6))
      go_ret2
      exact ⟨_, rfl, HN6.out, HB6.out⟩
    · rw [if_neg c2] at h
      have c3 : p2 = false := by simpa using c2
      subst c3
      obtain ⟨rfl, rfl⟩ := Prod.mk.inj (Option.some.inj h)
      clear h c2
      have HB := Aside0.mk (Below.refl w.heap.size w)
      go_enter Try.func32, Try.ntmps32
      go_wp2_with (first
        | ((with_reducible refine gate_dst (N := 3) rfl ?_); refine box_event ?hg (N := 3) ?hd (cs := #[.string a1]) (t := 9) ?hr ?_; (case hd => rfl); (case hg => rfl); (case hr => first | (go_simp; done) | (go_simp; rfl)); intro gb hg w1 hbox hb; have HB1 := Aside0.mk hb; have BK := Aside0.mk hbox; have GE := Aside0.mk hg; have hsz := Aside0.mk (blk_lt hbox); clear hb hbox hg; have hcz : w1.cell? ⟨gb, 0, none⟩ = some (.string a1) := (blk_cell BK.out 0).trans rfl)
        | (go_at_call 11; refine (tree_Check.calls k A0 c0 _ 0 e2 _ (Kd.V_reads' (Kd.V_below HS.out HB1.out)).2.2 hc0 HC.out).mono ?_; rintro e w2 ⟨rfl, hb⟩; have HB2 := Aside0.mk (below_step HB1.out hb); have BK2 := Aside0.mk (blk_below BK.out hb); clear hb hcz; have hcz : w2.cell? ⟨gb, 0, none⟩ = some (.string a1) := (blk_cell BK2.out 0).trans rfl)
        | (go_at_call 40; refine (tree_place.calls k A0 c0 _ a1 p1 false _ (Kd.V_reads' (Kd.V_below HS.out HB2.out)).2.2 hc0 HP.out).mono ?_; rintro e w3 ⟨rfl, hb⟩; have HB3 := Aside0.mk (below_step HB2.out hb); have BK3 := Aside0.mk (blk_below BK2.out hb); clear hb hcz; have hcz : w3.cell? ⟨gb, 0, none⟩ = some (.string a1) := (blk_cell BK3.out 0).trans rfl))
      go_ret2
      exact ⟨_, rfl, Kd.N_nil _ _ _ _ _, HB3.out⟩
  · rw [if_neg c1] at h
    obtain ⟨rfl, rfl⟩ := Prod.mk.inj (Option.some.inj h)
    clear h
    have c1b : (e1 != 0) = true := bne_iff_ne.mpr c1
    have HB := Aside0.mk (Below.refl w.heap.size w)
    go_enter Try.func32, Try.ntmps32
    go_wp2_with (first
      | ((with_reducible refine gate_dst (N := 3) rfl ?_); refine box_event ?hg (N := 3) ?hd (cs := #[.string a1]) (t := 9) ?hr ?_; (case hd => rfl); (case hg => rfl); (case hr => first | (go_simp; done) | (go_simp; rfl)); intro gb hg w1 hbox hb; have HB1 := Aside0.mk hb; have BK := Aside0.mk hbox; have GE := Aside0.mk hg; have hsz := Aside0.mk (blk_lt hbox); clear hb hbox hg; have hcz : w1.cell? ⟨gb, 0, none⟩ = some (.string a1) := (blk_cell BK.out 0).trans rfl)
      | (go_at_call 11; refine (tree_Check.calls k A0 c0 _ e1 e2 _ (Kd.V_reads' (Kd.V_below HS.out HB1.out)).2.2 hc0 HC.out).mono ?_; rintro e w2 ⟨rfl, hb⟩; have HB2 := Aside0.mk (below_step HB1.out hb); have BK2 := Aside0.mk (blk_below BK.out hb); clear hb hcz; have hcz : w2.cell? ⟨gb, 0, none⟩ = some (.string a1) := (blk_cell BK2.out 0).trans rfl))
    go_ret2
    exact ⟨_, rfl, Kd.N_nil _ _ _ _ _, HB2.out⟩

end Go.Proofs.Ytopkmchkfcjjmaa.X

/-! ## Satchellaw08Sample -/
namespace Go.Proofs.Ytopkmchkfcjjmaa.X
open Go.RowKit Go.Proofs.YtopkmchkfcjjmaaW.PrintWords Go.Proofs.YtopkmchkfcjjmaaW.PrintLast Go.Proofs.YtopkmchkfcjjmaaW.PrintMore
attribute [local go_sem] max2_int min2_int max_two min_two max_three min_three max_four min_four   -- for this text's walks alone
set_option linter.unusedVariables false
set_option linter.unusedSimpArgs false

attribute [local go_sem] str_gtr fld_fault0 fld_fault1
/-! ### satchellaw08_sample: function 35 -/
def sampleTree : List S31 := [⟨⟨#[97]⟩, 1, 493, [], ⟨#[]⟩⟩, ⟨⟨#[97, 47, 98]⟩, 2, 420, [120], ⟨#[]⟩⟩, ⟨⟨#[99]⟩, 3, 0, [], ⟨#[97, 47, 98]⟩⟩]
def satchellaw08_sample.f : Option (List S31) := some sampleTree
/-- []byte("x"): a block that is marked behind its end. -/
theorem cv_lit (b n c : Nat) (cs : Array Value) (t : TypeId) (fr : Nat × Nat) (W : World) (h : W.heap[b]? = some (.cells cs t fr)) :
    (convert 29 29 (.slice (some ⟨b, 0, none⟩) n c)).run Try.prog W = .ok (.slice (some ⟨b, 0, none⟩) n c) (W.freeze ⟨b, cs.size, none⟩ 1) := by
  simp [convert, run_underlying Try.underlying29, run_underlying Try.underlying5, markStringish, Sem.run_bind, shape, freeze, Sem.run, World.shape?, h, Result.andThen]
theorem freeze_below {B : Nat} {w W : World} (h : Below B w W) (a : Addr) (n : Nat) (ha : B ≤ a.block) : Below B w (W.freeze a n) := by
  unfold World.freeze
  split
  · exact h
  · refine ⟨h.os, h.tape, h.output, by simpa using h.size, fun i hi => ?_⟩
    have hne : a.block ≠ i := by omega
    simp only [Array.getElem?_modify, if_neg hne]
    exact h.block i hi
/-- A row of one byte that is only read. -/
theorem one_byte (W : World) (b : Nat) (x : Int) (t : TypeId) (fr : Nat × Nat) (ok : Nat → Prop) (hb : ok b) (h : W.heap[b]? = some (.cells #[.int .u8 x] t fr)) : Kd.F (Kd.int .u8) W ok (some ⟨b, 0, none⟩) ([x] : List Int).length [x] := by
  intro W' hW
  have h' : W'.heap[b]? = some (.cells #[.int .u8 x] t fr) := (hW b hb (Array.getElem?_eq_some_iff.1 h).1).trans h
  refine ⟨rfl, by simp, fun _ => ⟨_, rfl, fun j p hj => ?_⟩⟩
  obtain ⟨hlt, rfl⟩ := List.getElem?_eq_some_iff.1 hj
  have hj0 : j = 0 := by simpa using hlt
  subst hj0
  refine ⟨[.int .u8 x], rfl, rfl, fun i u hu => ?_⟩
  obtain ⟨hi, rfl⟩ := List.getElem?_eq_some_iff.1 hu
  have hi0 : i = 0 := by simpa using hi
  subst hi0
  simp [World.cell?, Addr.add, h']
set_option maxHeartbeats 2000000 in
set_option maxRecDepth 100000 in
theorem satchellaw08_sample.calls  (r : List (S31)) (w : World) (h : satchellaw08_sample.f  = some r) :
    Calls Try.prog 35 #[] w fun e w' => ∃ v0_ : Value, e = .returned (v0_) ∧ Kd.N k31 31 w' w.heap.size (fun k_ => (w.heap.size ≤ k_)) v0_ r ∧ Below w.heap.size w w' := by
  obtain rfl := Option.some.inj h
  clear h
  have hu31 := Try.underlying31
  obtain ⟨w1, hw1⟩ : ∃ w1, (w.alloc (.cells #[.int .u8 120] 5)).freeze ⟨w.heap.size, 1, none⟩ 1 = w1 := ⟨_, rfl⟩
  have hcv := cv_lit w.heap.size 1 1 #[.int .u8 120] 5 (0, 0) (w.alloc (.cells #[.int .u8 120] 5)) (heap_alloc_new w _)
  replace hcv : (convert 29 29 (.slice (some ⟨w.heap.size, 0, none⟩) 1 1)).run Try.prog (w.alloc (.cells #[.int .u8 120] 5)) = .ok (.slice (some ⟨w.heap.size, 0, none⟩) 1 1) w1 := by rw [← hw1]; exact hcv
  have HB := Aside0.mk (show Below w.heap.size w w1 by rw [← hw1]; exact freeze_below ((Below.refl _ w).alloc (Nat.le_refl _) _) _ _ (Nat.le_refl _))
  have HF := Aside0.mk (show Kd.F (Kd.int .u8) w1 (fun k => w.heap.size ≤ k) (some ⟨w.heap.size, 0, none⟩) ([120] : List Int).length [120] from by
    refine one_byte w1 w.heap.size 120 5 (1, 2) _ (Nat.le_refl _) ?_
    rw [← hw1]
    unfold World.freeze
    rw [if_neg (by decide)]
    simp only [Array.getElem?_modify, heap_alloc_new]
    rfl)
  clear hw1
  go_enter Try.func35, Try.ntmps35
  go_wp2_with ((with_reducible refine gate_dst (N := 6) rfl ?_); refine Kd.N_lit k31 _ 31 ?hg (N' := 6) ?hd (xs := sampleTree) (inner := [.string (⟨#[97]⟩ : ByteArray), .int .i64 1, .int .i64 493, .slice none 0 0, .string (⟨#[]⟩ : ByteArray), .string (⟨#[97, 47, 98]⟩ : ByteArray), .int .i64 2, .int .i64 420, .slice (some ⟨w.heap.size, 0, none⟩) 1 1, .string (⟨#[]⟩ : ByteArray), .string (⟨#[99]⟩ : ByteArray), .int .i64 3, .int .i64 0, .slice none 0 0, .string (⟨#[97, 47, 98]⟩ : ByteArray)]) (ok := (fun k_ => (w.heap.size ≤ k_))) (okp := (fun k_ => (w.heap.size ≤ k_))) ?hr ?hp (fun _ hk => hk) (HB.out.size) (Below.refl _ _) (Nat.le_refl _) (by simp [sampleTree]) ?_; (case hd => rfl); (case hg => rfl); (case hr => first | (go_simp; done) | (go_simp; rfl)); (case hp => exact (Reps.c5 (show Kd.FK k31 _ _ (⟨(⟨#[97]⟩ : ByteArray), 1, 493, ([] : List Int), (⟨#[]⟩ : ByteArray)⟩ : S31) _ from (k31_mkF _ _ (⟨(⟨#[97]⟩ : ByteArray), 1, 493, ([] : List Int), (⟨#[]⟩ : ByteArray)⟩ : S31) (Nat.le_refl _) (Kd.F_nil _ _ _))) (Reps.c5 (show Kd.FK k31 _ _ (⟨(⟨#[97, 47, 98]⟩ : ByteArray), 2, 420, ([120] : List Int), (⟨#[]⟩ : ByteArray)⟩ : S31) _ from (k31_mkF _ _ (⟨(⟨#[97, 47, 98]⟩ : ByteArray), 2, 420, ([120] : List Int), (⟨#[]⟩ : ByteArray)⟩ : S31) (Nat.le_refl _) HF.out)) (Reps.c5 (show Kd.FK k31 _ _ (⟨(⟨#[99]⟩ : ByteArray), 3, 0, ([] : List Int), (⟨#[97, 47, 98]⟩ : ByteArray)⟩ : S31) _ from (k31_mkF _ _ (⟨(⟨#[99]⟩ : ByteArray), 3, 0, ([] : List Int), (⟨#[97, 47, 98]⟩ : ByteArray)⟩ : S31) (Nat.le_refl _) (Kd.F_nil _ _ _))) (Reps.none _ _))))); intro v148 w4 ho5 hb hg_ hnew_; clear hg_ hnew_; have n0_ := Aside0.mk (Kd.N_lower ho5 HB.out.size); have n1_ := Aside0.mk (below_step HB.out hb); clear HB hb ho5)
  go_ret
  exact ⟨_, rfl, n0_.out, n1_.out⟩

end Go.Proofs.Ytopkmchkfcjjmaa.X

/-! ## Satchellaw08Fails -/
namespace Go.Proofs.Ytopkmchkfcjjmaa.X
open Go.RowKit Go.Proofs.YtopkmchkfcjjmaaW.PrintWords Go.Proofs.YtopkmchkfcjjmaaW.PrintLast Go.Proofs.YtopkmchkfcjjmaaW.PrintMore
attribute [local go_sem] max2_int min2_int max_two min_two max_three min_three max_four min_four   -- for this text's walks alone
set_option linter.unusedVariables false
set_option linter.unusedSimpArgs false

attribute [local go_sem] str_gtr fld_fault0 fld_fault1
/-! ### satchellaw08_fails: function 36 -/
def satchellaw08_fails.f (k : Nat) (l0 : List (S31)) (a1 : Int) (a2 : Int) : Option (Bool) := (tree_Check.f k l0).bind fun bt144 => (if bt144.1 = a1 then (some (bt144.2 == a2)) else (some false))
theorem satchellaw08_fails.mono : ∀ a0 a1 a2 k, LeO (satchellaw08_fails.f k a0 a1 a2) (satchellaw08_fails.f (k + 1) a0 a1 a2) := by
  intro a0 a1 a2 k
  unfold satchellaw08_fails.f
  repeat' first
      | (with_reducible exact tree_Check.mono _ _)
      | (with_reducible exact LeO.refl _)
      | (with_reducible exact LeO.none _)
      | (with_reducible refine LeO.ite ?_ ?_)
      | (with_reducible refine LeO.bind ?_ (fun _ => ?_))
      | exact tree_Check.mono _ _
      | exact LeO.none _
      | refine LeO.ite ?_ ?_
      | refine LeO.bind ?_ (fun _ => ?_)
set_option maxHeartbeats 8000000 in
set_option maxRecDepth 100000 in
theorem satchellaw08_fails.calls (k : Nat) (A0 : Option Addr) (c0 : Nat) (l0 : List (S31)) (a1 : Int) (a2 : Int) (r : Bool) (w : World) (hr0 : Kd.C k31 w A0 l0.length l0) (hc0 : l0.length ≤ c0) (h : satchellaw08_fails.f k l0 a1 a2 = some r) :
    Calls Try.prog 36 #[.slice A0 l0.length c0, .int .i64 a1, .int .i64 a2] w fun e w' => e = .returned (.bool r) ∧ Below w.heap.size w w' := by
  have HR0 := Aside0.mk hr0
  have HC0 := Aside0.mk hc0
  clear hr0 hc0
  have HB := Aside0.mk (Below.refl w.heap.size w)
  have H : ((tree_Check.f k l0).bind fun bt144 => (if bt144.1 = a1 then (some (bt144.2 == a2)) else (some false))) = some r := h
  clear h
  replace H := Option.bind_eq_some_iff.mp H
  obtain ⟨⟨t144, t145⟩, A40, H⟩ := H
  replace H : (if t144 = a1 then (some (t145 == a2)) else (some false)) = some r := H
  have A4 := Aside0.mk A40
  clear A40
  by_cases c5 : t144 = a1
  · rw [if_pos c5] at H
    have c5b0 : (t144 == a1) = true := beq_iff_eq.mpr c5
    have c5b1 : (t144 != a1) = false := bne_eq_false_iff_eq.mpr c5
    clear c5
    obtain rfl := Option.some.inj H
    go_enter Try.func36, Try.ntmps36
    go_wp2_with (first | ((with_reducible refine gate_callee (f := 11) rfl ?_); refine goesL_ (some 11) rfl rfl Try.func11 (by kernel_rfl) rfl #[.slice A0 l0.length c0] rfl (by (try simp only [List.map_toArray, List.map_cons, List.map_nil]); first | done | rfl | (simp only [List.length_drop, List.length_take]; rfl)) ?_; (with_reducible refine (tree_Check.calls k _ _ l0 t144 t145 _ ?side1 ?side2 A4.out).mono ?_); (case side1 => repeat (first | exact HR0.out | (with_reducible refine Kd.C_alloc ?_ _) | (with_reducible refine Kd.C_drewN ?_ _) | (with_reducible refine Kd.C_drew ?_))); (case side2 => exact HC0.out); rintro e w6 ⟨rfl, hb⟩; refine ⟨_, rfl, ?_⟩; have n0_ := Aside0.mk (below_step (by repeat (first | (with_reducible first | exact HB.out | apply below_alloc | apply pw_below_drewN | apply below_drew1) | exact HB.out)) hb); clear HB; have HB := n0_; clear n0_; (try clear hb); (try clear hb2); (try clear hk); (try clear hi)))
    go_ret
    exact ⟨by first | rfl | (simp [errW_none, errW_some] <;> rfl) | (simp [*, errW_none, errW_some] <;> rfl) | (simp [bt, *]; done) | (simp_all [bt]; done), by repeat (first | (with_reducible first | exact HB.out | apply below_alloc | apply pw_below_drewN | apply below_drew1) | exact HB.out)⟩
  · rw [if_neg c5] at H
    have c5b0 : (t144 == a1) = false := beq_eq_false_iff_ne.mpr c5
    have c5b1 : (t144 != a1) = true := bne_iff_ne.mpr c5
    obtain rfl := Option.some.inj H
    go_enter Try.func36, Try.ntmps36
    go_wp2_with (first | ((with_reducible refine gate_callee (f := 11) rfl ?_); refine goesL_ (some 11) rfl rfl Try.func11 (by kernel_rfl) rfl #[.slice A0 l0.length c0] rfl (by (try simp only [List.map_toArray, List.map_cons, List.map_nil]); first | done | rfl | (simp only [List.length_drop, List.length_take]; rfl)) ?_; (with_reducible refine (tree_Check.calls k _ _ l0 t144 t145 _ ?side1 ?side2 A4.out).mono ?_); (case side1 => repeat (first | exact HR0.out | (with_reducible refine Kd.C_alloc ?_ _) | (with_reducible refine Kd.C_drewN ?_ _) | (with_reducible refine Kd.C_drew ?_))); (case side2 => exact HC0.out); rintro e w7 ⟨rfl, hb⟩; refine ⟨_, rfl, ?_⟩; have n0_ := Aside0.mk (below_step (by repeat (first | (with_reducible first | exact HB.out | apply below_alloc | apply pw_below_drewN | apply below_drew1) | exact HB.out)) hb); clear HB; have HB := n0_; clear n0_; (try clear hb); (try clear hb2); (try clear hk); (try clear hi)))
    go_ret
    exact ⟨by first | rfl | (simp [errW_none, errW_some] <;> rfl) | (simp [*, errW_none, errW_some] <;> rfl) | (simp [bt, *]; done) | (simp_all [bt]; done), by repeat (first | (with_reducible first | exact HB.out | apply below_alloc | apply pw_below_drewN | apply below_drew1) | exact HB.out)⟩

end Go.Proofs.Ytopkmchkfcjjmaa.X

/-! ## Satchellaw08Awake -/
namespace Go.Proofs.Ytopkmchkfcjjmaa.X
open Go.RowKit Go.Proofs.YtopkmchkfcjjmaaW.PrintWords Go.Proofs.YtopkmchkfcjjmaaW.PrintLast Go.Proofs.YtopkmchkfcjjmaaW.PrintMore
attribute [local go_sem] max2_int min2_int max_two min_two max_three min_three max_four min_four   -- for this text's walks alone
set_option linter.unusedVariables false
set_option linter.unusedSimpArgs false

attribute [local go_sem] str_gtr fld_fault0 fld_fault1
/-! ### satchellaw08_awake: function 10 -/
def satchellaw08_awake.f (k : Nat)  : Option (Bool) := (satchellaw08_sample.f).bind fun t146 => ((tree_Drop.f k t146 (⟨#[97]⟩ : ByteArray)).bind fun bt149 => ((satchellaw08_sample.f).bind fun t153 => ((satchellaw08_fails.f k t153 0 0).bind fun t156 => (if t156 = true then ((satchellaw08_sample.f).bind fun t157 => (if 1 ≤ (t157.length : Int) then ((satchellaw08_fails.f k (t157.drop 1) 6 0).bind fun t165 => (if t165 = true then (if bt149.2 = 0 then ((satchellaw08_sample.f).bind fun t166 => (if 2 ≤ (t166.length : Int) then ((satchelkit_SameTree.f bt149.1 (t166.drop 2)).bind fun t174 => (some t174)) else (none))) else (some false)) else (some false))) else (none))) else (some false)))))
theorem satchellaw08_awake.mono : ∀ k, LeO (satchellaw08_awake.f k ) (satchellaw08_awake.f (k + 1) ) := by
  intro  k
  unfold satchellaw08_awake.f
  repeat' first
      | (with_reducible exact satchellaw08_fails.mono _ _ _ _)
      | (with_reducible exact tree_Drop.mono _ _ _)
      | (with_reducible exact LeO.refl _)
      | (with_reducible exact LeO.none _)
      | (with_reducible refine LeO.ite ?_ ?_)
      | (with_reducible refine LeO.bind ?_ (fun _ => ?_))
      | exact satchellaw08_fails.mono _ _ _ _
      | exact tree_Drop.mono _ _ _
      | exact LeO.none _
      | refine LeO.ite ?_ ?_
      | refine LeO.bind ?_ (fun _ => ?_)
set_option maxHeartbeats 8000000 in
set_option maxRecDepth 100000 in
theorem satchellaw08_awake.calls (k : Nat)  (r : Bool) (w : World) (h : satchellaw08_awake.f k  = some r) :
    Calls Try.prog 10 #[] w fun e w' => e = .returned (.bool r) ∧ Below w.heap.size w w' := by
  have HB := Aside0.mk (Below.refl w.heap.size w)
  have H : ((satchellaw08_sample.f).bind fun t146 => ((tree_Drop.f k t146 (⟨#[97]⟩ : ByteArray)).bind fun bt149 => ((satchellaw08_sample.f).bind fun t153 => ((satchellaw08_fails.f k t153 0 0).bind fun t156 => (if t156 = true then ((satchellaw08_sample.f).bind fun t157 => (if 1 ≤ (t157.length : Int) then ((satchellaw08_fails.f k (t157.drop 1) 6 0).bind fun t165 => (if t165 = true then (if bt149.2 = 0 then ((satchellaw08_sample.f).bind fun t166 => (if 2 ≤ (t166.length : Int) then ((satchelkit_SameTree.f bt149.1 (t166.drop 2)).bind fun t174 => (some t174)) else (none))) else (some false)) else (some false))) else (none))) else (some false)))))) = some r := h
  clear h
  replace H := Option.bind_eq_some_iff.mp H
  obtain ⟨t146, A10, H⟩ := H
  replace H : ((tree_Drop.f k t146 (⟨#[97]⟩ : ByteArray)).bind fun bt149 => ((satchellaw08_sample.f).bind fun t153 => ((satchellaw08_fails.f k t153 0 0).bind fun t156 => (if t156 = true then ((satchellaw08_sample.f).bind fun t157 => (if 1 ≤ (t157.length : Int) then ((satchellaw08_fails.f k (t157.drop 1) 6 0).bind fun t165 => (if t165 = true then (if bt149.2 = 0 then ((satchellaw08_sample.f).bind fun t166 => (if 2 ≤ (t166.length : Int) then ((satchelkit_SameTree.f bt149.1 (t166.drop 2)).bind fun t174 => (some t174)) else (none))) else (some false)) else (some false))) else (none))) else (some false))))) = some r := H
  have A1 := Aside0.mk A10
  clear A10
  replace H := Option.bind_eq_some_iff.mp H
  obtain ⟨⟨t149, t152⟩, A20, H⟩ := H
  replace H : ((satchellaw08_sample.f).bind fun t153 => ((satchellaw08_fails.f k t153 0 0).bind fun t156 => (if t156 = true then ((satchellaw08_sample.f).bind fun t157 => (if 1 ≤ (t157.length : Int) then ((satchellaw08_fails.f k (t157.drop 1) 6 0).bind fun t165 => (if t165 = true then (if t152 = 0 then ((satchellaw08_sample.f).bind fun t166 => (if 2 ≤ (t166.length : Int) then ((satchelkit_SameTree.f t149 (t166.drop 2)).bind fun t174 => (some t174)) else (none))) else (some false)) else (some false))) else (none))) else (some false)))) = some r := H
  have A2 := Aside0.mk A20
  clear A20
  replace H := Option.bind_eq_some_iff.mp H
  obtain ⟨t153, A30, H⟩ := H
  replace H : ((satchellaw08_fails.f k t153 0 0).bind fun t156 => (if t156 = true then ((satchellaw08_sample.f).bind fun t157 => (if 1 ≤ (t157.length : Int) then ((satchellaw08_fails.f k (t157.drop 1) 6 0).bind fun t165 => (if t165 = true then (if t152 = 0 then ((satchellaw08_sample.f).bind fun t166 => (if 2 ≤ (t166.length : Int) then ((satchelkit_SameTree.f t149 (t166.drop 2)).bind fun t174 => (some t174)) else (none))) else (some false)) else (some false))) else (none))) else (some false))) = some r := H
  have A3 := Aside0.mk A30
  clear A30
  replace H := Option.bind_eq_some_iff.mp H
  obtain ⟨t156, A40, H⟩ := H
  replace H : (if t156 = true then ((satchellaw08_sample.f).bind fun t157 => (if 1 ≤ (t157.length : Int) then ((satchellaw08_fails.f k (t157.drop 1) 6 0).bind fun t165 => (if t165 = true then (if t152 = 0 then ((satchellaw08_sample.f).bind fun t166 => (if 2 ≤ (t166.length : Int) then ((satchelkit_SameTree.f t149 (t166.drop 2)).bind fun t174 => (some t174)) else (none))) else (some false)) else (some false))) else (none))) else (some false)) = some r := H
  have A4 := Aside0.mk A40
  clear A40
  by_cases c5 : t156 = true
  · subst c5
    have H1 : ((satchellaw08_sample.f).bind fun t157 => (if 1 ≤ (t157.length : Int) then ((satchellaw08_fails.f k (t157.drop 1) 6 0).bind fun t165 => (if t165 = true then (if t152 = 0 then ((satchellaw08_sample.f).bind fun t166 => (if 2 ≤ (t166.length : Int) then ((satchelkit_SameTree.f t149 (t166.drop 2)).bind fun t174 => (some t174)) else (none))) else (some false)) else (some false))) else (none))) = some r := by rw [if_pos rfl] at H; exact H
    clear H
    have H := H1
    clear H1
    replace H := Option.bind_eq_some_iff.mp H
    obtain ⟨t157, A60, H⟩ := H
    replace H : (if 1 ≤ (t157.length : Int) then ((satchellaw08_fails.f k (t157.drop 1) 6 0).bind fun t165 => (if t165 = true then (if t152 = 0 then ((satchellaw08_sample.f).bind fun t166 => (if 2 ≤ (t166.length : Int) then ((satchelkit_SameTree.f t149 (t166.drop 2)).bind fun t174 => (some t174)) else (none))) else (some false)) else (some false))) else (none)) = some r := H
    have A6 := Aside0.mk A60
    clear A60
    by_cases c7 : 1 ≤ (t157.length : Int)
    · rw [if_pos c7] at H
      have c7b0 := eq_true c7
      have c7b1 : decide (1 ≤ (t157.length : Int)) = true := decide_eq_true c7
      clear c7
      obtain ⟨y160, hy160⟩ : ∃ y_ : List (S31), y_ = (t157.drop 1) := ⟨_, rfl⟩
      replace H : ((satchellaw08_fails.f k y160 6 0).bind fun t165 => (if t165 = true then (if t152 = 0 then ((satchellaw08_sample.f).bind fun t166 => (if 2 ≤ (t166.length : Int) then ((satchelkit_SameTree.f t149 (t166.drop 2)).bind fun t174 => (some t174)) else (none))) else (some false)) else (some false))) = some r := by first | (rw [hy160]; with_reducible exact H) | (have H2_ := (Option.bind_some _ _).symm.trans H; rw [hy160]; with_reducible exact H2_) | (have H2_ := (Option.bind_some _ _).symm.trans H; with_reducible exact H2_) | with_reducible exact H | (rw [hy160]; exact H) | exact H
      have Ny160 := Aside0.mk hy160
      clear hy160
      replace H := Option.bind_eq_some_iff.mp H
      obtain ⟨t165, A80, H⟩ := H
      replace H : (if t165 = true then (if t152 = 0 then ((satchellaw08_sample.f).bind fun t166 => (if 2 ≤ (t166.length : Int) then ((satchelkit_SameTree.f t149 (t166.drop 2)).bind fun t174 => (some t174)) else (none))) else (some false)) else (some false)) = some r := H
      have A8 := Aside0.mk A80
      clear A80
      by_cases c9 : t165 = true
      · subst c9
        have H1 : (if t152 = 0 then ((satchellaw08_sample.f).bind fun t166 => (if 2 ≤ (t166.length : Int) then ((satchelkit_SameTree.f t149 (t166.drop 2)).bind fun t174 => (some t174)) else (none))) else (some false)) = some r := by rw [if_pos rfl] at H; exact H
        clear H
        have H := H1
        clear H1
        by_cases c10 : t152 = 0
        · rw [if_pos c10] at H
          have c10b0 : (t152 == 0) = true := beq_iff_eq.mpr c10
          have c10b1 : (t152 != 0) = false := bne_eq_false_iff_eq.mpr c10
          clear c10
          replace H := Option.bind_eq_some_iff.mp H
          obtain ⟨t166, A110, H⟩ := H
          replace H : (if 2 ≤ (t166.length : Int) then ((satchelkit_SameTree.f t149 (t166.drop 2)).bind fun t174 => (some t174)) else (none)) = some r := H
          have A11 := Aside0.mk A110
          clear A110
          by_cases c12 : 2 ≤ (t166.length : Int)
          · rw [if_pos c12] at H
            have c12b0 := eq_true c12
            have c12b1 : decide (2 ≤ (t166.length : Int)) = true := decide_eq_true c12
            clear c12
            obtain ⟨y169, hy169⟩ : ∃ y_ : List (S31), y_ = (t166.drop 2) := ⟨_, rfl⟩
            replace H : ((satchelkit_SameTree.f t149 y169).bind fun t174 => (some t174)) = some r := by first | (rw [hy169]; with_reducible exact H) | (have H2_ := (Option.bind_some _ _).symm.trans H; rw [hy169]; with_reducible exact H2_) | (have H2_ := (Option.bind_some _ _).symm.trans H; with_reducible exact H2_) | with_reducible exact H | (rw [hy169]; exact H) | exact H
            have Ny169 := Aside0.mk hy169
            clear hy169
            replace H := Option.bind_eq_some_iff.mp H
            obtain ⟨t174, A130, H⟩ := H
            replace H : (some t174) = some r := H
            have A13 := Aside0.mk A130
            clear A130
            obtain rfl := Option.some.inj H
            go_enter Try.func10, Try.ntmps10
            go_wp2_with (first | ((with_reducible refine gate_callee (f := 35) rfl ?_); refine goesL_ (some 4) rfl rfl Try.func35 (by kernel_rfl) rfl #[] rfl (by (try simp only [List.map_toArray, List.map_cons, List.map_nil]); first | done | rfl | (simp only [List.length_drop, List.length_take]; rfl)) ?_; (with_reducible refine (satchellaw08_sample.calls  t146 _ A1.out).mono ?_); rintro e w14 ⟨v147, rfl, ho0, hb⟩; clear A1; refine ⟨_, rfl, ?_⟩; have n0_ := Aside0.mk (Kd.N_lower (Kd.N_mono (ok' := fun k_ => True) ho0 (fun k_ hk_ => trivial)) (below_size (by repeat (first | (with_reducible first | exact HB.out | apply below_alloc | apply pw_below_drewN | apply below_drew1) | exact HB.out)))); have n1_ := Aside0.mk (below_step (by repeat (first | (with_reducible first | exact HB.out | apply below_alloc | apply pw_below_drewN | apply below_drew1) | exact HB.out)) hb); clear HB; have HO148 := n0_; have HB := n1_; clear n0_ n1_; (try clear hb); (try clear hb2); (try clear hk); (try clear hi); (try clear ho0); obtain ⟨Ao15, co15, eo15⟩ := Kd.N_slice HO148.out; subst eo15) | ((with_reducible refine gate_callee (f := 32) rfl ?_); refine goesL_ (some 5) rfl rfl Try.func32 (by kernel_rfl) rfl #[.slice Ao15 t146.length co15, .string (⟨#[97]⟩ : ByteArray)] rfl (by (try simp only [List.map_toArray, List.map_cons, List.map_nil]); first | done | rfl | (simp only [List.length_drop, List.length_take]; rfl)) ?_; (with_reducible refine (tree_Drop.calls k (fun k_ => True) _ _ t146 (⟨#[97]⟩ : ByteArray) t149 t152 _ ?side1 A2.out).mono ?_); (case side1 => exact Kd.N_V (HO148.out)); rintro e w16 ⟨v150, rfl, ho0, hb⟩; refine ⟨_, rfl, ?_⟩; have n0_ := Aside0.mk (Kd.N_elder' (by (with_reducible repeat (first | apply Kd.N_alloc | apply Kd.N_drewN | apply Kd.N_drew)); exact HO148.out) (Kd.N_base ho0) hb); have n1_ := Aside0.mk (Kd.N_lower (Kd.N_mono (ok' := fun k_ => True) ho0 (fun k_ hk_ => trivial)) (below_size (by repeat (first | (with_reducible first | exact HB.out | apply below_alloc | apply pw_below_drewN | apply below_drew1) | exact HB.out)))); have n2_ := Aside0.mk (below_step (by repeat (first | (with_reducible first | exact HB.out | apply below_alloc | apply pw_below_drewN | apply below_drew1) | exact HB.out)) hb); clear HO148; clear HB; have HO148 := n0_; have HO151 := n1_; have HB := n2_; clear n0_ n1_ n2_; (try clear hb); (try clear hb2); (try clear hk); (try clear hi); (try clear ho0)) | ((with_reducible refine gate_callee (f := 35) rfl ?_); refine goesL_ (some 8) rfl rfl Try.func35 (by kernel_rfl) rfl #[] rfl (by (try simp only [List.map_toArray, List.map_cons, List.map_nil]); first | done | rfl | (simp only [List.length_drop, List.length_take]; rfl)) ?_; (with_reducible refine (satchellaw08_sample.calls  t153 _ A3.out).mono ?_); rintro e w17 ⟨v154, rfl, ho0, hb⟩; clear A3; refine ⟨_, rfl, ?_⟩; have n0_ := Aside0.mk (Kd.N_elder' (by (with_reducible repeat (first | apply Kd.N_alloc | apply Kd.N_drewN | apply Kd.N_drew)); exact HO148.out) (Kd.N_base ho0) hb); have n1_ := Aside0.mk (Kd.N_elder' (by (with_reducible repeat (first | apply Kd.N_alloc | apply Kd.N_drewN | apply Kd.N_drew)); exact HO151.out) (Kd.N_base ho0) hb); have n2_ := Aside0.mk (Kd.N_lower (Kd.N_mono (ok' := fun k_ => some k_ ≠ (.slice Ao15 t146.length co15 : Value).ownBlock ∧ some k_ ≠ (v150 : Value).ownBlock) ho0 (fun k_ hk_ => ⟨(Kd.fresh' (Kd.N_lt (by (with_reducible repeat (first | apply Kd.N_alloc | apply Kd.N_drewN | apply Kd.N_drew)); exact HO148.out)) k_ hk_), (Kd.fresh' (Kd.N_lt (by (with_reducible repeat (first | apply Kd.N_alloc | apply Kd.N_drewN | apply Kd.N_drew)); exact HO151.out)) k_ hk_)⟩)) (below_size (by repeat (first | (with_reducible first | exact HB.out | apply below_alloc | apply pw_below_drewN | apply below_drew1) | exact HB.out)))); have n3_ := Aside0.mk (below_step (by repeat (first | (with_reducible first | exact HB.out | apply below_alloc | apply pw_below_drewN | apply below_drew1) | exact HB.out)) hb); clear HO148; clear HO151; clear HB; have HO148 := n0_; have HO151 := n1_; have HO155 := n2_; have HB := n3_; clear n0_ n1_ n2_ n3_; (try clear hb); (try clear hb2); (try clear hk); (try clear hi); (try clear ho0); obtain ⟨Ao18, co18, eo18⟩ := Kd.N_slice HO155.out; subst eo18) | ((with_reducible refine gate_callee (f := 36) rfl ?_); refine goesL_ (some 9) rfl rfl Try.func36 (by kernel_rfl) rfl #[.slice Ao18 t153.length co18, .int .i64 0, .int .i64 0] rfl (by (try simp only [List.map_toArray, List.map_cons, List.map_nil]); first | done | rfl | (simp only [List.length_drop, List.length_take]; rfl)) ?_; (with_reducible refine (satchellaw08_fails.calls k _ _ t153 0 0 true _ ?side1 ?side2 A4.out).mono ?_); (case side1 => repeat (first | exact (Kd.N_reads' HO155.out).2.2 | (with_reducible refine Kd.C_alloc ?_ _) | (with_reducible refine Kd.C_drewN ?_ _) | (with_reducible refine Kd.C_drew ?_))); (case side2 => exact (Kd.N_reads' HO155.out).2.1); rintro e w19 ⟨rfl, hb⟩; refine ⟨_, rfl, ?_⟩; have n0_ := Aside0.mk (Kd.N_below (by (with_reducible repeat (first | apply Kd.N_alloc | apply Kd.N_drewN | apply Kd.N_drew)); exact HO148.out) hb); have n1_ := Aside0.mk (Kd.N_below (by (with_reducible repeat (first | apply Kd.N_alloc | apply Kd.N_drewN | apply Kd.N_drew)); exact HO151.out) hb); have n2_ := Aside0.mk (Kd.N_below (by (with_reducible repeat (first | apply Kd.N_alloc | apply Kd.N_drewN | apply Kd.N_drew)); exact HO155.out) hb); have n3_ := Aside0.mk (below_step (by repeat (first | (with_reducible first | exact HB.out | apply below_alloc | apply pw_below_drewN | apply below_drew1) | exact HB.out)) hb); clear HO148; clear HO151; clear HO155; clear HB; have HO148 := n0_; have HO151 := n1_; have HO155 := n2_; have HB := n3_; clear n0_ n1_ n2_ n3_; (try clear hb); (try clear hb2); (try clear hk); (try clear hi)) | (go_at_call 35; (with_reducible refine (satchellaw08_sample.calls  t157 _ A6.out).mono ?_); rintro e w20 ⟨v158, rfl, ho0, hb⟩; clear A6; have n0_ := Aside0.mk (Kd.N_elder' (by (with_reducible repeat (first | apply Kd.N_alloc | apply Kd.N_drewN | apply Kd.N_drew)); exact HO148.out) (Kd.N_base ho0) hb); have n1_ := Aside0.mk (Kd.N_elder' (by (with_reducible repeat (first | apply Kd.N_alloc | apply Kd.N_drewN | apply Kd.N_drew)); exact HO151.out) (Kd.N_base ho0) hb); have n2_ := Aside0.mk (Kd.N_elder' (by (with_reducible repeat (first | apply Kd.N_alloc | apply Kd.N_drewN | apply Kd.N_drew)); exact HO155.out) (Kd.N_base ho0) hb); have n3_ := Aside0.mk (Kd.N_lower (Kd.N_mono (ok' := fun k_ => some k_ ≠ (.slice Ao15 t146.length co15 : Value).ownBlock ∧ some k_ ≠ (v150 : Value).ownBlock ∧ some k_ ≠ (.slice Ao18 t153.length co18 : Value).ownBlock) ho0 (fun k_ hk_ => ⟨(Kd.fresh' (Kd.N_lt (by (with_reducible repeat (first | apply Kd.N_alloc | apply Kd.N_drewN | apply Kd.N_drew)); exact HO148.out)) k_ hk_), (Kd.fresh' (Kd.N_lt (by (with_reducible repeat (first | apply Kd.N_alloc | apply Kd.N_drewN | apply Kd.N_drew)); exact HO151.out)) k_ hk_), (Kd.fresh' (Kd.N_lt (by (with_reducible repeat (first | apply Kd.N_alloc | apply Kd.N_drewN | apply Kd.N_drew)); exact HO155.out)) k_ hk_)⟩)) (below_size (by repeat (first | (with_reducible first | exact HB.out | apply below_alloc | apply pw_below_drewN | apply below_drew1) | exact HB.out)))); have n4_ := Aside0.mk (below_step (by repeat (first | (with_reducible first | exact HB.out | apply below_alloc | apply pw_below_drewN | apply below_drew1) | exact HB.out)) hb); clear HO148; clear HO151; clear HO155; clear HB; have HO148 := n0_; have HO151 := n1_; have HO155 := n2_; have HO159 := n3_; have HB := n4_; clear n0_ n1_ n2_ n3_ n4_; (try clear hb); (try clear hb2); (try clear hk); (try clear hi); (try clear ho0); obtain ⟨Ao22, co22, eo22⟩ := Kd.N_slice HO159.out; subst eo22; have q21 : (1 : Int) ≤ ((t157.length : Int) : Int) := of_decide_eq_true (by first | (with_reducible assumption) | assumption); obtain ⟨i021, hi021, _, hsz21, _⟩ := info_parts info31; have hroom21 : t157.length ≤ co22 := (Kd.N_reads' HO159.out).2.1; have hC21 : Kd.F k31 _ _ Ao22 t157.length t157 := (Kd.V_at (base := w.heap.size) (Kd.N_V HO159.out)).2.2; have hcut21 := cut_from (P := Try.prog) 22 31 .i64 Try.underlying22 hi021 5 hsz21 Ao22 t157.length co22 1 (by omega) q21; have hr21 := Kd.F_cut (m := (1 : Int).toNat) (c := co22) hC21 (by omega) hroom21; obtain ⟨A21, hA21⟩ : ∃ A1, A1 = (if co22 = (1 : Int).toNat then Ao22 else (Ao22 : Option Addr).map (·.add ((1 : Int).toNat * 5))) := ⟨_, rfl⟩; obtain ⟨c21, hc21⟩ : ∃ c1, c1 = co22 - (1 : Int).toNat := ⟨_, rfl⟩; have hy21 : y160.length = t157.length - (1 : Int).toNat := (by rw [Ny160.out, List.length_drop] <;> omega); rw [show (t157).drop (1 : Int).toNat = y160 from Ny160.out.symm] at hr21; replace hr21 : Kd.F k31 _ _ A21 y160.length y160 := (by rw [hA21]; exact hr21); rw [← hy21, ← hA21, ← hc21] at hcut21; have HO164 := Aside0.mk (show Kd.V k31 31 _ w.heap.size _ (.slice A21 y160.length c21) y160 from Kd.V_mk (by rw [hy21, hc21]; exact Nat.sub_le_sub_right hroom21 _) hr21); have HC164 := Aside0.mk (show y160.length ≤ c21 from by rw [hy21, hc21]; exact Nat.sub_le_sub_right hroom21 _); clear hr21 hC21 hroom21 hi021 hsz21 hc21; have KY21 := Aside0.mk hy21; have KA21 := Aside0.mk hA21; clear hy21 hA21; replace q21 := eq_true q21) | (go_at_call 36; (with_reducible refine (satchellaw08_fails.calls k _ _ y160 6 0 true _ ?side1 ?side2 A8.out).mono ?_); (case side1 => repeat (first | exact (Kd.V_reads' HO164.out).2.2 | (with_reducible refine Kd.C_alloc ?_ _) | (with_reducible refine Kd.C_drewN ?_ _) | (with_reducible refine Kd.C_drew ?_))); (case side2 => exact (Kd.V_reads' HO164.out).2.1); rintro e w23 ⟨rfl, hb⟩; have n0_ := Aside0.mk (Kd.N_below (by (with_reducible repeat (first | apply Kd.N_alloc | apply Kd.N_drewN | apply Kd.N_drew)); exact HO148.out) hb); have n1_ := Aside0.mk (Kd.N_below (by (with_reducible repeat (first | apply Kd.N_alloc | apply Kd.N_drewN | apply Kd.N_drew)); exact HO151.out) hb); have n2_ := Aside0.mk (Kd.N_below (by (with_reducible repeat (first | apply Kd.N_alloc | apply Kd.N_drewN | apply Kd.N_drew)); exact HO155.out) hb); have n3_ := Aside0.mk (Kd.N_below (by (with_reducible repeat (first | apply Kd.N_alloc | apply Kd.N_drewN | apply Kd.N_drew)); exact HO159.out) hb); have n4_ := Aside0.mk (Kd.V_below (by (with_reducible repeat (first | apply Kd.V_alloc | apply Kd.V_drewN | apply Kd.V_drew)); exact HO164.out) hb); have n5_ := Aside0.mk (below_step (by repeat (first | (with_reducible first | exact HB.out | apply below_alloc | apply pw_below_drewN | apply below_drew1) | exact HB.out)) hb); clear HO148; clear HO151; clear HO155; clear HO159; clear HO164; clear HB; have HO148 := n0_; have HO151 := n1_; have HO155 := n2_; have HO159 := n3_; have HO164 := n4_; have HB := n5_; clear n0_ n1_ n2_ n3_ n4_ n5_; (try clear hb); (try clear hb2); (try clear hk); (try clear hi)) | (go_at_call 35; (with_reducible refine (satchellaw08_sample.calls  t166 _ A11.out).mono ?_); rintro e w24 ⟨v167, rfl, ho0, hb⟩; clear A11; have n0_ := Aside0.mk (Kd.N_elder' (by (with_reducible repeat (first | apply Kd.N_alloc | apply Kd.N_drewN | apply Kd.N_drew)); exact HO148.out) (Kd.N_base ho0) hb); have n1_ := Aside0.mk (Kd.N_elder' (by (with_reducible repeat (first | apply Kd.N_alloc | apply Kd.N_drewN | apply Kd.N_drew)); exact HO151.out) (Kd.N_base ho0) hb); have n2_ := Aside0.mk (Kd.N_elder' (by (with_reducible repeat (first | apply Kd.N_alloc | apply Kd.N_drewN | apply Kd.N_drew)); exact HO155.out) (Kd.N_base ho0) hb); have n3_ := Aside0.mk (Kd.N_elder' (by (with_reducible repeat (first | apply Kd.N_alloc | apply Kd.N_drewN | apply Kd.N_drew)); exact HO159.out) (Kd.N_base ho0) hb); have n4_ := Aside0.mk (Kd.V_elder' (by (with_reducible repeat (first | apply Kd.V_alloc | apply Kd.V_drewN | apply Kd.V_drew)); exact HO164.out) (Kd.N_base ho0) hb); have n5_ := Aside0.mk (Kd.N_lower (Kd.N_mono (ok' := fun k_ => some k_ ≠ (.slice Ao15 t146.length co15 : Value).ownBlock ∧ some k_ ≠ (v150 : Value).ownBlock ∧ some k_ ≠ (.slice Ao18 t153.length co18 : Value).ownBlock ∧ some k_ ≠ (.slice Ao22 t157.length co22 : Value).ownBlock) ho0 (fun k_ hk_ => ⟨(Kd.fresh' (Kd.N_lt (by (with_reducible repeat (first | apply Kd.N_alloc | apply Kd.N_drewN | apply Kd.N_drew)); exact HO148.out)) k_ hk_), (Kd.fresh' (Kd.N_lt (by (with_reducible repeat (first | apply Kd.N_alloc | apply Kd.N_drewN | apply Kd.N_drew)); exact HO151.out)) k_ hk_), (Kd.fresh' (Kd.N_lt (by (with_reducible repeat (first | apply Kd.N_alloc | apply Kd.N_drewN | apply Kd.N_drew)); exact HO155.out)) k_ hk_), (Kd.fresh' (Kd.N_lt (by (with_reducible repeat (first | apply Kd.N_alloc | apply Kd.N_drewN | apply Kd.N_drew)); exact HO159.out)) k_ hk_)⟩)) (below_size (by repeat (first | (with_reducible first | exact HB.out | apply below_alloc | apply pw_below_drewN | apply below_drew1) | exact HB.out)))); have n6_ := Aside0.mk (below_step (by repeat (first | (with_reducible first | exact HB.out | apply below_alloc | apply pw_below_drewN | apply below_drew1) | exact HB.out)) hb); clear HO148; clear HO151; clear HO155; clear HO159; clear HO164; clear HB; have HO148 := n0_; have HO151 := n1_; have HO155 := n2_; have HO159 := n3_; have HO164 := n4_; have HO168 := n5_; have HB := n6_; clear n0_ n1_ n2_ n3_ n4_ n5_ n6_; (try clear hb); (try clear hb2); (try clear hk); (try clear hi); (try clear ho0); obtain ⟨Ao26, co26, eo26⟩ := Kd.N_slice HO168.out; subst eo26; have q25 : (2 : Int) ≤ ((t166.length : Int) : Int) := of_decide_eq_true (by first | (with_reducible assumption) | assumption); obtain ⟨i025, hi025, _, hsz25, _⟩ := info_parts info31; have hroom25 : t166.length ≤ co26 := (Kd.N_reads' HO168.out).2.1; have hC25 : Kd.F k31 _ _ Ao26 t166.length t166 := (Kd.V_at (base := w.heap.size) (Kd.N_V HO168.out)).2.2; have hcut25 := cut_from (P := Try.prog) 22 31 .i64 Try.underlying22 hi025 5 hsz25 Ao26 t166.length co26 2 (by omega) q25; have hr25 := Kd.F_cut (m := (2 : Int).toNat) (c := co26) hC25 (by omega) hroom25; obtain ⟨A25, hA25⟩ : ∃ A1, A1 = (if co26 = (2 : Int).toNat then Ao26 else (Ao26 : Option Addr).map (·.add ((2 : Int).toNat * 5))) := ⟨_, rfl⟩; obtain ⟨c25, hc25⟩ : ∃ c1, c1 = co26 - (2 : Int).toNat := ⟨_, rfl⟩; have hy25 : y169.length = t166.length - (2 : Int).toNat := (by rw [Ny169.out, List.length_drop] <;> omega); rw [show (t166).drop (2 : Int).toNat = y169 from Ny169.out.symm] at hr25; replace hr25 : Kd.F k31 _ _ A25 y169.length y169 := (by rw [hA25]; exact hr25); rw [← hy25, ← hA25, ← hc25] at hcut25; have HO173 := Aside0.mk (show Kd.V k31 31 _ w.heap.size _ (.slice A25 y169.length c25) y169 from Kd.V_mk (by rw [hy25, hc25]; exact Nat.sub_le_sub_right hroom25 _) hr25); have HC173 := Aside0.mk (show y169.length ≤ c25 from by rw [hy25, hc25]; exact Nat.sub_le_sub_right hroom25 _); clear hr25 hC25 hroom25 hi025 hsz25 hc25; have KY25 := Aside0.mk hy25; have KA25 := Aside0.mk hA25; clear hy25 hA25; replace q25 := eq_true q25; obtain ⟨Ao27, co27, eo27⟩ := Kd.N_slice HO151.out; subst eo27) | (go_at_call 16; (with_reducible refine (satchelkit_SameTree.calls _ _ t149 _ _ y169 t174 _ ?side1 ?side2 ?side3 ?side4 A13.out).mono ?_); (case side1 => repeat (first | exact (Kd.N_reads' HO151.out).2.2 | (with_reducible refine Kd.C_alloc ?_ _) | (with_reducible refine Kd.C_drewN ?_ _) | (with_reducible refine Kd.C_drew ?_))); (case side2 => exact (Kd.N_reads' HO151.out).2.1); (case side3 => repeat (first | exact (Kd.V_reads' HO173.out).2.2 | (with_reducible refine Kd.C_alloc ?_ _) | (with_reducible refine Kd.C_drewN ?_ _) | (with_reducible refine Kd.C_drew ?_))); (case side4 => exact (Kd.V_reads' HO173.out).2.1); rintro e w' ⟨rfl, ⟨nd, rfl⟩⟩))
            go_ret
            exact ⟨by first | rfl | (simp [errW_none, errW_some] <;> rfl) | (simp [*, errW_none, errW_some] <;> rfl) | (simp [bt, *]; done) | (simp_all [bt]; done), by repeat (first | (with_reducible first | exact HB.out | apply below_alloc | apply pw_below_drewN | apply below_drew1) | exact HB.out)⟩
          · rw [if_neg c12] at H
            exact absurd H (by simp)
        · rw [if_neg c10] at H
          have c10b0 : (t152 == 0) = false := beq_eq_false_iff_ne.mpr c10
          have c10b1 : (t152 != 0) = true := bne_iff_ne.mpr c10
          obtain rfl := Option.some.inj H
          go_enter Try.func10, Try.ntmps10
          go_wp2_with (first | ((with_reducible refine gate_callee (f := 35) rfl ?_); refine goesL_ (some 4) rfl rfl Try.func35 (by kernel_rfl) rfl #[] rfl (by (try simp only [List.map_toArray, List.map_cons, List.map_nil]); first | done | rfl | (simp only [List.length_drop, List.length_take]; rfl)) ?_; (with_reducible refine (satchellaw08_sample.calls  t146 _ A1.out).mono ?_); rintro e w28 ⟨v147, rfl, ho0, hb⟩; clear A1; refine ⟨_, rfl, ?_⟩; have n0_ := Aside0.mk (Kd.N_lower (Kd.N_mono (ok' := fun k_ => True) ho0 (fun k_ hk_ => trivial)) (below_size (by repeat (first | (with_reducible first | exact HB.out | apply below_alloc | apply pw_below_drewN | apply below_drew1) | exact HB.out)))); have n1_ := Aside0.mk (below_step (by repeat (first | (with_reducible first | exact HB.out | apply below_alloc | apply pw_below_drewN | apply below_drew1) | exact HB.out)) hb); clear HB; have HO148 := n0_; have HB := n1_; clear n0_ n1_; (try clear hb); (try clear hb2); (try clear hk); (try clear hi); (try clear ho0); obtain ⟨Ao29, co29, eo29⟩ := Kd.N_slice HO148.out; subst eo29) | ((with_reducible refine gate_callee (f := 32) rfl ?_); refine goesL_ (some 5) rfl rfl Try.func32 (by kernel_rfl) rfl #[.slice Ao29 t146.length co29, .string (⟨#[97]⟩ : ByteArray)] rfl (by (try simp only [List.map_toArray, List.map_cons, List.map_nil]); first | done | rfl | (simp only [List.length_drop, List.length_take]; rfl)) ?_; (with_reducible refine (tree_Drop.calls k (fun k_ => True) _ _ t146 (⟨#[97]⟩ : ByteArray) t149 t152 _ ?side1 A2.out).mono ?_); (case side1 => exact Kd.N_V (HO148.out)); rintro e w30 ⟨v150, rfl, ho0, hb⟩; refine ⟨_, rfl, ?_⟩; have n0_ := Aside0.mk (Kd.N_elder' (by (with_reducible repeat (first | apply Kd.N_alloc | apply Kd.N_drewN | apply Kd.N_drew)); exact HO148.out) (Kd.N_base ho0) hb); have n1_ := Aside0.mk (Kd.N_lower (Kd.N_mono (ok' := fun k_ => True) ho0 (fun k_ hk_ => trivial)) (below_size (by repeat (first | (with_reducible first | exact HB.out | apply below_alloc | apply pw_below_drewN | apply below_drew1) | exact HB.out)))); have n2_ := Aside0.mk (below_step (by repeat (first | (with_reducible first | exact HB.out | apply below_alloc | apply pw_below_drewN | apply below_drew1) | exact HB.out)) hb); clear HO148; clear HB; have HO148 := n0_; have HO151 := n1_; have HB := n2_; clear n0_ n1_ n2_; (try clear hb); (try clear hb2); (try clear hk); (try clear hi); (try clear ho0)) | ((with_reducible refine gate_callee (f := 35) rfl ?_); refine goesL_ (some 8) rfl rfl Try.func35 (by kernel_rfl) rfl #[] rfl (by (try simp only [List.map_toArray, List.map_cons, List.map_nil]); first | done | rfl | (simp only [List.length_drop, List.length_take]; rfl)) ?_; (with_reducible refine (satchellaw08_sample.calls  t153 _ A3.out).mono ?_); rintro e w31 ⟨v154, rfl, ho0, hb⟩; clear A3; refine ⟨_, rfl, ?_⟩; have n0_ := Aside0.mk (Kd.N_elder' (by (with_reducible repeat (first | apply Kd.N_alloc | apply Kd.N_drewN | apply Kd.N_drew)); exact HO148.out) (Kd.N_base ho0) hb); have n1_ := Aside0.mk (Kd.N_elder' (by (with_reducible repeat (first | apply Kd.N_alloc | apply Kd.N_drewN | apply Kd.N_drew)); exact HO151.out) (Kd.N_base ho0) hb); have n2_ := Aside0.mk (Kd.N_lower (Kd.N_mono (ok' := fun k_ => some k_ ≠ (.slice Ao29 t146.length co29 : Value).ownBlock ∧ some k_ ≠ (v150 : Value).ownBlock) ho0 (fun k_ hk_ => ⟨(Kd.fresh' (Kd.N_lt (by (with_reducible repeat (first | apply Kd.N_alloc | apply Kd.N_drewN | apply Kd.N_drew)); exact HO148.out)) k_ hk_), (Kd.fresh' (Kd.N_lt (by (with_reducible repeat (first | apply Kd.N_alloc | apply Kd.N_drewN | apply Kd.N_drew)); exact HO151.out)) k_ hk_)⟩)) (below_size (by repeat (first | (with_reducible first | exact HB.out | apply below_alloc | apply pw_below_drewN | apply below_drew1) | exact HB.out)))); have n3_ := Aside0.mk (below_step (by repeat (first | (with_reducible first | exact HB.out | apply below_alloc | apply pw_below_drewN | apply below_drew1) | exact HB.out)) hb); clear HO148; clear HO151; clear HB; have HO148 := n0_; have HO151 := n1_; have HO155 := n2_; have HB := n3_; clear n0_ n1_ n2_ n3_; (try clear hb); (try clear hb2); (try clear hk); (try clear hi); (try clear ho0); obtain ⟨Ao32, co32, eo32⟩ := Kd.N_slice HO155.out; subst eo32) | ((with_reducible refine gate_callee (f := 36) rfl ?_); refine goesL_ (some 9) rfl rfl Try.func36 (by kernel_rfl) rfl #[.slice Ao32 t153.length co32, .int .i64 0, .int .i64 0] rfl (by (try simp only [List.map_toArray, List.map_cons, List.map_nil]); first | done | rfl | (simp only [List.length_drop, List.length_take]; rfl)) ?_; (with_reducible refine (satchellaw08_fails.calls k _ _ t153 0 0 true _ ?side1 ?side2 A4.out).mono ?_); (case side1 => repeat (first | exact (Kd.N_reads' HO155.out).2.2 | (with_reducible refine Kd.C_alloc ?_ _) | (with_reducible refine Kd.C_drewN ?_ _) | (with_reducible refine Kd.C_drew ?_))); (case side2 => exact (Kd.N_reads' HO155.out).2.1); rintro e w33 ⟨rfl, hb⟩; refine ⟨_, rfl, ?_⟩; have n0_ := Aside0.mk (Kd.N_below (by (with_reducible repeat (first | apply Kd.N_alloc | apply Kd.N_drewN | apply Kd.N_drew)); exact HO148.out) hb); have n1_ := Aside0.mk (Kd.N_below (by (with_reducible repeat (first | apply Kd.N_alloc | apply Kd.N_drewN | apply Kd.N_drew)); exact HO151.out) hb); have n2_ := Aside0.mk (Kd.N_below (by (with_reducible repeat (first | apply Kd.N_alloc | apply Kd.N_drewN | apply Kd.N_drew)); exact HO155.out) hb); have n3_ := Aside0.mk (below_step (by repeat (first | (with_reducible first | exact HB.out | apply below_alloc | apply pw_below_drewN | apply below_drew1) | exact HB.out)) hb); clear HO148; clear HO151; clear HO155; clear HB; have HO148 := n0_; have HO151 := n1_; have HO155 := n2_; have HB := n3_; clear n0_ n1_ n2_ n3_; (try clear hb); (try clear hb2); (try clear hk); (try clear hi)) | (go_at_call 35; (with_reducible refine (satchellaw08_sample.calls  t157 _ A6.out).mono ?_); rintro e w34 ⟨v158, rfl, ho0, hb⟩; clear A6; have n0_ := Aside0.mk (Kd.N_elder' (by (with_reducible repeat (first | apply Kd.N_alloc | apply Kd.N_drewN | apply Kd.N_drew)); exact HO148.out) (Kd.N_base ho0) hb); have n1_ := Aside0.mk (Kd.N_elder' (by (with_reducible repeat (first | apply Kd.N_alloc | apply Kd.N_drewN | apply Kd.N_drew)); exact HO151.out) (Kd.N_base ho0) hb); have n2_ := Aside0.mk (Kd.N_elder' (by (with_reducible repeat (first | apply Kd.N_alloc | apply Kd.N_drewN | apply Kd.N_drew)); exact HO155.out) (Kd.N_base ho0) hb); have n3_ := Aside0.mk (Kd.N_lower (Kd.N_mono (ok' := fun k_ => some k_ ≠ (.slice Ao29 t146.length co29 : Value).ownBlock ∧ some k_ ≠ (v150 : Value).ownBlock ∧ some k_ ≠ (.slice Ao32 t153.length co32 : Value).ownBlock) ho0 (fun k_ hk_ => ⟨(Kd.fresh' (Kd.N_lt (by (with_reducible repeat (first | apply Kd.N_alloc | apply Kd.N_drewN | apply Kd.N_drew)); exact HO148.out)) k_ hk_), (Kd.fresh' (Kd.N_lt (by (with_reducible repeat (first | apply Kd.N_alloc | apply Kd.N_drewN | apply Kd.N_drew)); exact HO151.out)) k_ hk_), (Kd.fresh' (Kd.N_lt (by (with_reducible repeat (first | apply Kd.N_alloc | apply Kd.N_drewN | apply Kd.N_drew)); exact HO155.out)) k_ hk_)⟩)) (below_size (by repeat (first | (with_reducible first | exact HB.out | apply below_alloc | apply pw_below_drewN | apply below_drew1) | exact HB.out)))); have n4_ := Aside0.mk (below_step (by repeat (first | (with_reducible first | exact HB.out | apply below_alloc | apply pw_below_drewN | apply below_drew1) | exact HB.out)) hb); clear HO148; clear HO151; clear HO155; clear HB; have HO148 := n0_; have HO151 := n1_; have HO155 := n2_; have HO159 := n3_; have HB := n4_; clear n0_ n1_ n2_ n3_ n4_; (try clear hb); (try clear hb2); (try clear hk); (try clear hi); (try clear ho0); obtain ⟨Ao36, co36, eo36⟩ := Kd.N_slice HO159.out; subst eo36; have q35 : (1 : Int) ≤ ((t157.length : Int) : Int) := of_decide_eq_true (by first | (with_reducible assumption) | assumption); obtain ⟨i035, hi035, _, hsz35, _⟩ := info_parts info31; have hroom35 : t157.length ≤ co36 := (Kd.N_reads' HO159.out).2.1; have hC35 : Kd.F k31 _ _ Ao36 t157.length t157 := (Kd.V_at (base := w.heap.size) (Kd.N_V HO159.out)).2.2; have hcut35 := cut_from (P := Try.prog) 22 31 .i64 Try.underlying22 hi035 5 hsz35 Ao36 t157.length co36 1 (by omega) q35; have hr35 := Kd.F_cut (m := (1 : Int).toNat) (c := co36) hC35 (by omega) hroom35; obtain ⟨A35, hA35⟩ : ∃ A1, A1 = (if co36 = (1 : Int).toNat then Ao36 else (Ao36 : Option Addr).map (·.add ((1 : Int).toNat * 5))) := ⟨_, rfl⟩; obtain ⟨c35, hc35⟩ : ∃ c1, c1 = co36 - (1 : Int).toNat := ⟨_, rfl⟩; have hy35 : y160.length = t157.length - (1 : Int).toNat := (by rw [Ny160.out, List.length_drop] <;> omega); rw [show (t157).drop (1 : Int).toNat = y160 from Ny160.out.symm] at hr35; replace hr35 : Kd.F k31 _ _ A35 y160.length y160 := (by rw [hA35]; exact hr35); rw [← hy35, ← hA35, ← hc35] at hcut35; have HO164 := Aside0.mk (show Kd.V k31 31 _ w.heap.size _ (.slice A35 y160.length c35) y160 from Kd.V_mk (by rw [hy35, hc35]; exact Nat.sub_le_sub_right hroom35 _) hr35); have HC164 := Aside0.mk (show y160.length ≤ c35 from by rw [hy35, hc35]; exact Nat.sub_le_sub_right hroom35 _); clear hr35 hC35 hroom35 hi035 hsz35 hc35; have KY35 := Aside0.mk hy35; have KA35 := Aside0.mk hA35; clear hy35 hA35; replace q35 := eq_true q35) | (go_at_call 36; (with_reducible refine (satchellaw08_fails.calls k _ _ y160 6 0 true _ ?side1 ?side2 A8.out).mono ?_); (case side1 => repeat (first | exact (Kd.V_reads' HO164.out).2.2 | (with_reducible refine Kd.C_alloc ?_ _) | (with_reducible refine Kd.C_drewN ?_ _) | (with_reducible refine Kd.C_drew ?_))); (case side2 => exact (Kd.V_reads' HO164.out).2.1); rintro e w37 ⟨rfl, hb⟩; have n0_ := Aside0.mk (Kd.N_below (by (with_reducible repeat (first | apply Kd.N_alloc | apply Kd.N_drewN | apply Kd.N_drew)); exact HO148.out) hb); have n1_ := Aside0.mk (Kd.N_below (by (with_reducible repeat (first | apply Kd.N_alloc | apply Kd.N_drewN | apply Kd.N_drew)); exact HO151.out) hb); have n2_ := Aside0.mk (Kd.N_below (by (with_reducible repeat (first | apply Kd.N_alloc | apply Kd.N_drewN | apply Kd.N_drew)); exact HO155.out) hb); have n3_ := Aside0.mk (Kd.N_below (by (with_reducible repeat (first | apply Kd.N_alloc | apply Kd.N_drewN | apply Kd.N_drew)); exact HO159.out) hb); have n4_ := Aside0.mk (Kd.V_below (by (with_reducible repeat (first | apply Kd.V_alloc | apply Kd.V_drewN | apply Kd.V_drew)); exact HO164.out) hb); have n5_ := Aside0.mk (below_step (by repeat (first | (with_reducible first | exact HB.out | apply below_alloc | apply pw_below_drewN | apply below_drew1) | exact HB.out)) hb); clear HO148; clear HO151; clear HO155; clear HO159; clear HO164; clear HB; have HO148 := n0_; have HO151 := n1_; have HO155 := n2_; have HO159 := n3_; have HO164 := n4_; have HB := n5_; clear n0_ n1_ n2_ n3_ n4_ n5_; (try clear hb); (try clear hb2); (try clear hk); (try clear hi)))
          go_ret
          exact ⟨by first | rfl | (simp [errW_none, errW_some] <;> rfl) | (simp [*, errW_none, errW_some] <;> rfl) | (simp [bt, *]; done) | (simp_all [bt]; done), by repeat (first | (with_reducible first | exact HB.out | apply below_alloc | apply pw_below_drewN | apply below_drew1) | exact HB.out)⟩
      · replace c9 := Bool.eq_false_iff.mpr c9
        subst c9
        have H1 : (some false) = some r := by rw [if_neg (show ¬ (false = true) by decide)] at H; exact H
        clear H
        have H := H1
        clear H1
        obtain rfl := Option.some.inj H
        go_enter Try.func10, Try.ntmps10
        go_wp2_with (first | ((with_reducible refine gate_callee (f := 35) rfl ?_); refine goesL_ (some 4) rfl rfl Try.func35 (by kernel_rfl) rfl #[] rfl (by (try simp only [List.map_toArray, List.map_cons, List.map_nil]); first | done | rfl | (simp only [List.length_drop, List.length_take]; rfl)) ?_; (with_reducible refine (satchellaw08_sample.calls  t146 _ A1.out).mono ?_); rintro e w38 ⟨v147, rfl, ho0, hb⟩; clear A1; refine ⟨_, rfl, ?_⟩; have n0_ := Aside0.mk (Kd.N_lower (Kd.N_mono (ok' := fun k_ => True) ho0 (fun k_ hk_ => trivial)) (below_size (by repeat (first | (with_reducible first | exact HB.out | apply below_alloc | apply pw_below_drewN | apply below_drew1) | exact HB.out)))); have n1_ := Aside0.mk (below_step (by repeat (first | (with_reducible first | exact HB.out | apply below_alloc | apply pw_below_drewN | apply below_drew1) | exact HB.out)) hb); clear HB; have HO148 := n0_; have HB := n1_; clear n0_ n1_; (try clear hb); (try clear hb2); (try clear hk); (try clear hi); (try clear ho0); obtain ⟨Ao39, co39, eo39⟩ := Kd.N_slice HO148.out; subst eo39) | ((with_reducible refine gate_callee (f := 32) rfl ?_); refine goesL_ (some 5) rfl rfl Try.func32 (by kernel_rfl) rfl #[.slice Ao39 t146.length co39, .string (⟨#[97]⟩ : ByteArray)] rfl (by (try simp only [List.map_toArray, List.map_cons, List.map_nil]); first | done | rfl | (simp only [List.length_drop, List.length_take]; rfl)) ?_; (with_reducible refine (tree_Drop.calls k (fun k_ => True) _ _ t146 (⟨#[97]⟩ : ByteArray) t149 t152 _ ?side1 A2.out).mono ?_); (case side1 => exact Kd.N_V (HO148.out)); rintro e w40 ⟨v150, rfl, ho0, hb⟩; refine ⟨_, rfl, ?_⟩; have n0_ := Aside0.mk (Kd.N_elder' (by (with_reducible repeat (first | apply Kd.N_alloc | apply Kd.N_drewN | apply Kd.N_drew)); exact HO148.out) (Kd.N_base ho0) hb); have n1_ := Aside0.mk (Kd.N_lower (Kd.N_mono (ok' := fun k_ => True) ho0 (fun k_ hk_ => trivial)) (below_size (by repeat (first | (with_reducible first | exact HB.out | apply below_alloc | apply pw_below_drewN | apply below_drew1) | exact HB.out)))); have n2_ := Aside0.mk (below_step (by repeat (first | (with_reducible first | exact HB.out | apply below_alloc | apply pw_below_drewN | apply below_drew1) | exact HB.out)) hb); clear HO148; clear HB; have HO148 := n0_; have HO151 := n1_; have HB := n2_; clear n0_ n1_ n2_; (try clear hb); (try clear hb2); (try clear hk); (try clear hi); (try clear ho0)) | ((with_reducible refine gate_callee (f := 35) rfl ?_); refine goesL_ (some 8) rfl rfl Try.func35 (by kernel_rfl) rfl #[] rfl (by (try simp only [List.map_toArray, List.map_cons, List.map_nil]); first | done | rfl | (simp only [List.length_drop, List.length_take]; rfl)) ?_; (with_reducible refine (satchellaw08_sample.calls  t153 _ A3.out).mono ?_); rintro e w41 ⟨v154, rfl, ho0, hb⟩; clear A3; refine ⟨_, rfl, ?_⟩; have n0_ := Aside0.mk (Kd.N_elder' (by (with_reducible repeat (first | apply Kd.N_alloc | apply Kd.N_drewN | apply Kd.N_drew)); exact HO148.out) (Kd.N_base ho0) hb); have n1_ := Aside0.mk (Kd.N_elder' (by (with_reducible repeat (first | apply Kd.N_alloc | apply Kd.N_drewN | apply Kd.N_drew)); exact HO151.out) (Kd.N_base ho0) hb); have n2_ := Aside0.mk (Kd.N_lower (Kd.N_mono (ok' := fun k_ => some k_ ≠ (.slice Ao39 t146.length co39 : Value).ownBlock ∧ some k_ ≠ (v150 : Value).ownBlock) ho0 (fun k_ hk_ => ⟨(Kd.fresh' (Kd.N_lt (by (with_reducible repeat (first | apply Kd.N_alloc | apply Kd.N_drewN | apply Kd.N_drew)); exact HO148.out)) k_ hk_), (Kd.fresh' (Kd.N_lt (by (with_reducible repeat (first | apply Kd.N_alloc | apply Kd.N_drewN | apply Kd.N_drew)); exact HO151.out)) k_ hk_)⟩)) (below_size (by repeat (first | (with_reducible first | exact HB.out | apply below_alloc | apply pw_below_drewN | apply below_drew1) | exact HB.out)))); have n3_ := Aside0.mk (below_step (by repeat (first | (with_reducible first | exact HB.out | apply below_alloc | apply pw_below_drewN | apply below_drew1) | exact HB.out)) hb); clear HO148; clear HO151; clear HB; have HO148 := n0_; have HO151 := n1_; have HO155 := n2_; have HB := n3_; clear n0_ n1_ n2_ n3_; (try clear hb); (try clear hb2); (try clear hk); (try clear hi); (try clear ho0); obtain ⟨Ao42, co42, eo42⟩ := Kd.N_slice HO155.out; subst eo42) | ((with_reducible refine gate_callee (f := 36) rfl ?_); refine goesL_ (some 9) rfl rfl Try.func36 (by kernel_rfl) rfl #[.slice Ao42 t153.length co42, .int .i64 0, .int .i64 0] rfl (by (try simp only [List.map_toArray, List.map_cons, List.map_nil]); first | done | rfl | (simp only [List.length_drop, List.length_take]; rfl)) ?_; (with_reducible refine (satchellaw08_fails.calls k _ _ t153 0 0 true _ ?side1 ?side2 A4.out).mono ?_); (case side1 => repeat (first | exact (Kd.N_reads' HO155.out).2.2 | (with_reducible refine Kd.C_alloc ?_ _) | (with_reducible refine Kd.C_drewN ?_ _) | (with_reducible refine Kd.C_drew ?_))); (case side2 => exact (Kd.N_reads' HO155.out).2.1); rintro e w43 ⟨rfl, hb⟩; refine ⟨_, rfl, ?_⟩; have n0_ := Aside0.mk (Kd.N_below (by (with_reducible repeat (first | apply Kd.N_alloc | apply Kd.N_drewN | apply Kd.N_drew)); exact HO148.out) hb); have n1_ := Aside0.mk (Kd.N_below (by (with_reducible repeat (first | apply Kd.N_alloc | apply Kd.N_drewN | apply Kd.N_drew)); exact HO151.out) hb); have n2_ := Aside0.mk (Kd.N_below (by (with_reducible repeat (first | apply Kd.N_alloc | apply Kd.N_drewN | apply Kd.N_drew)); exact HO155.out) hb); have n3_ := Aside0.mk (below_step (by repeat (first | (with_reducible first | exact HB.out | apply below_alloc | apply pw_below_drewN | apply below_drew1) | exact HB.out)) hb); clear HO148; clear HO151; clear HO155; clear HB; have HO148 := n0_; have HO151 := n1_; have HO155 := n2_; have HB := n3_; clear n0_ n1_ n2_ n3_; (try clear hb); (try clear hb2); (try clear hk); (try clear hi)) | (go_at_call 35; (with_reducible refine (satchellaw08_sample.calls  t157 _ A6.out).mono ?_); rintro e w44 ⟨v158, rfl, ho0, hb⟩; clear A6; have n0_ := Aside0.mk (Kd.N_elder' (by (with_reducible repeat (first | apply Kd.N_alloc | apply Kd.N_drewN | apply Kd.N_drew)); exact HO148.out) (Kd.N_base ho0) hb); have n1_ := Aside0.mk (Kd.N_elder' (by (with_reducible repeat (first | apply Kd.N_alloc | apply Kd.N_drewN | apply Kd.N_drew)); exact HO151.out) (Kd.N_base ho0) hb); have n2_ := Aside0.mk (Kd.N_elder' (by (with_reducible repeat (first | apply Kd.N_alloc | apply Kd.N_drewN | apply Kd.N_drew)); exact HO155.out) (Kd.N_base ho0) hb); have n3_ := Aside0.mk (Kd.N_lower (Kd.N_mono (ok' := fun k_ => some k_ ≠ (.slice Ao39 t146.length co39 : Value).ownBlock ∧ some k_ ≠ (v150 : Value).ownBlock ∧ some k_ ≠ (.slice Ao42 t153.length co42 : Value).ownBlock) ho0 (fun k_ hk_ => ⟨(Kd.fresh' (Kd.N_lt (by (with_reducible repeat (first | apply Kd.N_alloc | apply Kd.N_drewN | apply Kd.N_drew)); exact HO148.out)) k_ hk_), (Kd.fresh' (Kd.N_lt (by (with_reducible repeat (first | apply Kd.N_alloc | apply Kd.N_drewN | apply Kd.N_drew)); exact HO151.out)) k_ hk_), (Kd.fresh' (Kd.N_lt (by (with_reducible repeat (first | apply Kd.N_alloc | apply Kd.N_drewN | apply Kd.N_drew)); exact HO155.out)) k_ hk_)⟩)) (below_size (by repeat (first | (with_reducible first | exact HB.out | apply below_alloc | apply pw_below_drewN | apply below_drew1) | exact HB.out)))); have n4_ := Aside0.mk (below_step (by repeat (first | (with_reducible first | exact HB.out | apply below_alloc | apply pw_below_drewN | apply below_drew1) | exact HB.out)) hb); clear HO148; clear HO151; clear HO155; clear HB; have HO148 := n0_; have HO151 := n1_; have HO155 := n2_; have HO159 := n3_; have HB := n4_; clear n0_ n1_ n2_ n3_ n4_; (try clear hb); (try clear hb2); (try clear hk); (try clear hi); (try clear ho0); obtain ⟨Ao46, co46, eo46⟩ := Kd.N_slice HO159.out; subst eo46; have q45 : (1 : Int) ≤ ((t157.length : Int) : Int) := of_decide_eq_true (by first | (with_reducible assumption) | assumption); obtain ⟨i045, hi045, _, hsz45, _⟩ := info_parts info31; have hroom45 : t157.length ≤ co46 := (Kd.N_reads' HO159.out).2.1; have hC45 : Kd.F k31 _ _ Ao46 t157.length t157 := (Kd.V_at (base := w.heap.size) (Kd.N_V HO159.out)).2.2; have hcut45 := cut_from (P := Try.prog) 22 31 .i64 Try.underlying22 hi045 5 hsz45 Ao46 t157.length co46 1 (by omega) q45; have hr45 := Kd.F_cut (m := (1 : Int).toNat) (c := co46) hC45 (by omega) hroom45; obtain ⟨A45, hA45⟩ : ∃ A1, A1 = (if co46 = (1 : Int).toNat then Ao46 else (Ao46 : Option Addr).map (·.add ((1 : Int).toNat * 5))) := ⟨_, rfl⟩; obtain ⟨c45, hc45⟩ : ∃ c1, c1 = co46 - (1 : Int).toNat := ⟨_, rfl⟩; have hy45 : y160.length = t157.length - (1 : Int).toNat := (by rw [Ny160.out, List.length_drop] <;> omega); rw [show (t157).drop (1 : Int).toNat = y160 from Ny160.out.symm] at hr45; replace hr45 : Kd.F k31 _ _ A45 y160.length y160 := (by rw [hA45]; exact hr45); rw [← hy45, ← hA45, ← hc45] at hcut45; have HO164 := Aside0.mk (show Kd.V k31 31 _ w.heap.size _ (.slice A45 y160.length c45) y160 from Kd.V_mk (by rw [hy45, hc45]; exact Nat.sub_le_sub_right hroom45 _) hr45); have HC164 := Aside0.mk (show y160.length ≤ c45 from by rw [hy45, hc45]; exact Nat.sub_le_sub_right hroom45 _); clear hr45 hC45 hroom45 hi045 hsz45 hc45; have KY45 := Aside0.mk hy45; have KA45 := Aside0.mk hA45; clear hy45 hA45; replace q45 := eq_true q45) | (go_at_call 36; (with_reducible refine (satchellaw08_fails.calls k _ _ y160 6 0 false _ ?side1 ?side2 A8.out).mono ?_); (case side1 => repeat (first | exact (Kd.V_reads' HO164.out).2.2 | (with_reducible refine Kd.C_alloc ?_ _) | (with_reducible refine Kd.C_drewN ?_ _) | (with_reducible refine Kd.C_drew ?_))); (case side2 => exact (Kd.V_reads' HO164.out).2.1); rintro e w47 ⟨rfl, hb⟩; have n0_ := Aside0.mk (Kd.N_below (by (with_reducible repeat (first | apply Kd.N_alloc | apply Kd.N_drewN | apply Kd.N_drew)); exact HO148.out) hb); have n1_ := Aside0.mk (Kd.N_below (by (with_reducible repeat (first | apply Kd.N_alloc | apply Kd.N_drewN | apply Kd.N_drew)); exact HO151.out) hb); have n2_ := Aside0.mk (Kd.N_below (by (with_reducible repeat (first | apply Kd.N_alloc | apply Kd.N_drewN | apply Kd.N_drew)); exact HO155.out) hb); have n3_ := Aside0.mk (Kd.N_below (by (with_reducible repeat (first | apply Kd.N_alloc | apply Kd.N_drewN | apply Kd.N_drew)); exact HO159.out) hb); have n4_ := Aside0.mk (Kd.V_below (by (with_reducible repeat (first | apply Kd.V_alloc | apply Kd.V_drewN | apply Kd.V_drew)); exact HO164.out) hb); have n5_ := Aside0.mk (below_step (by repeat (first | (with_reducible first | exact HB.out | apply below_alloc | apply pw_below_drewN | apply below_drew1) | exact HB.out)) hb); clear HO148; clear HO151; clear HO155; clear HO159; clear HO164; clear HB; have HO148 := n0_; have HO151 := n1_; have HO155 := n2_; have HO159 := n3_; have HO164 := n4_; have HB := n5_; clear n0_ n1_ n2_ n3_ n4_ n5_; (try clear hb); (try clear hb2); (try clear hk); (try clear hi)))
        go_ret
        exact ⟨by first | rfl | (simp [errW_none, errW_some] <;> rfl) | (simp [*, errW_none, errW_some] <;> rfl) | (simp [bt, *]; done) | (simp_all [bt]; done), by repeat (first | (with_reducible first | exact HB.out | apply below_alloc | apply pw_below_drewN | apply below_drew1) | exact HB.out)⟩
    · rw [if_neg c7] at H
      exact absurd H (by simp)
  · replace c5 := Bool.eq_false_iff.mpr c5
    subst c5
    have H1 : (some false) = some r := by rw [if_neg (show ¬ (false = true) by decide)] at H; exact H
    clear H
    have H := H1
    clear H1
    obtain rfl := Option.some.inj H
    go_enter Try.func10, Try.ntmps10
    go_wp2_with (first | ((with_reducible refine gate_callee (f := 35) rfl ?_); refine goesL_ (some 4) rfl rfl Try.func35 (by kernel_rfl) rfl #[] rfl (by (try simp only [List.map_toArray, List.map_cons, List.map_nil]); first | done | rfl | (simp only [List.length_drop, List.length_take]; rfl)) ?_; (with_reducible refine (satchellaw08_sample.calls  t146 _ A1.out).mono ?_); rintro e w48 ⟨v147, rfl, ho0, hb⟩; clear A1; refine ⟨_, rfl, ?_⟩; have n0_ := Aside0.mk (Kd.N_lower (Kd.N_mono (ok' := fun k_ => True) ho0 (fun k_ hk_ => trivial)) (below_size (by repeat (first | (with_reducible first | exact HB.out | apply below_alloc | apply pw_below_drewN | apply below_drew1) | exact HB.out)))); have n1_ := Aside0.mk (below_step (by repeat (first | (with_reducible first | exact HB.out | apply below_alloc | apply pw_below_drewN | apply below_drew1) | exact HB.out)) hb); clear HB; have HO148 := n0_; have HB := n1_; clear n0_ n1_; (try clear hb); (try clear hb2); (try clear hk); (try clear hi); (try clear ho0); obtain ⟨Ao49, co49, eo49⟩ := Kd.N_slice HO148.out; subst eo49) | ((with_reducible refine gate_callee (f := 32) rfl ?_); refine goesL_ (some 5) rfl rfl Try.func32 (by kernel_rfl) rfl #[.slice Ao49 t146.length co49, .string (⟨#[97]⟩ : ByteArray)] rfl (by (try simp only [List.map_toArray, List.map_cons, List.map_nil]); first | done | rfl | (simp only [List.length_drop, List.length_take]; rfl)) ?_; (with_reducible refine (tree_Drop.calls k (fun k_ => True) _ _ t146 (⟨#[97]⟩ : ByteArray) t149 t152 _ ?side1 A2.out).mono ?_); (case side1 => exact Kd.N_V (HO148.out)); rintro e w50 ⟨v150, rfl, ho0, hb⟩; refine ⟨_, rfl, ?_⟩; have n0_ := Aside0.mk (Kd.N_elder' (by (with_reducible repeat (first | apply Kd.N_alloc | apply Kd.N_drewN | apply Kd.N_drew)); exact HO148.out) (Kd.N_base ho0) hb); have n1_ := Aside0.mk (Kd.N_lower (Kd.N_mono (ok' := fun k_ => True) ho0 (fun k_ hk_ => trivial)) (below_size (by repeat (first | (with_reducible first | exact HB.out | apply below_alloc | apply pw_below_drewN | apply below_drew1) | exact HB.out)))); have n2_ := Aside0.mk (below_step (by repeat (first | (with_reducible first | exact HB.out | apply below_alloc | apply pw_below_drewN | apply below_drew1) | exact HB.out)) hb); clear HO148; clear HB; have HO148 := n0_; have HO151 := n1_; have HB := n2_; clear n0_ n1_ n2_; (try clear hb); (try clear hb2); (try clear hk); (try clear hi); (try clear ho0)) | ((with_reducible refine gate_callee (f := 35) rfl ?_); refine goesL_ (some 8) rfl rfl Try.func35 (by kernel_rfl) rfl #[] rfl (by (try simp only [List.map_toArray, List.map_cons, List.map_nil]); first | done | rfl | (simp only [List.length_drop, List.length_take]; rfl)) ?_; (with_reducible refine (satchellaw08_sample.calls  t153 _ A3.out).mono ?_); rintro e w51 ⟨v154, rfl, ho0, hb⟩; clear A3; refine ⟨_, rfl, ?_⟩; have n0_ := Aside0.mk (Kd.N_elder' (by (with_reducible repeat (first | apply Kd.N_alloc | apply Kd.N_drewN | apply Kd.N_drew)); exact HO148.out) (Kd.N_base ho0) hb); have n1_ := Aside0.mk (Kd.N_elder' (by (with_reducible repeat (first | apply Kd.N_alloc | apply Kd.N_drewN | apply Kd.N_drew)); exact HO151.out) (Kd.N_base ho0) hb); have n2_ := Aside0.mk (Kd.N_lower (Kd.N_mono (ok' := fun k_ => some k_ ≠ (.slice Ao49 t146.length co49 : Value).ownBlock ∧ some k_ ≠ (v150 : Value).ownBlock) ho0 (fun k_ hk_ => ⟨(Kd.fresh' (Kd.N_lt (by (with_reducible repeat (first | apply Kd.N_alloc | apply Kd.N_drewN | apply Kd.N_drew)); exact HO148.out)) k_ hk_), (Kd.fresh' (Kd.N_lt (by (with_reducible repeat (first | apply Kd.N_alloc | apply Kd.N_drewN | apply Kd.N_drew)); exact HO151.out)) k_ hk_)⟩)) (below_size (by repeat (first | (with_reducible first | exact HB.out | apply below_alloc | apply pw_below_drewN | apply below_drew1) | exact HB.out)))); have n3_ := Aside0.mk (below_step (by repeat (first | (with_reducible first | exact HB.out | apply below_alloc | apply pw_below_drewN | apply below_drew1) | exact HB.out)) hb); clear HO148; clear HO151; clear HB; have HO148 := n0_; have HO151 := n1_; have HO155 := n2_; have HB := n3_; clear n0_ n1_ n2_ n3_; (try clear hb); (try clear hb2); (try clear hk); (try clear hi); (try clear ho0); obtain ⟨Ao52, co52, eo52⟩ := Kd.N_slice HO155.out; subst eo52) | ((with_reducible refine gate_callee (f := 36) rfl ?_); refine goesL_ (some 9) rfl rfl Try.func36 (by kernel_rfl) rfl #[.slice Ao52 t153.length co52, .int .i64 0, .int .i64 0] rfl (by (try simp only [List.map_toArray, List.map_cons, List.map_nil]); first | done | rfl | (simp only [List.length_drop, List.length_take]; rfl)) ?_; (with_reducible refine (satchellaw08_fails.calls k _ _ t153 0 0 false _ ?side1 ?side2 A4.out).mono ?_); (case side1 => repeat (first | exact (Kd.N_reads' HO155.out).2.2 | (with_reducible refine Kd.C_alloc ?_ _) | (with_reducible refine Kd.C_drewN ?_ _) | (with_reducible refine Kd.C_drew ?_))); (case side2 => exact (Kd.N_reads' HO155.out).2.1); rintro e w53 ⟨rfl, hb⟩; refine ⟨_, rfl, ?_⟩; have n0_ := Aside0.mk (Kd.N_below (by (with_reducible repeat (first | apply Kd.N_alloc | apply Kd.N_drewN | apply Kd.N_drew)); exact HO148.out) hb); have n1_ := Aside0.mk (Kd.N_below (by (with_reducible repeat (first | apply Kd.N_alloc | apply Kd.N_drewN | apply Kd.N_drew)); exact HO151.out) hb); have n2_ := Aside0.mk (Kd.N_below (by (with_reducible repeat (first | apply Kd.N_alloc | apply Kd.N_drewN | apply Kd.N_drew)); exact HO155.out) hb); have n3_ := Aside0.mk (below_step (by repeat (first | (with_reducible first | exact HB.out | apply below_alloc | apply pw_below_drewN | apply below_drew1) | exact HB.out)) hb); clear HO148; clear HO151; clear HO155; clear HB; have HO148 := n0_; have HO151 := n1_; have HO155 := n2_; have HB := n3_; clear n0_ n1_ n2_ n3_; (try clear hb); (try clear hb2); (try clear hk); (try clear hi)))
    go_ret
    exact ⟨by first | rfl | (simp [errW_none, errW_some] <;> rfl) | (simp [*, errW_none, errW_some] <;> rfl) | (simp [bt, *]; done) | (simp_all [bt]; done), by repeat (first | (with_reducible first | exact HB.out | apply below_alloc | apply pw_below_drewN | apply below_drew1) | exact HB.out)⟩

end Go.Proofs.Ytopkmchkfcjjmaa.X

/-! ## Satchellaw08TreeHeldF -/
namespace Go.Proofs.Ytopkmchkfcjjmaa.X
open Go.RowKit Go.Proofs.YtopkmchkfcjjmaaW.PrintWords Go.Proofs.YtopkmchkfcjjmaaW.PrintLast Go.Proofs.YtopkmchkfcjjmaaW.PrintMore
attribute [local go_sem] max2_int min2_int max_two min_two max_three min_three max_four min_four   -- for this text's walks alone
set_option linter.unusedVariables false
set_option linter.unusedSimpArgs false

attribute [local go_sem] str_gtr fld_fault0 fld_fault1
/-! ### satchellaw08_TreeHeld: function 3 -/
mutual
def satchellaw08_TreeHeld.j0 : Nat → List (S31) → Int → ByteArray → Bool → Bool → Option (Bool)
  | 0, _, _, _, _, _ => none
  | k + 1, x0, x1, x2, x7, x38 => if x38 = true then (some x7) else ((satchelkit_Pick.f x1 (wrap64 ((x0.length : Int) + 1))).bind fun t196 => (if 0 ≤ t196 then (if t196 ≤ (x0.length : Int) then ((tree_Check.f k (x0.take (t196 : Int).toNat)).bind fun bt201 => (if bt201.1 = 0 then (satchellaw08_TreeHeld.j1 k x0 x2 x7 (bt201.2 != 0)) else (satchellaw08_TreeHeld.j1 k x0 x2 x7 true))) else (none)) else (none)))
def satchellaw08_TreeHeld.j1 : Nat → List (S31) → ByteArray → Bool → Bool → Option (Bool)
  | 0, _, _, _, _ => none
  | k + 1, x0, x2, x7, x56 => if x56 = true then (none) else (satchellaw08_TreeHeld.l0 k x0 x2 x7 false 0)
def satchellaw08_TreeHeld.l0 : Nat → List (S31) → ByteArray → Bool → Bool → Int → Option (Bool)
  | 0, _, _, _, _, _ => none
  | k + 1, x0, x2, x7, x12, x13 => if x13 < (x0.length : Int) then (if 0 ≤ x13 then ((tree_Find.f k x0 ((rd_T31 x0 x13).f0)).bind fun bt213 => ((path_Parent.f k ((rd_T31 x0 x13).f0)).bind fun bt223 => ((tree_Find.f k x0 bt223.1).bind fun bt225 => (if bt213.2.2.2.2.2 = true then (if x13 ≤ (wrap64 (x13 + 1)) then (if (wrap64 (x13 + 1)) ≤ (x0.length : Int) then ((satchelkit_SameTree.f (([(⟨bt213.1, bt213.2.1, bt213.2.2.1, bt213.2.2.2.1, bt213.2.2.2.2.1⟩ : S31)] : List (S31))) ((x0.take ((wrap64 (x13 + 1)) : Int).toNat).drop (x13 : Int).toNat)).bind fun t241 => (if t241 = true then (if bt223.2 = true then (if bt225.2.2.2.2.2 = true then (if bt225.2.1 = 1 then ((path_Compare.f k bt223.1 ((rd_T31 x0 x13).f0)).bind fun t243 => (if t243 ≥ 0 then (none) else (if x12 = true then (satchellaw08_TreeHeld.l0 k x0 x2 x7 true (wrap64 (x13 + 1))) else (satchellaw08_TreeHeld.l0 k x0 x2 x7 (((rd_T31 x0 x13).f0).toList == x2.toList) (wrap64 (x13 + 1)))))) else (none)) else (none)) else (if x12 = true then (satchellaw08_TreeHeld.l0 k x0 x2 x7 true (wrap64 (x13 + 1))) else (satchellaw08_TreeHeld.l0 k x0 x2 x7 (((rd_T31 x0 x13).f0).toList == x2.toList) (wrap64 (x13 + 1))))) else (none))) else (none)) else (none)) else (none))))) else (none)) else ((tree_Find.f k x0 x2).bind fun bt203 => (if x7 = true then (some (bt203.2.2.2.2.2 == x12)) else (none)))
end
def satchellaw08_TreeHeld.f (k : Nat) (l0 : List (S31)) (a1 : Int) (a2 : ByteArray) : Option (Bool) := (satchellaw08_awake.f k).bind fun t192 => ((tree_Check.f k l0).bind fun bt193 => ((satchelkit_BigTree.f k l0 60 4000).bind fun t195 => (if t195 = true then (satchellaw08_TreeHeld.j0 k l0 a1 a2 t192 true) else (if bt193.1 = 0 then (satchellaw08_TreeHeld.j0 k l0 a1 a2 t192 (decide ((a2.size : Int) > 300))) else (satchellaw08_TreeHeld.j0 k l0 a1 a2 t192 true)))))
theorem satchellaw08_TreeHeld.mono_l : ∀ k, (∀ y0 y1 y2 y3 y4, LeO (satchellaw08_TreeHeld.j0 k y0 y1 y2 y3 y4) (satchellaw08_TreeHeld.j0 (k + 1) y0 y1 y2 y3 y4)) ∧ (∀ y0 y1 y2 y3, LeO (satchellaw08_TreeHeld.j1 k y0 y1 y2 y3) (satchellaw08_TreeHeld.j1 (k + 1) y0 y1 y2 y3)) ∧ (∀ y0 y1 y2 y3 y4, LeO (satchellaw08_TreeHeld.l0 k y0 y1 y2 y3 y4) (satchellaw08_TreeHeld.l0 (k + 1) y0 y1 y2 y3 y4))
  | 0 => ⟨fun _ _ _ _ _ r h => by simp [satchellaw08_TreeHeld.j0] at h, fun _ _ _ _ r h => by simp [satchellaw08_TreeHeld.j1] at h, fun _ _ _ _ _ r h => by simp [satchellaw08_TreeHeld.l0] at h⟩
  | k + 1 => by
    obtain ⟨ih0, ih1, ih2⟩ := satchellaw08_TreeHeld.mono_l k
    refine ⟨?_, ?_, ?_⟩
    · intro y0 y1 y2 y3 y4
      unfold satchellaw08_TreeHeld.j0
      repeat' first
      | (with_reducible exact ih0 _ _ _ _ _)
      | (with_reducible exact ih1 _ _ _ _)
      | (with_reducible exact ih2 _ _ _ _ _)
      | (with_reducible exact path_Compare.mono _ _ _)
      | (with_reducible exact path_Parent.mono _ _)
      | (with_reducible exact satchelkit_BigTree.mono _ _ _ _)
      | (with_reducible exact satchellaw08_awake.mono _)
      | (with_reducible exact tree_Check.mono _ _)
      | (with_reducible exact tree_Find.mono _ _ _)
      | (with_reducible exact LeO.refl _)
      | (with_reducible exact LeO.none _)
      | (with_reducible refine LeO.ite ?_ ?_)
      | (with_reducible refine LeO.bind ?_ (fun _ => ?_))
      | exact ih0 _ _ _ _ _
      | exact ih1 _ _ _ _
      | exact ih2 _ _ _ _ _
      | exact path_Compare.mono _ _ _
      | exact path_Parent.mono _ _
      | exact satchelkit_BigTree.mono _ _ _ _
      | exact satchellaw08_awake.mono _
      | exact tree_Check.mono _ _
      | exact tree_Find.mono _ _ _
      | exact LeO.none _
      | refine LeO.ite ?_ ?_
      | refine LeO.bind ?_ (fun _ => ?_)
    · intro y0 y1 y2 y3
      unfold satchellaw08_TreeHeld.j1
      repeat' first
      | (with_reducible exact ih0 _ _ _ _ _)
      | (with_reducible exact ih1 _ _ _ _)
      | (with_reducible exact ih2 _ _ _ _ _)
      | (with_reducible exact path_Compare.mono _ _ _)
      | (with_reducible exact path_Parent.mono _ _)
      | (with_reducible exact satchelkit_BigTree.mono _ _ _ _)
      | (with_reducible exact satchellaw08_awake.mono _)
      | (with_reducible exact tree_Check.mono _ _)
      | (with_reducible exact tree_Find.mono _ _ _)
      | (with_reducible exact LeO.refl _)
      | (with_reducible exact LeO.none _)
      | (with_reducible refine LeO.ite ?_ ?_)
      | (with_reducible refine LeO.bind ?_ (fun _ => ?_))
      | exact ih0 _ _ _ _ _
      | exact ih1 _ _ _ _
      | exact ih2 _ _ _ _ _
      | exact path_Compare.mono _ _ _
      | exact path_Parent.mono _ _
      | exact satchelkit_BigTree.mono _ _ _ _
      | exact satchellaw08_awake.mono _
      | exact tree_Check.mono _ _
      | exact tree_Find.mono _ _ _
      | exact LeO.none _
      | refine LeO.ite ?_ ?_
      | refine LeO.bind ?_ (fun _ => ?_)
    · intro y0 y1 y2 y3 y4
      unfold satchellaw08_TreeHeld.l0
      repeat' first
      | (with_reducible exact ih0 _ _ _ _ _)
      | (with_reducible exact ih1 _ _ _ _)
      | (with_reducible exact ih2 _ _ _ _ _)
      | (with_reducible exact path_Compare.mono _ _ _)
      | (with_reducible exact path_Parent.mono _ _)
      | (with_reducible exact satchelkit_BigTree.mono _ _ _ _)
      | (with_reducible exact satchellaw08_awake.mono _)
      | (with_reducible exact tree_Check.mono _ _)
      | (with_reducible exact tree_Find.mono _ _ _)
      | (with_reducible exact LeO.refl _)
      | (with_reducible exact LeO.none _)
      | (with_reducible refine LeO.ite ?_ ?_)
      | (with_reducible refine LeO.bind ?_ (fun _ => ?_))
      | exact ih0 _ _ _ _ _
      | exact ih1 _ _ _ _
      | exact ih2 _ _ _ _ _
      | exact path_Compare.mono _ _ _
      | exact path_Parent.mono _ _
      | exact satchelkit_BigTree.mono _ _ _ _
      | exact satchellaw08_awake.mono _
      | exact tree_Check.mono _ _
      | exact tree_Find.mono _ _ _
      | exact LeO.none _
      | refine LeO.ite ?_ ?_
      | refine LeO.bind ?_ (fun _ => ?_)
theorem satchellaw08_TreeHeld.mono : ∀ a0 a1 a2 k, LeO (satchellaw08_TreeHeld.f k a0 a1 a2) (satchellaw08_TreeHeld.f (k + 1) a0 a1 a2) := by
  intro a0 a1 a2 k
  obtain ⟨ih0, ih1, ih2⟩ := satchellaw08_TreeHeld.mono_l k
  unfold satchellaw08_TreeHeld.f
  repeat' first
      | (with_reducible exact ih0 _ _ _ _ _)
      | (with_reducible exact ih1 _ _ _ _)
      | (with_reducible exact ih2 _ _ _ _ _)
      | (with_reducible exact path_Compare.mono _ _ _)
      | (with_reducible exact path_Parent.mono _ _)
      | (with_reducible exact satchelkit_BigTree.mono _ _ _ _)
      | (with_reducible exact satchellaw08_awake.mono _)
      | (with_reducible exact tree_Check.mono _ _)
      | (with_reducible exact tree_Find.mono _ _ _)
      | (with_reducible exact LeO.refl _)
      | (with_reducible exact LeO.none _)
      | (with_reducible refine LeO.ite ?_ ?_)
      | (with_reducible refine LeO.bind ?_ (fun _ => ?_))
      | exact ih0 _ _ _ _ _
      | exact ih1 _ _ _ _
      | exact ih2 _ _ _ _ _
      | exact path_Compare.mono _ _ _
      | exact path_Parent.mono _ _
      | exact satchelkit_BigTree.mono _ _ _ _
      | exact satchellaw08_awake.mono _
      | exact tree_Check.mono _ _
      | exact tree_Find.mono _ _ _
      | exact LeO.none _
      | refine LeO.ite ?_ ?_
      | refine LeO.bind ?_ (fun _ => ?_)
def satchellaw08_TreeHeld.T15 : Bool × List (List Nat × List Nat) := (true, [([], []), ([0], [0]), ([1], [1]), ([2], [2]), ([3, 2], [2, 3]), ([2], [2]), ([2], [2]), ([2], [2]), ([7, 2], [2, 7]), ([5, 6, 8, 2], [2, 5, 6, 8]), ([4, 9, 2, 2], [2, 4, 9]), ([10, 2], [2, 10]), ([2, 11], [2, 11]), ([12, 10], [12]), ([13], [13]), ([14, 13, 13], [13, 14]), ([15], [15]), ([16, 15], [15, 16]), ([17, 15, 15], [15, 17]), ([18], [18]), ([19, 18], [18, 19]), ([20, 18], [18, 20]), ([18, 21, 15], [15, 18, 21]), ([22, 18, 15], [15, 22]), ([23], [23]), ([23], [23]), ([23], [23]), ([25, 26, 23], [23, 25, 26]), ([27, 23], [23, 27]), ([28, 23], [23, 28]), ([24, 29, 23, 23], [23, 24, 29]), ([30, 23], [23, 30]), ([23, 31, 15], [15, 23, 31]), ([15, 32, 13], [13, 15, 32]), ([13, 33], [13, 33])])
def satchellaw08_TreeHeld.B15 : List Nat := [0, 1, 3, 7, 15, 7, 7, 7, 135, 487, 1023, 2047, 4095, 8191, 16383, 32767, 65535, 131071, 262143, 524287, 1048575, 2097151, 4194303, 8388607, 16777215, 16777215, 16777215, 117440511, 251658239, 520093695, 1073741823, 2147483647, 4294967295, 8589934591, 17179869183]
theorem satchellaw08_TreeHeld.tab15 : rtab .any (opsOf Try.f3 15) = satchellaw08_TreeHeld.T15 := by kernel_rfl
theorem satchellaw08_TreeHeld.bits15 : waitsOk satchellaw08_TreeHeld.T15.2 satchellaw08_TreeHeld.B15 = true := by kernel_rfl

end Go.Proofs.Ytopkmchkfcjjmaa.X

/-! ## PureHeld -/
namespace Go.Proofs.Ytopkmchkfcjjmaa.X
open Go.RowKit Go.Proofs.YtopkmchkfcjjmaaW.PrintWords Go.Proofs.YtopkmchkfcjjmaaW.PrintLast Go.Proofs.YtopkmchkfcjjmaaW.PrintMore
set_option linter.unusedVariables false
set_option linter.unusedSimpArgs false
theorem awake_ev : Ev (fun k => satchellaw08_awake.f k) true := Ev.of_mono satchellaw08_awake.mono (K := 30) (by kernel_rfl)
/-- What is found of a path in a tree that may be: the entry, or nothing. -/
theorem find_ev {l : List (S31)} (hg : Good l) (s : ByteArray) : ∃ x : S31, ∃ b : Bool, Ev (fun k => tree_Find.f k l s) (x.f0, x.f1, x.f2, x.f3, x.f4, b) ∧ (b = true ↔ ∃ a : Nat, a < l.length ∧ (rd_T31 l (a : Int)).f0 = s) := by
  by_cases h : ∃ a : Nat, a < l.length ∧ (rd_T31 l (a : Int)).f0 = s
  · obtain ⟨a, ha, rfl⟩ := h
    exact ⟨_, true, find_hit hg ha, by simp; exact ⟨a, ha, rfl⟩⟩
  · refine ⟨⟨⟨#[]⟩, 0, 0, [], ⟨#[]⟩⟩, false, find_miss hg (fun a ha he => h ⟨a, ha, he⟩), by simp; exact fun a ha he => h ⟨a, ha, he⟩⟩
theorem held_l0 {l : List (S31)} (hg : Good l) (other : ByteArray) : ∀ (m i : Nat) (b : Bool), i + m = l.length → (b = true ↔ ∃ a : Nat, a < i ∧ (rd_T31 l (a : Int)).f0 = other) → Ev (fun k => satchellaw08_TreeHeld.l0 k l other true b (i : Int)) true
  | 0, i, b, h, hb => by
    have hlen := hg.1
    refine Ev.shift ?_
    simp only [satchellaw08_TreeHeld.l0]
    refine Ev.ifn (by omega) ?_
    obtain ⟨x, c, hx, hc⟩ := find_ev hg other
    refine Ev.bind hx (Ev.ifp (by simp) ?_)
    have hi : i = l.length := by omega
    subst hi
    have : (c == b) = true := by
      rw [← hb] at hc
      cases c <;> cases b <;> simp_all
    show Ev (fun _ => some (c == b)) true
    rw [this]
    exact Ev.const _
  | m + 1, i, b, h, hb => by
    have hlen := hg.1
    have hi : i < l.length := by omega
    have hone := one_ok (hg.one hi)
    have hsz := valid_size hone.1
    have ew : wrap64 ((i : Int) + 1) = ((i + 1 : Nat) : Int) := by rw [wrap_id _ (by omega)]; omega
    refine Ev.shift ?_
    simp only [satchellaw08_TreeHeld.l0, ew, Int.toNat_natCast]
    have e1 : (l.take (i + 1)).drop i = [rd_T31 l (i : Int)] := by
      rw [rd_at l i hi, List.drop_take, List.drop_eq_getElem_cons hi, show i + 1 - i = 1 by omega]
      rfl
    -- behind the checks: is the other one met?
    have next : Ev (fun k => if b = true then (satchellaw08_TreeHeld.l0 k l other true true ((i + 1 : Nat) : Int)) else (satchellaw08_TreeHeld.l0 k l other true (((rd_T31 l (i : Int)).f0).toList == other.toList) ((i + 1 : Nat) : Int))) true := by
      by_cases hbt : b = true
      · refine Ev.ifp hbt (held_l0 hg other m (i + 1) true (by omega) ?_)
        obtain ⟨a, ha, he⟩ := hb.1 hbt
        simp
        exact ⟨a, by omega, he⟩
      · refine Ev.ifn hbt (held_l0 hg other m (i + 1) _ (by omega) ?_)
        rw [beq_iff_eq]
        constructor
        · intro he
          exact ⟨i, by omega, bytes_ext he⟩
        · rintro ⟨a, ha, he⟩
          rcases Nat.lt_or_ge a i with h1 | h1
          · exact absurd (hb.2 ⟨a, h1, he⟩) hbt
          · rw [show a = i by omega] at he
            rw [he]
    refine Ev.ifp (by omega) (Ev.ifp (by omega) (Ev.bind (find_hit hg hi) (Ev.bind (parent_ev _ (by omega)) ?_)))
    cases hp : parentV (rd_T31 l (i : Int)).f0 with
    | mk up has =>
      cases has with
      | true =>
        obtain ⟨hv, hahead⟩ := parent_ahead hp
        obtain ⟨q, hqi, hq0, hq1⟩ := hg.up hi hp
        have hf := find_hit hg (show q < l.length by omega)
        rw [hq0, hq1] at hf
        refine Ev.bind hf (Ev.ifp (by simp) (Ev.ifp (by omega) (Ev.ifp (by omega) ?_)))
        rw [e1, same_refl]
        simp only [Option.bind_some]
        refine Ev.ifp (by simp) (Ev.ifp (by simp) (Ev.ifp (by simp) (Ev.ifp (by simp) (Ev.bind (compare_ev _ _) ?_))))
        have hvu : validV up = true := by rw [← hq0]; exact (one_ok (hg.one (show q < l.length by omega))).1
        have hcmp : cmpV up (rd_T31 l (i : Int)).f0 < 0 := by
          unfold cmpV
          rw [if_pos hvu, if_pos hv]
          exact hahead
        exact Ev.ifn (by omega) next
      | false =>
        obtain ⟨x, c, hx, hc⟩ := find_ev hg up
        refine Ev.bind hx (Ev.ifp (by simp) (Ev.ifp (by omega) (Ev.ifp (by omega) ?_)))
        rw [e1, same_refl]
        simp only [Option.bind_some]
        exact Ev.ifp (by simp) (Ev.ifn (by simp) next)
theorem held_ev (l : List (S31)) (n : Int) (other : ByteArray) : Ev (fun k => satchellaw08_TreeHeld.f k l n other) true := by
  simp only [satchellaw08_TreeHeld.f]
  refine Ev.bind awake_ev (Ev.bind (tree_ev l) ?_)
  obtain ⟨b, hb, hlen⟩ := big_ev l 60 4000 (by decide)
  refine Ev.bind hb ?_
  have out : ∀ x : Bool, x = true → Ev (fun k => satchellaw08_TreeHeld.j0 k l n other true x) true := by
    rintro x rfl
    refine Ev.shift ?_
    simp only [satchellaw08_TreeHeld.j0]
    exact Ev.ifp (by simp) (Ev.const _)
  by_cases h1 : b = true
  · exact Ev.ifp h1 (out true rfl)
  · refine Ev.ifn h1 ?_
    have hl := hlen (by simpa using h1)
    by_cases h2 : (treeV l).1 = 0
    · refine Ev.ifp h2 ?_
      have hg := good_of h2
      by_cases h3 : (other.size : Int) > 300
      · exact out _ (decide_eq_true h3)
      · rw [decide_eq_false h3]
        refine Ev.shift ?_
        simp only [satchellaw08_TreeHeld.j0]
        refine Ev.ifn (by simp) ?_
        rw [show wrap64 ((l.length : Int) + 1) = ((l.length + 1 : Nat) : Int) by rw [wrap_id _ (by omega)]; omega]
        obtain ⟨m, hm, hpick⟩ := pick_f n (l.length + 1) (by omega) (by omega)
        rw [hpick]
        simp only [Option.bind_some, Int.toNat_natCast]
        refine Ev.ifp (by omega) (Ev.ifp (by omega) ?_)
        have hc := tree_ev (l.take m)
        rw [(hg.take m).tree] at hc
        refine Ev.bind hc (Ev.ifp (by simp) (Ev.shift ?_))
        simp only [satchellaw08_TreeHeld.j1]
        refine Ev.ifn (by simp) ?_
        exact held_l0 hg other l.length 0 false (by omega) (by simp)
    · exact Ev.ifn h2 (out true rfl)
end Go.Proofs.Ytopkmchkfcjjmaa.X
