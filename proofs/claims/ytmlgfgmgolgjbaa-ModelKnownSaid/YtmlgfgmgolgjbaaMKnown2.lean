/- Functions, one behind the other: a plain Lean function for each, and the proof that the call comes to its answer, whatever the world (conditions: what the arguments read as); and plain laws of them. -/
import Derived.Test.YtmlgfgmgolgjbaaProg
import Derived.Below
import Derived.Deep.Draws
import Derived.Deep.AppendLies
import Derived.Maps.AppendAt
import Derived.OwnWalk
import Derived.Laws.BytesArg
import Derived.Laws.MakeOwn
import Derived.Laws.OwnMore
import Derived.Deep.OwnRows
import Derived.Tactics
import Derived.Lib.ConvBytes
import Derived.Laws.Slices
import Derived.WalkKit
import Derived.KernelRfl
import Derived.RowKit3
import Derived.Deep.LoopGhost
import Derived.Deep.QuietTactic
import Derived.BigQuiet
import Derived.WideLaws
import Derived.Deep.DeepCutAuto
import Derived.Deep.CutBlock
import Derived.Deep.RegionHeld3
import Derived.Laws.Rows
import Derived.Lib.AppendStr
import Derived.ArgAppend
import Derived.Laws.IdiomCopy
import Derived.OrdersHeld
import Derived.Laws.BitsLemmas
import Derived.RowKit
import Derived.Test.YtmlgfgmgolgjbaaMKnown1
import Derived.Lib.Bytealg
import Derived.Lib.IndexLaws
import Derived.RangeFuncNested
import Derived.RangeFuncBound
import Derived.RangeFuncCalls
import Derived.RangeFuncLeaves
import Derived.OwnWalkIn
import Derived.Shelf.Abstract
import Derived.TacticsInMore
import Derived.LoopNIn
import Derived.LoopIn
import Derived.Lib.IndexBytes
import Derived.Lib.Strings
/-! ## 0 -/
section
namespace Go.Proofs.Ytmlgfgmgolgjbaa.X
open Go.RowKit Go.Proofs.YtmlgfgmgolgjbaaW.PrintWords Go.Proofs.YtmlgfgmgolgjbaaW.PrintLast Go.Proofs.YtmlgfgmgolgjbaaW.PrintMore
attribute [local go_sem] max2_int min2_int max_two min_two max_three min_three max_four min_four   -- for this text's walks alone
set_option linter.unusedVariables false
set_option linter.unusedSimpArgs false



def errW : Option Int → Value
 | none => .nilIface
 | some c => .iface 0 (.int .i64 c)
theorem errW_none : errW none = .nilIface := rfl
theorem errW_some (c : Int) : errW (some c) = .iface 0 (.int .i64 c) := rfl

theorem info5 : (Try.prog.info? 5).map (fun i => (i.zero, i.size, i.bytes)) = some (some (.int .u8 0), 1, 1) := by kernel_rfl
theorem info89 : (Try.prog.info? 89).map (fun i => (i.zero, i.size, i.bytes)) = some (some (.agg #[(.string ⟨#[]⟩), (.int .i64 0), (.int .i64 0), (.slice none 0 0), (.string ⟨#[]⟩)]), 5, 72) := by kernel_rfl
-- the values' own types
/-! #### struct type 61 -/
structure S61 where
 f0 : Int
 f1 : Int
 f2 : Int
 f3 : Bool
def z61 : S61 := ⟨(0 : Int), (0 : Int), (0 : Int), false⟩
def k61 : Kd S61 := Kd.iso (Kd.pair (Kd.int .i64) (Kd.pair (Kd.int .i64) (Kd.pair (Kd.int .i64) Kd.bool))) (fun x : S61 => (x.f0, x.f1, x.f2, x.f3))
theorem k61_open {w : World} {x : S61} {cs : List Value} (h : k61.K w x cs) : cs = [.int .i64 x.f0, .int .i64 x.f1, .int .i64 x.f2, .bool x.f3] := by
 obtain ⟨_, _, rfl, rfl, ⟨_, _, rfl, rfl, ⟨_, _, rfl, rfl, rfl⟩⟩⟩ := h
 exact rfl
theorem k61_mk (w : World) (x : S61)  : k61.K w x [.int .i64 x.f0, .int .i64 x.f1, .int .i64 x.f2, .bool x.f3] := ⟨[.int .i64 x.f0], [.int .i64 x.f1, .int .i64 x.f2, .bool x.f3], rfl, rfl, ⟨[.int .i64 x.f1], [.int .i64 x.f2, .bool x.f3], rfl, rfl, ⟨[.int .i64 x.f2], [.bool x.f3], rfl, rfl, rfl⟩⟩⟩
theorem k61_mkM (w : World) (base : Nat) (ok : Nat → Prop) (x : S61)  : k61.M w base ok x [.int .i64 x.f0, .int .i64 x.f1, .int .i64 x.f2, .bool x.f3] := ⟨[.int .i64 x.f0], [.int .i64 x.f1, .int .i64 x.f2, .bool x.f3], rfl, rfl, ⟨[.int .i64 x.f1], [.int .i64 x.f2, .bool x.f3], rfl, rfl, ⟨[.int .i64 x.f2], [.bool x.f3], rfl, rfl, rfl⟩⟩⟩
def rd_T61 (xs : List S61) (i : Int) : S61 := xs.getD i.toNat z61
theorem at_T61 {w : World} {A : Option Addr} {n : Nat} {xs : List S61} (h : Kd.C k61 w A n xs) (i : Int) (h0 : 0 ≤ i) (h1 : i < n) : ∃ ad , A = some ad ∧ w.cell? (ad.add (i.toNat * 4)) = some (.int .i64 (rd_T61 xs i).f0) ∧ w.cell? ⟨(ad.add (i.toNat * 4)).block, (ad.add (i.toNat * 4)).off + 1, none⟩ = some (.int .i64 (rd_T61 xs i).f1) ∧ w.cell? ⟨(ad.add (i.toNat * 4)).block, (ad.add (i.toNat * 4)).off + 2, none⟩ = some (.int .i64 (rd_T61 xs i).f2) ∧ w.cell? ⟨(ad.add (i.toNat * 4)).block, (ad.add (i.toNat * 4)).off + 3, none⟩ = some (.bool (rd_T61 xs i).f3) := by
 obtain ⟨ad, c, e, _, hK, hc0⟩ := Kd.C_get h z61 i h0 h1
 have hc : ∀ j u, c[j]? = some u → w.cell? (ad.add (i.toNat * 4 + j)) = some u := hc0
 obtain rfl := k61_open hK
 exact ⟨ad, e, hc 0 _ rfl, by rw [← add_field _ _ 1 (by omega)]; exact hc 1 _ rfl, by rw [← add_field _ _ 2 (by omega)]; exact hc 2 _ rfl, by rw [← add_field _ _ 3 (by omega)]; exact hc 3 _ rfl⟩

/-! #### struct type 123 -/


/-! #### struct type 89 -/
structure S89 where
 f0 : ByteArray
 f1 : Int
 f2 : Int
 f3 : (List Int)
 f4 : ByteArray
def z89 : S89 := ⟨(⟨#[]⟩ : ByteArray), (0 : Int), (0 : Int), ([] : List Int), (⟨#[]⟩ : ByteArray)⟩
def k89 : Kd S89 := Kd.iso (Kd.pair Kd.string (Kd.pair (Kd.int .i64) (Kd.pair (Kd.int .i64) (Kd.pair (Kd.slice 5 (Kd.int .u8)) Kd.string)))) (fun x : S89 => (x.f0, x.f1, x.f2, x.f3, x.f4))
theorem k89_open {w : World} {x : S89} {cs : List Value} (h : k89.K w x cs) : ∃ A3 c3, cs = [.string x.f0, .int .i64 x.f1, .int .i64 x.f2, .slice A3 x.f3.length c3, .string x.f4] ∧ x.f3.length ≤ c3 ∧ (Kd.int .u8).C w A3 x.f3.length x.f3 := by
 obtain ⟨_, _, rfl, rfl, ⟨_, _, rfl, rfl, ⟨_, _, rfl, rfl, ⟨_, _, rfl, ⟨A3, c3, rfl, l3, g3⟩, rfl⟩⟩⟩⟩ := h
 exact ⟨A3, c3, rfl, l3, g3⟩
theorem k89_mk (w : World) (x : S89) {A3 : Option Addr} {c3 : Nat} (l3 : x.f3.length ≤ c3) (g3 : (Kd.int .u8).C w A3 x.f3.length x.f3) : k89.K w x [.string x.f0, .int .i64 x.f1, .int .i64 x.f2, .slice A3 x.f3.length c3, .string x.f4] := ⟨[.string x.f0], [.int .i64 x.f1, .int .i64 x.f2, .slice A3 x.f3.length c3, .string x.f4], rfl, rfl, ⟨[.int .i64 x.f1], [.int .i64 x.f2, .slice A3 x.f3.length c3, .string x.f4], rfl, rfl, ⟨[.int .i64 x.f2], [.slice A3 x.f3.length c3, .string x.f4], rfl, rfl, ⟨[.slice A3 x.f3.length c3], [.string x.f4], rfl, ⟨A3, c3, rfl, l3, g3⟩, rfl⟩⟩⟩⟩
theorem k89_mkM (w : World) (base : Nat) (ok : Nat → Prop) (x : S89) {v3 : Value} (g3 : (Kd.int .u8).R 5 w base ok v3 x.f3) : k89.M w base ok x [.string x.f0, .int .i64 x.f1, .int .i64 x.f2, v3, .string x.f4] := ⟨[.string x.f0], [.int .i64 x.f1, .int .i64 x.f2, v3, .string x.f4], rfl, rfl, ⟨[.int .i64 x.f1], [.int .i64 x.f2, v3, .string x.f4], rfl, rfl, ⟨[.int .i64 x.f2], [v3, .string x.f4], rfl, rfl, ⟨[v3], [.string x.f4], rfl, ⟨v3, rfl, g3⟩, rfl⟩⟩⟩⟩
theorem k89_openF {W : World} {ok : Nat → Prop} {x : S89} {cs : List Value} (h : Kd.FK k89 W ok x cs) : ∃ A3 c3, cs = [.string x.f0, .int .i64 x.f1, .int .i64 x.f2, .slice A3 x.f3.length c3, .string x.f4] ∧ x.f3.length ≤ c3 ∧ Kd.F (Kd.int .u8) W ok A3 x.f3.length x.f3 := by
 obtain ⟨A3, c3, rfl, l3, _⟩ := k89_open (Kd.FK_now h)
 exact ⟨A3, c3, rfl, l3, (fun W' hW => by obtain ⟨A3_, c3_, he, l3_, g3_⟩ := k89_open (h W' hW); injection (Option.some.inj (show some (Value.slice A3 x.f3.length c3) = some (Value.slice A3_ x.f3.length c3_) from congrArg (fun l => l[3]?) he)) with ha_ _ _; rw [ha_]; exact g3_)⟩
theorem k89_mkF (W : World) (ok : Nat → Prop) (x : S89) {A3 : Option Addr} {c3 : Nat} (l3 : x.f3.length ≤ c3) (g3 : Kd.F (Kd.int .u8) W ok A3 x.f3.length x.f3) : Kd.FK k89 W ok x [.string x.f0, .int .i64 x.f1, .int .i64 x.f2, .slice A3 x.f3.length c3, .string x.f4] := fun W2 hW => k89_mk W2 x l3 (g3 W2 hW)
def rd_T89 (xs : List S89) (i : Int) : S89 := xs.getD i.toNat z89
theorem at_T89 {w : World} {A : Option Addr} {n : Nat} {xs : List S89} (h : Kd.C k89 w A n xs) (i : Int) (h0 : 0 ≤ i) (h1 : i < n) : ∃ ad A3 c3, A = some ad ∧ w.cell? (ad.add (i.toNat * 5)) = some (.string (rd_T89 xs i).f0) ∧ w.cell? ⟨(ad.add (i.toNat * 5)).block, (ad.add (i.toNat * 5)).off + 1, none⟩ = some (.int .i64 (rd_T89 xs i).f1) ∧ w.cell? ⟨(ad.add (i.toNat * 5)).block, (ad.add (i.toNat * 5)).off + 2, none⟩ = some (.int .i64 (rd_T89 xs i).f2) ∧ w.cell? ⟨(ad.add (i.toNat * 5)).block, (ad.add (i.toNat * 5)).off + 3, none⟩ = some (.slice A3 (rd_T89 xs i).f3.length c3) ∧ w.cell? ⟨(ad.add (i.toNat * 5)).block, (ad.add (i.toNat * 5)).off + 4, none⟩ = some (.string (rd_T89 xs i).f4) ∧ (rd_T89 xs i).f3.length ≤ c3 ∧ (Kd.int .u8).C w A3 (rd_T89 xs i).f3.length (rd_T89 xs i).f3 := by
 obtain ⟨ad, c, e, _, hK, hc0⟩ := Kd.C_get h z89 i h0 h1
 have hc : ∀ j u, c[j]? = some u → w.cell? (ad.add (i.toNat * 5 + j)) = some u := hc0
 obtain ⟨A3, c3, rfl, l3, g3⟩ := k89_open hK
 exact ⟨ad, A3, c3, e, hc 0 _ rfl, by rw [← add_field _ _ 1 (by omega)]; exact hc 1 _ rfl, by rw [← add_field _ _ 2 (by omega)]; exact hc 2 _ rfl, by rw [← add_field _ _ 3 (by omega)]; exact hc 3 _ rfl, by rw [← add_field _ _ 4 (by omega)]; exact hc 4 _ rfl, l3, g3⟩


/-! #### struct type 29 -/

/-! #### struct type 31 -/

/-! #### struct type 77 -/
structure S77 where
 f0 : Int
 f1 : Int
def z77 : S77 := ⟨(0 : Int), (0 : Int)⟩
def k77 : Kd S77 := Kd.iso (Kd.pair (Kd.int .i64) (Kd.int .i64)) (fun x : S77 => (x.f0, x.f1))
theorem k77_open {w : World} {x : S77} {cs : List Value} (h : k77.K w x cs) : cs = [.int .i64 x.f0, .int .i64 x.f1] := by
 obtain ⟨_, _, rfl, rfl, rfl⟩ := h
 exact rfl
theorem k77_mkM (w : World) (base : Nat) (ok : Nat → Prop) (x : S77)  : k77.M w base ok x [.int .i64 x.f0, .int .i64 x.f1] := ⟨[.int .i64 x.f0], [.int .i64 x.f1], rfl, rfl, rfl⟩
def rd_T77 (xs : List S77) (i : Int) : S77 := xs.getD i.toNat z77
theorem at_T77 {w : World} {A : Option Addr} {n : Nat} {xs : List S77} (h : Kd.C k77 w A n xs) (i : Int) (h0 : 0 ≤ i) (h1 : i < n) : ∃ ad , A = some ad ∧ w.cell? (ad.add (i.toNat * 2)) = some (.int .i64 (rd_T77 xs i).f0) ∧ w.cell? ⟨(ad.add (i.toNat * 2)).block, (ad.add (i.toNat * 2)).off + 1, none⟩ = some (.int .i64 (rd_T77 xs i).f1) := by
 obtain ⟨ad, c, e, _, hK, hc0⟩ := Kd.C_get h z77 i h0 h1
 have hc : ∀ j u, c[j]? = some u → w.cell? (ad.add (i.toNat * 2 + j)) = some u := hc0
 obtain rfl := k77_open hK
 exact ⟨ad, e, hc 0 _ rfl, by rw [← add_field _ _ 1 (by omega)]; exact hc 1 _ rfl⟩

/-! #### struct type 57 -/
structure S57 where
 f0 : Int
 f1 : Int
 f2 : (List S89)
def z57 : S57 := ⟨(0 : Int), (0 : Int), ([] : List S89)⟩

/-! ### Laws of single operations that the walk lacks -/
theorem bytesLess_total : ∀ a b : List UInt8, Op.bytesLess b a = !(Op.bytesLess a b || a == b)
 | [], [] => rfl
 | [], _ :: _ => rfl
 | _ :: _, [] => rfl
 | a :: x, b :: y => by
  have ih := bytesLess_total x y
  simp only [Op.bytesLess, List.cons_beq_cons]
  rw [ih]
  by_cases h : a = b
  ·subst h
   simp
  ·have h1 : (a == b) = false := by simpa using h
   have h2 : (b == a) = false := by simpa using fun e => h e.symm
   have h3 : decide (b < a) = !decide (a < b) := by
    have h4 : a.toNat ≠ b.toNat := fun e => h (UInt8.toNat_inj.1 e)
    rcases Nat.lt_or_ge a.toNat b.toNat with h5 | h5
    ·rw [decide_eq_true (UInt8.lt_iff_toNat_lt.2 h5), decide_eq_false (fun e => by have := UInt8.lt_iff_toNat_lt.1 e; omega)]; rfl
    ·rw [decide_eq_true (UInt8.lt_iff_toNat_lt.2 (show b.toNat < a.toNat by omega)), decide_eq_false (fun e => by have := UInt8.lt_iff_toNat_lt.1 e; omega)]; rfl
   simp [h1, h2, h3]
theorem str_gtr (t : TypeId) (a b : ByteArray) : binOp .gtr t (.string a) (.string b) = pure (.bool (Op.bytesLess b.toList a.toList)) := by
 rw [bytesLess_total a.toList b.toList]
 simp [binOp, Op.stringOp]
theorem fld_fault0 (a b : Int) (w : World) : (Instr.field 123 (.agg #[.int .i64 a, .int .i64 b]) 0).run Try.prog w = .ok (.int .i64 a) w := by kernel_rfl
theorem fld_fault1 (a b : Int) (w : World) : (Instr.field 123 (.agg #[.int .i64 a, .int .i64 b]) 1).run Try.prog w = .ok (.int .i64 b) w := by kernel_rfl
/-- The cells of an entry whose Data is a row by its letter. -/
theorem entry_mkFv (W : World) (ok : Nat → Prop) (x : S89) (v : Value) {base : Nat} (h : Kd.R (Kd.int .u8) 5 W base ok v x.f3) : Kd.FK k89 W ok x [.string x.f0, .int .i64 x.f1, .int .i64 x.f2, v, .string x.f4] := by
 obtain ⟨A, c, rfl⟩ := Kd.R_slice h
 exact k89_mkF W ok x (Kd.R_reads' h).2.1 (Kd.R_F h)

/-- A builtin append of which the run is known. -/
theorem append_event {P : Program} {ops : Array Oper} {rest : List Oper} {o : Oper} {a : Act} {Q : Exit → Act → World → Prop} {W w1 : World} {v : Value} (hgd : o.guard = none) (s x : Operand) (t1 t2 : TypeId)
  (hop : o.op = Op.call { callee := Callee.builtin Builtin.append, args := #[s, x], argTypes := #[t1, t2] }) (vs vx : Value) (hs : a.eval s = vs) (hx : a.eval x = vx)
  (hrun : (Builtin.append_ #[t1, t2] o.type #[vs, vx]).run P W = .ok v w1) (h : wpList P ops Q rest (a.put o.dst v) w1) : wpList P ops Q (o :: rest) a W :=
 Kd.event_run hgd (by simp [execOp, hop, resolve, invoke, builtin, hs, hx, hrun, Result.andThen]) h

end Go.Proofs.Ytmlgfgmgolgjbaa.X
end

/-! ## CmpIsNaNString -/
section
namespace Go.Proofs.Ytmlgfgmgolgjbaa.X
open Go.RowKit Go.Proofs.YtmlgfgmgolgjbaaW.PrintWords Go.Proofs.YtmlgfgmgolgjbaaW.PrintLast Go.Proofs.YtmlgfgmgolgjbaaW.PrintMore
attribute [local go_sem] max2_int min2_int max_two min_two max_three min_three max_four min_four   -- for this text's walks alone
set_option linter.unusedVariables false
set_option linter.unusedSimpArgs false

attribute [local go_sem] str_gtr fld_fault0 fld_fault1
/-! ### cmp_isNaN_string: function 88 -/
def cmp_isNaN_string.f (a0 : ByteArray) : Option (Bool) := some (a0.toList != a0.toList)
set_option maxHeartbeats 8000000 in
set_option maxRecDepth 100000 in
theorem cmp_isNaN_string.calls (a0 : ByteArray) (r : Bool) (w : World) (h : cmp_isNaN_string.f a0 = some r) :
  Calls Try.prog 88 #[.string a0] w fun e w' => e = .returned (.bool r) ∧ Drawn0 w w' := by
 have H : (some (a0.toList != a0.toList)) = some r := h
 clear h
 obtain rfl := Option.some.inj H
 go_enter Try.func88, Try.ntmps88
 go_wp2
 go_ret
 exact ⟨by first | rfl | (simp; done) | (simp [*]; done), by repeat (first | exact Drawn0.refl _ | apply Drawn0.step)⟩

end Go.Proofs.Ytmlgfgmgolgjbaa.X
end

/-! ## CmpCompareString -/
section
namespace Go.Proofs.Ytmlgfgmgolgjbaa.X
open Go.RowKit Go.Proofs.YtmlgfgmgolgjbaaW.PrintWords Go.Proofs.YtmlgfgmgolgjbaaW.PrintLast Go.Proofs.YtmlgfgmgolgjbaaW.PrintMore
attribute [local go_sem] max2_int min2_int max_two min_two max_three min_three max_four min_four   -- for this text's walks alone
set_option linter.unusedVariables false
set_option linter.unusedSimpArgs false

attribute [local go_sem] str_gtr fld_fault0 fld_fault1
/-! ### cmp_Compare_string: function 68 -/
def cmp_Compare_string.f (a0 : ByteArray) (a1 : ByteArray) : Option (Int) := (cmp_isNaN_string.f a0).bind fun t105 => ((cmp_isNaN_string.f a1).bind fun t106 => (if t105 = true then (if t106 = true then (some 0) else (some (-1))) else (if t106 = true then (some 1) else (if (Op.bytesLess a0.toList a1.toList) = true then (some (-1)) else (if (Op.bytesLess a1.toList a0.toList) = true then (some 1) else (some 0))))))
set_option maxHeartbeats 8000000 in
set_option maxRecDepth 100000 in
theorem cmp_Compare_string.calls (a0 : ByteArray) (a1 : ByteArray) (r : Int) (w : World) (h : cmp_Compare_string.f a0 a1 = some r) :
  Calls Try.prog 68 #[.string a0, .string a1] w fun e w' => e = .returned (.int .i64 r) ∧ Drawn0 w w' := by
 have H : ((cmp_isNaN_string.f a0).bind fun t105 => ((cmp_isNaN_string.f a1).bind fun t106 => (if t105 = true then (if t106 = true then (some 0) else (some (-1))) else (if t106 = true then (some 1) else (if (Op.bytesLess a0.toList a1.toList) = true then (some (-1)) else (if (Op.bytesLess a1.toList a0.toList) = true then (some 1) else (some 0))))))) = some r := h
 clear h
 replace H := Option.bind_eq_some_iff.mp H
 obtain ⟨t105, A30, H⟩ := H
 replace H : ((cmp_isNaN_string.f a1).bind fun t106 => (if t105 = true then (if t106 = true then (some 0) else (some (-1))) else (if t106 = true then (some 1) else (if (Op.bytesLess a0.toList a1.toList) = true then (some (-1)) else (if (Op.bytesLess a1.toList a0.toList) = true then (some 1) else (some 0)))))) = some r := H
 have A3 := Aside0.mk A30
 clear A30
 replace H := Option.bind_eq_some_iff.mp H
 obtain ⟨t106, A40, H⟩ := H
 replace H : (if t105 = true then (if t106 = true then (some 0) else (some (-1))) else (if t106 = true then (some 1) else (if (Op.bytesLess a0.toList a1.toList) = true then (some (-1)) else (if (Op.bytesLess a1.toList a0.toList) = true then (some 1) else (some 0))))) = some r := H
 have A4 := Aside0.mk A40
 clear A40
 by_cases c5 : t105 = true
 ·subst c5
  have H1 : (if t106 = true then (some 0) else (some (-1))) = some r := by rw [if_pos rfl] at H; exact H
  clear H
  have H := H1
  clear H1
  by_cases c6 : t106 = true
  ·subst c6
   have H1 : (some 0) = some r := by rw [if_pos rfl] at H; exact H
   clear H
   have H := H1
   clear H1
   obtain rfl := Option.some.inj H
   go_enter Try.func68, Try.ntmps68
   go_wp2_with (first | ((with_reducible refine gate_callee (f := 88) rfl ?_); refine goesL_ (some 8) rfl rfl Try.func88 (by kernel_rfl) rfl #[.string a0] rfl (by (try simp only [List.map_toArray, List.map_cons, List.map_nil]); first | done | rfl | (simp only [List.length_drop, List.length_take]; rfl)) ?_; (with_reducible refine (cmp_isNaN_string.calls a0 true _ A3.out).mono ?_); rintro e w' ⟨rfl, ⟨nd, rfl⟩⟩; refine ⟨_, rfl, ?_⟩) | ((with_reducible refine gate_callee (f := 88) rfl ?_); refine goesL_ (some 10) rfl rfl Try.func88 (by kernel_rfl) rfl #[.string a1] rfl (by (try simp only [List.map_toArray, List.map_cons, List.map_nil]); first | done | rfl | (simp only [List.length_drop, List.length_take]; rfl)) ?_; (with_reducible refine (cmp_isNaN_string.calls a1 true _ A4.out).mono ?_); rintro e w' ⟨rfl, ⟨nd, rfl⟩⟩; refine ⟨_, rfl, ?_⟩))
   go_ret
   exact ⟨by first | rfl | (simp; done) | (simp [*]; done), by repeat (first | exact Drawn0.refl _ | apply Drawn0.step)⟩
  ·replace c6 := Bool.eq_false_iff.mpr c6
   subst c6
   have H1 : (some (-1)) = some r := by rw [if_neg (show ¬ (false = true) by decide)] at H; exact H
   clear H
   have H := H1
   clear H1
   obtain rfl := Option.some.inj H
   go_enter Try.func68, Try.ntmps68
   go_wp2_with (first | ((with_reducible refine gate_callee (f := 88) rfl ?_); refine goesL_ (some 8) rfl rfl Try.func88 (by kernel_rfl) rfl #[.string a0] rfl (by (try simp only [List.map_toArray, List.map_cons, List.map_nil]); first | done | rfl | (simp only [List.length_drop, List.length_take]; rfl)) ?_; (with_reducible refine (cmp_isNaN_string.calls a0 true _ A3.out).mono ?_); rintro e w' ⟨rfl, ⟨nd, rfl⟩⟩; refine ⟨_, rfl, ?_⟩) | ((with_reducible refine gate_callee (f := 88) rfl ?_); refine goesL_ (some 10) rfl rfl Try.func88 (by kernel_rfl) rfl #[.string a1] rfl (by (try simp only [List.map_toArray, List.map_cons, List.map_nil]); first | done | rfl | (simp only [List.length_drop, List.length_take]; rfl)) ?_; (with_reducible refine (cmp_isNaN_string.calls a1 false _ A4.out).mono ?_); rintro e w' ⟨rfl, ⟨nd, rfl⟩⟩; refine ⟨_, rfl, ?_⟩))
   go_ret
   exact ⟨by first | rfl | (simp; done) | (simp [*]; done), by repeat (first | exact Drawn0.refl _ | apply Drawn0.step)⟩
 ·replace c5 := Bool.eq_false_iff.mpr c5
  subst c5
  have H1 : (if t106 = true then (some 1) else (if (Op.bytesLess a0.toList a1.toList) = true then (some (-1)) else (if (Op.bytesLess a1.toList a0.toList) = true then (some 1) else (some 0)))) = some r := by rw [if_neg (show ¬ (false = true) by decide)] at H; exact H
  clear H
  have H := H1
  clear H1
  by_cases c7 : t106 = true
  ·subst c7
   have H1 : (some 1) = some r := by rw [if_pos rfl] at H; exact H
   clear H
   have H := H1
   clear H1
   obtain rfl := Option.some.inj H
   go_enter Try.func68, Try.ntmps68
   go_wp2_with (first | ((with_reducible refine gate_callee (f := 88) rfl ?_); refine goesL_ (some 8) rfl rfl Try.func88 (by kernel_rfl) rfl #[.string a0] rfl (by (try simp only [List.map_toArray, List.map_cons, List.map_nil]); first | done | rfl | (simp only [List.length_drop, List.length_take]; rfl)) ?_; (with_reducible refine (cmp_isNaN_string.calls a0 false _ A3.out).mono ?_); rintro e w' ⟨rfl, ⟨nd, rfl⟩⟩; refine ⟨_, rfl, ?_⟩) | ((with_reducible refine gate_callee (f := 88) rfl ?_); refine goesL_ (some 10) rfl rfl Try.func88 (by kernel_rfl) rfl #[.string a1] rfl (by (try simp only [List.map_toArray, List.map_cons, List.map_nil]); first | done | rfl | (simp only [List.length_drop, List.length_take]; rfl)) ?_; (with_reducible refine (cmp_isNaN_string.calls a1 true _ A4.out).mono ?_); rintro e w' ⟨rfl, ⟨nd, rfl⟩⟩; refine ⟨_, rfl, ?_⟩))
   go_ret
   exact ⟨by first | rfl | (simp; done) | (simp [*]; done), by repeat (first | exact Drawn0.refl _ | apply Drawn0.step)⟩
  ·replace c7 := Bool.eq_false_iff.mpr c7
   subst c7
   have H1 : (if (Op.bytesLess a0.toList a1.toList) = true then (some (-1)) else (if (Op.bytesLess a1.toList a0.toList) = true then (some 1) else (some 0))) = some r := by rw [if_neg (show ¬ (false = true) by decide)] at H; exact H
   clear H
   have H := H1
   clear H1
   by_cases c8 : (Op.bytesLess a0.toList a1.toList) = true
   ·rw [if_pos c8] at H
    have c8b0 : (Op.bytesLess a0.toList a1.toList) = true := c8
    clear c8
    obtain rfl := Option.some.inj H
    go_enter Try.func68, Try.ntmps68
    go_wp2_with (first | ((with_reducible refine gate_callee (f := 88) rfl ?_); refine goesL_ (some 8) rfl rfl Try.func88 (by kernel_rfl) rfl #[.string a0] rfl (by (try simp only [List.map_toArray, List.map_cons, List.map_nil]); first | done | rfl | (simp only [List.length_drop, List.length_take]; rfl)) ?_; (with_reducible refine (cmp_isNaN_string.calls a0 false _ A3.out).mono ?_); rintro e w' ⟨rfl, ⟨nd, rfl⟩⟩; refine ⟨_, rfl, ?_⟩) | ((with_reducible refine gate_callee (f := 88) rfl ?_); refine goesL_ (some 10) rfl rfl Try.func88 (by kernel_rfl) rfl #[.string a1] rfl (by (try simp only [List.map_toArray, List.map_cons, List.map_nil]); first | done | rfl | (simp only [List.length_drop, List.length_take]; rfl)) ?_; (with_reducible refine (cmp_isNaN_string.calls a1 false _ A4.out).mono ?_); rintro e w' ⟨rfl, ⟨nd, rfl⟩⟩; refine ⟨_, rfl, ?_⟩))
    go_ret
    exact ⟨by first | rfl | (simp; done) | (simp [*]; done), by repeat (first | exact Drawn0.refl _ | apply Drawn0.step)⟩
   ·rw [if_neg c8] at H
    have c8b0 : (Op.bytesLess a0.toList a1.toList) = false := by simpa using c8
    clear c8
    by_cases c9 : (Op.bytesLess a1.toList a0.toList) = true
    ·rw [if_pos c9] at H
     have c9b0 : (Op.bytesLess a1.toList a0.toList) = true := c9
     clear c9
     obtain rfl := Option.some.inj H
     go_enter Try.func68, Try.ntmps68
     go_wp2_with (first | ((with_reducible refine gate_callee (f := 88) rfl ?_); refine goesL_ (some 8) rfl rfl Try.func88 (by kernel_rfl) rfl #[.string a0] rfl (by (try simp only [List.map_toArray, List.map_cons, List.map_nil]); first | done | rfl | (simp only [List.length_drop, List.length_take]; rfl)) ?_; (with_reducible refine (cmp_isNaN_string.calls a0 false _ A3.out).mono ?_); rintro e w' ⟨rfl, ⟨nd, rfl⟩⟩; refine ⟨_, rfl, ?_⟩) | ((with_reducible refine gate_callee (f := 88) rfl ?_); refine goesL_ (some 10) rfl rfl Try.func88 (by kernel_rfl) rfl #[.string a1] rfl (by (try simp only [List.map_toArray, List.map_cons, List.map_nil]); first | done | rfl | (simp only [List.length_drop, List.length_take]; rfl)) ?_; (with_reducible refine (cmp_isNaN_string.calls a1 false _ A4.out).mono ?_); rintro e w' ⟨rfl, ⟨nd, rfl⟩⟩; refine ⟨_, rfl, ?_⟩))
     go_ret
     exact ⟨by first | rfl | (simp; done) | (simp [*]; done), by repeat (first | exact Drawn0.refl _ | apply Drawn0.step)⟩
    ·rw [if_neg c9] at H
     have c9b0 : (Op.bytesLess a1.toList a0.toList) = false := by simpa using c9
     clear c9
     obtain rfl := Option.some.inj H
     go_enter Try.func68, Try.ntmps68
     go_wp2_with (first | ((with_reducible refine gate_callee (f := 88) rfl ?_); refine goesL_ (some 8) rfl rfl Try.func88 (by kernel_rfl) rfl #[.string a0] rfl (by (try simp only [List.map_toArray, List.map_cons, List.map_nil]); first | done | rfl | (simp only [List.length_drop, List.length_take]; rfl)) ?_; (with_reducible refine (cmp_isNaN_string.calls a0 false _ A3.out).mono ?_); rintro e w' ⟨rfl, ⟨nd, rfl⟩⟩; refine ⟨_, rfl, ?_⟩) | ((with_reducible refine gate_callee (f := 88) rfl ?_); refine goesL_ (some 10) rfl rfl Try.func88 (by kernel_rfl) rfl #[.string a1] rfl (by (try simp only [List.map_toArray, List.map_cons, List.map_nil]); first | done | rfl | (simp only [List.length_drop, List.length_take]; rfl)) ?_; (with_reducible refine (cmp_isNaN_string.calls a1 false _ A4.out).mono ?_); rintro e w' ⟨rfl, ⟨nd, rfl⟩⟩; refine ⟨_, rfl, ?_⟩))
     go_ret
     exact ⟨by first | rfl | (simp; done) | (simp [*]; done), by repeat (first | exact Drawn0.refl _ | apply Drawn0.step)⟩

end Go.Proofs.Ytmlgfgmgolgjbaa.X
end

/-! ## StringsCut -/
section
namespace Go.Proofs.Ytmlgfgmgolgjbaa.X
open Go.RowKit Go.Proofs.YtmlgfgmgolgjbaaW.PrintWords Go.Proofs.YtmlgfgmgolgjbaaW.PrintLast Go.Proofs.YtmlgfgmgolgjbaaW.PrintMore
attribute [local go_sem] max2_int min2_int max_two min_two max_three min_three max_four min_four   -- for this text's walks alone
set_option linter.unusedVariables false
set_option linter.unusedSimpArgs false

attribute [local go_sem] str_gtr fld_fault0 fld_fault1
/-! ### strings_Cut: function 87 -/
/-- s before and behind the first byte c; is there one? -/
def cutAt (s : ByteArray) (c : UInt8) : ByteArray × ByteArray × Bool :=
 if 0 ≤ Lib.indexByte s.data.toList c then (s.extract 0 (Lib.indexByte s.data.toList c).toNat, s.extract ((Lib.indexByte s.data.toList c).toNat + 1) s.size, true) else (s, ⟨#[]⟩, false)
def strings_Cut.f (a0 : ByteArray) (a1 : ByteArray) : Option (ByteArray × ByteArray × Bool) :=
 if a1.size = 1 ∧ a0.size ≤ 140737488355328 then some (cutAt a0 (bt a1 0).toNat.toUInt8) else none
set_option maxHeartbeats 1000000 in
set_option maxRecDepth 100000 in
theorem stringslite_IndexByte.one (s : ByteArray) (c : Int) (w : World) :
  Calls Try.prog 100 #[.string s, .int .u8 c] w fun e w' => e = .returned (.int .i64 (Lib.indexByte s.data.toList c.toNat.toUInt8)) ∧ w = w' := by
 go_enter Try.func100, Try.ntmps100
 go_wp2
 rw [run_callFunc_extern Try.func104 (by kernel_rfl) (by kernel_rfl) (by kernel_rfl) (e := Extern.BytealgIndexByte.indexByte) (by kernel_rfl), Lib.run_indexByteString]
 simp only [Result.andThen]
 rw [Oper.upon_value]
 go_wp2
 go_ret
 exact ⟨rfl, rfl⟩
set_option maxHeartbeats 1000000 in
set_option maxRecDepth 100000 in
theorem stringslite_Index.one (s sep : ByteArray) (h : sep.size = 1) (w : World) :
  Calls Try.prog 99 #[.string s, .string sep] w fun e w' => e = .returned (.int .i64 (Lib.indexByte s.data.toList (bt sep 0).toNat.toUInt8)) ∧ w = w' := by
 have h1 : ((sep.size : Int) == 0) = false := by rw [h]; rfl
 have h2 : ((sep.size : Int) == 1) = true := by rw [h]; rfl
 have h3 : (0 : Int) < (sep.size : Int) := by omega
 have HB := Aside0.mk (bt_at sep 0)
 have HS := Aside0.mk h
 clear h
 by_cases c1 : (sep.toList == s.toList) = true
 ·have hz : Aside0 (Lib.indexByte s.data.toList (bt sep 0).toNat.toUInt8 = 0) := by
   refine ⟨?_⟩
   have e1 : sep.toList = s.toList := by simpa using c1
   have e2 : sep.data.toList = s.data.toList := by rw [← Lib.toList_data, ← Lib.toList_data, e1]
   have e3 := HB.out (by rw [HS.out]; decide)
   rw [← e2, ← e3]
   have e4 : sep.data.toList = [sep[0]'(by rw [HS.out]; decide)] := by
    have h5 : sep.data.toList.length = 1 := by rw [data_length]; exact HS.out
    rcases hq : sep.data.toList with _ | ⟨x, _ | ⟨y, l⟩⟩
    ·rw [hq] at h5; cases h5
    ·have : sep[0]'(by rw [HS.out]; decide) = sep.data.toList[0]'(by rw [h5]; decide) := by simp; rfl
     rw [this]
     simp [hq]
    ·rw [hq] at h5; simp at h5
   rw [e4]
   simp [Lib.indexByte]
  go_enter Try.func99, Try.ntmps99
  go_wp2_with fail
  go_ret
  exact ⟨by rw [hz.out]; rfl, rfl⟩
 ·have c2 : (sep.toList == s.toList) = false := by simpa using c1
  clear c1
  go_enter Try.func99, Try.ntmps99
  go_wp2_with (go_at_call 100; refine (stringslite_IndexByte.one _ _ _).mono ?_; rintro e w' ⟨rfl, rfl⟩)
  go_ret
  exact ⟨by rw [← HB.out (by rw [HS.out]; decide)]; simp, rfl⟩
set_option maxHeartbeats 1000000 in
set_option maxRecDepth 100000 in
theorem stringslite_Cut.one (s sep : ByteArray) (h : sep.size = 1) (hs : s.size ≤ 140737488355328) (w : World) :
  Calls Try.prog 97 #[.string s, .string sep] w fun e w' => e = .returned (.tuple #[.string (cutAt s (bt sep 0).toNat.toUInt8).1, .string (cutAt s (bt sep 0).toNat.toUInt8).2.1, .bool (cutAt s (bt sep 0).toNat.toUInt8).2.2]) ∧ Drawn0 w w' := by
 have hge := Lib.indexByte_ge s.data.toList (bt sep 0).toNat.toUInt8
 unfold cutAt
 by_cases c1 : 0 ≤ Lib.indexByte s.data.toList (bt sep 0).toNat.toUInt8
 ·obtain ⟨i, hi⟩ := Int.eq_ofNat_of_zero_le c1
  have hlt : i < s.size := by
   have h1 := (Lib.indexByte_some hi).1
   have h2 := (List.getElem?_eq_some_iff.1 h1).1
   rwa [data_length] at h2
  rw [if_pos c1, hi]
  simp only [Int.toNat_natCast]
  have c2 : (0 : Int) ≤ ↑i := by omega
  have c3 : (↑i : Int) ≤ ↑s.size := by omega
  have c4 : (0 : Int) ≤ ↑i + ↑sep.size := by omega
  have c5 : (↑i + ↑sep.size : Int) ≤ ↑s.size := by omega
  have hcon := fun w => stringslite_Index.one s sep h w
  rw [hi] at hcon
  have HC := Aside0.mk hcon
  have HS := Aside0.mk h
  clear hcon hi hge c1 h
  go_enter Try.func97, Try.ntmps97
  go_wp2_with (go_at_call 99; refine (HC.out _).mono ?_; rintro e w' ⟨rfl, rfl⟩)
  go_region
  go_wp2
  go_ret3
  exact ⟨by rw [← HS.out]; rfl, ⟨1, rfl⟩⟩
 ·have hi : Lib.indexByte s.data.toList (bt sep 0).toNat.toUInt8 = -1 := by omega
  rw [if_neg c1]
  have hcon := fun w => stringslite_Index.one s sep h w
  rw [hi] at hcon
  have HC := Aside0.mk hcon
  clear hcon hi hge c1 h
  go_enter Try.func97, Try.ntmps97
  go_wp2_with (go_at_call 99; refine (HC.out _).mono ?_; rintro e w' ⟨rfl, rfl⟩)
  go_ret3
  exact ⟨rfl, ⟨0, rfl⟩⟩
set_option maxHeartbeats 1000000 in
set_option maxRecDepth 100000 in
theorem strings_Cut.calls (a0 : ByteArray) (a1 : ByteArray) (r1 : ByteArray) (r2 : ByteArray) (r3 : Bool) (w : World) (h : strings_Cut.f a0 a1 = some (r1, r2, r3)) :
  Calls Try.prog 87 #[.string a0, .string a1] w fun e w' => e = .returned (.tuple #[.string r1, .string r2, .bool r3]) ∧ Drawn0 w w' := by
 unfold strings_Cut.f at h
 by_cases hc : a1.size = 1 ∧ a0.size ≤ 140737488355328
 ·rw [if_pos hc] at h
  have hcon := fun w => stringslite_Cut.one a0 a1 hc.1 hc.2 w
  rw [Option.some.inj h] at hcon
  have HC := Aside0.mk hcon
  clear hcon hc h
  go_enter Try.func87, Try.ntmps87
  go_wp2_with (go_at_call 97; refine (HC.out _).mono ?_; rintro e w' ⟨rfl, hd⟩)
  go_ret3
  exact ⟨rfl, hd⟩
 ·rw [if_neg hc] at h
  cases h

end Go.Proofs.Ytmlgfgmgolgjbaa.X
end

/-! ## PathOrder -/
section
namespace Go.Proofs.Ytmlgfgmgolgjbaa.X
open Go.RowKit Go.Proofs.YtmlgfgmgolgjbaaW.PrintWords Go.Proofs.YtmlgfgmgolgjbaaW.PrintLast Go.Proofs.YtmlgfgmgolgjbaaW.PrintMore
attribute [local go_sem] max2_int min2_int max_two min_two max_three min_three max_four min_four   -- for this text's walks alone
set_option linter.unusedVariables false
set_option linter.unusedSimpArgs false

attribute [local go_sem] str_gtr fld_fault0 fld_fault1
/-! ### path_order: function 67 -/
mutual
def path_order.j0 : Nat → ByteArray → ByteArray → Bool → Bool → Bool → Option (Int)
 | 0, _, _, _, _, _ => none
 | k + 1, x0, x1, x6, x8, x28 => if x28 = true then ((path_order.f k x0 x1).bind fun t115 => (some t115)) else (if x6 = true then (some 1) else (if x8 = true then (some (-1)) else (some 0)))
def path_order.f : Nat → ByteArray → ByteArray → Option (Int)
 | 0, _, _ => none
 | k + 1, a0, a1 => (strings_Cut.f a0 (⟨#[47]⟩ : ByteArray)).bind fun bt109 => ((strings_Cut.f a1 (⟨#[47]⟩ : ByteArray)).bind fun bt112 => (if bt109.1.toList = bt112.1.toList then (if bt109.2.2 = true then (path_order.j0 k bt109.2.1 bt112.2.1 bt109.2.2 bt112.2.2 bt112.2.2) else (path_order.j0 k bt109.2.1 bt112.2.1 bt109.2.2 bt112.2.2 false)) else ((cmp_Compare_string.f bt109.1 bt112.1).bind fun t116 => (some t116))))
end
theorem path_order.mono_l : ∀ k, (∀ y0 y1, LeO (path_order.f k y0 y1) (path_order.f (k + 1) y0 y1)) ∧ (∀ y0 y1 y2 y3 y4, LeO (path_order.j0 k y0 y1 y2 y3 y4) (path_order.j0 (k + 1) y0 y1 y2 y3 y4))
 | 0 => ⟨fun _ _ r h => by simp [path_order.f] at h, fun _ _ _ _ _ r h => by simp [path_order.j0] at h⟩
 | k + 1 => by
  obtain ⟨ih0, ih1⟩ := path_order.mono_l k
  refine ⟨?_, ?_⟩
  ·intro y0 y1
   unfold path_order.f
   repeat' first
   | (with_reducible exact ih0 _ _)
   | (with_reducible exact ih1 _ _ _ _ _)
   | (with_reducible exact LeO.refl _)
   | (with_reducible exact LeO.none _)
   | (with_reducible refine LeO.ite ?_ ?_)
   | (with_reducible refine LeO.bind ?_ (fun _ => ?_))
   | exact ih0 _ _
   | exact ih1 _ _ _ _ _
   | exact LeO.none _
   | refine LeO.ite ?_ ?_
   | refine LeO.bind ?_ (fun _ => ?_)
  ·intro y0 y1 y2 y3 y4
   unfold path_order.j0
   repeat' first
   | (with_reducible exact ih0 _ _)
   | (with_reducible exact ih1 _ _ _ _ _)
   | (with_reducible exact LeO.refl _)
   | (with_reducible exact LeO.none _)
   | (with_reducible refine LeO.ite ?_ ?_)
   | (with_reducible refine LeO.bind ?_ (fun _ => ?_))
   | exact ih0 _ _
   | exact ih1 _ _ _ _ _
   | exact LeO.none _
   | refine LeO.ite ?_ ?_
   | refine LeO.bind ?_ (fun _ => ?_)
theorem path_order.mono : ∀ a0 a1 k, LeO (path_order.f k a0 a1) (path_order.f (k + 1) a0 a1) := by
 intro a0 a1 k
 obtain ⟨ih0, ih1⟩ := path_order.mono_l k
 exact ih0 a0 a1
set_option maxHeartbeats 8000000 in
set_option maxRecDepth 100000 in
theorem path_order.calls (k : Nat) : ∀ (a0 : ByteArray) (a1 : ByteArray) (r : Int) (w : World) (h : path_order.f k a0 a1 = some r),
  Calls Try.prog 67 #[.string a0, .string a1] w fun e w' => e = .returned (.int .i64 r) ∧ Drawn0 w w' := by
 induction k using Nat.strongRecOn with
 | _ k ih =>
 intro a0 a1 r w h
 cases k with
 | zero => exact absurd h (by simp [path_order.f])
 | succ k =>
 simp only [path_order.f] at h
 have H : ((strings_Cut.f a0 (⟨#[47]⟩ : ByteArray)).bind fun bt109 => ((strings_Cut.f a1 (⟨#[47]⟩ : ByteArray)).bind fun bt112 => (if bt109.1.toList = bt112.1.toList then (if bt109.2.2 = true then (path_order.j0 k bt109.2.1 bt112.2.1 bt109.2.2 bt112.2.2 bt112.2.2) else (path_order.j0 k bt109.2.1 bt112.2.1 bt109.2.2 bt112.2.2 false)) else ((cmp_Compare_string.f bt109.1 bt112.1).bind fun t116 => (some t116))))) = some r := h
 clear h
 replace H := Option.bind_eq_some_iff.mp H
 obtain ⟨⟨t109, t110, t111⟩, A30, H⟩ := H
 replace H : ((strings_Cut.f a1 (⟨#[47]⟩ : ByteArray)).bind fun bt112 => (if t109.toList = bt112.1.toList then (if t111 = true then (path_order.j0 k t110 bt112.2.1 t111 bt112.2.2 bt112.2.2) else (path_order.j0 k t110 bt112.2.1 t111 bt112.2.2 false)) else ((cmp_Compare_string.f t109 bt112.1).bind fun t116 => (some t116)))) = some r := H
 have A3 := Aside0.mk A30
 clear A30
 replace H := Option.bind_eq_some_iff.mp H
 obtain ⟨⟨t112, t113, t114⟩, A40, H⟩ := H
 replace H : (if t109.toList = t112.toList then (if t111 = true then (path_order.j0 k t110 t113 t111 t114 t114) else (path_order.j0 k t110 t113 t111 t114 false)) else ((cmp_Compare_string.f t109 t112).bind fun t116 => (some t116))) = some r := H
 have A4 := Aside0.mk A40
 clear A40
 by_cases c5 : t109.toList = t112.toList
 ·rw [if_pos c5] at H
  have c5b0 : (t109.toList == t112.toList) = true := beq_iff_eq.mpr c5
  have c5b1 : (t109.toList != t112.toList) = false := bne_eq_false_iff_eq.mpr c5
  clear c5
  have HC6 := Aside0.mk H
  clear H
  go_enter Try.func67, Try.ntmps67
  go_upto_region 5 with (first | ((with_reducible refine gate_callee (f := 87) rfl ?_); refine goesL_ (some 11) rfl rfl Try.func87 (by kernel_rfl) rfl #[.string a0, .string (⟨#[47]⟩ : ByteArray)] rfl (by (try simp only [List.map_toArray, List.map_cons, List.map_nil]); first | done | rfl | (simp only [List.length_drop, List.length_take]; rfl)) ?_; (with_reducible refine (strings_Cut.calls a0 (⟨#[47]⟩ : ByteArray) t109 t110 t111 _ A3.out).mono ?_); rintro e w' ⟨rfl, ⟨nd, rfl⟩⟩; refine ⟨_, rfl, ?_⟩) | ((with_reducible refine gate_callee (f := 87) rfl ?_); refine goesL_ (some 17) rfl rfl Try.func87 (by kernel_rfl) rfl #[.string a1, .string (⟨#[47]⟩ : ByteArray)] rfl (by (try simp only [List.map_toArray, List.map_cons, List.map_nil]); first | done | rfl | (simp only [List.length_drop, List.length_take]; rfl)) ?_; (with_reducible refine (strings_Cut.calls a1 (⟨#[47]⟩ : ByteArray) t112 t113 t114 _ A4.out).mono ?_); rintro e w' ⟨rfl, ⟨nd, rfl⟩⟩; refine ⟨_, rfl, ?_⟩))
  (try simp only [Act.put, List.setIfInBounds_toArray, List.set_cons_zero, List.set_cons_succ])
  go_cut [28] (fun v28 wc => ∃ (kq : Nat) (x28_5 : Bool), v28 = .bool x28_5 ∧ Aside0 (path_order.j0 kq t110 t113 t111 t114 x28_5 = some r) ∧ Aside0 (kq ≤ k) ∧ Drawn0 w wc)
  case first =>
   have H := HC6.out
   clear HC6
   by_cases c7 : t111 = true
   ·subst c7
    have H1 : (path_order.j0 k t110 t113 true t114 t114) = some r := by rw [if_pos rfl] at H; exact H
    clear H
    have H := H1
    clear H1
    have H' := Aside0.mk H
    clear H
    go_wp2
    go_meet
    case rel => exact ⟨_, (t114), (by first | rfl | (simp; done) | (simp [*]; done)), H', ⟨by first | omega | exact Nat.le_refl _⟩, by repeat (first | exact Drawn0.refl _ | apply Drawn0.step)⟩
   ·replace c7 := Bool.eq_false_iff.mpr c7
    subst c7
    have H1 : (path_order.j0 k t110 t113 false t114 false) = some r := by rw [if_neg (show ¬ (false = true) by decide)] at H; exact H
    clear H
    have H := H1
    clear H1
    have H' := Aside0.mk H
    clear H
    go_wp2
    go_meet
    case rel => exact ⟨_, (false), (by first | rfl | (simp; done) | (simp [*]; done)), H', ⟨by first | omega | exact Nat.le_refl _⟩, by repeat (first | exact Drawn0.refl _ | apply Drawn0.step)⟩
  case rest =>
   clear HC6
   try clear p2
   try clear c5
   try clear c5b0
   try clear c5b1
   try clear c6
   try clear c7
   obtain ⟨kq, x28_5, rfl, HA, HJ5, ⟨mc5, rfl⟩⟩ := hcut
   cases kq with
   | zero => exact absurd HA.out (by simp [path_order.j0])
   | succ kj5 =>
    have H := HA.out
    clear HA
    simp only [path_order.j0] at H
    by_cases c8 : x28_5 = true
    ·subst c8
     have H1 : ((path_order.f kj5 t110 t113).bind fun t115 => (some t115)) = some r := by rw [if_pos rfl] at H; exact H
     clear H
     have H := H1
     clear H1
     replace H := Option.bind_eq_some_iff.mp H
     obtain ⟨t115, A90, H⟩ := H
     replace H : (some t115) = some r := H
     have A9 := Aside0.mk A90
     clear A90
     obtain rfl := Option.some.inj H
     go_wp2_with (first | ((with_reducible refine gate_callee (f := 67) rfl ?_); refine goesL_ (some 35) rfl rfl Try.func67 (by kernel_rfl) rfl #[.string t110, .string t113] rfl (by (try simp only [List.map_toArray, List.map_cons, List.map_nil]); first | done | rfl | (simp only [List.length_drop, List.length_take]; rfl)) ?_; (with_reducible refine (ih kj5 (by have := HJ5.out; omega) t110 t113 t115 _ A9.out).mono ?_); rintro e w' ⟨rfl, ⟨nd, rfl⟩⟩; refine ⟨_, rfl, ?_⟩))
     go_ret
     exact ⟨by first | rfl | (simp; done) | (simp [*]; done), by repeat (first | exact Drawn0.refl _ | apply Drawn0.step)⟩
    ·replace c8 := Bool.eq_false_iff.mpr c8
     subst c8
     have H1 : (if t111 = true then (some 1) else (if t114 = true then (some (-1)) else (some 0))) = some r := by rw [if_neg (show ¬ (false = true) by decide)] at H; exact H
     clear H
     have H := H1
     clear H1
     by_cases c10 : t111 = true
     ·subst c10
      have H1 : (some 1) = some r := by rw [if_pos rfl] at H; exact H
      clear H
      have H := H1
      clear H1
      obtain rfl := Option.some.inj H
      go_wp2
      go_ret
      exact ⟨by first | rfl | (simp; done) | (simp [*]; done), by repeat (first | exact Drawn0.refl _ | apply Drawn0.step)⟩
     ·replace c10 := Bool.eq_false_iff.mpr c10
      subst c10
      have H1 : (if t114 = true then (some (-1)) else (some 0)) = some r := by rw [if_neg (show ¬ (false = true) by decide)] at H; exact H
      clear H
      have H := H1
      clear H1
      by_cases c11 : t114 = true
      ·subst c11
       have H1 : (some (-1)) = some r := by rw [if_pos rfl] at H; exact H
       clear H
       have H := H1
       clear H1
       obtain rfl := Option.some.inj H
       go_wp2
       go_ret
       exact ⟨by first | rfl | (simp; done) | (simp [*]; done), by repeat (first | exact Drawn0.refl _ | apply Drawn0.step)⟩
      ·replace c11 := Bool.eq_false_iff.mpr c11
       subst c11
       have H1 : (some 0) = some r := by rw [if_neg (show ¬ (false = true) by decide)] at H; exact H
       clear H
       have H := H1
       clear H1
       obtain rfl := Option.some.inj H
       go_wp2
       go_ret
       exact ⟨by first | rfl | (simp; done) | (simp [*]; done), by repeat (first | exact Drawn0.refl _ | apply Drawn0.step)⟩
 ·rw [if_neg c5] at H
  have c5b0 : (t109.toList == t112.toList) = false := beq_eq_false_iff_ne.mpr c5
  have c5b1 : (t109.toList != t112.toList) = true := bne_iff_ne.mpr c5
  replace H := Option.bind_eq_some_iff.mp H
  obtain ⟨t116, A120, H⟩ := H
  replace H : (some t116) = some r := H
  have A12 := Aside0.mk A120
  clear A120
  obtain rfl := Option.some.inj H
  go_enter Try.func67, Try.ntmps67
  go_wp2_with (first | ((with_reducible refine gate_callee (f := 87) rfl ?_); refine goesL_ (some 11) rfl rfl Try.func87 (by kernel_rfl) rfl #[.string a0, .string (⟨#[47]⟩ : ByteArray)] rfl (by (try simp only [List.map_toArray, List.map_cons, List.map_nil]); first | done | rfl | (simp only [List.length_drop, List.length_take]; rfl)) ?_; (with_reducible refine (strings_Cut.calls a0 (⟨#[47]⟩ : ByteArray) t109 t110 t111 _ A3.out).mono ?_); rintro e w' ⟨rfl, ⟨nd, rfl⟩⟩; refine ⟨_, rfl, ?_⟩) | ((with_reducible refine gate_callee (f := 87) rfl ?_); refine goesL_ (some 17) rfl rfl Try.func87 (by kernel_rfl) rfl #[.string a1, .string (⟨#[47]⟩ : ByteArray)] rfl (by (try simp only [List.map_toArray, List.map_cons, List.map_nil]); first | done | rfl | (simp only [List.length_drop, List.length_take]; rfl)) ?_; (with_reducible refine (strings_Cut.calls a1 (⟨#[47]⟩ : ByteArray) t112 t113 t114 _ A4.out).mono ?_); rintro e w' ⟨rfl, ⟨nd, rfl⟩⟩; refine ⟨_, rfl, ?_⟩) | ((with_reducible refine gate_callee (f := 68) rfl ?_); refine goesL_ (some 27) rfl rfl Try.func68 (by kernel_rfl) rfl #[.string t109, .string t112] rfl (by (try simp only [List.map_toArray, List.map_cons, List.map_nil]); first | done | rfl | (simp only [List.length_drop, List.length_take]; rfl)) ?_; (with_reducible refine (cmp_Compare_string.calls t109 t112 t116 _ A12.out).mono ?_); rintro e w' ⟨rfl, ⟨nd, rfl⟩⟩; refine ⟨_, rfl, ?_⟩))
  go_ret
  exact ⟨by first | rfl | (simp; done) | (simp [*]; done), by repeat (first | exact Drawn0.refl _ | apply Drawn0.step)⟩

end Go.Proofs.Ytmlgfgmgolgjbaa.X
end

/-! ## PathStep -/
section
namespace Go.Proofs.Ytmlgfgmgolgjbaa.X
open Go.RowKit Go.Proofs.YtmlgfgmgolgjbaaW.PrintWords Go.Proofs.YtmlgfgmgolgjbaaW.PrintLast Go.Proofs.YtmlgfgmgolgjbaaW.PrintMore
attribute [local go_sem] max2_int min2_int max_two min_two max_three min_three max_four min_four   -- for this text's walks alone
set_option linter.unusedVariables false
set_option linter.unusedSimpArgs false

attribute [local go_sem] str_gtr fld_fault0 fld_fault1
/-! ### path_step: function 86 -/
mutual
def path_step.j0 : Nat → ByteArray → Bool → Option (Int × Int)
 | 0, _, _ => none
 | k + 1, x0, x14 => if x14 = true then (some (2, 0)) else (path_step.l0 k x0 (x0.size : Int) 0)
def path_step.l0 : Nat → ByteArray → Int → Int → Option (Int × Int)
 | 0, _, _, _ => none
 | k + 1, x0, x16, x17 => if x17 < x16 then (if 0 ≤ x17 then (if x17 < (x0.size : Int) then (if (bt x0 x17) < 33 then (some (4, x17)) else (if (bt x0 x17) > 126 then (some (4, x17)) else (if (bt x0 x17) = 47 then (some (4, x17)) else (path_step.l0 k x0 x16 (wrap64 (x17 + 1)))))) else (none)) else (none)) else (if (x0.size : Int) > 60 then (some (3, 60)) else (some (0, 0)))
end
def path_step.f (k : Nat) (a0 : ByteArray) : Option (Int × Int) := if a0.toList = ([] : List UInt8) then (path_step.j0 k a0 true) else (if a0.toList = ([46] : List UInt8) then (path_step.j0 k a0 true) else (path_step.j0 k a0 (a0.toList == ([46, 46] : List UInt8))))
theorem path_step.mono_l : ∀ k, (∀ y0 y1, LeO (path_step.j0 k y0 y1) (path_step.j0 (k + 1) y0 y1)) ∧ (∀ y0 y1 y2, LeO (path_step.l0 k y0 y1 y2) (path_step.l0 (k + 1) y0 y1 y2))
 | 0 => ⟨fun _ _ r h => by simp [path_step.j0] at h, fun _ _ _ r h => by simp [path_step.l0] at h⟩
 | k + 1 => by
  obtain ⟨ih0, ih1⟩ := path_step.mono_l k
  refine ⟨?_, ?_⟩
  ·intro y0 y1
   unfold path_step.j0
   repeat' first
   | (with_reducible exact ih0 _ _)
   | (with_reducible exact ih1 _ _ _)
   | (with_reducible exact LeO.refl _)
   | (with_reducible exact LeO.none _)
   | (with_reducible refine LeO.ite ?_ ?_)
   | (with_reducible refine LeO.bind ?_ (fun _ => ?_))
   | exact ih0 _ _
   | exact ih1 _ _ _
   | exact LeO.none _
   | refine LeO.ite ?_ ?_
   | refine LeO.bind ?_ (fun _ => ?_)
  ·intro y0 y1 y2
   unfold path_step.l0
   repeat' first
   | (with_reducible exact ih0 _ _)
   | (with_reducible exact ih1 _ _ _)
   | (with_reducible exact LeO.refl _)
   | (with_reducible exact LeO.none _)
   | (with_reducible refine LeO.ite ?_ ?_)
   | (with_reducible refine LeO.bind ?_ (fun _ => ?_))
   | exact ih0 _ _
   | exact ih1 _ _ _
   | exact LeO.none _
   | refine LeO.ite ?_ ?_
   | refine LeO.bind ?_ (fun _ => ?_)
theorem path_step.mono : ∀ a0 k, LeO (path_step.f k a0) (path_step.f (k + 1) a0) := by
 intro a0 k
 obtain ⟨ih0, ih1⟩ := path_step.mono_l k
 unfold path_step.f
 repeat' first
   | (with_reducible exact ih0 _ _)
   | (with_reducible exact ih1 _ _ _)
   | (with_reducible exact LeO.refl _)
   | (with_reducible exact LeO.none _)
   | (with_reducible refine LeO.ite ?_ ?_)
   | (with_reducible refine LeO.bind ?_ (fun _ => ?_))
   | exact ih0 _ _
   | exact ih1 _ _ _
   | exact LeO.none _
   | refine LeO.ite ?_ ?_
   | refine LeO.bind ?_ (fun _ => ?_)
set_option maxHeartbeats 8000000 in
set_option maxRecDepth 100000 in
theorem path_step.calls (k : Nat) (a0 : ByteArray) (r1 : Int) (r2 : Int) (w : World) (h : path_step.f k a0 = some (r1, r2)) :
  Calls Try.prog 86 #[.string a0] w fun e w' => e = .returned (.tuple #[.int .i64 r1, .int .i64 r2]) ∧ Drawn0 w w' := by
 have H : (if a0.toList = ([] : List UInt8) then (path_step.j0 k a0 true) else (if a0.toList = ([46] : List UInt8) then (path_step.j0 k a0 true) else (path_step.j0 k a0 (a0.toList == ([46, 46] : List UInt8))))) = some (r1, r2) := h
 clear h
 have HC2 := Aside0.mk H
 clear H
 go_enter Try.func86, Try.ntmps86
 go_upto_region 1 with (fail)
 go_cut [14] (fun v14 wc => ∃ (kq : Nat) (x14_1 : Bool), v14 = .bool x14_1 ∧ Aside0 (path_step.j0 kq a0 x14_1 = some (r1, r2)) ∧ Aside0 (kq ≤ k) ∧ Drawn0 w wc)
 case first =>
  have H := HC2.out
  clear HC2
  by_cases c3 : a0.toList = ([] : List UInt8)
  ·rw [if_pos c3] at H
   have c3b0 : (a0.toList == ([] : List UInt8)) = true := beq_iff_eq.mpr c3
   have c3b1 : (a0.toList != ([] : List UInt8)) = false := bne_eq_false_iff_eq.mpr c3
   clear c3
   (first | rw [c3b0] | (simp only [i64_w, i32_w]; rw [c3b0]) | skip)
   have H' := Aside0.mk H
   clear H
   go_wp2
   go_meet
   case rel => exact ⟨_, (true), (by first | rfl | (simp; done) | (simp [*]; done)), H', ⟨by first | omega | exact Nat.le_refl _⟩, by repeat (first | exact Drawn0.refl _ | apply Drawn0.step)⟩
  ·rw [if_neg c3] at H
   have c3b0 : (a0.toList == ([] : List UInt8)) = false := beq_eq_false_iff_ne.mpr c3
   have c3b1 : (a0.toList != ([] : List UInt8)) = true := bne_iff_ne.mpr c3
   (first | rw [c3b0] | (simp only [i64_w, i32_w]; rw [c3b0]) | skip)
   by_cases c4 : a0.toList = ([46] : List UInt8)
   ·rw [if_pos c4] at H
    have c4b0 : (a0.toList == ([46] : List UInt8)) = true := beq_iff_eq.mpr c4
    have c4b1 : (a0.toList != ([46] : List UInt8)) = false := bne_eq_false_iff_eq.mpr c4
    clear c4
    have H' := Aside0.mk H
    clear H
    go_wp2
    go_meet
    case rel => exact ⟨_, (true), (by first | rfl | (simp; done) | (simp [*]; done)), H', ⟨by first | omega | exact Nat.le_refl _⟩, by repeat (first | exact Drawn0.refl _ | apply Drawn0.step)⟩
   ·rw [if_neg c4] at H
    have c4b0 : (a0.toList == ([46] : List UInt8)) = false := beq_eq_false_iff_ne.mpr c4
    have c4b1 : (a0.toList != ([46] : List UInt8)) = true := bne_iff_ne.mpr c4
    have H' := Aside0.mk H
    clear H
    go_wp2
    go_meet
    case rel => exact ⟨_, ((a0.toList == ([46, 46] : List UInt8))), (by first | rfl | (simp; done) | (simp [*]; done)), H', ⟨by first | omega | exact Nat.le_refl _⟩, by repeat (first | exact Drawn0.refl _ | apply Drawn0.step)⟩
 case rest =>
  clear HC2
  try clear p2
  try clear c3
  try clear c3b0
  try clear c3b1
  try clear c4
  try clear c4b0
  try clear c4b1
  obtain ⟨kq, x14_1, rfl, HA, HJ1, ⟨mc1, rfl⟩⟩ := hcut
  cases kq with
  | zero => exact absurd HA.out (by simp [path_step.j0])
  | succ kj1 =>
   have H := HA.out
   clear HA
   simp only [path_step.j0] at H
   by_cases c5 : x14_1 = true
   ·subst c5
    have H1 : (some (2, 0)) = some (r1, r2) := by rw [if_pos rfl] at H; exact H
    clear H
    have H := H1
    clear H1
    simp only [Option.some.injEq, Prod.mk.injEq] at H
    obtain ⟨rfl, rfl⟩ := H
    go_wp2
    go_ret2
    exact ⟨by first | rfl | (simp; done) | (simp [*]; done), by repeat (first | exact Drawn0.refl _ | apply Drawn0.step)⟩
   ·replace c5 := Bool.eq_false_iff.mpr c5
    subst c5
    have H1 : (path_step.l0 kj1 a0 (a0.size : Int) 0) = some (r1, r2) := by rw [if_neg (show ¬ (false = true) by decide)] at H; exact H
    clear H
    have H := H1
    clear H1
    have H' := Aside0.mk H
    clear H
    go_wp2
    go_loopg [17] kj1 (fun kq v17 w' => ∃ (x17_2 : Int), v17 = .int .i64 x17_2 ∧ Aside0 (path_step.l0 kq a0 (a0.size : Int) x17_2 = some (r1, r2)) ∧ Aside0 (kq ≤ kj1) ∧ Drawn0 w w')
    case atStart => exact ⟨(0), (by first | rfl | (simp; done) | (simp [*]; done)), H', ⟨Nat.le_refl _⟩, by repeat (first | exact Drawn0.refl _ | apply Drawn0.step)⟩
    case round =>
     clear H'
     try clear c1
     try clear p2
     try clear c3
     try clear c3b0
     try clear c3b1
     try clear c4
     try clear c4b0
     try clear c4b1
     try clear c5
     try clear p2
     obtain ⟨x17_2, rfl, HA, HK2, ⟨m2, rfl⟩⟩ := hrel
     cases gk with
     | zero => exact absurd HA.out (by simp [path_step.l0])
     | succ k2 =>
      have H := HA.out
      clear HA
      simp only [path_step.l0] at H
      by_cases c6 : x17_2 < (a0.size : Int)
      ·rw [if_pos c6] at H
       have c6b0 : decide (x17_2 < (a0.size : Int)) = true := decide_eq_true c6
       clear c6
       by_cases c7 : 0 ≤ x17_2
       ·rw [if_pos c7] at H
        have c7b0 : decide (0 ≤ x17_2) = true := decide_eq_true c7
        clear c7
        by_cases c8 : x17_2 < (a0.size : Int)
        ·rw [if_pos c8] at H
         have c8b0 : decide (x17_2 < (a0.size : Int)) = true := decide_eq_true c8
         clear c8
         by_cases c10 : (bt a0 x17_2) < 33
         ·rw [if_pos c10] at H
          have c10b0 : decide ((bt a0 x17_2) < 33) = true := decide_eq_true c10
          clear c10
          simp only [Option.some.injEq, Prod.mk.injEq] at H
          obtain ⟨rfl, rfl⟩ := H
          have p9 : 0 ≤ (x17_2 : Int) := of_decide_eq_true (by first | (with_reducible assumption) | assumption)
          have q9 : x17_2 < (a0.size : Int) := of_decide_eq_true (by first | (with_reducible assumption) | assumption)
          have hx9 := bt_at a0 x17_2
          replace p9 := eq_true p9
          replace q9 := eq_true q9
          go_wp2
          go_ret2
          exact ⟨by first | rfl | (simp; done) | (simp [*]; done), by repeat (first | exact Drawn0.refl _ | apply Drawn0.step)⟩
         ·rw [if_neg c10] at H
          have c10b0 : decide ((bt a0 x17_2) < 33) = false := decide_eq_false c10
          clear c10
          by_cases c12 : (bt a0 x17_2) > 126
          ·rw [if_pos c12] at H
           have c12b0 : decide (126 < (bt a0 x17_2)) = true := decide_eq_true c12
           clear c12
           simp only [Option.some.injEq, Prod.mk.injEq] at H
           obtain ⟨rfl, rfl⟩ := H
           have p9 : 0 ≤ (x17_2 : Int) := of_decide_eq_true (by first | (with_reducible assumption) | assumption)
           have q9 : x17_2 < (a0.size : Int) := of_decide_eq_true (by first | (with_reducible assumption) | assumption)
           have hx9 := bt_at a0 x17_2
           replace p9 := eq_true p9
           replace q9 := eq_true q9
           have p11 : 0 ≤ (x17_2 : Int) := of_decide_eq_true (by first | (with_reducible assumption) | assumption)
           have q11 : x17_2 < (a0.size : Int) := of_decide_eq_true (by first | (with_reducible assumption) | assumption)
           have hx11 := bt_at a0 x17_2
           replace p11 := eq_true p11
           replace q11 := eq_true q11
           go_wp2
           go_ret2
           exact ⟨by first | rfl | (simp; done) | (simp [*]; done), by repeat (first | exact Drawn0.refl _ | apply Drawn0.step)⟩
          ·rw [if_neg c12] at H
           have c12b0 : decide (126 < (bt a0 x17_2)) = false := decide_eq_false c12
           clear c12
           by_cases c14 : (bt a0 x17_2) = 47
           ·rw [if_pos c14] at H
            have c14b0 : ((bt a0 x17_2) == 47) = true := beq_iff_eq.mpr c14
            have c14b1 : ((bt a0 x17_2) != 47) = false := bne_eq_false_iff_eq.mpr c14
            clear c14
            simp only [Option.some.injEq, Prod.mk.injEq] at H
            obtain ⟨rfl, rfl⟩ := H
            have p9 : 0 ≤ (x17_2 : Int) := of_decide_eq_true (by first | (with_reducible assumption) | assumption)
            have q9 : x17_2 < (a0.size : Int) := of_decide_eq_true (by first | (with_reducible assumption) | assumption)
            have hx9 := bt_at a0 x17_2
            replace p9 := eq_true p9
            replace q9 := eq_true q9
            have p11 : 0 ≤ (x17_2 : Int) := of_decide_eq_true (by first | (with_reducible assumption) | assumption)
            have q11 : x17_2 < (a0.size : Int) := of_decide_eq_true (by first | (with_reducible assumption) | assumption)
            have hx11 := bt_at a0 x17_2
            replace p11 := eq_true p11
            replace q11 := eq_true q11
            have p13 : 0 ≤ (x17_2 : Int) := of_decide_eq_true (by first | (with_reducible assumption) | assumption)
            have q13 : x17_2 < (a0.size : Int) := of_decide_eq_true (by first | (with_reducible assumption) | assumption)
            have hx13 := bt_at a0 x17_2
            replace p13 := eq_true p13
            replace q13 := eq_true q13
            go_wp2
            go_ret2
            exact ⟨by first | rfl | (simp; done) | (simp [*]; done), by repeat (first | exact Drawn0.refl _ | apply Drawn0.step)⟩
           ·rw [if_neg c14] at H
            have c14b0 : ((bt a0 x17_2) == 47) = false := beq_eq_false_iff_ne.mpr c14
            have c14b1 : ((bt a0 x17_2) != 47) = true := bne_iff_ne.mpr c14
            have H' := Aside0.mk H
            clear H
            have p9 : 0 ≤ (x17_2 : Int) := of_decide_eq_true (by first | (with_reducible assumption) | assumption)
            have q9 : x17_2 < (a0.size : Int) := of_decide_eq_true (by first | (with_reducible assumption) | assumption)
            have hx9 := bt_at a0 x17_2
            replace p9 := eq_true p9
            replace q9 := eq_true q9
            have p11 : 0 ≤ (x17_2 : Int) := of_decide_eq_true (by first | (with_reducible assumption) | assumption)
            have q11 : x17_2 < (a0.size : Int) := of_decide_eq_true (by first | (with_reducible assumption) | assumption)
            have hx11 := bt_at a0 x17_2
            replace p11 := eq_true p11
            replace q11 := eq_true q11
            have p13 : 0 ≤ (x17_2 : Int) := of_decide_eq_true (by first | (with_reducible assumption) | assumption)
            have q13 : x17_2 < (a0.size : Int) := of_decide_eq_true (by first | (with_reducible assumption) | assumption)
            have hx13 := bt_at a0 x17_2
            replace p13 := eq_true p13
            replace q13 := eq_true q13
            go_wp2
            go_roundg k2
            case measure => have := HJ1.out; have := HK2.out; omega
            case rel => exact ⟨(wrap64 (x17_2 + 1)), (by first | rfl | (simp; done) | (simp [*]; done)), H', ⟨by have := HJ1.out; have := HK2.out; omega⟩, by repeat (first | exact Drawn0.refl _ | apply Drawn0.step)⟩
        ·rw [if_neg c8] at H
         exact absurd H (by simp)
       ·rw [if_neg c7] at H
        exact absurd H (by simp)
      ·rw [if_neg c6] at H
       have c6b0 : decide (x17_2 < (a0.size : Int)) = false := decide_eq_false c6
       clear c6
       by_cases c15 : (a0.size : Int) > 60
       ·rw [if_pos c15] at H
        have c15b0 : decide (60 < (a0.size : Int)) = true := decide_eq_true c15
        have c15b1 : decide (60 < a0.size) = true := decide_eq_true (by omega)
        clear c15
        simp only [Option.some.injEq, Prod.mk.injEq] at H
        obtain ⟨rfl, rfl⟩ := H
        go_wp2
        go_ret2
        exact ⟨by first | rfl | (simp; done) | (simp [*]; done), by repeat (first | exact Drawn0.refl _ | apply Drawn0.step)⟩
       ·rw [if_neg c15] at H
        have c15b0 : decide (60 < (a0.size : Int)) = false := decide_eq_false c15
        have c15b1 : decide (60 < a0.size) = false := decide_eq_false (by omega)
        clear c15
        simp only [Option.some.injEq, Prod.mk.injEq] at H
        obtain ⟨rfl, rfl⟩ := H
        go_wp2
        go_ret2
        exact ⟨by first | rfl | (simp; done) | (simp [*]; done), by repeat (first | exact Drawn0.refl _ | apply Drawn0.step)⟩

end Go.Proofs.Ytmlgfgmgolgjbaa.X
end

/-! ## PathCheck -/
section
namespace Go.Proofs.Ytmlgfgmgolgjbaa.X
open Go.RowKit Go.Proofs.YtmlgfgmgolgjbaaW.PrintWords Go.Proofs.YtmlgfgmgolgjbaaW.PrintLast Go.Proofs.YtmlgfgmgolgjbaaW.PrintMore
attribute [local go_sem] max2_int min2_int max_two min_two max_three min_three max_four min_four   -- for this text's walks alone
set_option linter.unusedVariables false
set_option linter.unusedSimpArgs false

attribute [local go_sem] str_gtr fld_fault0 fld_fault1
/-! ### path_Check: function 65 -/
attribute [local go_sem] Oper.semAt_some
theorem cutAt_less (s : ByteArray) (c : UInt8) (h : (cutAt s c).2.2 = true) : (cutAt s c).1.size + 1 + (cutAt s c).2.1.size = s.size := by
 have hge := Lib.indexByte_ge s.data.toList c
 unfold cutAt at h ⊢
 by_cases c1 : 0 ≤ Lib.indexByte s.data.toList c
 ·obtain ⟨i, hi⟩ := Int.eq_ofNat_of_zero_le c1
  have hlt : i < s.size := by
   have h2 := (List.getElem?_eq_some_iff.1 (Lib.indexByte_some hi).1).1
   rwa [data_length] at h2
  rw [if_pos c1, hi]
  simp only [Int.toNat_natCast, ByteArray.size_extract]
  omega
 ·rw [if_neg c1] at h
  cases h
theorem cutAt_part (s : ByteArray) (c : UInt8) : (cutAt s c).1.size ≤ s.size := by
 unfold cutAt
 split
 ·simp only [ByteArray.size_extract]; omega
 ·exact Nat.le_refl _
/-- The parts of a path one behind the other: n went before, at byte a s begins. -/
def path_Check.l0 : Nat → ByteArray → Nat → Nat → Option (Int × Int)
 | 0, _, _, _ => none
 | k + 1, s, n, a => if 20 < n + 1 then some (3, (a : Int)) else (path_step.f k (cutAt s 47).1).bind fun t =>
   if t.1 = 0 then (if (cutAt s 47).2.2 = true then path_Check.l0 k (cutAt s 47).2.1 (n + 1) (a + (cutAt s 47).1.size + 1) else some (0, 0)) else some (t.1, wrap64 ((a : Int) + t.2))
def path_Check.f (k : Nat) (a0 : ByteArray) : Option (Int × Int) :=
 if a0.toList = [] then some (2, 0) else if 200 < (a0.size : Int) then some (3, 200) else path_Check.l0 k a0 0 0
theorem path_Check.mono_l : ∀ k s n a, LeO (path_Check.l0 k s n a) (path_Check.l0 (k + 1) s n a)
 | 0, _, _, _ => LeO.none _
 | k + 1, s, n, a => by
  unfold path_Check.l0
  refine LeO.ite (LeO.refl _) (LeO.bind (path_step.mono _ _) fun t => LeO.ite (LeO.ite (path_Check.mono_l k _ _ _) (LeO.refl _)) (LeO.refl _))
theorem path_Check.mono : ∀ a0 k, LeO (path_Check.f k a0) (path_Check.f (k + 1) a0) := by
 intro a0 k
 unfold path_Check.f
 exact LeO.ite (LeO.refl _) (LeO.ite (LeO.refl _) (path_Check.mono_l k _ _ _))
/-- What a round must keep: the iterator's own variable. -/
def KeepsAt (B : Nat) (W W' : World) : Prop := W'.cell? ⟨B, 0, none⟩ = W.cell? ⟨B, 0, none⟩ ∧ W'.frozen? ⟨B, 0, none⟩ = W.frozen? ⟨B, 0, none⟩
def partOf (s : ByteArray) : ByteArray := (cutAt s 47).1
def restOf (s : ByteArray) : ByteArray := (cutAt s 47).2.1
def moreOf (s : ByteArray) : Bool := (cutAt s 47).2.2
/-- How a round may end: it goes on, and there is more; there is none; it says 'no more'. -/
def RoundEnds (B : Nat) (I : ByteArray → Nat → World → Prop) (Jd Jx : World → Prop) (s : ByteArray) (a : Nat) (W : World) (e : Ending) (W' : World) : Prop :=
 KeepsAt B W W' ∧ ((e = .returned (.bool true) ∧ (moreOf s = true → I (restOf s) (a + (partOf s).size + 1) W') ∧ (moreOf s = false → Jd W')) ∨ (e = .returned (.bool false) ∧ Jx W'))
set_option maxHeartbeats 2000000 in
set_option maxRecDepth 100000 in
theorem path_steps1.in_ (n l B : Nat) (I : ByteArray → Nat → World → Prop) (Jd Jx : World → Prop)
  (hI1 : ∀ s a (W : World) q, I s a W → I s a (W.drewN q)) (hI2 : ∀ s a (W : World) v, I s a W → I s a (W.setCell ⟨B, 0, none⟩ v))
  (hY : ∀ s a W, I s a W → s.size + a ≤ 200 → YieldAt Fence.wide (n - 1) Try.prog l #[.int .i64 (a : Int), .string (partOf s)] W (RoundEnds B I Jd Jx s a W))
  (s0 : ByteArray) (W : World) (hc : W.cell? ⟨B, 0, none⟩ = some (.string s0)) (hf : W.frozen? ⟨B, 0, none⟩ = false) (hs : s0.size ≤ 200) (h0 : I s0 0 W) :
  CallsIn Fence.wide n Try.prog 96 #[.func (.yield l) #[] #[], .pointer (some ⟨B, 0, none⟩)] W fun e W' => (∃ v, e = .returned v) ∧ (Jd W' ∨ Jx W') := by
 refine callsIn_of_wp Try.func96 rfl trivial ?_ rfl
 simp only [Try.ntmps96, List.size_toArray, List.length_cons, List.length_nil, Nat.reduceAdd, Nat.reduceSub, Array.replicate_succ, Array.replicate_zero, List.push_toArray, List.append_toArray, List.nil_append, List.cons_append]
 have HY := Aside0.mk hY
 have HI1 := Aside0.mk hI1
 have HI2 := Aside0.mk hI2
 clear hY hI1 hI2
 gi_wp2
 gi_loopw [3, 4] (fun v3 v4 wr => (∃ (s : ByteArray) (a : Nat), v3 = .int .i64 (a : Int) ∧ v4 = .bool true ∧ wr.cell? ⟨B, 0, none⟩ = some (.string s) ∧ wr.frozen? ⟨B, 0, none⟩ = false ∧ s.size + a ≤ 200 ∧ I s a wr) ∨ (∃ a : Nat, v3 = .int .i64 (a : Int) ∧ v4 = .bool false ∧ Jd wr))
  (fun _ v4 wr => match v4 with | .bool true => (match wr.cell? ⟨B, 0, none⟩ with | some (.string s) => s.size + 1 | _ => 0) | _ => 0)
 case atStart => exact .inl ⟨s0, 0, rfl, rfl, hc, hf, by omega, h0⟩
 case round =>
  rcases hrel with ⟨s, a, rfl, rfl, hc1, hf1, hsa, hi1⟩ | ⟨a, rfl, rfl, hd⟩
  ·have hcut : Aside0 (strings_Cut.f s ⟨#[47]⟩ = some (partOf s, restOf s, moreOf s)) := ⟨by
    unfold strings_Cut.f
    rw [if_pos ⟨rfl, by omega⟩]
    rfl⟩
   have hless : Aside0 (moreOf s = true → (partOf s).size + 1 + (restOf s).size = s.size) := ⟨cutAt_less s 47⟩
   have hpart : (partOf s).size ≤ s.size := cutAt_part s 47
   gi_wp2_with (refine ⟨trivial, fun h => (by cases h), ?_⟩; gi_at_call 87; refine (callsIn_wide.2 (strings_Cut.calls _ _ _ _ _ _ hcut.out)).mono ?_; rintro e w1 ⟨rfl, hd⟩; have hc2 : w1.cell? ⟨B, 0, none⟩ = some (.string s) := (by obtain ⟨q, rfl⟩ := hd; exact hc1); have hf2 : w1.frozen? ⟨B, 0, none⟩ = false := (by obtain ⟨q, rfl⟩ := hd; exact hf1); have hi2 : I s a w1 := (by obtain ⟨q, rfl⟩ := hd; exact HI1.out _ _ _ _ hi1); obtain ⟨fn, tmps, assign, body, hy, hR⟩ := HY.out s a (w1.setCell ⟨B, 0, none⟩ (.string (restOf s))) (HI2.out _ _ _ _ hi2) hsa; have hR := Aside0.mk hR; clear hd hf1 hi1 hi2)
   refine ⟨fun h => (by cases h), hR.out.mono ?_⟩
   rintro e w2 ⟨hk, (⟨rfl, hm1, hm2⟩ | ⟨rfl, hx⟩)⟩
   ·have hc3 : w2.cell? ⟨B, 0, none⟩ = some (.string (restOf s)) := hk.1.trans (World.cell?_setCell_same' _ _ _ (by rw [hc2]; rfl))
    have hf3 : w2.frozen? ⟨B, 0, none⟩ = false := hk.2.trans (by rw [World.frozen?_setCell]; exact hf2)
    have HR := Aside0.mk hR.out
    have HM1 := Aside0.mk hm1
    have HM2 := Aside0.mk hm2
    clear hy hR HR hk hm1 hm2 hc2 hf2 hcut
    generalize moreOf s = m at *
    cases m with
    | true =>
     have hl := hless.out rfl
     have c1 : (0 : Int) ≤ (partOf s).size := by omega
     have c2 : ((partOf s).size : Int) ≤ 200 := by omega
     gi_wp2
     go_roundw
     case rel => exact .inl ⟨restOf s, a + (partOf s).size + 1, by go_num, rfl, hc3, hf3, by omega, HM1.out (by first | trivial | rfl)⟩
     case measure => simp [hc1, hc3]; omega
    | false =>
     have c1 : (0 : Int) ≤ (partOf s).size := by omega
     have c2 : ((partOf s).size : Int) ≤ 200 := by omega
     gi_wp2
     go_roundw
     case rel => exact .inr ⟨a + (partOf s).size + 1, by go_num, rfl, HM2.out (by first | trivial | rfl)⟩
     case measure => simp [hc1]
   ·clear hy hR hc2 hf2 hcut hc1
    gi_wp2
    refine bodyPost_ret (results_none rfl _ _ _) rfl ?_
    exact ⟨⟨_, rfl⟩, .inr hx⟩
  ·gi_wp2
   go_end0
   exact ⟨⟨_, rfl⟩, .inl hd⟩
/-- How the body of a round may be left. -/
def bodyEnds (B : Nat) (I : ByteArray × Nat → World → Prop) (Jd : World → Prop) (Jx : World → Prop) (s : ByteArray) (a : Nat) (W : World) : Exit → Act → World → Prop
 | .normal, _, W' => KeepsOthers W W' ∧ KeepsAt B W W' ∧ (moreOf s = true → I (restOf s, a + (partOf s).size + 1) W') ∧ (moreOf s = false → Jd W')
 | .ret, _, W' => KeepsOthers W W' ∧ KeepsAt B W W' ∧ Jx W'
 | _, _, _ => False
theorem KeepsAt.putObj {B l : Nat} (W : World) (o : Obj) (h : B ≠ l) : KeepsAt B W (W.putObj l o) := by
 have e : (W.putObj l o).heap[B]? = W.heap[B]? := World.putObj_heap_other h
 exact ⟨by simp only [World.cell?, e], by simp only [World.frozen?, e]⟩
theorem KeepsAt.trans {B : Nat} {W1 W2 W3 : World} (h : KeepsAt B W1 W2) (k : KeepsAt B W2 W3) : KeepsAt B W1 W3 := ⟨k.1.trans h.1, k.2.trans h.2⟩
theorem wpIn_range_steps (n B : Nat) {g : Operand} {ps : Array Tmp} {assign body : Code} {Q : Exit → Act → World → Prop} {a : Act} {w : World}
  (hg : a.eval g = .func (.func 96) #[] #[.pointer (some ⟨B, 0, none⟩)]) (hps : ps.size = 2)
  (I : ByteArray × Nat → World → Prop) (Jd Jx : World → Prop) (hI : OwnFrom w.heap.size I) (hJd : OwnFrom w.heap.size (fun _ : Unit => Jd)) (hJx : OwnFrom w.heap.size (fun _ : Unit => Jx))
  (hI1 : ∀ s (W : World) q, I s W → I s (W.drewN q)) (hI2 : ∀ s (W : World) v, I s W → I s (W.setCell ⟨B, 0, none⟩ v))
  (s0 : ByteArray) (hc : w.cell? ⟨B, 0, none⟩ = some (.string s0)) (hf : w.frozen? ⟨B, 0, none⟩ = false) (hs : s0.size ≤ 200) (hB : B < w.heap.size) (h0 : I (s0, 0) w)
  (a₁ : ByteArray → Nat → Act)
  (hassign : ∀ (l : Nat) (s : ByteArray) (b : Nat) (W : World) (K : Act → World → Prop), K (a₁ s b) W →
   assign.wpIn (Fence.wide.inRound l) (n - 1 - 1) Try.prog (Exit.then K (fun _ _ _ => False)) { tmps := (ps.zip #[.int .i64 (b : Int), .string (partOf s)]).foldl (fun t (p, v) => t.setIfInBounds p v) a.tmps, defers := [] } W)
  (hbody : ∀ (l : Nat) (s : ByteArray) (b : Nat) (W : World), I (s, b) W → s.size + b ≤ 200 → body.wpIn (Fence.wide.inRound l) (n - 1 - 1) Try.prog (bodyEnds B I Jd Jx s b W) (a₁ s b) W)
  (hdone : ∀ (D : Nat) (W : World), Jd W → W.heap[D]? = some (.deferred (some [])) → w.heap.size ≤ D → Q .normal { a with defers := { target := .collected D, args := #[] } :: a.defers } W)
  (hstop : ∀ (D : Nat) (W : World), Jx W → W.heap[D]? = some (.deferred (some [])) → w.heap.size ≤ D → Code.ret.wpIn Fence.wide n Try.prog Q { a with defers := { target := .collected D, args := #[] } :: a.defers } W) :
  (Code.rangeFunc g ps assign body).wpIn Fence.wide n Try.prog Q a w := by
 refine wpIn_rangeFunc ?_
 intro fn hfn
 have hro : Fence.wide.round = none := rfl
 rw [hro]
 obtain ⟨rec, hrec⟩ : ∃ rec : LoopState → Option Code → Loop, rec = fun st pe => { state := st, pending := pe, fn, tmps := a.tmps, params := ps, assign, body, defers := w.heap.size } := ⟨_, rfl⟩
 obtain ⟨W1, hW1⟩ : ∃ W1, (w.alloc (.deferred (some []))).alloc (.loop (rec .ready none)) = W1 := ⟨_, rfl⟩
 have hL1 : W1.heap[w.heap.size + 1]? = some (.loop (rec .ready none)) := by
  rw [← hW1]; have := World.alloc_heap_new (w.alloc (.deferred (some []))) (.loop (rec .ready none)); rwa [World.size_alloc] at this
 have hK1 : W1.heap[w.heap.size]? = some (.deferred (some [])) := by
  rw [← hW1]; exact (Below.heap_alloc _ _ _ (by simp)).trans (World.alloc_heap_new w _)
 have hI1' : I (s0, 0) W1 := by rw [← hW1]; exact hI.alloc _ (hI.alloc _ h0)
 have hbel : Below w.heap.size w W1 := by rw [← hW1]; exact ((Below.refl _ w).alloc (Nat.le_refl _) _).alloc (by simp) _
 have hc1 : W1.cell? ⟨B, 0, none⟩ = some (.string s0) := (hbel.cell (p := ⟨B, 0, none⟩) hB).trans hc
 have hf1 : W1.frozen? ⟨B, 0, none⟩ = false := (hbel.frozen (p := ⟨B, 0, none⟩) hB).trans hf
 have eg : ∀ args w, (callFunc 96 args).run Try.prog w = .ok (.enter 96 args) w := enters_of Try.func96 (by kernel_rfl) rfl
 refine ⟨w.heap.size + 1, [{ target := .collected w.heap.size, args := #[] }], W1, { target := .fn (.func 96) #[.pointer (some ⟨B, 0, none⟩)], args := #[.func (.yield (w.heap.size + 1)) #[] #[]] }, W1, 96,
  #[.func (.yield (w.heap.size + 1)) #[] #[]] ++ #[.pointer (some ⟨B, 0, none⟩)], W1, ?_, ?_, ?_, ?_, fun h => (by cases h), ?_⟩
 ·rw [← hW1, hrec]; exact run_enterLoop_outer _ _ _ _ _
 ·simp only [resolve, hg]
  simp [go_sem]
 ·intro f' _; trivial
 ·simp [invoke, go_sem, eg]
 ·have hne1 : B ≠ w.heap.size + 1 := by omega
  have hne0 : B ≠ w.heap.size := by omega
  refine (path_steps1.in_ (n - 1) (w.heap.size + 1) B
   (fun s b W => I (s, b) W ∧ W.heap[w.heap.size + 1]? = some (.loop (rec .ready none)) ∧ W.heap[w.heap.size]? = some (.deferred (some [])))
   (fun W => Jd W ∧ W.heap[w.heap.size + 1]? = some (.loop (rec .ready none)) ∧ W.heap[w.heap.size]? = some (.deferred (some [])))
   (fun W => Jx W ∧ W.heap[w.heap.size + 1]? = some (.loop (rec .done (some .ret))) ∧ W.heap[w.heap.size]? = some (.deferred (some [])))
   (fun s b W q h => ⟨hI1 _ _ _ h.1, h.2.1, h.2.2⟩)
   (fun s b W v h => ⟨hI2 _ _ _ h.1, (Below.heap_setCell W _ v _ (by simpa using Ne.symm hne1)).trans h.2.1, (Below.heap_setCell W _ v _ (by simpa using Ne.symm hne0)).trans h.2.2⟩)
   ?_ s0 W1 hc1 hf1 hs ⟨hI1', hL1, hK1⟩).mono ?_
  ·rintro s b W ⟨hi, hl, hk⟩ hsb
   have hlt : w.heap.size + 1 < W.heap.size := (Array.getElem?_eq_some_iff.1 hl).1
   have hy := run_yield (P := Try.prog) (args := #[.int .i64 (b : Int), .string (partOf s)]) hl (by rw [hrec]; exact hps.symm)
   rw [hrec] at hy
   refine ⟨fn, _, assign, body, hy, roundIn_of_wpIn hfn (hassign _ s b W _ ⟨_, run_beginRound hl (by rw [hrec]), ?_⟩)⟩
   have hl2 : (W.putObj (w.heap.size + 1) (.loop { rec .ready none with state := .busy })).heap[w.heap.size + 1]? = some (.loop { rec .ready none with state := .busy }) := World.putObj_heap_same hlt
   have hk2 : (W.putObj (w.heap.size + 1) (.loop { rec .ready none with state := .busy })).heap[w.heap.size]? = some (.deferred (some [])) := (World.putObj_heap_other (by omega)).trans hk
   have hp2 := KeepsAt.putObj W (.loop { rec .ready none with state := .busy }) hne1
   refine wpIn_mono (hbody _ s b _ (hI.putObj _ hi (by omega) hl rfl) hsb) ?_
   have fin : ∀ (jump : Option Code) (W3 : World), KeepsOthers (W.putObj (w.heap.size + 1) (.loop { rec .ready none with state := .busy })) W3 →
     (Instr.endRound (w.heap.size + 1) jump).run Try.prog W3 = .ok (.bool jump.isNone) (W3.putObj (w.heap.size + 1) (.loop (rec (if jump.isNone then .ready else .done) jump))) ∧
     W3.heap[w.heap.size + 1]? = some (.loop { rec .ready none with state := .busy }) ∧
     (W3.putObj (w.heap.size + 1) (.loop (rec (if jump.isNone then .ready else .done) jump))).heap[w.heap.size + 1]? = some (.loop (rec (if jump.isNone then .ready else .done) jump)) ∧
     (W3.putObj (w.heap.size + 1) (.loop (rec (if jump.isNone then .ready else .done) jump))).heap[w.heap.size]? = some (.deferred (some [])) := fun jump W3 hk3 => by
    have hl3 := hk3.same _ _ hl2 rfl
    have := run_endRound (P := Try.prog) jump hl3
    rw [hrec] at this ⊢
    exact ⟨this, by rw [hrec] at hl3; exact hl3, World.putObj_heap_same (Array.getElem?_eq_some_iff.1 hl3).1, (World.putObj_heap_other (by omega)).trans (hk3.same _ _ hk2 rfl)⟩
   rintro e a3 W3 hp
   cases e with
   | normal =>
    obtain ⟨hk3, hkp3, hi3, hd3⟩ := hp
    obtain ⟨hr, hl3, hl4, hk4⟩ := fin none W3 hk3
    exact ⟨_, _, hr, (hp2.trans hkp3).trans (KeepsAt.putObj _ _ hne1), .inl ⟨rfl, fun hm => ⟨hI.putObj _ (hi3 hm) (by omega) hl3 rfl, hl4, hk4⟩, fun hm => ⟨hJd.putObj (s := ()) _ (hd3 hm) (by omega) hl3 rfl, hl4, hk4⟩⟩⟩
   | ret =>
    obtain ⟨hk3, hkp3, hi3⟩ := hp
    obtain ⟨hr, hl3, hl4, hk4⟩ := fin (some .ret) W3 hk3
    exact ⟨_, _, hr, (hp2.trans hkp3).trans (KeepsAt.putObj _ _ hne1), .inr ⟨rfl, hJx.putObj (s := ()) _ hi3 (by omega) hl3 rfl, hl4, hk4⟩⟩
   | exit id => exact hp.elim
   | goto t => exact hp.elim
   | panic ch => exact hp.elim
   | outgrown => exact hp.elim
  ·rintro e W2 ⟨⟨v, rfl⟩, (⟨hi, hl, hk⟩ | ⟨hi, hl, hk⟩)⟩
   ·exact ⟨none, _, by have := run_endLoop (P := Try.prog) hl (by rw [hrec]; simp); rw [hrec] at this; exact this, hdone _ _ (hJd.putObj (s := ()) _ hi (by omega) hl rfl) ((World.putObj_heap_other (by omega)).trans hk) (Nat.le_refl _)⟩
   ·exact ⟨some .ret, _, by have := run_endLoop (P := Try.prog) hl (by rw [hrec]; simp); rw [hrec] at this; exact this, hstop _ _ (hJx.putObj (s := ()) _ hi (by omega) hl rfl) ((World.putObj_heap_other (by omega)).trans hk) (Nat.le_refl _)⟩
set_option maxHeartbeats 1000000 in
set_option maxRecDepth 100000 in
theorem path_steps.calls (s : ByteArray) (w : World) :
  Calls Try.prog 85 #[.string s] w fun e w' => e = .returned (.func (.func 96) #[] #[.pointer (some ⟨w.heap.size, 0, none⟩)]) ∧ w' = w.alloc (.cells #[.string s] 9) := by
 go_enter Try.func85, Try.ntmps85
 go_wp2
 go_ret
 exact ⟨rfl, rfl⟩
theorem three_new (w : World) (o1 o2 o3 : Obj) : (((w.alloc o1).alloc o2).alloc o3).heap[w.heap.size]? = some o1 ∧ (((w.alloc o1).alloc o2).alloc o3).heap[w.heap.size + 1]? = some o2 ∧ (((w.alloc o1).alloc o2).alloc o3).heap[w.heap.size + 1 + 1]? = some o3 := by
 have h1 := World.alloc_heap_new w o1
 have h2 := World.alloc_heap_new (w.alloc o1) o2
 have h3 := World.alloc_heap_new ((w.alloc o1).alloc o2) o3
 rw [World.size_alloc] at h2
 rw [World.size_alloc, World.size_alloc] at h3
 refine ⟨?_, ?_, h3⟩
 ·exact (Below.heap_alloc _ _ _ (by simp; omega)).trans ((Below.heap_alloc _ _ _ (by simp)).trans h1)
 ·exact (Below.heap_alloc _ _ _ (by simp)).trans h2
/-- The result's block holds a and b; below it all is as it was. -/
structure CheckEnd (N : Nat) (r1 r2 : Int) (w : World) (W : World) : Prop where
 c0 : W.cell? ⟨N, 0, none⟩ = some (.int .i64 r1)
 c1 : W.cell? ⟨N, 1, none⟩ = some (.int .i64 r2)
 f0 : W.frozen? ⟨N, 0, none⟩ = false
 f1 : W.frozen? ⟨N, 1, none⟩ = false
 bel : Below N w W
/-- What is known between two rounds: how many parts there were, what is to come. -/
structure CheckIs (N : Nat) (r1 r2 : Int) (w : World) (x : ByteArray × Nat) (W : World) : Prop where
 go : ∃ kk m : Nat, path_Check.l0 kk x.1 m x.2 = some (r1, r2) ∧ m ≤ 20 ∧ W.cell? ⟨N + 1, 0, none⟩ = some (.int .i64 (m : Int))
 fn : W.frozen? ⟨N + 1, 0, none⟩ = false
 rest : CheckEnd N 0 0 w W
theorem CheckEnd.abides {N B : Nat} {r1 r2 : Int} {w : World} (hN : N ≤ w.heap.size) (hB : N ≤ B) : OwnFrom B (fun _ : Unit => CheckEnd N r1 r2 w) := by
 intro x W W' row h hg hr
 have hr2 : ∀ r, row = some r → ∃ o : Obj, W.heap[r]? = some o ∧ o.isCells = false := fun r e => (hr r e).2
 exact ⟨cell_kept h.c0 hg hr2, cell_kept h.c1 hg hr2, (frozen_kept h.c0 hg hr2).trans h.f0, (frozen_kept h.c1 hg hr2).trans h.f1, h.bel.grown hg (Nat.le_trans hN h.bel.size) (fun k e => Nat.le_trans hB (hr k e).1)⟩
theorem CheckIs.abides {N B : Nat} {r1 r2 : Int} {w : World} (hN : N ≤ w.heap.size) (hB : N ≤ B) : OwnFrom B (CheckIs N r1 r2 w) := by
 intro x W W' row h hg hr
 have hr2 : ∀ r, row = some r → ∃ o : Obj, W.heap[r]? = some o ∧ o.isCells = false := fun r e => (hr r e).2
 obtain ⟨kk, m, h1, h2, h3⟩ := h.go
 exact ⟨⟨kk, m, h1, h2, cell_kept h3 hg hr2⟩, (frozen_kept h3 hg hr2).trans h.fn, CheckEnd.abides hN hB () W W' row h.rest hg hr⟩
theorem CheckEnd.far {N : Nat} {a b : Int} {w W : World} (h : CheckEnd N a b w W) (p : Addr) (v : Value) (hp : N < p.block) : CheckEnd N a b w (W.setCell p v) :=
 ⟨(World.cell?_setCell_far W p ⟨N, 0, none⟩ v (by show p.block ≠ N; omega)).trans h.c0, (World.cell?_setCell_far W p ⟨N, 1, none⟩ v (by show p.block ≠ N; omega)).trans h.c1, (World.frozen?_setCell ..).trans h.f0, (World.frozen?_setCell ..).trans h.f1, h.bel.setCell (Nat.le_of_lt hp) _⟩
theorem CheckEnd.drawn {N : Nat} {a b : Int} {w W W' : World} (h : CheckEnd N a b w W) (hd : Drawn0 W W') : CheckEnd N a b w W' := by
 obtain ⟨q, rfl⟩ := hd
 exact ⟨h.c0, h.c1, h.f0, h.f1, pw_below_drewN h.bel q⟩
theorem CheckEnd.put {N : Nat} {a b : Int} {w W : World} (h : CheckEnd N a b w W) (a' b' : Int) : CheckEnd N a' b' w ((W.setCell ⟨N, 0, none⟩ (.int .i64 a')).setCell ⟨N, 1, none⟩ (.int .i64 b')) := by
 have h0 : (W.setCell ⟨N, 0, none⟩ (.int .i64 a')).cell? ⟨N, 1, none⟩ = some (.int .i64 b) := (World.cell?_setCell_other W ⟨N, 0, none⟩ ⟨N, 1, none⟩ (.int .i64 a') (by simp)).trans h.c1
 have h1 : (W.setCell ⟨N, 0, none⟩ (.int .i64 a')).cell? ⟨N, 0, none⟩ = some (.int .i64 a') := World.cell?_setCell_same W ⟨N, 0, none⟩ (.int .i64 a') h.c0
 exact ⟨(World.cell?_setCell_other _ ⟨N, 1, none⟩ ⟨N, 0, none⟩ (.int .i64 b') (by simp)).trans h1, World.cell?_setCell_same _ ⟨N, 1, none⟩ (.int .i64 b') h0, by rw [World.frozen?_setCell, World.frozen?_setCell]; exact h.f0, by rw [World.frozen?_setCell, World.frozen?_setCell]; exact h.f1, (h.bel.setCell (p := ⟨N, 0, none⟩) (Nat.le_refl _) _).setCell (p := ⟨N, 1, none⟩) (Nat.le_refl _) _⟩
theorem KeepsAt.set {B : Nat} (W : World) (a : Addr) (v : Value) (h : a.block ≠ B) : KeepsAt B W (W.setCell a v) :=
 ⟨World.cell?_setCell_far W a ⟨B, 0, none⟩ v h, World.frozen?_setCell ..⟩
theorem KeepsAt.drawn {B : Nat} {W W' : World} (h : Drawn0 W W') : KeepsAt B W W' := by
 obtain ⟨n, rfl⟩ := h
 exact ⟨rfl, rfl⟩
theorem keepsOthers_drawn {W W' : World} (h : Drawn0 W W') : KeepsOthers W W' := by
 obtain ⟨n, rfl⟩ := h
 exact ⟨Nat.le_refl _, fun _ _ h _ => h⟩
set_option maxHeartbeats 4000000 in
set_option maxRecDepth 100000 in
theorem path_Check.calls (k : Nat) (a0 : ByteArray) (r1 : Int) (r2 : Int) (w : World) (h : path_Check.f k a0 = some (r1, r2)) :
  Calls Try.prog 65 #[.string a0] w fun e w' => e = .returned (.agg #[.int .i64 r1, .int .i64 r2]) ∧ Below w.heap.size w w' := by
 unfold path_Check.f at h
 by_cases c1 : a0.toList = []
 ·rw [if_pos c1] at h
  obtain ⟨rfl, rfl⟩ := Prod.mk.inj (Option.some.inj h)
  clear h
  have c1b : (a0.toList == ([] : List UInt8)) = true := by simpa using c1
  go_enter Try.func65, Try.ntmps65
  go_wp2
  exact bodyPost_ret (v := .agg #[.int .i64 2, .int .i64 0]) (by simp [results, Try.results65, go_sem]) rfl ⟨rfl, (Below.refl _ _).alloc (Nat.le_refl _) _⟩
 ·rw [if_neg c1] at h
  have c1b : (a0.toList == ([] : List UInt8)) = false := by simpa using c1
  by_cases c2 : 200 < (a0.size : Int)
  ·rw [if_pos c2] at h
   obtain ⟨rfl, rfl⟩ := Prod.mk.inj (Option.some.inj h)
   clear h
   go_enter Try.func65, Try.ntmps65
   go_wp2
   exact bodyPost_ret (v := .agg #[.int .i64 3, .int .i64 200]) (by simp [results, Try.results65, go_sem]) rfl ⟨rfl, (Below.refl _ _).alloc (Nat.le_refl _) _⟩
  ·rw [if_neg c2] at h
   refine (callsIn_wide (n := 3)).1 ?_
   refine callsIn_of_wp_marks Try.func65 rfl trivial ?_ rfl
   simp only [Try.ntmps65, List.size_toArray, List.length_cons, List.length_nil, Nat.reduceAdd, Nat.reduceSub, Array.replicate_succ, Array.replicate_zero, List.push_toArray, List.append_toArray, List.nil_append, List.cons_append]
   have H := Aside0.mk h
   clear h
   have hs2 : a0.size ≤ 200 := by omega
   gi_wp2_with (refine ⟨trivial, ?_⟩; gi_at_call 85; refine (callsIn_wide.2 (path_steps.calls _ _)).mono ?_; rintro e w1 ⟨rfl, rfl⟩)
   obtain ⟨w0, hw0⟩ : ∃ w0, ((w.alloc (.cells #[.int .i64 0, .int .i64 0] 123)).alloc (.cells #[.int .i64 0] 3)).alloc (.cells #[.string a0] 9) = w0 := ⟨_, rfl⟩
   have hsz : w0.heap.size = w.heap.size + 3 := by rw [← hw0]; simp
   obtain ⟨hn1, hn2, hn3⟩ := three_new w (.cells #[.int .i64 0, .int .i64 0] 123) (.cells #[.int .i64 0] 3) (.cells #[.string a0] 9)
   have hbw : Below w.heap.size w w0 := by rw [← hw0]; exact (((Below.refl _ w).alloc (Nat.le_refl _) _).alloc (by simp) _).alloc (by simp; omega) _
   simp only [hw0] at hn1 hn2 hn3 ⊢
   clear hw0
   refine wpIn_range_steps 3 (w.heap.size + 1 + 1) rfl rfl (CheckIs w.heap.size r1 r2 w) (fun W => CheckEnd w.heap.size 0 0 w W ∧ r1 = 0 ∧ r2 = 0) (CheckEnd w.heap.size r1 r2 w) (CheckIs.abides (Nat.le_refl _) (by omega)) ?hJd (CheckEnd.abides (Nat.le_refl _) (by omega)) ?hI1 ?hI2 a0 (by simp only [World.cell?, hn3]; rfl) (by simp only [World.frozen?, hn3]; rfl) hs2 (by omega) ?h0
    (fun s b => { tmps := #[.string a0, undef, .pointer (some ⟨w.heap.size, 0, none⟩), .pointer (some ⟨w.heap.size + 1, 0, none⟩), .int .i64 (b : Int), .string (partOf s), undef, undef, .bool false, .string a0, .bool false, undef, .bool false, .string a0, .int .i64 a0.size, .bool false, undef, .string a0, .func (.func 96) #[] #[.pointer (some ⟨w.heap.size + 1 + 1, 0, none⟩)], .int .i64 (b : Int), .string (partOf s), undef, undef, undef, undef, undef, undef, undef, undef, undef, undef, undef, undef, undef, undef, undef, undef, undef, undef, undef], defers := [] }) ?assign ?body ?done ?stop
   case hJd =>
    intro x W W' row h hg hr
    exact ⟨CheckEnd.abides (Nat.le_refl _) (by omega) () W W' row h.1 hg hr, h.2⟩
   case hI1 => exact fun s W q h => ⟨h.go, h.fn, h.rest.drawn ⟨⟨q, rfl⟩⟩⟩
   case hI2 =>
    intro s W v h
    obtain ⟨kk, m, h1, h2, h3⟩ := h.go
    exact ⟨⟨kk, m, h1, h2, (World.cell?_setCell_far _ _ _ _ (by simp)).trans h3⟩, (World.frozen?_setCell ..).trans h.fn, h.rest.far _ _ (by simp; omega)⟩
   case h0 => exact ⟨⟨k, 0, H.out, by omega, by simp only [World.cell?, hn2]; rfl⟩, by simp only [World.frozen?, hn2]; rfl, by simp only [World.cell?, hn1]; rfl, by simp only [World.cell?, hn1]; rfl, by simp only [World.frozen?, hn1]; rfl, by simp only [World.frozen?, hn1]; rfl, hbw⟩
   case assign =>
    intro l s b W K hK
    gi_wp2
    exact hK
   case body =>
    intro l s b W hi hsb
    obtain ⟨⟨kk, m, hl0, hm, hcn⟩, hfn, hrest⟩ := hi
    obtain ⟨hc0, hc1, hf0, hf1, hbel⟩ := id hrest
    have HR := Aside0.mk hrest
    clear hn1 hn2 hn3 H hbw hbel hrest
    have c4 : (0 : Int) ≤ (m : Int) := by omega
    have c5 : (m : Int) ≤ 20 := by omega
    cases kk with
    | zero => cases hl0
    | succ kk =>
     unfold path_Check.l0 at hl0
     by_cases c3 : 20 < m + 1
     ·rw [if_pos c3] at hl0
      obtain ⟨rfl, rfl⟩ := Prod.mk.inj (Option.some.inj hl0)
      have c6 : (20 : Int) < (m : Int) + 1 := by omega
      clear hl0 c3
      gi_wp2
      exact ⟨((KeepsOthers.setCell _ _ _).trans (KeepsOthers.setCell _ _ _)).trans (KeepsOthers.setCell _ _ _), ((KeepsAt.set _ _ _ (by simp)).trans (KeepsAt.set _ _ _ (by simp; omega))).trans (KeepsAt.set _ _ _ (by simp; omega)), (HR.out.far _ _ (by simp)).put _ _⟩
     ·rw [if_neg c3] at hl0
      have c6 : ¬ (20 : Int) < (m : Int) + 1 := by omega
      obtain ⟨⟨t1, t2⟩, hst, hl1⟩ := Option.bind_eq_some_iff.mp hl0
      have HS := Aside0.mk hst
      have HL := Aside0.mk hl1
      clear hl0 hst hl1 c3
      by_cases c7 : t1 = 0
      ·subst c7
       have HL2 : Aside0 (if moreOf s = true then path_Check.l0 kk (restOf s) (m + 1) (b + (partOf s).size + 1) = some (r1, r2) else r1 = 0 ∧ r2 = 0) := ⟨by
        have h2 := HL.out
        rw [if_pos rfl] at h2
        by_cases hq : moreOf s = true
        ·rw [if_pos hq]
         rwa [if_pos (show (cutAt s 47).2.2 = true from hq)] at h2
        ·rw [if_neg hq]
         rw [if_neg (show ¬ (cutAt s 47).2.2 = true from hq)] at h2
         obtain ⟨h3, h4⟩ := Prod.mk.inj (Option.some.inj h2)
         exact ⟨h3.symm, h4.symm⟩⟩
       clear HL
       gi_wp2_with (refine ⟨trivial, ?_⟩; gi_at_call 86; refine (CallsIn.inRound l (callsIn_wide.2 (path_step.calls _ _ _ _ _ HS.out))).mono ?_; rintro e w2 ⟨rfl, hd⟩; have hr2 := (HR.out.far ⟨w.heap.size + 1, 0, none⟩ (.int .i64 ((m : Int) + 1)) (by simp)).drawn hd; have hn2 : w2.cell? ⟨w.heap.size + 1, 0, none⟩ = some (.int .i64 ((m : Int) + 1)) := (by obtain ⟨q, rfl⟩ := hd; exact World.cell?_setCell_same W ⟨w.heap.size + 1, 0, none⟩ _ hcn); have hm2 : w2.frozen? ⟨w.heap.size + 1, 0, none⟩ = false := (by obtain ⟨q, rfl⟩ := hd; exact (World.frozen?_setCell ..).trans hfn); have HD := Aside0.mk hd; obtain ⟨gc0, gc1, gf0, gf1, gbel⟩ := id hr2; have HR2 := Aside0.mk hr2; clear hd gbel hr2 hcn hfn hc0 hc1 hf0 hf1)
       refine ⟨(KeepsOthers.setCell _ _ _).trans (keepsOthers_drawn HD.out), (KeepsAt.set _ _ _ (by simp)).trans (KeepsAt.drawn HD.out), fun hq => ?_, fun hq => ?_⟩
       ·have h2 := HL2.out
        rw [if_pos hq] at h2
        exact ⟨⟨kk, m + 1, h2, by omega, hn2⟩, hm2, HR2.out⟩
       ·have h2 := HL2.out
        rw [hq] at h2
        exact ⟨HR2.out, by simpa using h2⟩
      ·have c8 : (t1 == 0) = false := by simpa using c7
       have HL2 : Aside0 (r1 = t1 ∧ r2 = wrap64 ((b : Int) + t2)) := ⟨by
        have h2 := HL.out
        rw [if_neg c7] at h2
        obtain ⟨h3, h4⟩ := Prod.mk.inj (Option.some.inj h2)
        exact ⟨h3.symm, h4.symm⟩⟩
       clear HL
       gi_wp2_with (refine ⟨trivial, ?_⟩; gi_at_call 86; refine (CallsIn.inRound l (callsIn_wide.2 (path_step.calls _ _ _ _ _ HS.out))).mono ?_; rintro e w2 ⟨rfl, hd⟩; have hr2 := (HR.out.far ⟨w.heap.size + 1, 0, none⟩ (.int .i64 ((m : Int) + 1)) (by simp)).drawn hd; have hn2 : w2.cell? ⟨w.heap.size + 1, 0, none⟩ = some (.int .i64 ((m : Int) + 1)) := (by obtain ⟨q, rfl⟩ := hd; exact World.cell?_setCell_same W ⟨w.heap.size + 1, 0, none⟩ _ hcn); have hm2 : w2.frozen? ⟨w.heap.size + 1, 0, none⟩ = false := (by obtain ⟨q, rfl⟩ := hd; exact (World.frozen?_setCell ..).trans hfn); have HD := Aside0.mk hd; obtain ⟨gc0, gc1, gf0, gf1, gbel⟩ := id hr2; have HR2 := Aside0.mk hr2; clear hd gbel hr2 hcn hfn hc0 hc1 hf0 hf1)
       refine ⟨(((KeepsOthers.setCell _ _ _).trans (keepsOthers_drawn HD.out)).trans (KeepsOthers.setCell _ _ _)).trans (KeepsOthers.setCell _ _ _), (((KeepsAt.set _ _ _ (by simp)).trans (KeepsAt.drawn HD.out)).trans (KeepsAt.set _ _ _ (by simp; omega))).trans (KeepsAt.set _ _ _ (by simp; omega)), ?_⟩
       rw [HL2.out.1, HL2.out.2]
       exact HR2.out.put _ _
   case done =>
    rintro D W ⟨hr, rfl, rfl⟩ hD hle
    obtain ⟨hc0, hc1, hf0, hf1, hbel⟩ := id hr
    gi_wp2
    have hK := (((KeepsOthers.setCell W ⟨w.heap.size, 0, none⟩ (.int .i64 0)).trans (KeepsOthers.setCell _ ⟨w.heap.size, 1, none⟩ (.int .i64 0))).same D _ hD rfl)
    have he := (CheckEnd.abides (N := w.heap.size) (B := w.heap.size) (r1 := 0) (r2 := 0) (w := w) (Nat.le_refl _) (Nat.le_refl _)).putObj (s := ()) (.deferred none) (hr.put 0 0) (by omega) hK rfl
    refine ⟨by simp, .inl ⟨_, _, rfl, run_takeDeferred hK, ?_⟩⟩
    have e0 := he.c0
    have e1 := he.c1
    exact ⟨_, by simp [results, Try.f65, go_sem, e0, e1], rfl, he.bel⟩
   case stop =>
    rintro D W hr hD hle
    gi_wp2
    have he := (CheckEnd.abides (N := w.heap.size) (B := w.heap.size) (r1 := r1) (r2 := r2) (w := w) (Nat.le_refl _) (Nat.le_refl _)).putObj (s := ()) (.deferred none) hr (by omega) hD rfl
    refine ⟨by simp, .inl ⟨_, _, rfl, run_takeDeferred hD, ?_⟩⟩
    have e0 := he.c0
    have e1 := he.c1
    exact ⟨_, by simp [results, Try.f65, go_sem, e0, e1], rfl, he.bel⟩

end Go.Proofs.Ytmlgfgmgolgjbaa.X
end

/-! ## PathValid -/
section
namespace Go.Proofs.Ytmlgfgmgolgjbaa.X
open Go.RowKit Go.Proofs.YtmlgfgmgolgjbaaW.PrintWords Go.Proofs.YtmlgfgmgolgjbaaW.PrintLast Go.Proofs.YtmlgfgmgolgjbaaW.PrintMore
attribute [local go_sem] max2_int min2_int max_two min_two max_three min_three max_four min_four   -- for this text's walks alone
set_option linter.unusedVariables false
set_option linter.unusedSimpArgs false

attribute [local go_sem] str_gtr fld_fault0 fld_fault1
/-! ### path_valid: function 66 -/
def path_valid.f (k : Nat) (a0 : ByteArray) : Option (Bool) := (path_Check.f k a0).bind fun bt103 => (some (bt103.1 == 0))
theorem path_valid.mono : ∀ a0 k, LeO (path_valid.f k a0) (path_valid.f (k + 1) a0) := by
 intro a0 k
 unfold path_valid.f
 repeat' first
   | (with_reducible exact path_Check.mono _ _)
   | (with_reducible exact LeO.refl _)
   | (with_reducible exact LeO.none _)
   | (with_reducible refine LeO.ite ?_ ?_)
   | (with_reducible refine LeO.bind ?_ (fun _ => ?_))
   | exact path_Check.mono _ _
   | exact LeO.none _
   | refine LeO.ite ?_ ?_
   | refine LeO.bind ?_ (fun _ => ?_)
set_option maxHeartbeats 8000000 in
set_option maxRecDepth 100000 in
theorem path_valid.calls (k : Nat) (a0 : ByteArray) (r : Bool) (w : World) (h : path_valid.f k a0 = some r) :
  Calls Try.prog 66 #[.string a0] w fun e w' => e = .returned (.bool r) ∧ Below w.heap.size w w' := by
 have HB := Aside0.mk (Below.refl w.heap.size w)
 have H : ((path_Check.f k a0).bind fun bt103 => (some (bt103.1 == 0))) = some r := h
 clear h
 replace H := Option.bind_eq_some_iff.mp H
 obtain ⟨⟨t103, t104⟩, A20, H⟩ := H
 replace H : (some (t103 == 0)) = some r := H
 have A2 := Aside0.mk A20
 clear A20
 obtain rfl := Option.some.inj H
 go_enter Try.func66, Try.ntmps66
 go_wp2_with (first | ((with_reducible refine gate_callee (f := 65) rfl ?_); refine goesL_ (some 4) rfl rfl Try.func65 (by kernel_rfl) rfl #[.string a0] rfl (by (try simp only [List.map_toArray, List.map_cons, List.map_nil]); first | done | rfl | (simp only [List.length_drop, List.length_take]; rfl)) ?_; (with_reducible refine (path_Check.calls k a0 t103 t104 _ A2.out).mono ?_); rintro e w3 ⟨rfl, hb⟩; refine ⟨_, rfl, ?_⟩; have n0_ := Aside0.mk (below_step (by repeat (first | (with_reducible first | exact HB.out | apply below_alloc | apply pw_below_drewN | apply below_drew1) | exact HB.out)) hb); clear HB; have HB := n0_; clear n0_; (try clear hb); (try clear hb2); (try clear hk); (try clear hi)))
 go_ret
 exact ⟨by first | rfl | (simp [errW_none, errW_some] <;> rfl) | (simp [*, errW_none, errW_some] <;> rfl) | (simp [bt, *]; done) | (simp_all [bt]; done), by repeat (first | (with_reducible first | exact HB.out | apply below_alloc | apply pw_below_drewN | apply below_drew1) | exact HB.out)⟩

end Go.Proofs.Ytmlgfgmgolgjbaa.X
end

/-! ## PathCompare -/
section
namespace Go.Proofs.Ytmlgfgmgolgjbaa.X
open Go.RowKit Go.Proofs.YtmlgfgmgolgjbaaW.PrintWords Go.Proofs.YtmlgfgmgolgjbaaW.PrintLast Go.Proofs.YtmlgfgmgolgjbaaW.PrintMore
attribute [local go_sem] max2_int min2_int max_two min_two max_three min_three max_four min_four   -- for this text's walks alone
set_option linter.unusedVariables false
set_option linter.unusedSimpArgs false

attribute [local go_sem] str_gtr fld_fault0 fld_fault1
/-! ### path_Compare: function 55 -/
def path_Compare.j0 : Nat → ByteArray → ByteArray → Bool → Bool → Bool → Option (Int)
 | 0, _, _, _, _, _ => none
 | k + 1, x0, x1, x5, x6, x11 => if x11 = true then ((path_order.f k x0 x1).bind fun t119 => (some t119)) else (if x5 = true then (some 1) else (if x6 = true then (some (-1)) else ((cmp_Compare_string.f x0 x1).bind fun t120 => (some t120))))
def path_Compare.f (k : Nat) (a0 : ByteArray) (a1 : ByteArray) : Option (Int) := (path_valid.f k a0).bind fun t117 => ((path_valid.f k a1).bind fun t118 => (if t117 = true then (path_Compare.j0 k a0 a1 t117 t118 t118) else (path_Compare.j0 k a0 a1 t117 t118 false)))
theorem path_Compare.mono_l : ∀ k, (∀ y0 y1 y2 y3 y4, LeO (path_Compare.j0 k y0 y1 y2 y3 y4) (path_Compare.j0 (k + 1) y0 y1 y2 y3 y4))
 | 0 => fun _ _ _ _ _ r h => by simp [path_Compare.j0] at h
 | k + 1 => by
  have ih0 := path_Compare.mono_l k
  ·intro y0 y1 y2 y3 y4
   unfold path_Compare.j0
   repeat' first
   | (with_reducible exact ih0 _ _ _ _ _)
   | (with_reducible exact path_order.mono _ _ _)
   | (with_reducible exact path_valid.mono _ _)
   | (with_reducible exact LeO.refl _)
   | (with_reducible exact LeO.none _)
   | (with_reducible refine LeO.ite ?_ ?_)
   | (with_reducible refine LeO.bind ?_ (fun _ => ?_))
   | exact ih0 _ _ _ _ _
   | exact path_order.mono _ _ _
   | exact path_valid.mono _ _
   | exact LeO.none _
   | refine LeO.ite ?_ ?_
   | refine LeO.bind ?_ (fun _ => ?_)
theorem path_Compare.mono : ∀ a0 a1 k, LeO (path_Compare.f k a0 a1) (path_Compare.f (k + 1) a0 a1) := by
 intro a0 a1 k
 have ih0 := path_Compare.mono_l k
 unfold path_Compare.f
 repeat' first
   | (with_reducible exact ih0 _ _ _ _ _)
   | (with_reducible exact path_order.mono _ _ _)
   | (with_reducible exact path_valid.mono _ _)
   | (with_reducible exact LeO.refl _)
   | (with_reducible exact LeO.none _)
   | (with_reducible refine LeO.ite ?_ ?_)
   | (with_reducible refine LeO.bind ?_ (fun _ => ?_))
   | exact ih0 _ _ _ _ _
   | exact path_order.mono _ _ _
   | exact path_valid.mono _ _
   | exact LeO.none _
   | refine LeO.ite ?_ ?_
   | refine LeO.bind ?_ (fun _ => ?_)
set_option maxHeartbeats 8000000 in
set_option maxRecDepth 100000 in
theorem path_Compare.calls (k : Nat) (a0 : ByteArray) (a1 : ByteArray) (r : Int) (w : World) (h : path_Compare.f k a0 a1 = some r) :
  Calls Try.prog 55 #[.string a0, .string a1] w fun e w' => e = .returned (.int .i64 r) ∧ Below w.heap.size w w' := by
 have HB := Aside0.mk (Below.refl w.heap.size w)
 have H : ((path_valid.f k a0).bind fun t117 => ((path_valid.f k a1).bind fun t118 => (if t117 = true then (path_Compare.j0 k a0 a1 t117 t118 t118) else (path_Compare.j0 k a0 a1 t117 t118 false)))) = some r := h
 clear h
 replace H := Option.bind_eq_some_iff.mp H
 obtain ⟨t117, A30, H⟩ := H
 replace H : ((path_valid.f k a1).bind fun t118 => (if t117 = true then (path_Compare.j0 k a0 a1 t117 t118 t118) else (path_Compare.j0 k a0 a1 t117 t118 false))) = some r := H
 have A3 := Aside0.mk A30
 clear A30
 replace H := Option.bind_eq_some_iff.mp H
 obtain ⟨t118, A40, H⟩ := H
 replace H : (if t117 = true then (path_Compare.j0 k a0 a1 t117 t118 t118) else (path_Compare.j0 k a0 a1 t117 t118 false)) = some r := H
 have A4 := Aside0.mk A40
 clear A40
 have HC5 := Aside0.mk H
 clear H
 go_enter Try.func55, Try.ntmps55
 go_upto_region 2 with (first | ((with_reducible refine gate_callee (f := 66) rfl ?_); refine goesL_ (some 8) rfl rfl Try.func66 (by kernel_rfl) rfl #[.string a0] rfl (by (try simp only [List.map_toArray, List.map_cons, List.map_nil]); first | done | rfl | (simp only [List.length_drop, List.length_take]; rfl)) ?_; (with_reducible refine (path_valid.calls k a0 t117 _ A3.out).mono ?_); rintro e w6 ⟨rfl, hb⟩; refine ⟨_, rfl, ?_⟩; have n0_ := Aside0.mk (below_step (by repeat (first | (with_reducible first | exact HB.out | apply below_alloc | apply pw_below_drewN | apply below_drew1) | exact HB.out)) hb); clear HB; have HB := n0_; clear n0_; (try clear hb); (try clear hb2); (try clear hk); (try clear hi)) | ((with_reducible refine gate_callee (f := 66) rfl ?_); refine goesL_ (some 10) rfl rfl Try.func66 (by kernel_rfl) rfl #[.string a1] rfl (by (try simp only [List.map_toArray, List.map_cons, List.map_nil]); first | done | rfl | (simp only [List.length_drop, List.length_take]; rfl)) ?_; (with_reducible refine (path_valid.calls k a1 t118 _ A4.out).mono ?_); rintro e w7 ⟨rfl, hb⟩; refine ⟨_, rfl, ?_⟩; have n0_ := Aside0.mk (below_step (by repeat (first | (with_reducible first | exact HB.out | apply below_alloc | apply pw_below_drewN | apply below_drew1) | exact HB.out)) hb); clear HB; have HB := n0_; clear n0_; (try clear hb); (try clear hb2); (try clear hk); (try clear hi)))
 (try simp only [Act.put, List.setIfInBounds_toArray, List.set_cons_zero, List.set_cons_succ])
 go_cut [11] (fun v11 wc => ∃ (kq : Nat) (x11_4 : Bool), v11 = .bool x11_4 ∧ Aside0 (path_Compare.j0 kq a0 a1 t117 t118 x11_4 = some r) ∧ Aside0 (kq ≤ k) ∧ Aside0 (Below w.heap.size w wc))
 case first =>
  have H := HC5.out
  clear HC5
  by_cases c8 : t117 = true
  ·subst c8
   have H1 : (path_Compare.j0 k a0 a1 true t118 t118) = some r := by rw [if_pos rfl] at H; exact H
   clear H
   have H := H1
   clear H1
   have H' := Aside0.mk H
   clear H
   go_wp2
   go_meet
   case rel => exact ⟨_, (t118), (by first | rfl | (simp; done) | (simp [*]; done)), H', ⟨by first | omega | exact Nat.le_refl _⟩, ⟨by repeat (first | (with_reducible first | exact HB.out | apply below_alloc | apply pw_below_drewN | apply below_drew1) | exact HB.out)⟩⟩
  ·replace c8 := Bool.eq_false_iff.mpr c8
   subst c8
   have H1 : (path_Compare.j0 k a0 a1 false t118 false) = some r := by rw [if_neg (show ¬ (false = true) by decide)] at H; exact H
   clear H
   have H := H1
   clear H1
   have H' := Aside0.mk H
   clear H
   go_wp2
   go_meet
   case rel => exact ⟨_, (false), (by first | rfl | (simp; done) | (simp [*]; done)), H', ⟨by first | omega | exact Nat.le_refl _⟩, ⟨by repeat (first | (with_reducible first | exact HB.out | apply below_alloc | apply pw_below_drewN | apply below_drew1) | exact HB.out)⟩⟩
 case rest =>
  clear HC5
  try clear p2
  try clear c5
  try clear c6
  try clear c8
  obtain ⟨kq, x11_4, rfl, HA, HJ4, HB⟩ := hcut
  cases kq with
  | zero => exact absurd HA.out (by simp [path_Compare.j0])
  | succ kj4 =>
   have H := HA.out
   clear HA
   simp only [path_Compare.j0] at H
   by_cases c9 : x11_4 = true
   ·subst c9
    have H1 : ((path_order.f kj4 a0 a1).bind fun t119 => (some t119)) = some r := by rw [if_pos rfl] at H; exact H
    clear H
    have H := H1
    clear H1
    replace H := Option.bind_eq_some_iff.mp H
    obtain ⟨t119, A100, H⟩ := H
    replace H : (some t119) = some r := H
    have A10 := Aside0.mk A100
    clear A100
    obtain rfl := Option.some.inj H
    go_wp2_with (first | ((with_reducible refine gate_callee (f := 67) rfl ?_); refine goesL_ (some 18) rfl rfl Try.func67 (by kernel_rfl) rfl #[.string a0, .string a1] rfl (by (try simp only [List.map_toArray, List.map_cons, List.map_nil]); first | done | rfl | (simp only [List.length_drop, List.length_take]; rfl)) ?_; (with_reducible refine (path_order.calls kj4 a0 a1 t119 _ A10.out).mono ?_); rintro e w' ⟨rfl, ⟨nd, rfl⟩⟩; refine ⟨_, rfl, ?_⟩))
    go_ret
    exact ⟨by first | rfl | (simp [errW_none, errW_some] <;> rfl) | (simp [*, errW_none, errW_some] <;> rfl) | (simp [bt, *]; done) | (simp_all [bt]; done), by repeat (first | (with_reducible first | exact HB.out | apply below_alloc | apply pw_below_drewN | apply below_drew1) | exact HB.out)⟩
   ·replace c9 := Bool.eq_false_iff.mpr c9
    subst c9
    have H1 : (if t117 = true then (some 1) else (if t118 = true then (some (-1)) else ((cmp_Compare_string.f a0 a1).bind fun t120 => (some t120)))) = some r := by rw [if_neg (show ¬ (false = true) by decide)] at H; exact H
    clear H
    have H := H1
    clear H1
    by_cases c11 : t117 = true
    ·subst c11
     have H1 : (some 1) = some r := by rw [if_pos rfl] at H; exact H
     clear H
     have H := H1
     clear H1
     obtain rfl := Option.some.inj H
     go_wp2
     go_ret
     exact ⟨by first | rfl | (simp [errW_none, errW_some] <;> rfl) | (simp [*, errW_none, errW_some] <;> rfl) | (simp [bt, *]; done) | (simp_all [bt]; done), by repeat (first | (with_reducible first | exact HB.out | apply below_alloc | apply pw_below_drewN | apply below_drew1) | exact HB.out)⟩
    ·replace c11 := Bool.eq_false_iff.mpr c11
     subst c11
     have H1 : (if t118 = true then (some (-1)) else ((cmp_Compare_string.f a0 a1).bind fun t120 => (some t120))) = some r := by rw [if_neg (show ¬ (false = true) by decide)] at H; exact H
     clear H
     have H := H1
     clear H1
     by_cases c12 : t118 = true
     ·subst c12
      have H1 : (some (-1)) = some r := by rw [if_pos rfl] at H; exact H
      clear H
      have H := H1
      clear H1
      obtain rfl := Option.some.inj H
      go_wp2
      go_ret
      exact ⟨by first | rfl | (simp [errW_none, errW_some] <;> rfl) | (simp [*, errW_none, errW_some] <;> rfl) | (simp [bt, *]; done) | (simp_all [bt]; done), by repeat (first | (with_reducible first | exact HB.out | apply below_alloc | apply pw_below_drewN | apply below_drew1) | exact HB.out)⟩
     ·replace c12 := Bool.eq_false_iff.mpr c12
      subst c12
      have H1 : ((cmp_Compare_string.f a0 a1).bind fun t120 => (some t120)) = some r := by rw [if_neg (show ¬ (false = true) by decide)] at H; exact H
      clear H
      have H := H1
      clear H1
      replace H := Option.bind_eq_some_iff.mp H
      obtain ⟨t120, A130, H⟩ := H
      replace H : (some t120) = some r := H
      have A13 := Aside0.mk A130
      clear A130
      obtain rfl := Option.some.inj H
      go_wp2_with (first | ((with_reducible refine gate_callee (f := 68) rfl ?_); refine goesL_ (some 25) rfl rfl Try.func68 (by kernel_rfl) rfl #[.string a0, .string a1] rfl (by (try simp only [List.map_toArray, List.map_cons, List.map_nil]); first | done | rfl | (simp only [List.length_drop, List.length_take]; rfl)) ?_; (with_reducible refine (cmp_Compare_string.calls a0 a1 t120 _ A13.out).mono ?_); rintro e w' ⟨rfl, ⟨nd, rfl⟩⟩; refine ⟨_, rfl, ?_⟩))
      go_ret
      exact ⟨by first | rfl | (simp [errW_none, errW_some] <;> rfl) | (simp [*, errW_none, errW_some] <;> rfl) | (simp [bt, *]; done) | (simp_all [bt]; done), by repeat (first | (with_reducible first | exact HB.out | apply below_alloc | apply pw_below_drewN | apply below_drew1) | exact HB.out)⟩

end Go.Proofs.Ytmlgfgmgolgjbaa.X
end

/-! ## BytealgLastIndexByteString -/
section
namespace Go.Proofs.Ytmlgfgmgolgjbaa.X
open Go.RowKit Go.Proofs.YtmlgfgmgolgjbaaW.PrintWords Go.Proofs.YtmlgfgmgolgjbaaW.PrintLast Go.Proofs.YtmlgfgmgolgjbaaW.PrintMore
attribute [local go_sem] max2_int min2_int max_two min_two max_three min_three max_four min_four   -- for this text's walks alone
set_option linter.unusedVariables false
set_option linter.unusedSimpArgs false

attribute [local go_sem] str_gtr fld_fault0 fld_fault1
/-! ### bytealg_LastIndexByteString: function 89 -/
def bytealg_LastIndexByteString.l0 : Nat → ByteArray → Int → Int → Option (Int)
 | 0, _, _, _ => none
 | k + 1, x0, x1, x5 => if x5 ≥ 0 then (if 0 ≤ x5 then (if x5 < (x0.size : Int) then (if (bt x0 x5) = x1 then (some x5) else (bytealg_LastIndexByteString.l0 k x0 x1 (wrap64 (x5 - 1)))) else (none)) else (none)) else (some (-1))
def bytealg_LastIndexByteString.f (k : Nat) (a0 : ByteArray) (a1 : Int) : Option (Int) := bytealg_LastIndexByteString.l0 k a0 a1 (wrap64 ((a0.size : Int) - 1))
theorem bytealg_LastIndexByteString.mono_l : ∀ k, (∀ y0 y1 y2, LeO (bytealg_LastIndexByteString.l0 k y0 y1 y2) (bytealg_LastIndexByteString.l0 (k + 1) y0 y1 y2))
 | 0 => fun _ _ _ r h => by simp [bytealg_LastIndexByteString.l0] at h
 | k + 1 => by
  have ih0 := bytealg_LastIndexByteString.mono_l k
  ·intro y0 y1 y2
   unfold bytealg_LastIndexByteString.l0
   repeat' first
   | (with_reducible exact ih0 _ _ _)
   | (with_reducible exact LeO.refl _)
   | (with_reducible exact LeO.none _)
   | (with_reducible refine LeO.ite ?_ ?_)
   | (with_reducible refine LeO.bind ?_ (fun _ => ?_))
   | exact ih0 _ _ _
   | exact LeO.none _
   | refine LeO.ite ?_ ?_
   | refine LeO.bind ?_ (fun _ => ?_)
theorem bytealg_LastIndexByteString.mono : ∀ a0 a1 k, LeO (bytealg_LastIndexByteString.f k a0 a1) (bytealg_LastIndexByteString.f (k + 1) a0 a1) := by
 intro a0 a1 k
 have ih0 := bytealg_LastIndexByteString.mono_l k
 unfold bytealg_LastIndexByteString.f
 repeat' first
   | (with_reducible exact ih0 _ _ _)
   | (with_reducible exact LeO.refl _)
   | (with_reducible exact LeO.none _)
   | (with_reducible refine LeO.ite ?_ ?_)
   | (with_reducible refine LeO.bind ?_ (fun _ => ?_))
   | exact ih0 _ _ _
   | exact LeO.none _
   | refine LeO.ite ?_ ?_
   | refine LeO.bind ?_ (fun _ => ?_)
set_option maxHeartbeats 8000000 in
set_option maxRecDepth 100000 in
theorem bytealg_LastIndexByteString.calls (k : Nat) (a0 : ByteArray) (a1 : Int) (r : Int) (w : World) (h : bytealg_LastIndexByteString.f k a0 a1 = some r) :
  Calls Try.prog 89 #[.string a0, .int .u8 a1] w fun e w' => e = .returned (.int .i64 r) ∧ Drawn0 w w' := by
 have H : (bytealg_LastIndexByteString.l0 k a0 a1 (wrap64 ((a0.size : Int) - 1))) = some r := h
 clear h
 have H' := Aside0.mk H
 clear H
 go_enter Try.func89, Try.ntmps89
 go_wp2
 go_loopg [5] k (fun kq v5 w' => ∃ (x5_1 : Int), v5 = .int .i64 x5_1 ∧ Aside0 (bytealg_LastIndexByteString.l0 kq a0 a1 x5_1 = some r) ∧ Aside0 (kq ≤ k) ∧ Drawn0 w w')
 case atStart => exact ⟨(wrap64 ((a0.size : Int) - 1)), (by first | rfl | (simp; done) | (simp [*]; done)), H', ⟨Nat.le_refl _⟩, by repeat (first | exact Drawn0.refl _ | apply Drawn0.step)⟩
 case round =>
  clear H'
  try clear p2
  obtain ⟨x5_1, rfl, HA, HK1, ⟨m1, rfl⟩⟩ := hrel
  cases gk with
  | zero => exact absurd HA.out (by simp [bytealg_LastIndexByteString.l0])
  | succ k1 =>
   have H := HA.out
   clear HA
   simp only [bytealg_LastIndexByteString.l0] at H
   by_cases c3 : x5_1 ≥ 0
   ·rw [if_pos c3] at H
    have c3b0 : decide (0 ≤ x5_1) = true := decide_eq_true c3
    clear c3
    by_cases c4 : 0 ≤ x5_1
    ·rw [if_pos c4] at H
     have c4b0 : decide (0 ≤ x5_1) = true := decide_eq_true c4
     clear c4
     by_cases c5 : x5_1 < (a0.size : Int)
     ·rw [if_pos c5] at H
      have c5b0 : decide (x5_1 < (a0.size : Int)) = true := decide_eq_true c5
      clear c5
      by_cases c7 : (bt a0 x5_1) = a1
      ·rw [if_pos c7] at H
       have c7b0 : ((bt a0 x5_1) == a1) = true := beq_iff_eq.mpr c7
       have c7b1 : ((bt a0 x5_1) != a1) = false := bne_eq_false_iff_eq.mpr c7
       clear c7
       obtain rfl := Option.some.inj H
       have p6 : 0 ≤ (x5_1 : Int) := of_decide_eq_true (by first | (with_reducible assumption) | assumption)
       have q6 : x5_1 < (a0.size : Int) := of_decide_eq_true (by first | (with_reducible assumption) | assumption)
       have hx6 := bt_at a0 x5_1
       replace p6 := eq_true p6
       replace q6 := eq_true q6
       go_wp2
       go_ret
       exact ⟨by first | rfl | (simp; done) | (simp [*]; done), by repeat (first | exact Drawn0.refl _ | apply Drawn0.step)⟩
      ·rw [if_neg c7] at H
       have c7b0 : ((bt a0 x5_1) == a1) = false := beq_eq_false_iff_ne.mpr c7
       have c7b1 : ((bt a0 x5_1) != a1) = true := bne_iff_ne.mpr c7
       have H' := Aside0.mk H
       clear H
       have p6 : 0 ≤ (x5_1 : Int) := of_decide_eq_true (by first | (with_reducible assumption) | assumption)
       have q6 : x5_1 < (a0.size : Int) := of_decide_eq_true (by first | (with_reducible assumption) | assumption)
       have hx6 := bt_at a0 x5_1
       replace p6 := eq_true p6
       replace q6 := eq_true q6
       go_wp2
       go_roundg k1
       case measure => have := HK1.out; omega
       case rel => exact ⟨(wrap64 (x5_1 - 1)), (by first | rfl | (simp; done) | (simp [*]; done)), H', ⟨by have := HK1.out; omega⟩, by repeat (first | exact Drawn0.refl _ | apply Drawn0.step)⟩
     ·rw [if_neg c5] at H
      exact absurd H (by simp)
    ·rw [if_neg c4] at H
     exact absurd H (by simp)
   ·rw [if_neg c3] at H
    have c3b0 : decide (0 ≤ x5_1) = false := decide_eq_false c3
    clear c3
    obtain rfl := Option.some.inj H
    go_wp2
    go_ret
    exact ⟨by first | rfl | (simp; done) | (simp [*]; done), by repeat (first | exact Drawn0.refl _ | apply Drawn0.step)⟩

end Go.Proofs.Ytmlgfgmgolgjbaa.X
end

/-! ## StringsLastIndexByte -/
section
namespace Go.Proofs.Ytmlgfgmgolgjbaa.X
open Go.RowKit Go.Proofs.YtmlgfgmgolgjbaaW.PrintWords Go.Proofs.YtmlgfgmgolgjbaaW.PrintLast Go.Proofs.YtmlgfgmgolgjbaaW.PrintMore
attribute [local go_sem] max2_int min2_int max_two min_two max_three min_three max_four min_four   -- for this text's walks alone
set_option linter.unusedVariables false
set_option linter.unusedSimpArgs false

attribute [local go_sem] str_gtr fld_fault0 fld_fault1
/-! ### strings_LastIndexByte: function 69 -/
def strings_LastIndexByte.f (k : Nat) (a0 : ByteArray) (a1 : Int) : Option (Int) := (bytealg_LastIndexByteString.f k a0 a1).bind fun t121 => (some t121)
theorem strings_LastIndexByte.mono : ∀ a0 a1 k, LeO (strings_LastIndexByte.f k a0 a1) (strings_LastIndexByte.f (k + 1) a0 a1) := by
 intro a0 a1 k
 unfold strings_LastIndexByte.f
 repeat' first
   | (with_reducible exact bytealg_LastIndexByteString.mono _ _ _)
   | (with_reducible exact LeO.refl _)
   | (with_reducible exact LeO.none _)
   | (with_reducible refine LeO.ite ?_ ?_)
   | (with_reducible refine LeO.bind ?_ (fun _ => ?_))
   | exact bytealg_LastIndexByteString.mono _ _ _
   | exact LeO.none _
   | refine LeO.ite ?_ ?_
   | refine LeO.bind ?_ (fun _ => ?_)
set_option maxHeartbeats 8000000 in
set_option maxRecDepth 100000 in
theorem strings_LastIndexByte.calls (k : Nat) (a0 : ByteArray) (a1 : Int) (r : Int) (w : World) (h : strings_LastIndexByte.f k a0 a1 = some r) :
  Calls Try.prog 69 #[.string a0, .int .u8 a1] w fun e w' => e = .returned (.int .i64 r) ∧ Drawn0 w w' := by
 have H : ((bytealg_LastIndexByteString.f k a0 a1).bind fun t121 => (some t121)) = some r := h
 clear h
 replace H := Option.bind_eq_some_iff.mp H
 obtain ⟨t121, A30, H⟩ := H
 replace H : (some t121) = some r := H
 have A3 := Aside0.mk A30
 clear A30
 obtain rfl := Option.some.inj H
 go_enter Try.func69, Try.ntmps69
 go_wp2_with (first | ((with_reducible refine gate_callee (f := 89) rfl ?_); refine goesL_ (some 7) rfl rfl Try.func89 (by kernel_rfl) rfl #[.string a0, .int .u8 a1] rfl (by (try simp only [List.map_toArray, List.map_cons, List.map_nil]); first | done | rfl | (simp only [List.length_drop, List.length_take]; rfl)) ?_; (with_reducible refine (bytealg_LastIndexByteString.calls k a0 a1 t121 _ A3.out).mono ?_); rintro e w' ⟨rfl, ⟨nd, rfl⟩⟩; refine ⟨_, rfl, ?_⟩))
 go_ret
 exact ⟨by first | rfl | (simp; done) | (simp [*]; done), by repeat (first | exact Drawn0.refl _ | apply Drawn0.step)⟩

end Go.Proofs.Ytmlgfgmgolgjbaa.X
end

/-! ## PathParent -/
section
namespace Go.Proofs.Ytmlgfgmgolgjbaa.X
open Go.RowKit Go.Proofs.YtmlgfgmgolgjbaaW.PrintWords Go.Proofs.YtmlgfgmgolgjbaaW.PrintLast Go.Proofs.YtmlgfgmgolgjbaaW.PrintMore
attribute [local go_sem] max2_int min2_int max_two min_two max_three min_three max_four min_four   -- for this text's walks alone
set_option linter.unusedVariables false
set_option linter.unusedSimpArgs false

attribute [local go_sem] str_gtr fld_fault0 fld_fault1
/-! ### path_Parent: function 56 -/
def path_Parent.f (k : Nat) (a0 : ByteArray) : Option (ByteArray × Bool) := (strings_LastIndexByte.f k a0 47).bind fun t122 => (if t122 < 0 then (some ((⟨#[]⟩ : ByteArray), false)) else ((path_valid.f k a0).bind fun t123 => (if t123 = true then (if 0 ≤ t122 then (if t122 ≤ (a0.size : Int) then (some (a0.extract 0 (t122 : Int).toNat, true)) else (none)) else (none)) else (some ((⟨#[]⟩ : ByteArray), false)))))
theorem path_Parent.mono : ∀ a0 k, LeO (path_Parent.f k a0) (path_Parent.f (k + 1) a0) := by
 intro a0 k
 unfold path_Parent.f
 repeat' first
   | (with_reducible exact path_valid.mono _ _)
   | (with_reducible exact strings_LastIndexByte.mono _ _ _)
   | (with_reducible exact LeO.refl _)
   | (with_reducible exact LeO.none _)
   | (with_reducible refine LeO.ite ?_ ?_)
   | (with_reducible refine LeO.bind ?_ (fun _ => ?_))
   | exact path_valid.mono _ _
   | exact strings_LastIndexByte.mono _ _ _
   | exact LeO.none _
   | refine LeO.ite ?_ ?_
   | refine LeO.bind ?_ (fun _ => ?_)
set_option maxHeartbeats 8000000 in
set_option maxRecDepth 100000 in
theorem path_Parent.calls (k : Nat) (a0 : ByteArray) (r1 : ByteArray) (r2 : Bool) (w : World) (h : path_Parent.f k a0 = some (r1, r2)) :
  Calls Try.prog 56 #[.string a0] w fun e w' => e = .returned (.tuple #[.string r1, .bool r2]) ∧ Below w.heap.size w w' := by
 have HB := Aside0.mk (Below.refl w.heap.size w)
 have H : ((strings_LastIndexByte.f k a0 47).bind fun t122 => (if t122 < 0 then (some ((⟨#[]⟩ : ByteArray), false)) else ((path_valid.f k a0).bind fun t123 => (if t123 = true then (if 0 ≤ t122 then (if t122 ≤ (a0.size : Int) then (some (a0.extract 0 (t122 : Int).toNat, true)) else (none)) else (none)) else (some ((⟨#[]⟩ : ByteArray), false)))))) = some (r1, r2) := h
 clear h
 replace H := Option.bind_eq_some_iff.mp H
 obtain ⟨t122, A20, H⟩ := H
 replace H : (if t122 < 0 then (some ((⟨#[]⟩ : ByteArray), false)) else ((path_valid.f k a0).bind fun t123 => (if t123 = true then (if 0 ≤ t122 then (if t122 ≤ (a0.size : Int) then (some (a0.extract 0 (t122 : Int).toNat, true)) else (none)) else (none)) else (some ((⟨#[]⟩ : ByteArray), false))))) = some (r1, r2) := H
 have A2 := Aside0.mk A20
 clear A20
 by_cases c3 : t122 < 0
 ·rw [if_pos c3] at H
  have c3b0 : decide (t122 < 0) = true := decide_eq_true c3
  clear c3
  simp only [Option.some.injEq, Prod.mk.injEq] at H
  obtain ⟨rfl, rfl⟩ := H
  go_enter Try.func56, Try.ntmps56
  go_wp2_with (first | ((with_reducible refine gate_callee (f := 69) rfl ?_); refine goesL_ (some 6) rfl rfl Try.func69 (by kernel_rfl) rfl #[.string a0, .int .u8 47] rfl (by (try simp only [List.map_toArray, List.map_cons, List.map_nil]); first | done | rfl | (simp only [List.length_drop, List.length_take]; rfl)) ?_; (with_reducible refine (strings_LastIndexByte.calls k a0 47 t122 _ A2.out).mono ?_); rintro e w' ⟨rfl, ⟨nd, rfl⟩⟩; refine ⟨_, rfl, ?_⟩))
  go_ret2
  exact ⟨by first | rfl | (simp [errW_none, errW_some] <;> rfl) | (simp [*, errW_none, errW_some] <;> rfl) | (simp [bt, *]; done) | (simp_all [bt]; done), by repeat (first | (with_reducible first | exact HB.out | apply below_alloc | apply pw_below_drewN | apply below_drew1) | exact HB.out)⟩
 ·rw [if_neg c3] at H
  have c3b0 : decide (t122 < 0) = false := decide_eq_false c3
  clear c3
  replace H := Option.bind_eq_some_iff.mp H
  obtain ⟨t123, A40, H⟩ := H
  replace H : (if t123 = true then (if 0 ≤ t122 then (if t122 ≤ (a0.size : Int) then (some (a0.extract 0 (t122 : Int).toNat, true)) else (none)) else (none)) else (some ((⟨#[]⟩ : ByteArray), false))) = some (r1, r2) := H
  have A4 := Aside0.mk A40
  clear A40
  by_cases c5 : t123 = true
  ·subst c5
   have H1 : (if 0 ≤ t122 then (if t122 ≤ (a0.size : Int) then (some (a0.extract 0 (t122 : Int).toNat, true)) else (none)) else (none)) = some (r1, r2) := by rw [if_pos rfl] at H; exact H
   clear H
   have H := H1
   clear H1
   by_cases c6 : 0 ≤ t122
   ·rw [if_pos c6] at H
    have c6b0 := eq_true c6
    have c6b1 : decide (0 ≤ t122) = true := decide_eq_true c6
    clear c6
    by_cases c7 : t122 ≤ (a0.size : Int)
    ·rw [if_pos c7] at H
     have c7b0 := eq_true c7
     have c7b1 : decide (t122 ≤ (a0.size : Int)) = true := decide_eq_true c7
     clear c7
     simp only [Option.some.injEq, Prod.mk.injEq] at H
     obtain ⟨rfl, rfl⟩ := H
     go_enter Try.func56, Try.ntmps56
     go_wp2_with (first | ((with_reducible refine gate_callee (f := 69) rfl ?_); refine goesL_ (some 6) rfl rfl Try.func69 (by kernel_rfl) rfl #[.string a0, .int .u8 47] rfl (by (try simp only [List.map_toArray, List.map_cons, List.map_nil]); first | done | rfl | (simp only [List.length_drop, List.length_take]; rfl)) ?_; (with_reducible refine (strings_LastIndexByte.calls k a0 47 t122 _ A2.out).mono ?_); rintro e w' ⟨rfl, ⟨nd, rfl⟩⟩; refine ⟨_, rfl, ?_⟩) | (go_at_call 66; (with_reducible refine (path_valid.calls k a0 true _ A4.out).mono ?_); rintro e w8 ⟨rfl, hb⟩; have n0_ := Aside0.mk (below_step (by repeat (first | (with_reducible first | exact HB.out | apply below_alloc | apply pw_below_drewN | apply below_drew1) | exact HB.out)) hb); clear HB; have HB := n0_; clear n0_; (try clear hb); (try clear hb2); (try clear hk); (try clear hi)))
     go_ret2
     exact ⟨by first | rfl | (simp [errW_none, errW_some] <;> rfl) | (simp [*, errW_none, errW_some] <;> rfl) | (simp [bt, *]; done) | (simp_all [bt]; done), by repeat (first | (with_reducible first | exact HB.out | apply below_alloc | apply pw_below_drewN | apply below_drew1) | exact HB.out)⟩
    ·rw [if_neg c7] at H
     exact absurd H (by simp)
   ·rw [if_neg c6] at H
    exact absurd H (by simp)
  ·replace c5 := Bool.eq_false_iff.mpr c5
   subst c5
   have H1 : (some ((⟨#[]⟩ : ByteArray), false)) = some (r1, r2) := by rw [if_neg (show ¬ (false = true) by decide)] at H; exact H
   clear H
   have H := H1
   clear H1
   simp only [Option.some.injEq, Prod.mk.injEq] at H
   obtain ⟨rfl, rfl⟩ := H
   go_enter Try.func56, Try.ntmps56
   go_wp2_with (first | ((with_reducible refine gate_callee (f := 69) rfl ?_); refine goesL_ (some 6) rfl rfl Try.func69 (by kernel_rfl) rfl #[.string a0, .int .u8 47] rfl (by (try simp only [List.map_toArray, List.map_cons, List.map_nil]); first | done | rfl | (simp only [List.length_drop, List.length_take]; rfl)) ?_; (with_reducible refine (strings_LastIndexByte.calls k a0 47 t122 _ A2.out).mono ?_); rintro e w' ⟨rfl, ⟨nd, rfl⟩⟩; refine ⟨_, rfl, ?_⟩) | (go_at_call 66; (with_reducible refine (path_valid.calls k a0 false _ A4.out).mono ?_); rintro e w9 ⟨rfl, hb⟩; have n0_ := Aside0.mk (below_step (by repeat (first | (with_reducible first | exact HB.out | apply below_alloc | apply pw_below_drewN | apply below_drew1) | exact HB.out)) hb); clear HB; have HB := n0_; clear n0_; (try clear hb); (try clear hb2); (try clear hk); (try clear hi)))
   go_ret2
   exact ⟨by first | rfl | (simp [errW_none, errW_some] <;> rfl) | (simp [*, errW_none, errW_some] <;> rfl) | (simp [bt, *]; done) | (simp_all [bt]; done), by repeat (first | (with_reducible first | exact HB.out | apply below_alloc | apply pw_below_drewN | apply below_drew1) | exact HB.out)⟩

end Go.Proofs.Ytmlgfgmgolgjbaa.X
end

/-! ## PureA -/
section
namespace Go.Proofs.Ytmlgfgmgolgjbaa.X
open Go.RowKit Go.Proofs.YtmlgfgmgolgjbaaW.PrintWords Go.Proofs.YtmlgfgmgolgjbaaW.PrintLast Go.Proofs.YtmlgfgmgolgjbaaW.PrintMore
set_option linter.unusedVariables false
set_option linter.unusedSimpArgs false
/-- With enough rounds it tells r. -/
def Ev {α : Type} (g : Nat → Option α) (r : α) : Prop := ∃ K, ∀ k, K ≤ k → g k = some r
namespace Ev
variable {α β : Type} {g g' : Nat → Option α} {a r' r : α} {b : β}
theorem const (r : α) : Ev (fun _ => some r) r := ⟨0, fun _ _ => rfl⟩
theorem congr (h : Ev g r) (he : ∀ k, g' k = g k) : Ev g' r := by
 obtain ⟨K, hK⟩ := h
 exact ⟨K, fun k hk => (he k).trans (hK k hk)⟩
theorem bind {h : Nat → α → Option β} (hg : Ev g a) (hh : Ev (fun k => h k a) b) : Ev (fun k => (g k).bind (h k)) b := by
 obtain ⟨K, hK⟩ := hg
 obtain ⟨L, hL⟩ := hh
 refine ⟨max K L, fun k hk => ?_⟩
 show (g k).bind (h k) = some b
 rw [hK k (by omega)]
 exact hL k (by omega)
theorem shift (h : Ev (fun k => g (k + 1)) r) : Ev g r := by
 obtain ⟨K, hK⟩ := h
 refine ⟨K + 1, fun k hk => ?_⟩
 obtain ⟨j, rfl⟩ : ∃ j, k = j + 1 := ⟨k - 1, by omega⟩
 exact hK j (by omega)
theorem uniq (h : Ev g r) (h' : Ev g r') : r = r' := by
 obtain ⟨K, hK⟩ := h
 obtain ⟨L, hL⟩ := h'
 have h1 := hK (max K L) (by omega)
 rw [hL (max K L) (by omega)] at h1
 exact (Option.some.inj h1).symm
theorem of_mono (hm : ∀ k, LeO (g k) (g (k + 1))) {K : Nat} (h : g K = some r) : Ev g r := by
 refine ⟨K, fun k hk => ?_⟩
 obtain ⟨n, rfl⟩ : ∃ n, k = K + n := ⟨k - K, by omega⟩
 clear hk
 induction n with
 | zero => exact h
 | succ n ih => exact hm _ _ ih
theorem ifp {c : Prop} [Decidable c] {x y : Nat → Option α} (hc : c) (h : Ev x r) : Ev (fun k => if c then x k else y k) r := h.congr fun k => if_pos hc
theorem ifn {c : Prop} [Decidable c] {x y : Nat → Option α} (hc : ¬ c) (h : Ev y r) : Ev (fun k => if c then x k else y k) r := h.congr fun k => if_neg hc
end Ev
/-! ### Texts -/
theorem toList_len (s : ByteArray) : s.toList.length = s.size := by rw [ByteArray.toList_eq]; rfl
theorem bytes_ext {a b : ByteArray} (h : a.toList = b.toList) : a = b := by
 rw [ByteArray.toList_eq, ByteArray.toList_eq] at h
 cases a; cases b
 exact congrArg _ (Array.ext' h)
theorem extract_list (s : ByteArray) (a b : Nat) : (s.extract a b).toList = (s.toList.take b).drop a := by
 rw [ByteArray.toList_eq, ByteArray.toList_eq, ByteArray.data_extract]
 simp [Array.toList_extract, List.extract_eq_take_drop, List.drop_take]
/-- Which of two lists of numbers is ahead, letter by letter. -/
def lexCmp : List Nat → List Nat → Int
 | [], [] => 0
 | [], _ :: _ => -1
 | _ :: _, [] => 1
 | a :: x, b :: y => if a < b then -1 else if b < a then 1 else lexCmp x y
theorem lexCmp_range : ∀ x y, lexCmp x y = 0 ∨ lexCmp x y = 1 ∨ lexCmp x y = -1
 | [], [] => .inl rfl
 | [], _ :: _ => .inr (.inr rfl)
 | _ :: _, [] => .inr (.inl rfl)
 | a :: x, b :: y => by
  unfold lexCmp
  split
  ·exact .inr (.inr rfl)
  ·split
   ·exact .inr (.inl rfl)
   ·exact lexCmp_range x y
theorem lexCmp_self : ∀ x, lexCmp x x = 0
 | [] => rfl
 | a :: x => by
  unfold lexCmp
  rw [if_neg (by omega), if_neg (by omega)]
  exact lexCmp_self x
theorem lexCmp_swap : ∀ x y, lexCmp y x = -lexCmp x y
 | [], [] => rfl
 | [], _ :: _ => rfl
 | _ :: _, [] => rfl
 | a :: x, b :: y => by
  unfold lexCmp
  by_cases h1 : a < b
  ·simp [h1, show ¬ b < a by omega]
  ·by_cases h2 : b < a
   ·simp [h1, h2]
   ·rw [if_neg h1, if_neg h2, if_neg h2, if_neg h1]
    exact lexCmp_swap x y
theorem lexCmp_append : ∀ (x y z), lexCmp (x ++ y) (x ++ z) = lexCmp y z
 | [], _, _ => rfl
 | a :: x, y, z => by
  show (if a < a then (-1 : Int) else if a < a then 1 else lexCmp (x ++ y) (x ++ z)) = _
  rw [if_neg (by omega), if_neg (by omega)]
  exact lexCmp_append x y z
def nats (s : ByteArray) : List Nat := s.toList.map UInt8.toNat
theorem bytesLess_lex : ∀ a b : List UInt8, Op.bytesLess a b = decide (lexCmp (a.map UInt8.toNat) (b.map UInt8.toNat) < 0)
 | [], [] => rfl
 | [], _ :: _ => rfl
 | _ :: _, [] => rfl
 | a :: x, b :: y => by
  have ih := bytesLess_lex x y
  simp only [Op.bytesLess, List.map_cons, lexCmp]
  rw [ih]
  by_cases h1 : a.toNat < b.toNat
  ·rw [if_pos h1, decide_eq_true (UInt8.lt_iff_toNat_lt.2 h1)]; rfl
  ·rw [if_neg h1, decide_eq_false (fun e => h1 (UInt8.lt_iff_toNat_lt.1 e))]
   by_cases h2 : b.toNat < a.toNat
   ·rw [if_pos h2, show (a == b) = false from beq_eq_false_iff_ne.2 (fun e => by rw [e] at h2; omega)]; rfl
   ·rw [if_neg h2, show (a == b) = true from beq_iff_eq.2 (UInt8.toNat_inj.1 (by omega))]; simp
theorem cmp_string (a b : ByteArray) : cmp_Compare_string.f a b = some (lexCmp (nats a) (nats b)) := by
 have h1 : ∀ s : ByteArray, (s.toList != s.toList) = false := fun s => by simp
 unfold cmp_Compare_string.f cmp_isNaN_string.f
 rw [h1, h1]
 simp only [Option.bind_some, Bool.false_eq_true, if_false]
 rw [bytesLess_lex, bytesLess_lex]
 have h2 := lexCmp_swap (nats a) (nats b)
 unfold nats at h2 ⊢
 rcases lexCmp_range (a.toList.map UInt8.toNat) (b.toList.map UInt8.toNat) with h | h | h <;> rw [h2, h] <;> simp
/-! ### The cut at the first slash -/
theorem cutAt_none {s : ByteArray} {c : UInt8} (h : c ∉ s.toList) : cutAt s c = (s, ⟨#[]⟩, false) := by
 unfold cutAt
 have hge := Lib.indexByte_ge s.data.toList c
 rw [if_neg]
 intro h0
 obtain ⟨i, hi⟩ := Int.eq_ofNat_of_zero_le h0
 have := (Lib.indexByte_some hi).1
 rw [ByteArray.toList_eq] at h
 exact h (List.mem_of_getElem? this)
theorem cutAt_some {s : ByteArray} {c : UInt8} {x y : List UInt8} (hx : c ∉ x) (h : s.toList = x ++ c :: y) : (cutAt s c).1.toList = x ∧ (cutAt s c).2.1.toList = y ∧ (cutAt s c).2.2 = true := by
 have hd : s.data.toList = x ++ c :: y := by rw [← ByteArray.toList_eq]; exact h
 have hi : Lib.indexByte s.data.toList c = (x.length : Int) := by
  have hge := Lib.indexByte_ge s.data.toList c
  by_cases h0 : Lib.indexByte s.data.toList c = -1
  ·exact absurd (by rw [hd]; simp) (Lib.indexByte_none h0 x.length)
  ·obtain ⟨i, hi⟩ := Int.eq_ofNat_of_zero_le (show 0 ≤ Lib.indexByte s.data.toList c by omega)
   obtain ⟨h1, h2⟩ := Lib.indexByte_some hi
   rw [hi]
   rcases Nat.lt_trichotomy i x.length with h3 | h3 | h3
   ·rw [hd, List.getElem?_append_left h3] at h1
    exact absurd (List.mem_of_getElem? h1) hx
   ·rw [h3]
   ·exact absurd (by rw [hd]; simp) (h2 x.length h3)
 unfold cutAt
 rw [if_pos (by rw [hi]; omega), hi]
 rw [Int.toNat_natCast]
 refine ⟨?_, ?_, rfl⟩
 ·rw [extract_list, h]; simp
 ·rw [extract_list, ← toList_len, h, List.take_length]; simp
theorem cut_f (s : ByteArray) (hs : s.size ≤ 140737488355328) : strings_Cut.f s ⟨#[47]⟩ = some (cutAt s 47) := by
 unfold strings_Cut.f
 rw [if_pos ⟨rfl, hs⟩]
 rfl
/-- A path's letters, the slash ahead of all others. -/
def key1 (c : UInt8) : Nat := if c = 47 then 0 else c.toNat + 1
def key (s : ByteArray) : List Nat := s.toList.map key1
/-- Two texts without a slash: as bytes. -/
theorem lex_parts : ∀ {x y : List UInt8} (p q : List Nat), (47 : UInt8) ∉ x → (47 : UInt8) ∉ y → x ≠ y → (p = [] ∨ ∃ t, p = 0 :: t) → (q = [] ∨ ∃ t, q = 0 :: t) → lexCmp (x.map key1 ++ p) (y.map key1 ++ q) = lexCmp (x.map UInt8.toNat) (y.map UInt8.toNat)
 | [], [], _, _, _, _, h, _, _ => absurd rfl h
 | [], b :: y, p, q, _, hy, _, hp, _ => by
  have hb : key1 b = b.toNat + 1 := if_neg (fun e => hy (by rw [e]; simp))
  rcases hp with rfl | ⟨t, rfl⟩
  ·rfl
  ·simp only [List.map_nil, List.nil_append, List.map_cons, List.cons_append, lexCmp]
   rw [hb, if_pos (by omega)]
 | a :: x, [], p, q, hx, _, _, _, hq => by
  have ha : key1 a = a.toNat + 1 := if_neg (fun e => hx (by rw [e]; simp))
  rcases hq with rfl | ⟨t, rfl⟩
  ·rfl
  ·simp only [List.map_nil, List.nil_append, List.map_cons, List.cons_append, lexCmp]
   rw [ha, if_neg (by omega), if_pos (by omega)]
 | a :: x, b :: y, p, q, hx, hy, hne, hp, hq => by
  have ha : key1 a = a.toNat + 1 := if_neg (fun e => hx (by rw [e]; simp))
  have hb : key1 b = b.toNat + 1 := if_neg (fun e => hy (by rw [e]; simp))
  simp only [List.map_cons, List.cons_append, lexCmp]
  rw [ha, hb]
  by_cases h1 : a.toNat < b.toNat
  ·rw [if_pos (by omega), if_pos h1]
  ·by_cases h2 : b.toNat < a.toNat
   ·rw [if_neg (by omega), if_pos (by omega), if_neg h1, if_pos h2]
   ·rw [if_neg (by omega), if_neg (by omega), if_neg h1, if_neg h2]
    have e : a = b := UInt8.toNat_inj.1 (by omega)
    subst e
    exact lex_parts p q (fun h => hx (List.mem_cons_of_mem _ h)) (fun h => hy (List.mem_cons_of_mem _ h)) (fun h => hne (by rw [h])) hp hq
theorem cut_cases (s : ByteArray) : ((47 : UInt8) ∉ s.toList ∧ cutAt s 47 = (s, ⟨#[]⟩, false)) ∨ ∃ x y, s.toList = x ++ 47 :: y ∧ (47 : UInt8) ∉ x ∧ (cutAt s 47).1.toList = x ∧ (cutAt s 47).2.1.toList = y ∧ (cutAt s 47).2.2 = true := by
 by_cases h : (47 : UInt8) ∈ s.toList
 ·obtain ⟨x, y, h1, h2⟩ := List.append_of_mem h |> fun _ => (List.eq_append_cons_of_mem h)
  obtain ⟨h3, h4, h5⟩ := cutAt_some h2 h1
  exact .inr ⟨x, y, h1, h2, h3, h4, h5⟩
 ·exact .inl ⟨h, cutAt_none h⟩
theorem order_step (a b : ByteArray) (ha : a.size ≤ 140737488355328) (hb : b.size ≤ 140737488355328) (ih : ∀ a' b' : ByteArray, a'.size < a.size → a'.size ≤ 140737488355328 → b'.size ≤ 140737488355328 → Ev (fun k => path_order.f k a' b') (lexCmp (key a') (key b'))) : Ev (fun k => path_order.f k a b) (lexCmp (key a) (key b)) := by
 refine Ev.shift ?_
 simp only [path_order.f]
 rw [cut_f a ha, cut_f b hb]
 simp only [Option.bind_some]
 have key_of : ∀ (s : ByteArray) (x y : List UInt8), s.toList = x ++ 47 :: y → key s = x.map key1 ++ 0 :: y.map key1 := by
  intro s x y h
  unfold key
  rw [h, List.map_append, List.map_cons]
  rfl
 have none_of : ∀ s : ByteArray, cutAt s 47 = (s, ⟨#[]⟩, false) → (cutAt s 47).1 = s ∧ (cutAt s 47).2.2 = false := by
  intro s h
  rw [h]
  exact ⟨rfl, rfl⟩
 by_cases he : (cutAt a 47).1.toList = (cutAt b 47).1.toList
 ·refine Ev.ifp he ?_
  rcases cut_cases a with ⟨a1, a2⟩ | ⟨x, y, a1, a2, a3, a4, a5⟩
  ·obtain ⟨a3, a5⟩ := none_of a a2
   rw [a5]
   refine Ev.ifn (by simp) (Ev.shift ?_)
   simp only [path_order.j0]
   refine Ev.ifn (by simp) (Ev.ifn (by simp) ?_)
   rcases cut_cases b with ⟨b1, b2⟩ | ⟨u, v, b1, b2, b3, b4, b5⟩
   ·obtain ⟨b3, b5⟩ := none_of b b2
    rw [b5]
    refine Ev.ifn (by simp) ?_
    rw [a3, b3] at he
    rw [bytes_ext he, lexCmp_self]
    exact Ev.const _
   ·rw [b5]
    refine Ev.ifp (by simp) ?_
    rw [a3, b3] at he
    rw [key_of b u v b1, show key a = u.map key1 ++ [] by rw [List.append_nil]; unfold key; rw [he], lexCmp_append]
    exact Ev.const _
  ·rw [a5]
   refine Ev.ifp (by simp) (Ev.shift ?_)
   simp only [path_order.j0]
   rcases cut_cases b with ⟨b1, b2⟩ | ⟨u, v, b1, b2, b3, b4, b5⟩
   ·obtain ⟨b3, b5⟩ := none_of b b2
    rw [b5]
    refine Ev.ifn (by simp) (Ev.ifp (by simp) ?_)
    rw [a3, b3] at he
    rw [key_of a x y a1, show key b = x.map key1 ++ [] by rw [List.append_nil]; unfold key; rw [← he], lexCmp_append]
    exact Ev.const _
   ·rw [b5]
    refine Ev.ifp (by simp) ?_
    rw [a3, b3] at he
    have l1 : a.size = x.length + (y.length + 1) := by rw [← toList_len, a1]; simp
    have l2 : b.size = u.length + (v.length + 1) := by rw [← toList_len, b1]; simp
    have l3 : (cutAt a 47).2.1.size = y.length := by rw [← toList_len, a4]
    have l4 : (cutAt b 47).2.1.size = v.length := by rw [← toList_len, b4]
    have h1 := ih (cutAt a 47).2.1 (cutAt b 47).2.1 (by omega) (by omega) (by omega)
    have e : lexCmp (key a) (key b) = lexCmp (key (cutAt a 47).2.1) (key (cutAt b 47).2.1) := by
     rw [key_of a x y a1, key_of b u v b1, he, lexCmp_append]
     unfold key
     rw [a4, b4]
     show (if (0 : Nat) < 0 then (-1 : Int) else if (0 : Nat) < 0 then 1 else lexCmp _ _) = _
     rw [if_neg (by omega), if_neg (by omega)]
    rw [e]
    exact Ev.bind h1 (Ev.const _)
 ·refine Ev.ifn he ?_
  rw [cmp_string]
  have e : lexCmp (nats (cutAt a 47).1) (nats (cutAt b 47).1) = lexCmp (key a) (key b) := by
   have ka : ∃ p, key a = (cutAt a 47).1.toList.map key1 ++ p ∧ (p = [] ∨ ∃ t, p = 0 :: t) ∧ (47 : UInt8) ∉ (cutAt a 47).1.toList := by
    rcases cut_cases a with ⟨a1, a2⟩ | ⟨x, y, a1, a2, a3, a4, a5⟩
    ·exact ⟨[], by rw [(none_of a a2).1, List.append_nil]; rfl, .inl rfl, by rw [(none_of a a2).1]; exact a1⟩
    ·exact ⟨0 :: y.map key1, by rw [a3]; exact key_of a x y a1, .inr ⟨_, rfl⟩, by rw [a3]; exact a2⟩
   have kb : ∃ p, key b = (cutAt b 47).1.toList.map key1 ++ p ∧ (p = [] ∨ ∃ t, p = 0 :: t) ∧ (47 : UInt8) ∉ (cutAt b 47).1.toList := by
    rcases cut_cases b with ⟨a1, a2⟩ | ⟨x, y, a1, a2, a3, a4, a5⟩
    ·exact ⟨[], by rw [(none_of b a2).1, List.append_nil]; rfl, .inl rfl, by rw [(none_of b a2).1]; exact a1⟩
    ·exact ⟨0 :: y.map key1, by rw [a3]; exact key_of b x y a1, .inr ⟨_, rfl⟩, by rw [a3]; exact a2⟩
   obtain ⟨p, hp1, hp2, hp3⟩ := ka
   obtain ⟨q, hq1, hq2, hq3⟩ := kb
   rw [hp1, hq1]
   exact (lex_parts p q hp3 hq3 he hp2 hq2).symm
  rw [e]
  exact Ev.const _
theorem order_ev : ∀ (n : Nat) (a b : ByteArray), a.size ≤ n → a.size ≤ 140737488355328 → b.size ≤ 140737488355328 → Ev (fun k => path_order.f k a b) (lexCmp (key a) (key b)) := by
 intro n
 induction n with
 | zero =>
  intro a b hn ha hb
  exact order_step a b ha hb (fun a' b' h1 h2 h3 => by omega)
 | succ n ih => exact fun a b hn ha hb => order_step a b ha hb (fun a' b' h1 h2 h3 => ih a' b' (by omega) h2 h3)
end Go.Proofs.Ytmlgfgmgolgjbaa.X
end

/-! ## PureB -/
section
namespace Go.Proofs.Ytmlgfgmgolgjbaa.X
open Go.RowKit Go.Proofs.YtmlgfgmgolgjbaaW.PrintWords Go.Proofs.YtmlgfgmgolgjbaaW.PrintLast Go.Proofs.YtmlgfgmgolgjbaaW.PrintMore
set_option linter.unusedVariables false
set_option linter.unusedSimpArgs false
theorem bt_list (s : ByteArray) (i : Nat) (h : i < s.toList.length) : bt s (i : Int) = ((s.toList[i]'h).toNat : Int) := by
 have h' : i < s.size := by rw [toList_len] at h; exact h
 unfold bt
 rw [dif_pos (by simpa using h')]
 have e : s.toList[i]'h = s[i]'h' := by
  simp only [ByteArray.toList_eq]
  rfl
 rw [e]
 simp
theorem wrap_id (n : Int) (h : -9223372036854775808 ≤ n ∧ n ≤ 9223372036854775807) : wrap64 n = n := by unfold wrap64; omega
/-- What is wrong with a part, n letters long, from its i-th letter on. -/
def scan (n : Nat) : List UInt8 → Nat → Int × Int
 | [], _ => if 60 < n then (3, 60) else (0, 0)
 | c :: t, i => if c.toNat < 33 then (4, (i : Int)) else if 126 < c.toNat then (4, (i : Int)) else if c = 47 then (4, (i : Int)) else scan n t (i + 1)
def stepOf (s : ByteArray) : Int × Int := if s.toList = [] ∨ s.toList = [46] ∨ s.toList = [46, 46] then (2, 0) else scan s.size s.toList 0
theorem step_l0 (s : ByteArray) (hs : s.size ≤ 140737488355328) : ∀ (m i : Nat), i + m = s.size → Ev (fun k => path_step.l0 k s (s.size : Int) (i : Int)) (scan s.size (s.toList.drop i) i)
 | 0, i, h => by
  refine Ev.shift ?_
  simp only [path_step.l0]
  refine Ev.ifn (by omega) ?_
  rw [show s.toList.drop i = [] from List.drop_eq_nil_of_le (by rw [toList_len]; omega)]
  unfold scan
  by_cases h1 : 60 < s.size
  ·rw [if_pos h1]; exact Ev.ifp (by omega) (Ev.const _)
  ·rw [if_neg h1]; exact Ev.ifn (by omega) (Ev.const _)
 | m + 1, i, h => by
  refine Ev.shift ?_
  simp only [path_step.l0]
  have hl : i < s.toList.length := by rw [toList_len]; omega
  refine Ev.ifp (by omega) (Ev.ifp (by omega) (Ev.ifp (by omega) ?_))
  rw [List.drop_eq_getElem_cons hl, bt_list s i hl]
  unfold scan
  by_cases h1 : (s.toList[i]'hl).toNat < 33
  ·rw [if_pos h1]; exact Ev.ifp (by omega) (Ev.const _)
  ·rw [if_neg h1]
   refine Ev.ifn (by omega) ?_
   by_cases h2 : 126 < (s.toList[i]'hl).toNat
   ·rw [if_pos h2]; exact Ev.ifp (by omega) (Ev.const _)
   ·rw [if_neg h2]
    refine Ev.ifn (by omega) ?_
    by_cases h3 : s.toList[i]'hl = 47
    ·rw [if_pos h3]; exact Ev.ifp (by rw [h3]; rfl) (Ev.const _)
    ·rw [if_neg h3]
     refine Ev.ifn (fun e => h3 (UInt8.toNat_inj.1 (by show _ = 47; omega))) ?_
     have := step_l0 s hs m (i + 1) (by omega)
     rw [wrap_id _ (by omega)]
     exact this
theorem step_ev (s : ByteArray) (hs : s.size ≤ 140737488355328) : Ev (fun k => path_step.f k s) (stepOf s) := by
 unfold stepOf
 simp only [path_step.f]
 have h0 := step_l0 s hs s.size 0 (by omega)
 rw [List.drop_zero] at h0
 by_cases h1 : s.toList = []
 ·rw [if_pos (.inl h1)]
  refine Ev.ifp h1 (Ev.shift ?_)
  simp only [path_step.j0]
  exact Ev.ifp (by simp) (Ev.const _)
 ·refine Ev.ifn h1 ?_
  by_cases h2 : s.toList = [46]
  ·rw [if_pos (.inr (.inl h2))]
   refine Ev.ifp h2 (Ev.shift ?_)
   simp only [path_step.j0]
   exact Ev.ifp (by simp) (Ev.const _)
  ·refine Ev.ifn h2 (Ev.shift ?_)
   simp only [path_step.j0]
   by_cases h3 : s.toList = [46, 46]
   ·rw [if_pos (.inr (.inr h3))]
    exact Ev.ifp (by rw [h3]; rfl) (Ev.const _)
   ·rw [if_neg (by simp [h1, h2, h3])]
    exact Ev.ifn (by simpa using h3) h0
/-- The parts of a path one behind the other; m: how many may still come. -/
def chk : Nat → ByteArray → Nat → Nat → Int × Int
 | 0, _, _, a => (3, (a : Int))
 | m + 1, s, n, a => if (stepOf (cutAt s 47).1).1 = 0 then (if (cutAt s 47).2.2 = true then chk m (cutAt s 47).2.1 (n + 1) (a + (cutAt s 47).1.size + 1) else (0, 0)) else ((stepOf (cutAt s 47).1).1, wrap64 ((a : Int) + (stepOf (cutAt s 47).1).2))
theorem cut_rest_size (s : ByteArray) : (cutAt s 47).2.1.size ≤ s.size ∧ (cutAt s 47).1.size ≤ s.size := by
 rcases cut_cases s with ⟨_, h⟩ | ⟨x, y, h1, _, h3, h4, _⟩
 ·rw [h]; exact ⟨Nat.zero_le _, Nat.le_refl _⟩
 ·have l1 : s.size = x.length + (y.length + 1) := by rw [← toList_len, h1]; simp
  have l3 : (cutAt s 47).2.1.size = y.length := by rw [← toList_len, h4]
  have l4 : (cutAt s 47).1.size = x.length := by rw [← toList_len, h3]
  omega
theorem check_l0 : ∀ (m : Nat) (s : ByteArray) (n a : Nat), n + m = 20 → s.size ≤ 140737488355328 → Ev (fun k => path_Check.l0 k s n a) (chk m s n a)
 | 0, s, n, a, h, hs => by
  refine Ev.shift ?_
  simp only [path_Check.l0]
  exact Ev.ifp (by omega) (Ev.const _)
 | m + 1, s, n, a, h, hs => by
  refine Ev.shift ?_
  simp only [path_Check.l0]
  refine Ev.ifn (by omega) (Ev.bind (step_ev _ (by have := (cut_rest_size s).2; omega)) ?_)
  unfold chk
  by_cases h1 : (stepOf (cutAt s 47).1).1 = 0
  ·rw [if_pos h1]
   refine Ev.ifp h1 ?_
   by_cases h2 : (cutAt s 47).2.2 = true
   ·rw [if_pos h2]
    exact Ev.ifp h2 (check_l0 m _ _ _ (by omega) (by have := (cut_rest_size s).1; omega))
   ·rw [if_neg h2]
    exact Ev.ifn h2 (Ev.const _)
  ·rw [if_neg h1]
   exact Ev.ifn h1 (Ev.const _)
def checkV (s : ByteArray) : Int × Int := if s.toList = [] then (2, 0) else if 200 < s.size then (3, 200) else chk 20 s 0 0
theorem check_ev (s : ByteArray) : Ev (fun k => path_Check.f k s) (checkV s) := by
 unfold checkV
 simp only [path_Check.f]
 by_cases h1 : s.toList = []
 ·rw [if_pos h1]; exact Ev.ifp h1 (Ev.const _)
 ·rw [if_neg h1]
  refine Ev.ifn h1 ?_
  by_cases h2 : 200 < s.size
  ·rw [if_pos h2]; exact Ev.ifp (by omega) (Ev.const _)
  ·rw [if_neg h2]; exact Ev.ifn (by omega) (check_l0 20 s 0 0 rfl (by omega))
def validV (s : ByteArray) : Bool := (checkV s).1 == 0
theorem valid_ev (s : ByteArray) : Ev (fun k => path_valid.f k s) (validV s) := by
 simp only [path_valid.f]
 exact Ev.bind (check_ev s) (Ev.const _)
theorem valid_size {s : ByteArray} (h : validV s = true) : s.size ≤ 200 := by
 unfold validV checkV at h
 split at h
 ·cases h
 ·split at h
  ·cases h
  ·omega
def cmpV (a b : ByteArray) : Int := if validV a = true then (if validV b = true then lexCmp (key a) (key b) else 1) else if validV b = true then -1 else lexCmp (nats a) (nats b)
theorem compare_ev (a b : ByteArray) : Ev (fun k => path_Compare.f k a b) (cmpV a b) := by
 simp only [path_Compare.f]
 refine Ev.bind (valid_ev a) (Ev.bind (valid_ev b) ?_)
 by_cases h1 : validV a = true
 ·refine Ev.ifp h1 (Ev.shift ?_)
  simp only [path_Compare.j0]
  by_cases h2 : validV b = true
  ·rw [show cmpV a b = lexCmp (key a) (key b) by unfold cmpV; rw [if_pos h1, if_pos h2]]
   exact Ev.ifp h2 (Ev.bind (order_ev a.size a b (Nat.le_refl _) (by have := valid_size h1; omega) (by have := valid_size h2; omega)) (Ev.const _))
  ·rw [show cmpV a b = 1 by unfold cmpV; rw [if_pos h1, if_neg h2]]
   exact Ev.ifn h2 (Ev.ifp h1 (Ev.const _))
 ·refine Ev.ifn h1 (Ev.shift ?_)
  simp only [path_Compare.j0]
  refine Ev.ifn (by simp) (Ev.ifn h1 ?_)
  by_cases h2 : validV b = true
  ·rw [show cmpV a b = -1 by unfold cmpV; rw [if_neg h1, if_pos h2]]
   exact Ev.ifp h2 (Ev.const _)
  ·rw [show cmpV a b = lexCmp (nats a) (nats b) by unfold cmpV; rw [if_neg h1, if_neg h2]]
   refine Ev.ifn h2 ?_
   rw [cmp_string]
   exact Ev.const _
/-- The last slash among the first n letters. -/
def lastUpTo (l : List UInt8) : Nat → Int
 | 0 => -1
 | n + 1 => if l[n]? = some 47 then (n : Int) else lastUpTo l n
theorem lastUpTo_lt (l : List UInt8) : ∀ n, lastUpTo l n < (n : Int) ∧ -1 ≤ lastUpTo l n
 | 0 => by unfold lastUpTo; omega
 | n + 1 => by
  unfold lastUpTo
  have := lastUpTo_lt l n
  split <;> omega
theorem last_l0 (s : ByteArray) (hs : s.size ≤ 140737488355328) : ∀ n, n ≤ s.size → Ev (fun k => bytealg_LastIndexByteString.l0 k s 47 ((n : Int) - 1)) (lastUpTo s.toList n)
 | 0, h => by
  refine Ev.shift ?_
  simp only [bytealg_LastIndexByteString.l0]
  exact Ev.ifn (by omega) (Ev.const _)
 | n + 1, h => by
  refine Ev.shift ?_
  simp only [bytealg_LastIndexByteString.l0]
  have hl : n < s.toList.length := by rw [toList_len]; omega
  have e1 : ((n + 1 : Nat) : Int) - 1 = (n : Int) := by omega
  rw [e1]
  refine Ev.ifp (by omega) (Ev.ifp (by omega) (Ev.ifp (by omega) ?_))
  unfold lastUpTo
  rw [bt_list s n hl, List.getElem?_eq_getElem hl]
  by_cases h3 : s.toList[n]'hl = 47
  ·rw [if_pos (by rw [h3])]; exact Ev.ifp (by rw [h3]; rfl) (Ev.const _)
  ·rw [if_neg (fun e => h3 (Option.some.inj e))]
   refine Ev.ifn (fun e => h3 (UInt8.toNat_inj.1 (by show _ = 47; omega))) ?_
   rw [wrap_id _ (by omega)]
   exact last_l0 s hs n (by omega)
def parentV (s : ByteArray) : ByteArray × Bool := if lastUpTo s.toList s.size < 0 then (⟨#[]⟩, false) else if validV s = true then (s.extract 0 (lastUpTo s.toList s.size).toNat, true) else (⟨#[]⟩, false)
theorem parent_ev (s : ByteArray) (hs : s.size ≤ 140737488355328) : Ev (fun k => path_Parent.f k s) (parentV s) := by
 simp only [path_Parent.f, strings_LastIndexByte.f, bytealg_LastIndexByteString.f]
 have h0 := last_l0 s hs s.size (Nat.le_refl _)
 rw [wrap_id _ (by omega)]
 refine Ev.bind (Ev.bind h0 (Ev.const _)) ?_
 have hr := lastUpTo_lt s.toList s.size
 by_cases h1 : lastUpTo s.toList s.size < 0
 ·rw [show parentV s = (⟨#[]⟩, false) by unfold parentV; rw [if_pos h1]]
  exact Ev.ifp h1 (Ev.const _)
 ·refine Ev.ifn h1 (Ev.bind (valid_ev s) ?_)
  by_cases h2 : validV s = true
  ·rw [show parentV s = (s.extract 0 (lastUpTo s.toList s.size).toNat, true) by unfold parentV; rw [if_neg h1, if_pos h2]]
   exact Ev.ifp h2 (Ev.ifp (by omega) (Ev.ifp (by omega) (Ev.const _)))
  ·rw [show parentV s = (⟨#[]⟩, false) by unfold parentV; rw [if_neg h1, if_neg h2]]
   exact Ev.ifn h2 (Ev.const _)
end Go.Proofs.Ytmlgfgmgolgjbaa.X
end

/-! ## TreeOne -/
section
namespace Go.Proofs.Ytmlgfgmgolgjbaa.X
open Go.RowKit Go.Proofs.YtmlgfgmgolgjbaaW.PrintWords Go.Proofs.YtmlgfgmgolgjbaaW.PrintLast Go.Proofs.YtmlgfgmgolgjbaaW.PrintMore
attribute [local go_sem] max2_int min2_int max_two min_two max_three min_three max_four min_four   -- for this text's walks alone
set_option linter.unusedVariables false
set_option linter.unusedSimpArgs false

attribute [local go_sem] str_gtr fld_fault0 fld_fault1
/-! ### tree_one: function 54 -/
/-- Why an entry may not be, its path's own fault told. -/
def oneOf (t : Int) (kind mode : Int) (data : List Int) (dest : ByteArray) : Int :=
 if t = 0 then (if kind < 1 then 2 else if 3 < kind then 2 else if mode < 0 then 2 else if 511 < mode then 2 else
  if 0 < data.length ∧ kind ≠ 2 then 2 else if ((kind == 3) != (dest.toList != [])) = true then 2 else if 200 < dest.size then 2 else
  if 1048576 < data.length then 3 else 0) else 4
def tree_one.f (k : Nat) (a0_0 : ByteArray) (a0_1 : Int) (a0_2 : Int) (l0_3 : List Int) (a0_4 : ByteArray) : Option (Int) :=
 (path_Check.f k a0_0).bind fun t => some (oneOf t.1 a0_1 a0_2 l0_3 a0_4)
theorem tree_one.mono : ∀ a0 a1 a2 a3 a4 k, LeO (tree_one.f k a0 a1 a2 a3 a4) (tree_one.f (k + 1) a0 a1 a2 a3 a4) :=
 fun _ _ _ _ _ _ => LeO.bind (path_Check.mono _ _) fun _ => LeO.refl _
set_option maxHeartbeats 2000000 in
set_option maxRecDepth 100000 in
theorem tree_one.bad (k : Nat) (a0_0 : ByteArray) (a0_1 : Int) (a0_2 : Int) (A0_3 : Option Addr) (c0_3 : Nat) (l0_3 : List Int) (a0_4 : ByteArray) (t2 : Int) (w : World) (t1 : Int) (h : path_Check.f k a0_0 = some (t1, t2)) (h0 : t1 ≠ 0) :
  Calls Try.prog 54 #[.agg #[.string a0_0, .int .i64 a0_1, .int .i64 a0_2, .slice A0_3 l0_3.length c0_3, .string a0_4]] w fun e w' => e = .returned (.int .i64 4) ∧ Below w.heap.size w w' := by
 have H := Aside0.mk h
 clear h
 have d0 : (t1 != 0) = true := by simpa using h0
 go_enter Try.func54, Try.ntmps54
 go_wp2
 go_quiet (fail)
 go_wp2_with (go_at_call 65; refine (path_Check.calls k a0_0 _ _ _ H.out).mono ?_; rintro e w1 ⟨rfl, hb⟩; have hk : w1.heap[w.heap.size]? = some (.cells #[.string a0_0, .int .i64 a0_1, .int .i64 a0_2, .slice A0_3 l0_3.length c0_3, .string a0_4] 89 (0, 0)) := ((hb.block w.heap.size (by simp)).trans (World.alloc_heap_new w _)); have hx0 : w1.cell? ⟨w.heap.size, 0, none⟩ = some (.string a0_0) := (blk_cell hk 0).trans rfl; have hx1 : w1.cell? ⟨w.heap.size, 1, none⟩ = some (.int .i64 a0_1) := (blk_cell hk 1).trans rfl; have hx2 : w1.cell? ⟨w.heap.size, 2, none⟩ = some (.int .i64 a0_2) := (blk_cell hk 2).trans rfl; have hx3 : w1.cell? ⟨w.heap.size, 3, none⟩ = some (.slice A0_3 l0_3.length c0_3) := (blk_cell hk 3).trans rfl; have hx4 : w1.cell? ⟨w.heap.size, 4, none⟩ = some (.string a0_4) := (blk_cell hk 4).trans rfl; have HB := Aside0.mk hb; clear hb hk)
 go_ret
 exact ⟨rfl, below_then (pw_below_drewN ((Below.refl _ w).alloc (Nat.le_refl _) _) _) (by simp) HB.out⟩
set_option maxHeartbeats 2000000 in
set_option maxRecDepth 100000 in
theorem tree_one.kind0 (k : Nat) (a0_0 : ByteArray) (a0_1 : Int) (a0_2 : Int) (A0_3 : Option Addr) (c0_3 : Nat) (l0_3 : List Int) (a0_4 : ByteArray) (t2 : Int) (w : World) (h : path_Check.f k a0_0 = some (0, t2)) (h1 : a0_1 < 1) :
  Calls Try.prog 54 #[.agg #[.string a0_0, .int .i64 a0_1, .int .i64 a0_2, .slice A0_3 l0_3.length c0_3, .string a0_4]] w fun e w' => e = .returned (.int .i64 2) ∧ Below w.heap.size w w' := by
 have H := Aside0.mk h
 clear h
 have d1 : decide (a0_1 < 1) = true := decide_eq_true h1
 go_enter Try.func54, Try.ntmps54
 go_wp2
 go_quiet (fail)
 go_wp2_with (go_at_call 65; refine (path_Check.calls k a0_0 _ _ _ H.out).mono ?_; rintro e w1 ⟨rfl, hb⟩; have hk : w1.heap[w.heap.size]? = some (.cells #[.string a0_0, .int .i64 a0_1, .int .i64 a0_2, .slice A0_3 l0_3.length c0_3, .string a0_4] 89 (0, 0)) := ((hb.block w.heap.size (by simp)).trans (World.alloc_heap_new w _)); have hx0 : w1.cell? ⟨w.heap.size, 0, none⟩ = some (.string a0_0) := (blk_cell hk 0).trans rfl; have hx1 : w1.cell? ⟨w.heap.size, 1, none⟩ = some (.int .i64 a0_1) := (blk_cell hk 1).trans rfl; have hx2 : w1.cell? ⟨w.heap.size, 2, none⟩ = some (.int .i64 a0_2) := (blk_cell hk 2).trans rfl; have hx3 : w1.cell? ⟨w.heap.size, 3, none⟩ = some (.slice A0_3 l0_3.length c0_3) := (blk_cell hk 3).trans rfl; have hx4 : w1.cell? ⟨w.heap.size, 4, none⟩ = some (.string a0_4) := (blk_cell hk 4).trans rfl; have HB := Aside0.mk hb; clear hb hk)
 go_ret
 exact ⟨rfl, below_then (pw_below_drewN ((Below.refl _ w).alloc (Nat.le_refl _) _) _) (by simp) HB.out⟩
set_option maxHeartbeats 2000000 in
set_option maxRecDepth 100000 in
theorem tree_one.kind4 (k : Nat) (a0_0 : ByteArray) (a0_1 : Int) (a0_2 : Int) (A0_3 : Option Addr) (c0_3 : Nat) (l0_3 : List Int) (a0_4 : ByteArray) (t2 : Int) (w : World) (h : path_Check.f k a0_0 = some (0, t2)) (h1 : 3 < a0_1) :
  Calls Try.prog 54 #[.agg #[.string a0_0, .int .i64 a0_1, .int .i64 a0_2, .slice A0_3 l0_3.length c0_3, .string a0_4]] w fun e w' => e = .returned (.int .i64 2) ∧ Below w.heap.size w w' := by
 have H := Aside0.mk h
 clear h
 have d1 : decide (a0_1 < 1) = false := decide_eq_false (by omega)
 have d2 : decide (3 < a0_1) = true := decide_eq_true h1
 go_enter Try.func54, Try.ntmps54
 go_wp2
 go_quiet (fail)
 go_wp2_with (go_at_call 65; refine (path_Check.calls k a0_0 _ _ _ H.out).mono ?_; rintro e w1 ⟨rfl, hb⟩; have hk : w1.heap[w.heap.size]? = some (.cells #[.string a0_0, .int .i64 a0_1, .int .i64 a0_2, .slice A0_3 l0_3.length c0_3, .string a0_4] 89 (0, 0)) := ((hb.block w.heap.size (by simp)).trans (World.alloc_heap_new w _)); have hx0 : w1.cell? ⟨w.heap.size, 0, none⟩ = some (.string a0_0) := (blk_cell hk 0).trans rfl; have hx1 : w1.cell? ⟨w.heap.size, 1, none⟩ = some (.int .i64 a0_1) := (blk_cell hk 1).trans rfl; have hx2 : w1.cell? ⟨w.heap.size, 2, none⟩ = some (.int .i64 a0_2) := (blk_cell hk 2).trans rfl; have hx3 : w1.cell? ⟨w.heap.size, 3, none⟩ = some (.slice A0_3 l0_3.length c0_3) := (blk_cell hk 3).trans rfl; have hx4 : w1.cell? ⟨w.heap.size, 4, none⟩ = some (.string a0_4) := (blk_cell hk 4).trans rfl; have HB := Aside0.mk hb; clear hb hk)
 go_ret
 exact ⟨rfl, below_then (pw_below_drewN ((Below.refl _ w).alloc (Nat.le_refl _) _) _) (by simp) HB.out⟩
set_option maxHeartbeats 2000000 in
set_option maxRecDepth 100000 in
theorem tree_one.mode0 (k : Nat) (a0_0 : ByteArray) (a0_1 : Int) (a0_2 : Int) (A0_3 : Option Addr) (c0_3 : Nat) (l0_3 : List Int) (a0_4 : ByteArray) (t2 : Int) (w : World) (h : path_Check.f k a0_0 = some (0, t2)) (h1 : 1 ≤ a0_1)(h2 : a0_1 ≤ 3)(h3 : a0_2 < 0) :
  Calls Try.prog 54 #[.agg #[.string a0_0, .int .i64 a0_1, .int .i64 a0_2, .slice A0_3 l0_3.length c0_3, .string a0_4]] w fun e w' => e = .returned (.int .i64 2) ∧ Below w.heap.size w w' := by
 have H := Aside0.mk h
 clear h
 have d1 : decide (a0_1 < 1) = false := decide_eq_false (by omega)
 have d2 : decide (3 < a0_1) = false := decide_eq_false (by omega)
 have d3 : decide (a0_2 < 0) = true := decide_eq_true h3
 go_enter Try.func54, Try.ntmps54
 go_wp2
 go_quiet (fail)
 go_wp2_with (go_at_call 65; refine (path_Check.calls k a0_0 _ _ _ H.out).mono ?_; rintro e w1 ⟨rfl, hb⟩; have hk : w1.heap[w.heap.size]? = some (.cells #[.string a0_0, .int .i64 a0_1, .int .i64 a0_2, .slice A0_3 l0_3.length c0_3, .string a0_4] 89 (0, 0)) := ((hb.block w.heap.size (by simp)).trans (World.alloc_heap_new w _)); have hx0 : w1.cell? ⟨w.heap.size, 0, none⟩ = some (.string a0_0) := (blk_cell hk 0).trans rfl; have hx1 : w1.cell? ⟨w.heap.size, 1, none⟩ = some (.int .i64 a0_1) := (blk_cell hk 1).trans rfl; have hx2 : w1.cell? ⟨w.heap.size, 2, none⟩ = some (.int .i64 a0_2) := (blk_cell hk 2).trans rfl; have hx3 : w1.cell? ⟨w.heap.size, 3, none⟩ = some (.slice A0_3 l0_3.length c0_3) := (blk_cell hk 3).trans rfl; have hx4 : w1.cell? ⟨w.heap.size, 4, none⟩ = some (.string a0_4) := (blk_cell hk 4).trans rfl; have HB := Aside0.mk hb; clear hb hk)
 go_ret
 exact ⟨rfl, below_then (pw_below_drewN ((Below.refl _ w).alloc (Nat.le_refl _) _) _) (by simp) HB.out⟩
set_option maxHeartbeats 2000000 in
set_option maxRecDepth 100000 in
theorem tree_one.mode9 (k : Nat) (a0_0 : ByteArray) (a0_1 : Int) (a0_2 : Int) (A0_3 : Option Addr) (c0_3 : Nat) (l0_3 : List Int) (a0_4 : ByteArray) (t2 : Int) (w : World) (h : path_Check.f k a0_0 = some (0, t2)) (h1 : 1 ≤ a0_1)(h2 : a0_1 ≤ 3)(h3 : 511 < a0_2) :
  Calls Try.prog 54 #[.agg #[.string a0_0, .int .i64 a0_1, .int .i64 a0_2, .slice A0_3 l0_3.length c0_3, .string a0_4]] w fun e w' => e = .returned (.int .i64 2) ∧ Below w.heap.size w w' := by
 have H := Aside0.mk h
 clear h
 have d1 : decide (a0_1 < 1) = false := decide_eq_false (by omega)
 have d2 : decide (3 < a0_1) = false := decide_eq_false (by omega)
 have d3 : decide (a0_2 < 0) = false := decide_eq_false (by omega)
 have d4 : decide (511 < a0_2) = true := decide_eq_true h3
 go_enter Try.func54, Try.ntmps54
 go_wp2
 go_quiet (fail)
 go_wp2_with (go_at_call 65; refine (path_Check.calls k a0_0 _ _ _ H.out).mono ?_; rintro e w1 ⟨rfl, hb⟩; have hk : w1.heap[w.heap.size]? = some (.cells #[.string a0_0, .int .i64 a0_1, .int .i64 a0_2, .slice A0_3 l0_3.length c0_3, .string a0_4] 89 (0, 0)) := ((hb.block w.heap.size (by simp)).trans (World.alloc_heap_new w _)); have hx0 : w1.cell? ⟨w.heap.size, 0, none⟩ = some (.string a0_0) := (blk_cell hk 0).trans rfl; have hx1 : w1.cell? ⟨w.heap.size, 1, none⟩ = some (.int .i64 a0_1) := (blk_cell hk 1).trans rfl; have hx2 : w1.cell? ⟨w.heap.size, 2, none⟩ = some (.int .i64 a0_2) := (blk_cell hk 2).trans rfl; have hx3 : w1.cell? ⟨w.heap.size, 3, none⟩ = some (.slice A0_3 l0_3.length c0_3) := (blk_cell hk 3).trans rfl; have hx4 : w1.cell? ⟨w.heap.size, 4, none⟩ = some (.string a0_4) := (blk_cell hk 4).trans rfl; have HB := Aside0.mk hb; clear hb hk)
 go_ret
 exact ⟨rfl, below_then (pw_below_drewN ((Below.refl _ w).alloc (Nat.le_refl _) _) _) (by simp) HB.out⟩
set_option maxHeartbeats 2000000 in
set_option maxRecDepth 100000 in
theorem tree_one.data (k : Nat) (a0_0 : ByteArray) (a0_1 : Int) (a0_2 : Int) (A0_3 : Option Addr) (c0_3 : Nat) (l0_3 : List Int) (a0_4 : ByteArray) (t2 : Int) (w : World) (h : path_Check.f k a0_0 = some (0, t2)) (h1 : 1 ≤ a0_1)(h2 : a0_1 ≤ 3)(h3 : 0 ≤ a0_2)(h4 : a0_2 ≤ 511)(h5 : 0 < l0_3.length) (h6 : a0_1 ≠ 2) :
  Calls Try.prog 54 #[.agg #[.string a0_0, .int .i64 a0_1, .int .i64 a0_2, .slice A0_3 l0_3.length c0_3, .string a0_4]] w fun e w' => e = .returned (.int .i64 2) ∧ Below w.heap.size w w' := by
 have H := Aside0.mk h
 clear h
 have d1 : decide (a0_1 < 1) = false := decide_eq_false (by omega)
 have d2 : decide (3 < a0_1) = false := decide_eq_false (by omega)
 have d3 : decide (a0_2 < 0) = false := decide_eq_false (by omega)
 have d4 : decide (511 < a0_2) = false := decide_eq_false (by omega)
 have d5 : decide (0 < l0_3.length) = true := decide_eq_true (by omega)
 have d5' : decide ((0 : Int) < (l0_3.length : Int)) = true := decide_eq_true (by omega)
 have d6 : (a0_1 == 2) = false := by simpa using h6
 go_enter Try.func54, Try.ntmps54
 go_wp2
 go_quiet (fail)
 go_wp2_with (go_at_call 65; refine (path_Check.calls k a0_0 _ _ _ H.out).mono ?_; rintro e w1 ⟨rfl, hb⟩; have hk : w1.heap[w.heap.size]? = some (.cells #[.string a0_0, .int .i64 a0_1, .int .i64 a0_2, .slice A0_3 l0_3.length c0_3, .string a0_4] 89 (0, 0)) := ((hb.block w.heap.size (by simp)).trans (World.alloc_heap_new w _)); have hx0 : w1.cell? ⟨w.heap.size, 0, none⟩ = some (.string a0_0) := (blk_cell hk 0).trans rfl; have hx1 : w1.cell? ⟨w.heap.size, 1, none⟩ = some (.int .i64 a0_1) := (blk_cell hk 1).trans rfl; have hx2 : w1.cell? ⟨w.heap.size, 2, none⟩ = some (.int .i64 a0_2) := (blk_cell hk 2).trans rfl; have hx3 : w1.cell? ⟨w.heap.size, 3, none⟩ = some (.slice A0_3 l0_3.length c0_3) := (blk_cell hk 3).trans rfl; have hx4 : w1.cell? ⟨w.heap.size, 4, none⟩ = some (.string a0_4) := (blk_cell hk 4).trans rfl; have HB := Aside0.mk hb; clear hb hk)
 go_ret
 exact ⟨rfl, below_then (pw_below_drewN ((Below.refl _ w).alloc (Nat.le_refl _) _) _) (by simp) HB.out⟩
set_option maxHeartbeats 2000000 in
set_option maxRecDepth 100000 in
theorem tree_one.file_link (k : Nat) (a0_0 : ByteArray) (a0_1 : Int) (a0_2 : Int) (A0_3 : Option Addr) (c0_3 : Nat) (l0_3 : List Int) (a0_4 : ByteArray) (t2 : Int) (w : World) (h : path_Check.f k a0_0 = some (0, t2)) (h1 : 1 ≤ a0_1)(h2 : a0_1 ≤ 3)(h3 : 0 ≤ a0_2)(h4 : a0_2 ≤ 511)(h5 : 0 < l0_3.length) (h6 : a0_1 = 2) (dE : a0_4.toList.isEmpty = false) :
  Calls Try.prog 54 #[.agg #[.string a0_0, .int .i64 a0_1, .int .i64 a0_2, .slice A0_3 l0_3.length c0_3, .string a0_4]] w fun e w' => e = .returned (.int .i64 2) ∧ Below w.heap.size w w' := by
 have H := Aside0.mk h
 clear h
 have d1 : decide (a0_1 < 1) = false := decide_eq_false (by omega)
 have d2 : decide (3 < a0_1) = false := decide_eq_false (by omega)
 have d3 : decide (a0_2 < 0) = false := decide_eq_false (by omega)
 have d4 : decide (511 < a0_2) = false := decide_eq_false (by omega)
 have d5 : decide (0 < l0_3.length) = true := decide_eq_true h5
 have d5' : decide ((0 : Int) < (l0_3.length : Int)) = true := decide_eq_true (by omega)
 have d6 : (a0_1 == 2) = true := by simpa using h6
 have d6' : (a0_1 == 3) = false := by rw [h6]; rfl
 clear h6
 go_enter Try.func54, Try.ntmps54
 go_wp2
 go_quiet (fail)
 go_wp2_with (go_at_call 65; refine (path_Check.calls k a0_0 _ _ _ H.out).mono ?_; rintro e w1 ⟨rfl, hb⟩; have hk : w1.heap[w.heap.size]? = some (.cells #[.string a0_0, .int .i64 a0_1, .int .i64 a0_2, .slice A0_3 l0_3.length c0_3, .string a0_4] 89 (0, 0)) := ((hb.block w.heap.size (by simp)).trans (World.alloc_heap_new w _)); have hx0 : w1.cell? ⟨w.heap.size, 0, none⟩ = some (.string a0_0) := (blk_cell hk 0).trans rfl; have hx1 : w1.cell? ⟨w.heap.size, 1, none⟩ = some (.int .i64 a0_1) := (blk_cell hk 1).trans rfl; have hx2 : w1.cell? ⟨w.heap.size, 2, none⟩ = some (.int .i64 a0_2) := (blk_cell hk 2).trans rfl; have hx3 : w1.cell? ⟨w.heap.size, 3, none⟩ = some (.slice A0_3 l0_3.length c0_3) := (blk_cell hk 3).trans rfl; have hx4 : w1.cell? ⟨w.heap.size, 4, none⟩ = some (.string a0_4) := (blk_cell hk 4).trans rfl; have HB := Aside0.mk hb; clear hb hk)
 go_ret
 exact ⟨rfl, below_then (pw_below_drewN ((Below.refl _ w).alloc (Nat.le_refl _) _) _) (by simp) HB.out⟩
set_option maxHeartbeats 2000000 in
set_option maxRecDepth 100000 in
theorem tree_one.file_long (k : Nat) (a0_0 : ByteArray) (a0_1 : Int) (a0_2 : Int) (A0_3 : Option Addr) (c0_3 : Nat) (l0_3 : List Int) (a0_4 : ByteArray) (t2 : Int) (w : World) (h : path_Check.f k a0_0 = some (0, t2)) (h1 : 1 ≤ a0_1)(h2 : a0_1 ≤ 3)(h3 : 0 ≤ a0_2)(h4 : a0_2 ≤ 511)(h5 : 0 < l0_3.length) (h6 : a0_1 = 2) (dE : a0_4.toList.isEmpty = true) (h8 : a0_4.size ≤ 200) (h9 : 1048576 < l0_3.length) :
  Calls Try.prog 54 #[.agg #[.string a0_0, .int .i64 a0_1, .int .i64 a0_2, .slice A0_3 l0_3.length c0_3, .string a0_4]] w fun e w' => e = .returned (.int .i64 3) ∧ Below w.heap.size w w' := by
 have H := Aside0.mk h
 clear h
 have d9 : decide (1048576 < l0_3.length) = true := decide_eq_true (by omega)
 have d9' : decide ((1048576 : Int) < (l0_3.length : Int)) = true := decide_eq_true (by omega)
 have d1 : decide (a0_1 < 1) = false := decide_eq_false (by omega)
 have d2 : decide (3 < a0_1) = false := decide_eq_false (by omega)
 have d3 : decide (a0_2 < 0) = false := decide_eq_false (by omega)
 have d4 : decide (511 < a0_2) = false := decide_eq_false (by omega)
 have d5 : decide (0 < l0_3.length) = true := decide_eq_true h5
 have d5' : decide ((0 : Int) < (l0_3.length : Int)) = true := decide_eq_true (by omega)
 have d6 : (a0_1 == 2) = true := by simpa using h6
 have d6' : (a0_1 == 3) = false := by rw [h6]; rfl
 clear h6
 have d8 : decide (200 < a0_4.size) = false := decide_eq_false (by omega)
 have d8' : decide ((200 : Int) < (a0_4.size : Int)) = false := decide_eq_false (by omega)
 go_enter Try.func54, Try.ntmps54
 go_wp2
 go_quiet (fail)
 go_wp2_with (go_at_call 65; refine (path_Check.calls k a0_0 _ _ _ H.out).mono ?_; rintro e w1 ⟨rfl, hb⟩; have hk : w1.heap[w.heap.size]? = some (.cells #[.string a0_0, .int .i64 a0_1, .int .i64 a0_2, .slice A0_3 l0_3.length c0_3, .string a0_4] 89 (0, 0)) := ((hb.block w.heap.size (by simp)).trans (World.alloc_heap_new w _)); have hx0 : w1.cell? ⟨w.heap.size, 0, none⟩ = some (.string a0_0) := (blk_cell hk 0).trans rfl; have hx1 : w1.cell? ⟨w.heap.size, 1, none⟩ = some (.int .i64 a0_1) := (blk_cell hk 1).trans rfl; have hx2 : w1.cell? ⟨w.heap.size, 2, none⟩ = some (.int .i64 a0_2) := (blk_cell hk 2).trans rfl; have hx3 : w1.cell? ⟨w.heap.size, 3, none⟩ = some (.slice A0_3 l0_3.length c0_3) := (blk_cell hk 3).trans rfl; have hx4 : w1.cell? ⟨w.heap.size, 4, none⟩ = some (.string a0_4) := (blk_cell hk 4).trans rfl; have HB := Aside0.mk hb; clear hb hk)
 go_ret
 exact ⟨rfl, below_then (pw_below_drewN ((Below.refl _ w).alloc (Nat.le_refl _) _) _) (by simp) HB.out⟩
set_option maxHeartbeats 2000000 in
set_option maxRecDepth 100000 in
theorem tree_one.file_ok (k : Nat) (a0_0 : ByteArray) (a0_1 : Int) (a0_2 : Int) (A0_3 : Option Addr) (c0_3 : Nat) (l0_3 : List Int) (a0_4 : ByteArray) (t2 : Int) (w : World) (h : path_Check.f k a0_0 = some (0, t2)) (h1 : 1 ≤ a0_1)(h2 : a0_1 ≤ 3)(h3 : 0 ≤ a0_2)(h4 : a0_2 ≤ 511)(h5 : 0 < l0_3.length) (h6 : a0_1 = 2) (dE : a0_4.toList.isEmpty = true) (h8 : a0_4.size ≤ 200) (h9 : l0_3.length ≤ 1048576) :
  Calls Try.prog 54 #[.agg #[.string a0_0, .int .i64 a0_1, .int .i64 a0_2, .slice A0_3 l0_3.length c0_3, .string a0_4]] w fun e w' => e = .returned (.int .i64 0) ∧ Below w.heap.size w w' := by
 have H := Aside0.mk h
 clear h
 have d9 : decide (1048576 < l0_3.length) = false := decide_eq_false (by omega)
 have d9' : decide ((1048576 : Int) < (l0_3.length : Int)) = false := decide_eq_false (by omega)
 have d1 : decide (a0_1 < 1) = false := decide_eq_false (by omega)
 have d2 : decide (3 < a0_1) = false := decide_eq_false (by omega)
 have d3 : decide (a0_2 < 0) = false := decide_eq_false (by omega)
 have d4 : decide (511 < a0_2) = false := decide_eq_false (by omega)
 have d5 : decide (0 < l0_3.length) = true := decide_eq_true h5
 have d5' : decide ((0 : Int) < (l0_3.length : Int)) = true := decide_eq_true (by omega)
 have d6 : (a0_1 == 2) = true := by simpa using h6
 have d6' : (a0_1 == 3) = false := by rw [h6]; rfl
 clear h6
 have d8 : decide (200 < a0_4.size) = false := decide_eq_false (by omega)
 have d8' : decide ((200 : Int) < (a0_4.size : Int)) = false := decide_eq_false (by omega)
 go_enter Try.func54, Try.ntmps54
 go_wp2
 go_quiet (fail)
 go_wp2_with (go_at_call 65; refine (path_Check.calls k a0_0 _ _ _ H.out).mono ?_; rintro e w1 ⟨rfl, hb⟩; have hk : w1.heap[w.heap.size]? = some (.cells #[.string a0_0, .int .i64 a0_1, .int .i64 a0_2, .slice A0_3 l0_3.length c0_3, .string a0_4] 89 (0, 0)) := ((hb.block w.heap.size (by simp)).trans (World.alloc_heap_new w _)); have hx0 : w1.cell? ⟨w.heap.size, 0, none⟩ = some (.string a0_0) := (blk_cell hk 0).trans rfl; have hx1 : w1.cell? ⟨w.heap.size, 1, none⟩ = some (.int .i64 a0_1) := (blk_cell hk 1).trans rfl; have hx2 : w1.cell? ⟨w.heap.size, 2, none⟩ = some (.int .i64 a0_2) := (blk_cell hk 2).trans rfl; have hx3 : w1.cell? ⟨w.heap.size, 3, none⟩ = some (.slice A0_3 l0_3.length c0_3) := (blk_cell hk 3).trans rfl; have hx4 : w1.cell? ⟨w.heap.size, 4, none⟩ = some (.string a0_4) := (blk_cell hk 4).trans rfl; have HB := Aside0.mk hb; clear hb hk)
 go_ret
 exact ⟨rfl, below_then (pw_below_drewN ((Below.refl _ w).alloc (Nat.le_refl _) _) _) (by simp) HB.out⟩
set_option maxHeartbeats 2000000 in
set_option maxRecDepth 100000 in
theorem tree_one.none_linkT (k : Nat) (a0_0 : ByteArray) (a0_1 : Int) (a0_2 : Int) (A0_3 : Option Addr) (c0_3 : Nat) (l0_3 : List Int) (a0_4 : ByteArray) (t2 : Int) (w : World) (h : path_Check.f k a0_0 = some (0, t2)) (h1 : 1 ≤ a0_1)(h2 : a0_1 ≤ 3)(h3 : 0 ≤ a0_2)(h4 : a0_2 ≤ 511)(h5 : l0_3.length = 0) (dL : (a0_1 == 3) = true) (dE : a0_4.toList.isEmpty = true) :
  Calls Try.prog 54 #[.agg #[.string a0_0, .int .i64 a0_1, .int .i64 a0_2, .slice A0_3 l0_3.length c0_3, .string a0_4]] w fun e w' => e = .returned (.int .i64 2) ∧ Below w.heap.size w w' := by
 have H := Aside0.mk h
 clear h
 have d1 : decide (a0_1 < 1) = false := decide_eq_false (by omega)
 have d2 : decide (3 < a0_1) = false := decide_eq_false (by omega)
 have d3 : decide (a0_2 < 0) = false := decide_eq_false (by omega)
 have d4 : decide (511 < a0_2) = false := decide_eq_false (by omega)
 have d5 : decide (0 < l0_3.length) = false := decide_eq_false (by omega)
 have d5' : decide ((0 : Int) < (l0_3.length : Int)) = false := decide_eq_false (by omega)
 have d9 : decide (1048576 < l0_3.length) = false := decide_eq_false (by omega)
 have d9' : decide ((1048576 : Int) < (l0_3.length : Int)) = false := decide_eq_false (by omega)
 have h5' : ¬ (0 < l0_3.length) := by omega
 clear h5
 go_enter Try.func54, Try.ntmps54
 go_wp2
 go_quiet (fail)
 go_wp2_with (go_at_call 65; refine (path_Check.calls k a0_0 _ _ _ H.out).mono ?_; rintro e w1 ⟨rfl, hb⟩; have hk : w1.heap[w.heap.size]? = some (.cells #[.string a0_0, .int .i64 a0_1, .int .i64 a0_2, .slice A0_3 l0_3.length c0_3, .string a0_4] 89 (0, 0)) := ((hb.block w.heap.size (by simp)).trans (World.alloc_heap_new w _)); have hx0 : w1.cell? ⟨w.heap.size, 0, none⟩ = some (.string a0_0) := (blk_cell hk 0).trans rfl; have hx1 : w1.cell? ⟨w.heap.size, 1, none⟩ = some (.int .i64 a0_1) := (blk_cell hk 1).trans rfl; have hx2 : w1.cell? ⟨w.heap.size, 2, none⟩ = some (.int .i64 a0_2) := (blk_cell hk 2).trans rfl; have hx3 : w1.cell? ⟨w.heap.size, 3, none⟩ = some (.slice A0_3 l0_3.length c0_3) := (blk_cell hk 3).trans rfl; have hx4 : w1.cell? ⟨w.heap.size, 4, none⟩ = some (.string a0_4) := (blk_cell hk 4).trans rfl; have HB := Aside0.mk hb; clear hb hk)
 go_ret
 exact ⟨rfl, below_then (pw_below_drewN ((Below.refl _ w).alloc (Nat.le_refl _) _) _) (by simp) HB.out⟩
set_option maxHeartbeats 2000000 in
set_option maxRecDepth 100000 in
theorem tree_one.none_linkF (k : Nat) (a0_0 : ByteArray) (a0_1 : Int) (a0_2 : Int) (A0_3 : Option Addr) (c0_3 : Nat) (l0_3 : List Int) (a0_4 : ByteArray) (t2 : Int) (w : World) (h : path_Check.f k a0_0 = some (0, t2)) (h1 : 1 ≤ a0_1)(h2 : a0_1 ≤ 3)(h3 : 0 ≤ a0_2)(h4 : a0_2 ≤ 511)(h5 : l0_3.length = 0) (dL : (a0_1 == 3) = false) (dE : a0_4.toList.isEmpty = false) :
  Calls Try.prog 54 #[.agg #[.string a0_0, .int .i64 a0_1, .int .i64 a0_2, .slice A0_3 l0_3.length c0_3, .string a0_4]] w fun e w' => e = .returned (.int .i64 2) ∧ Below w.heap.size w w' := by
 have H := Aside0.mk h
 clear h
 have d1 : decide (a0_1 < 1) = false := decide_eq_false (by omega)
 have d2 : decide (3 < a0_1) = false := decide_eq_false (by omega)
 have d3 : decide (a0_2 < 0) = false := decide_eq_false (by omega)
 have d4 : decide (511 < a0_2) = false := decide_eq_false (by omega)
 have d5 : decide (0 < l0_3.length) = false := decide_eq_false (by omega)
 have d5' : decide ((0 : Int) < (l0_3.length : Int)) = false := decide_eq_false (by omega)
 have d9 : decide (1048576 < l0_3.length) = false := decide_eq_false (by omega)
 have d9' : decide ((1048576 : Int) < (l0_3.length : Int)) = false := decide_eq_false (by omega)
 have h5' : ¬ (0 < l0_3.length) := by omega
 clear h5
 go_enter Try.func54, Try.ntmps54
 go_wp2
 go_quiet (fail)
 go_wp2_with (go_at_call 65; refine (path_Check.calls k a0_0 _ _ _ H.out).mono ?_; rintro e w1 ⟨rfl, hb⟩; have hk : w1.heap[w.heap.size]? = some (.cells #[.string a0_0, .int .i64 a0_1, .int .i64 a0_2, .slice A0_3 l0_3.length c0_3, .string a0_4] 89 (0, 0)) := ((hb.block w.heap.size (by simp)).trans (World.alloc_heap_new w _)); have hx0 : w1.cell? ⟨w.heap.size, 0, none⟩ = some (.string a0_0) := (blk_cell hk 0).trans rfl; have hx1 : w1.cell? ⟨w.heap.size, 1, none⟩ = some (.int .i64 a0_1) := (blk_cell hk 1).trans rfl; have hx2 : w1.cell? ⟨w.heap.size, 2, none⟩ = some (.int .i64 a0_2) := (blk_cell hk 2).trans rfl; have hx3 : w1.cell? ⟨w.heap.size, 3, none⟩ = some (.slice A0_3 l0_3.length c0_3) := (blk_cell hk 3).trans rfl; have hx4 : w1.cell? ⟨w.heap.size, 4, none⟩ = some (.string a0_4) := (blk_cell hk 4).trans rfl; have HB := Aside0.mk hb; clear hb hk)
 go_ret
 exact ⟨rfl, below_then (pw_below_drewN ((Below.refl _ w).alloc (Nat.le_refl _) _) _) (by simp) HB.out⟩
set_option maxHeartbeats 2000000 in
set_option maxRecDepth 100000 in
theorem tree_one.none_to (k : Nat) (a0_0 : ByteArray) (a0_1 : Int) (a0_2 : Int) (A0_3 : Option Addr) (c0_3 : Nat) (l0_3 : List Int) (a0_4 : ByteArray) (t2 : Int) (w : World) (h : path_Check.f k a0_0 = some (0, t2)) (h1 : 1 ≤ a0_1)(h2 : a0_1 ≤ 3)(h3 : 0 ≤ a0_2)(h4 : a0_2 ≤ 511)(h5 : l0_3.length = 0) (dL : (a0_1 == 3) = true) (dE : a0_4.toList.isEmpty = false) (h8 : 200 < a0_4.size) :
  Calls Try.prog 54 #[.agg #[.string a0_0, .int .i64 a0_1, .int .i64 a0_2, .slice A0_3 l0_3.length c0_3, .string a0_4]] w fun e w' => e = .returned (.int .i64 2) ∧ Below w.heap.size w w' := by
 have H := Aside0.mk h
 clear h
 have d1 : decide (a0_1 < 1) = false := decide_eq_false (by omega)
 have d2 : decide (3 < a0_1) = false := decide_eq_false (by omega)
 have d3 : decide (a0_2 < 0) = false := decide_eq_false (by omega)
 have d4 : decide (511 < a0_2) = false := decide_eq_false (by omega)
 have d5 : decide (0 < l0_3.length) = false := decide_eq_false (by omega)
 have d5' : decide ((0 : Int) < (l0_3.length : Int)) = false := decide_eq_false (by omega)
 have d9 : decide (1048576 < l0_3.length) = false := decide_eq_false (by omega)
 have d9' : decide ((1048576 : Int) < (l0_3.length : Int)) = false := decide_eq_false (by omega)
 have h5' : ¬ (0 < l0_3.length) := by omega
 clear h5
 have d8 : decide (200 < a0_4.size) = true := decide_eq_true (by omega)
 have d8' : decide ((200 : Int) < (a0_4.size : Int)) = true := decide_eq_true (by omega)
 go_enter Try.func54, Try.ntmps54
 go_wp2
 go_quiet (fail)
 go_wp2_with (go_at_call 65; refine (path_Check.calls k a0_0 _ _ _ H.out).mono ?_; rintro e w1 ⟨rfl, hb⟩; have hk : w1.heap[w.heap.size]? = some (.cells #[.string a0_0, .int .i64 a0_1, .int .i64 a0_2, .slice A0_3 l0_3.length c0_3, .string a0_4] 89 (0, 0)) := ((hb.block w.heap.size (by simp)).trans (World.alloc_heap_new w _)); have hx0 : w1.cell? ⟨w.heap.size, 0, none⟩ = some (.string a0_0) := (blk_cell hk 0).trans rfl; have hx1 : w1.cell? ⟨w.heap.size, 1, none⟩ = some (.int .i64 a0_1) := (blk_cell hk 1).trans rfl; have hx2 : w1.cell? ⟨w.heap.size, 2, none⟩ = some (.int .i64 a0_2) := (blk_cell hk 2).trans rfl; have hx3 : w1.cell? ⟨w.heap.size, 3, none⟩ = some (.slice A0_3 l0_3.length c0_3) := (blk_cell hk 3).trans rfl; have hx4 : w1.cell? ⟨w.heap.size, 4, none⟩ = some (.string a0_4) := (blk_cell hk 4).trans rfl; have HB := Aside0.mk hb; clear hb hk)
 go_ret
 exact ⟨rfl, below_then (pw_below_drewN ((Below.refl _ w).alloc (Nat.le_refl _) _) _) (by simp) HB.out⟩
set_option maxHeartbeats 2000000 in
set_option maxRecDepth 100000 in
theorem tree_one.none_okT (k : Nat) (a0_0 : ByteArray) (a0_1 : Int) (a0_2 : Int) (A0_3 : Option Addr) (c0_3 : Nat) (l0_3 : List Int) (a0_4 : ByteArray) (t2 : Int) (w : World) (h : path_Check.f k a0_0 = some (0, t2)) (h1 : 1 ≤ a0_1)(h2 : a0_1 ≤ 3)(h3 : 0 ≤ a0_2)(h4 : a0_2 ≤ 511)(h5 : l0_3.length = 0) (dL : (a0_1 == 3) = true) (dE : a0_4.toList.isEmpty = false) (h8 : a0_4.size ≤ 200) :
  Calls Try.prog 54 #[.agg #[.string a0_0, .int .i64 a0_1, .int .i64 a0_2, .slice A0_3 l0_3.length c0_3, .string a0_4]] w fun e w' => e = .returned (.int .i64 0) ∧ Below w.heap.size w w' := by
 have H := Aside0.mk h
 clear h
 have d1 : decide (a0_1 < 1) = false := decide_eq_false (by omega)
 have d2 : decide (3 < a0_1) = false := decide_eq_false (by omega)
 have d3 : decide (a0_2 < 0) = false := decide_eq_false (by omega)
 have d4 : decide (511 < a0_2) = false := decide_eq_false (by omega)
 have d5 : decide (0 < l0_3.length) = false := decide_eq_false (by omega)
 have d5' : decide ((0 : Int) < (l0_3.length : Int)) = false := decide_eq_false (by omega)
 have d9 : decide (1048576 < l0_3.length) = false := decide_eq_false (by omega)
 have d9' : decide ((1048576 : Int) < (l0_3.length : Int)) = false := decide_eq_false (by omega)
 have h5' : ¬ (0 < l0_3.length) := by omega
 clear h5
 have d8 : decide (200 < a0_4.size) = false := decide_eq_false (by omega)
 have d8' : decide ((200 : Int) < (a0_4.size : Int)) = false := decide_eq_false (by omega)
 go_enter Try.func54, Try.ntmps54
 go_wp2
 go_quiet (fail)
 go_wp2_with (go_at_call 65; refine (path_Check.calls k a0_0 _ _ _ H.out).mono ?_; rintro e w1 ⟨rfl, hb⟩; have hk : w1.heap[w.heap.size]? = some (.cells #[.string a0_0, .int .i64 a0_1, .int .i64 a0_2, .slice A0_3 l0_3.length c0_3, .string a0_4] 89 (0, 0)) := ((hb.block w.heap.size (by simp)).trans (World.alloc_heap_new w _)); have hx0 : w1.cell? ⟨w.heap.size, 0, none⟩ = some (.string a0_0) := (blk_cell hk 0).trans rfl; have hx1 : w1.cell? ⟨w.heap.size, 1, none⟩ = some (.int .i64 a0_1) := (blk_cell hk 1).trans rfl; have hx2 : w1.cell? ⟨w.heap.size, 2, none⟩ = some (.int .i64 a0_2) := (blk_cell hk 2).trans rfl; have hx3 : w1.cell? ⟨w.heap.size, 3, none⟩ = some (.slice A0_3 l0_3.length c0_3) := (blk_cell hk 3).trans rfl; have hx4 : w1.cell? ⟨w.heap.size, 4, none⟩ = some (.string a0_4) := (blk_cell hk 4).trans rfl; have HB := Aside0.mk hb; clear hb hk)
 go_ret
 exact ⟨rfl, below_then (pw_below_drewN ((Below.refl _ w).alloc (Nat.le_refl _) _) _) (by simp) HB.out⟩
set_option maxHeartbeats 2000000 in
set_option maxRecDepth 100000 in
theorem tree_one.none_okF (k : Nat) (a0_0 : ByteArray) (a0_1 : Int) (a0_2 : Int) (A0_3 : Option Addr) (c0_3 : Nat) (l0_3 : List Int) (a0_4 : ByteArray) (t2 : Int) (w : World) (h : path_Check.f k a0_0 = some (0, t2)) (h1 : 1 ≤ a0_1)(h2 : a0_1 ≤ 3)(h3 : 0 ≤ a0_2)(h4 : a0_2 ≤ 511)(h5 : l0_3.length = 0) (dL : (a0_1 == 3) = false) (dE : a0_4.toList.isEmpty = true) (h8 : a0_4.size ≤ 200) :
  Calls Try.prog 54 #[.agg #[.string a0_0, .int .i64 a0_1, .int .i64 a0_2, .slice A0_3 l0_3.length c0_3, .string a0_4]] w fun e w' => e = .returned (.int .i64 0) ∧ Below w.heap.size w w' := by
 have H := Aside0.mk h
 clear h
 have d1 : decide (a0_1 < 1) = false := decide_eq_false (by omega)
 have d2 : decide (3 < a0_1) = false := decide_eq_false (by omega)
 have d3 : decide (a0_2 < 0) = false := decide_eq_false (by omega)
 have d4 : decide (511 < a0_2) = false := decide_eq_false (by omega)
 have d5 : decide (0 < l0_3.length) = false := decide_eq_false (by omega)
 have d5' : decide ((0 : Int) < (l0_3.length : Int)) = false := decide_eq_false (by omega)
 have d9 : decide (1048576 < l0_3.length) = false := decide_eq_false (by omega)
 have d9' : decide ((1048576 : Int) < (l0_3.length : Int)) = false := decide_eq_false (by omega)
 have h5' : ¬ (0 < l0_3.length) := by omega
 clear h5
 have d8 : decide (200 < a0_4.size) = false := decide_eq_false (by omega)
 have d8' : decide ((200 : Int) < (a0_4.size : Int)) = false := decide_eq_false (by omega)
 go_enter Try.func54, Try.ntmps54
 go_wp2
 go_quiet (fail)
 go_wp2_with (go_at_call 65; refine (path_Check.calls k a0_0 _ _ _ H.out).mono ?_; rintro e w1 ⟨rfl, hb⟩; have hk : w1.heap[w.heap.size]? = some (.cells #[.string a0_0, .int .i64 a0_1, .int .i64 a0_2, .slice A0_3 l0_3.length c0_3, .string a0_4] 89 (0, 0)) := ((hb.block w.heap.size (by simp)).trans (World.alloc_heap_new w _)); have hx0 : w1.cell? ⟨w.heap.size, 0, none⟩ = some (.string a0_0) := (blk_cell hk 0).trans rfl; have hx1 : w1.cell? ⟨w.heap.size, 1, none⟩ = some (.int .i64 a0_1) := (blk_cell hk 1).trans rfl; have hx2 : w1.cell? ⟨w.heap.size, 2, none⟩ = some (.int .i64 a0_2) := (blk_cell hk 2).trans rfl; have hx3 : w1.cell? ⟨w.heap.size, 3, none⟩ = some (.slice A0_3 l0_3.length c0_3) := (blk_cell hk 3).trans rfl; have hx4 : w1.cell? ⟨w.heap.size, 4, none⟩ = some (.string a0_4) := (blk_cell hk 4).trans rfl; have HB := Aside0.mk hb; clear hb hk)
 go_ret
 exact ⟨rfl, below_then (pw_below_drewN ((Below.refl _ w).alloc (Nat.le_refl _) _) _) (by simp) HB.out⟩
theorem tree_one.calls (k : Nat) (a0_0 : ByteArray) (a0_1 : Int) (a0_2 : Int) (A0_3 : Option Addr) (c0_3 : Nat) (l0_3 : List Int) (a0_4 : ByteArray) (r : Int) (w : World) (hr0_3 : Kd.C (Kd.int .u8) w A0_3 l0_3.length l0_3) (hc0_3 : l0_3.length ≤ c0_3) (h : tree_one.f k a0_0 a0_1 a0_2 l0_3 a0_4 = some r) :
  Calls Try.prog 54 #[.agg #[.string a0_0, .int .i64 a0_1, .int .i64 a0_2, .slice A0_3 l0_3.length c0_3, .string a0_4]] w fun e w' => e = .returned (.int .i64 r) ∧ Below w.heap.size w w' := by
 obtain ⟨⟨t1, t2⟩, ht, h⟩ := Option.bind_eq_some_iff.mp h
 have h : oneOf t1 a0_1 a0_2 l0_3 a0_4 = r := Option.some.inj h
 unfold oneOf at h
 by_cases c0 : t1 = 0
 ·subst c0
  rw [if_pos rfl] at h
  by_cases c1 : a0_1 < 1
  ·rw [if_pos c1] at h; subst h; exact tree_one.kind0 k a0_0 a0_1 a0_2 A0_3 c0_3 l0_3 a0_4 t2 w ht c1
  rw [if_neg c1] at h
  by_cases c2 : 3 < a0_1
  ·rw [if_pos c2] at h; subst h; exact tree_one.kind4 k a0_0 a0_1 a0_2 A0_3 c0_3 l0_3 a0_4 t2 w ht c2
  rw [if_neg c2] at h
  by_cases c3 : a0_2 < 0
  ·rw [if_pos c3] at h; subst h; exact tree_one.mode0 k a0_0 a0_1 a0_2 A0_3 c0_3 l0_3 a0_4 t2 w ht (by omega) (by omega) c3
  rw [if_neg c3] at h
  by_cases c4 : 511 < a0_2
  ·rw [if_pos c4] at h; subst h; exact tree_one.mode9 k a0_0 a0_1 a0_2 A0_3 c0_3 l0_3 a0_4 t2 w ht (by omega) (by omega) c4
  rw [if_neg c4] at h
  by_cases c5 : 0 < l0_3.length ∧ a0_1 ≠ 2
  ·rw [if_pos c5] at h; subst h; exact tree_one.data k a0_0 a0_1 a0_2 A0_3 c0_3 l0_3 a0_4 t2 w ht (by omega) (by omega) (by omega) (by omega) c5.1 c5.2
  rw [if_neg c5] at h
  have hne : ∀ b, a0_4.toList.isEmpty = b → (a0_4.toList != []) = !b := by
   intro b hb
   subst hb
   cases a0_4.toList <;> rfl
  have hsz : a0_4.toList.isEmpty = true → a0_4.size = 0 := by
   intro hb
   rw [← data_length, ← Lib.toList_data]
   simpa using hb
  by_cases c6 : 0 < l0_3.length
  ·have c7 : a0_1 = 2 := by omega
   cases hE : a0_4.toList.isEmpty with
   | false =>
    rw [hne _ hE, c7, if_pos (by rfl)] at h; subst h; exact tree_one.file_link k a0_0 a0_1 a0_2 A0_3 c0_3 l0_3 a0_4 t2 w ht (by omega) (by omega) (by omega) (by omega) c6 c7 hE
   | true =>
    rw [hne _ hE, c7, if_neg (by decide), if_neg (by have := hsz hE; omega)] at h
    by_cases c10 : 1048576 < l0_3.length
    ·rw [if_pos c10] at h; subst h; exact tree_one.file_long k a0_0 a0_1 a0_2 A0_3 c0_3 l0_3 a0_4 t2 w ht (by omega) (by omega) (by omega) (by omega) c6 c7 hE (by have := hsz hE; omega) c10
    rw [if_neg c10] at h; subst h; exact tree_one.file_ok k a0_0 a0_1 a0_2 A0_3 c0_3 l0_3 a0_4 t2 w ht (by omega) (by omega) (by omega) (by omega) c6 c7 hE (by have := hsz hE; omega) (by omega)
  ·have c7 : l0_3.length = 0 := by omega
   cases hE : a0_4.toList.isEmpty with
   | false =>
    rw [hne _ hE] at h
    cases hL : (a0_1 == 3) with
    | false => rw [hL, if_pos (by rfl)] at h; subst h; exact tree_one.none_linkF k a0_0 a0_1 a0_2 A0_3 c0_3 l0_3 a0_4 t2 w ht (by omega) (by omega) (by omega) (by omega) c7 hL hE
    | true =>
     rw [hL, if_neg (by decide)] at h
     by_cases c9 : 200 < a0_4.size
     ·rw [if_pos c9] at h; subst h; exact tree_one.none_to k a0_0 a0_1 a0_2 A0_3 c0_3 l0_3 a0_4 t2 w ht (by omega) (by omega) (by omega) (by omega) c7 hL hE c9
     rw [if_neg c9, if_neg (by omega)] at h; subst h; exact tree_one.none_okT k a0_0 a0_1 a0_2 A0_3 c0_3 l0_3 a0_4 t2 w ht (by omega) (by omega) (by omega) (by omega) c7 hL hE (by omega)
   | true =>
    rw [hne _ hE] at h
    cases hL : (a0_1 == 3) with
    | true => rw [hL, if_pos (by rfl)] at h; subst h; exact tree_one.none_linkT k a0_0 a0_1 a0_2 A0_3 c0_3 l0_3 a0_4 t2 w ht (by omega) (by omega) (by omega) (by omega) c7 hL hE
    | false =>
     rw [hL, if_neg (by decide), if_neg (by have := hsz hE; omega), if_neg (by omega)] at h; subst h; exact tree_one.none_okF k a0_0 a0_1 a0_2 A0_3 c0_3 l0_3 a0_4 t2 w ht (by omega) (by omega) (by omega) (by omega) c7 hL hE (by have := hsz hE; omega)
 ·rw [if_neg c0] at h; subst h; exact tree_one.bad k a0_0 a0_1 a0_2 A0_3 c0_3 l0_3 a0_4 t2 w t1 ht c0

end Go.Proofs.Ytmlgfgmgolgjbaa.X
end

/-! ## TreePlace -/
section
namespace Go.Proofs.Ytmlgfgmgolgjbaa.X
open Go.RowKit Go.Proofs.YtmlgfgmgolgjbaaW.PrintWords Go.Proofs.YtmlgfgmgolgjbaaW.PrintLast Go.Proofs.YtmlgfgmgolgjbaaW.PrintMore
attribute [local go_sem] max2_int min2_int max_two min_two max_three min_three max_four min_four   -- for this text's walks alone
set_option linter.unusedVariables false
set_option linter.unusedSimpArgs false

attribute [local go_sem] str_gtr fld_fault0 fld_fault1
/-! ### tree_place: function 57 -/
def tree_place.l0 : Nat → List (S89) → ByteArray → Nat → Nat → Option (Int × Bool)
 | 0, _, _, _, _ => none
 | k + 1, l, s, i, j => if i < j then (path_Compare.f k (rd_T89 l (((i : Int) + (j : Int)) / 2)).f0 s).bind fun c => if c < 0 then tree_place.l0 k l s ((i + j) / 2 + 1) j else tree_place.l0 k l s i ((i + j) / 2)
   else if i < l.length then (path_Compare.f k (rd_T89 l (i : Int)).f0 s).bind fun c => some ((i : Int), c == 0) else some ((i : Int), false)
def tree_place.f (k : Nat) (l0 : List (S89)) (a1 : ByteArray) : Option (Int × Bool) := if l0.length < 1152921504606846976 then tree_place.l0 k l0 a1 0 l0.length else none
theorem tree_place.mono_l : ∀ k l s i j, LeO (tree_place.l0 k l s i j) (tree_place.l0 (k + 1) l s i j)
 | 0, _, _, _, _ => LeO.none _
 | k + 1, l, s, i, j => by
  unfold tree_place.l0
  refine LeO.ite (LeO.bind (path_Compare.mono _ _ _) fun _ => LeO.ite (tree_place.mono_l k _ _ _ _) (tree_place.mono_l k _ _ _ _)) (LeO.ite (LeO.bind (path_Compare.mono _ _ _) fun _ => LeO.refl _) (LeO.refl _))
theorem tree_place.mono : ∀ a0 a1 k, LeO (tree_place.f k a0 a1) (tree_place.f (k + 1) a0 a1) := by
 intro a0 a1 k
 unfold tree_place.f
 exact LeO.ite (tree_place.mono_l k _ _ _ _) (LeO.refl _)
set_option maxHeartbeats 2000000 in
set_option maxRecDepth 100000 in
theorem tree_place1.calls (k : Nat) (a0_0 : ByteArray) (a0_1 : Int) (a0_2 : Int) (v3 : Value) (a0_4 : ByteArray) (s : ByteArray) (r : Int) (w : World) (hv : v3.oneCell' = true) (h : path_Compare.f k a0_0 s = some r) :
  Calls Try.prog 71 #[.agg #[.string a0_0, .int .i64 a0_1, .int .i64 a0_2, v3, .string a0_4], .string s] w fun e w' => e = .returned (.int .i64 r) ∧ Below w.heap.size w w' := by
 have H := Aside0.mk h
 clear h
 go_enter Try.func71, Try.ntmps71
 go_wp2_with (go_at_call 55; refine (path_Compare.calls k _ _ _ _ H.out).mono ?_; rintro e w1 ⟨rfl, hb⟩; have HB := Aside0.mk hb; clear hb)
 go_ret
 exact ⟨rfl, below_then ((Below.refl _ w).alloc (Nat.le_refl _) _) (by simp) HB.out⟩
set_option maxHeartbeats 4000000 in
set_option maxRecDepth 100000 in
theorem slices_BinarySearchFunc.calls (k : Nat) (A0 : Option Addr) (c0 : Nat) (l0 : List (S89)) (a1 : ByteArray) (r1 : Int) (r2 : Bool) (w : World) (hr0 : Kd.C k89 w A0 l0.length l0) (hc0 : l0.length ≤ c0) (h : tree_place.f k l0 a1 = some (r1, r2)) :
  Calls Try.prog 70 #[.slice A0 l0.length c0, .string a1, .func (.func 71) #[] #[]] w fun e w' => e = .returned (.tuple #[.int .i64 r1, .bool r2]) ∧ Below w.heap.size w w' := by
 unfold tree_place.f at h
 by_cases c1 : l0.length < 1152921504606846976
 ·rw [if_pos c1] at h
  have H := Aside0.mk h
  have HR0 := Aside0.mk hr0
  clear h hr0
  go_enter Try.func70, Try.ntmps70
  go_wp2
  go_loopw [9, 10] (fun v9 v10 wr => ∃ (kk i j : Nat), v9 = .int .i64 (i : Int) ∧ v10 = .int .i64 (j : Int) ∧ Aside0 (tree_place.l0 kk l0 a1 i j = some (r1, r2)) ∧ i ≤ j ∧ j ≤ l0.length ∧ Aside0 (Below w.heap.size w wr)) (fun v9 v10 _ => (intOf v10 - intOf v9).toNat)
  case atStart => exact ⟨k, 0, l0.length, rfl, rfl, H, by omega, by omega, ⟨Below.refl _ _⟩⟩
  case round =>
   obtain ⟨kk, i, j, rfl, rfl, HL, hij, hjl, HB⟩ := hrel
   clear H
   cases kk with
   | zero => cases HL.out
   | succ kk =>
    by_cases c2 : i < j
    ·have h2 := HL.out
     unfold tree_place.l0 at h2
     rw [if_pos c2] at h2
     obtain ⟨c, hc, h2⟩ := Option.bind_eq_some_iff.mp h2
     have HC := Aside0.mk hc
     have H2 := Aside0.mk h2
     clear HL h2 hc
     have d1 : decide ((i : Int) < (j : Int)) = true := decide_eq_true (by omega)
     have p : 0 ≤ ((i : Int) + (j : Int)) / 2 := by omega
     have q : ((i : Int) + (j : Int)) / 2 < (l0.length : Int) := by omega
     obtain ⟨ad, A3, c3, e, hx0, hx1, hx2, hx3, hx4, hl3, hi3⟩ := at_T89 (Kd.C_below HR0.out HB.out) _ p q
     cases e
     have e2 : (((i : Int) + (j : Int)) / 2).toNat = (i + j) / 2 := by omega
     rw [e2] at hx0 hx1 hx2 hx3 hx4
     clear e2
     have q1 : (i + j) / 2 < j := by omega
     have q2 : i ≤ (i + j) / 2 := by omega
     clear hl3 hi3
     by_cases c3 : c < 0
     ·have d2 : decide (c < 0) = true := decide_eq_true c3
      have H3 := Aside0.mk (show tree_place.l0 kk l0 a1 ((i + j) / 2 + 1) j = some (r1, r2) by have h4 := H2.out; rwa [if_pos c3] at h4)
      clear H2
      go_wp2_with (go_at_call 71; refine (tree_place1.calls kk _ _ _ _ _ _ _ _ rfl HC.out).mono ?_; rintro e w2 ⟨rfl, hb⟩; have HB2 := Aside0.mk (below_then HB.out HB.out.size hb); clear hb HB)
      go_roundw
      case rel => exact ⟨kk, (i + j) / 2 + 1, j, by congr 1, rfl, H3, by omega, by omega, HB2⟩
      case measure => simp [intOf]; omega
     ·have d2 : decide (c < 0) = false := decide_eq_false c3
      have H3 := Aside0.mk (show tree_place.l0 kk l0 a1 i ((i + j) / 2) = some (r1, r2) by have h4 := H2.out; rwa [if_neg c3] at h4)
      clear H2
      go_wp2_with (go_at_call 71; refine (tree_place1.calls kk _ _ _ _ _ _ _ _ rfl HC.out).mono ?_; rintro e w2 ⟨rfl, hb⟩; have HB2 := Aside0.mk (below_then HB.out HB.out.size hb); clear hb HB)
      go_roundw
      case rel => exact ⟨kk, i, (i + j) / 2, rfl, by congr 1, H3, by omega, by omega, HB2⟩
      case measure => simp [intOf]; omega
    ·have d1 : decide ((i : Int) < (j : Int)) = false := decide_eq_false (by omega)
     have h2 := HL.out
     unfold tree_place.l0 at h2
     rw [if_neg c2] at h2
     clear HL
     by_cases c3 : i < l0.length
     ·rw [if_pos c3] at h2
      obtain ⟨c, hc, h2⟩ := Option.bind_eq_some_iff.mp h2
      have HC := Aside0.mk hc
      obtain ⟨rfl, rfl⟩ := Prod.mk.inj (Option.some.inj h2)
      clear h2 hc
      have d2 : decide (i < l0.length) = true := decide_eq_true c3
      have p : (0 : Int) ≤ (i : Int) := by omega
      have q : (i : Int) < (l0.length : Int) := by omega
      obtain ⟨ad, A3, c3', e, hx0, hx1, hx2, hx3, hx4, hl3, hi3⟩ := at_T89 (Kd.C_below HR0.out HB.out) _ p q
      cases e
      rw [Int.toNat_natCast] at hx0 hx1 hx2 hx3 hx4
      clear hl3 hi3
      go_wp2_with (go_at_call 71; refine (tree_place1.calls kk _ _ _ _ _ _ _ _ rfl HC.out).mono ?_; rintro e w2 ⟨rfl, hb⟩; have HB2 := Aside0.mk (below_then HB.out HB.out.size hb); clear hb HB)
      go_ret2
      exact ⟨rfl, HB2.out⟩
     ·rw [if_neg c3] at h2
      obtain ⟨rfl, rfl⟩ := Prod.mk.inj (Option.some.inj h2)
      clear h2
      have d2 : decide (i < l0.length) = false := decide_eq_false c3
      go_wp2
      go_ret2
      exact ⟨rfl, HB.out⟩
 ·rw [if_neg c1] at h
  cases h
set_option maxHeartbeats 1000000 in
set_option maxRecDepth 100000 in
theorem tree_place.calls (k : Nat) (A0 : Option Addr) (c0 : Nat) (l0 : List (S89)) (a1 : ByteArray) (r1 : Int) (r2 : Bool) (w : World) (hr0 : Kd.C k89 w A0 l0.length l0) (hc0 : l0.length ≤ c0) (h : tree_place.f k l0 a1 = some (r1, r2)) :
  Calls Try.prog 57 #[.slice A0 l0.length c0, .string a1] w fun e w' => e = .returned (.tuple #[.int .i64 r1, .bool r2]) ∧ Below w.heap.size w w' := by
 have HC := Aside0.mk (slices_BinarySearchFunc.calls k A0 c0 l0 a1 r1 r2 w hr0 hc0 h)
 clear hr0 h
 go_enter Try.func57, Try.ntmps57
 go_wp2_with (go_at_call 70; refine HC.out.mono ?_; rintro e w1 ⟨rfl, hb⟩)
 go_ret2
 exact ⟨rfl, hb⟩

end Go.Proofs.Ytmlgfgmgolgjbaa.X
end

/-! ## TreeCheck -/
section
namespace Go.Proofs.Ytmlgfgmgolgjbaa.X
open Go.RowKit Go.Proofs.YtmlgfgmgolgjbaaW.PrintWords Go.Proofs.YtmlgfgmgolgjbaaW.PrintLast Go.Proofs.YtmlgfgmgolgjbaaW.PrintMore
attribute [local go_sem] max2_int min2_int max_two min_two max_three min_three max_four min_four   -- for this text's walks alone
set_option linter.unusedVariables false
set_option linter.unusedSimpArgs false

attribute [local go_sem] str_gtr fld_fault0 fld_fault1
/-! ### tree_Check: function 41 -/
mutual
def tree_Check.l0 : Nat → List (S89) → List (S89) → Int → Int → Option (Int × Int)
 | 0, _, _, _, _ => none
 | k + 1, x0, x14, x15, x16 => if x16 < x15 then (if 0 ≤ x16 then (if x16 < (x14.length : Int) then ((tree_one.f k ((rd_T89 x14 x16).f0) ((rd_T89 x14 x16).f1) ((rd_T89 x14 x16).f2) ((rd_T89 x14 x16).f3) ((rd_T89 x14 x16).f4)).bind fun t126 => (if t126 = 0 then (if x16 > 0 then (if 0 ≤ (wrap64 (x16 - 1)) then (if (wrap64 (x16 - 1)) < (x0.length : Int) then ((path_Compare.f k ((rd_T89 x0 (wrap64 (x16 - 1))).f0) ((rd_T89 x14 x16).f0)).bind fun t128 => (tree_Check.j1 k x0 x16 x14 x15 x16 (decide (t128 ≥ 0)) ((rd_T89 x14 x16).f0) ((rd_T89 x14 x16).f1) ((rd_T89 x14 x16).f2) ((rd_T89 x14 x16).f3) ((rd_T89 x14 x16).f4))) else (none)) else (none)) else (tree_Check.j1 k x0 x16 x14 x15 x16 false ((rd_T89 x14 x16).f0) ((rd_T89 x14 x16).f1) ((rd_T89 x14 x16).f2) ((rd_T89 x14 x16).f3) ((rd_T89 x14 x16).f4))) else (some (t126, x16)))) else (none)) else (none)) else (some (0, 0))
def tree_Check.j1 : Nat → List (S89) → Int → List (S89) → Int → Int → Bool → ByteArray → Int → Int → List Int → ByteArray → Option (Int × Int)
 | 0, _, _, _, _, _, _, _, _, _, _, _ => none
 | k + 1, x0, x4, x14, x15, x16, x40, x126000, x126001, x126002, x126003, x126004 => if x40 = true then (some (7, x4)) else ((path_Parent.f k x126000).bind fun bt129 => (if bt129.2 = true then (if 0 ≤ x4 then (if x4 ≤ (x0.length : Int) then ((tree_place.f k (x0.take (x4 : Int).toNat) bt129.1).bind fun bt135 => (if bt135.2 = true then (if 0 ≤ bt135.1 then (if bt135.1 < (x0.length : Int) then (if ((rd_T89 x0 bt135.1).f1) = 1 then (tree_Check.l0 k x0 x14 x15 (wrap64 (x16 + 1))) else (some (6, x4))) else (none)) else (none)) else (some (6, x4)))) else (none)) else (none)) else (tree_Check.l0 k x0 x14 x15 (wrap64 (x16 + 1)))))
end
def tree_Check.f (k : Nat) (l0 : List (S89)) : Option (Int × Int) := if (l0.length : Int) > 200 then (some (3, 0)) else (tree_Check.l0 k l0 l0 (l0.length : Int) 0)
theorem tree_Check.mono_l : ∀ k, (∀ y0 y1 y2 y3, LeO (tree_Check.l0 k y0 y1 y2 y3) (tree_Check.l0 (k + 1) y0 y1 y2 y3)) ∧ (∀ y0 y1 y2 y3 y4 y5 y6 y7 y8 y9 y10, LeO (tree_Check.j1 k y0 y1 y2 y3 y4 y5 y6 y7 y8 y9 y10) (tree_Check.j1 (k + 1) y0 y1 y2 y3 y4 y5 y6 y7 y8 y9 y10))
 | 0 => ⟨fun _ _ _ _ r h => by simp [tree_Check.l0] at h, fun _ _ _ _ _ _ _ _ _ _ _ r h => by simp [tree_Check.j1] at h⟩
 | k + 1 => by
  obtain ⟨ih0, ih1⟩ := tree_Check.mono_l k
  refine ⟨?_, ?_⟩
  ·intro y0 y1 y2 y3
   unfold tree_Check.l0
   repeat' first
   | (with_reducible exact ih0 _ _ _ _)
   | (with_reducible exact ih1 _ _ _ _ _ _ _ _ _ _ _)
   | (with_reducible exact path_Compare.mono _ _ _)
   | (with_reducible exact path_Parent.mono _ _)
   | (with_reducible exact tree_one.mono _ _ _ _ _ _)
   | (with_reducible exact tree_place.mono _ _ _)
   | (with_reducible exact LeO.refl _)
   | (with_reducible exact LeO.none _)
   | (with_reducible refine LeO.ite ?_ ?_)
   | (with_reducible refine LeO.bind ?_ (fun _ => ?_))
   | exact ih0 _ _ _ _
   | exact ih1 _ _ _ _ _ _ _ _ _ _ _
   | exact path_Compare.mono _ _ _
   | exact path_Parent.mono _ _
   | exact tree_one.mono _ _ _ _ _ _
   | exact tree_place.mono _ _ _
   | exact LeO.none _
   | refine LeO.ite ?_ ?_
   | refine LeO.bind ?_ (fun _ => ?_)
  ·intro y0 y1 y2 y3 y4 y5 y6 y7 y8 y9 y10
   unfold tree_Check.j1
   repeat' first
   | (with_reducible exact ih0 _ _ _ _)
   | (with_reducible exact ih1 _ _ _ _ _ _ _ _ _ _ _)
   | (with_reducible exact path_Compare.mono _ _ _)
   | (with_reducible exact path_Parent.mono _ _)
   | (with_reducible exact tree_one.mono _ _ _ _ _ _)
   | (with_reducible exact tree_place.mono _ _ _)
   | (with_reducible exact LeO.refl _)
   | (with_reducible exact LeO.none _)
   | (with_reducible refine LeO.ite ?_ ?_)
   | (with_reducible refine LeO.bind ?_ (fun _ => ?_))
   | exact ih0 _ _ _ _
   | exact ih1 _ _ _ _ _ _ _ _ _ _ _
   | exact path_Compare.mono _ _ _
   | exact path_Parent.mono _ _
   | exact tree_one.mono _ _ _ _ _ _
   | exact tree_place.mono _ _ _
   | exact LeO.none _
   | refine LeO.ite ?_ ?_
   | refine LeO.bind ?_ (fun _ => ?_)
theorem tree_Check.mono : ∀ a0 k, LeO (tree_Check.f k a0) (tree_Check.f (k + 1) a0) := by
 intro a0 k
 obtain ⟨ih0, ih1⟩ := tree_Check.mono_l k
 unfold tree_Check.f
 repeat' first
   | (with_reducible exact ih0 _ _ _ _)
   | (with_reducible exact ih1 _ _ _ _ _ _ _ _ _ _ _)
   | (with_reducible exact path_Compare.mono _ _ _)
   | (with_reducible exact path_Parent.mono _ _)
   | (with_reducible exact tree_one.mono _ _ _ _ _ _)
   | (with_reducible exact tree_place.mono _ _ _)
   | (with_reducible exact LeO.refl _)
   | (with_reducible exact LeO.none _)
   | (with_reducible refine LeO.ite ?_ ?_)
   | (with_reducible refine LeO.bind ?_ (fun _ => ?_))
   | exact ih0 _ _ _ _
   | exact ih1 _ _ _ _ _ _ _ _ _ _ _
   | exact path_Compare.mono _ _ _
   | exact path_Parent.mono _ _
   | exact tree_one.mono _ _ _ _ _ _
   | exact tree_place.mono _ _ _
   | exact LeO.none _
   | refine LeO.ite ?_ ?_
   | refine LeO.bind ?_ (fun _ => ?_)
def tree_Check.T9 : Bool × List (List Nat × List Nat) := (true, [([], []), ([0], [0]), ([1], [1]), ([2], [2]), ([2], [2]), ([4, 2], [2, 4]), ([3, 5, 2], [2, 3, 5]), ([6, 2], [2, 6]), ([7, 2], [2, 7]), ([2], [2]), ([9, 2], [2, 9]), ([8, 10, 2, 2], [2, 8, 10]), ([11, 2], [2, 11]), ([2, 12], [2, 12])])
def tree_Check.B9 : List Nat := [0, 1, 3, 7, 7, 23, 63, 127, 255, 7, 519, 2047, 4095, 8191]
theorem tree_Check.tab9 : rtab .any (opsOf Try.f41 9) = tree_Check.T9 := by kernel_rfl
theorem tree_Check.bits9 : waitsOk tree_Check.T9.2 tree_Check.B9 = true := by kernel_rfl
set_option maxHeartbeats 8000000 in
set_option maxRecDepth 100000 in
theorem tree_Check.calls (k : Nat) (A0 : Option Addr) (c0 : Nat) (l0 : List (S89)) (r1 : Int) (r2 : Int) (w : World) (hr0 : Kd.C k89 w A0 l0.length l0) (hc0 : l0.length ≤ c0) (h : tree_Check.f k l0 = some (r1, r2)) :
  Calls Try.prog 41 #[.slice A0 l0.length c0] w fun e w' => e = .returned (.tuple #[.int .i64 r1, .int .i64 r2]) ∧ Below w.heap.size w w' := by
 have hu89 := Try.underlying89
 have HR0 := Aside0.mk hr0
 have HC0 := Aside0.mk hc0
 clear hr0 hc0
 have HB := Aside0.mk (Below.refl w.heap.size w)
 have H : (if (l0.length : Int) > 200 then (some (3, 0)) else (tree_Check.l0 k l0 l0 (l0.length : Int) 0)) = some (r1, r2) := h
 clear h
 by_cases c2 : (l0.length : Int) > 200
 ·rw [if_pos c2] at H
  have c2b0 : decide (200 < (l0.length : Int)) = true := decide_eq_true c2
  have c2b1 : decide (200 < l0.length) = true := decide_eq_true (by omega)
  clear c2
  simp only [Option.some.injEq, Prod.mk.injEq] at H
  obtain ⟨rfl, rfl⟩ := H
  go_enter Try.func41, Try.ntmps41
  go_wp2
  go_ret2
  exact ⟨by first | rfl | (simp [errW_none, errW_some] <;> rfl) | (simp [*, errW_none, errW_some] <;> rfl) | (simp [bt, *]; done) | (simp_all [bt]; done), by repeat (first | (with_reducible first | exact HB.out | apply below_alloc | apply pw_below_drewN | apply below_drew1) | exact HB.out)⟩
 ·rw [if_neg c2] at H
  have c2b0 : decide (200 < (l0.length : Int)) = false := decide_eq_false c2
  have c2b1 : decide (200 < l0.length) = false := decide_eq_false (by omega)
  clear c2
  have H' := Aside0.mk H
  clear H
  go_enter Try.func41, Try.ntmps41
  go_wp2
  go_loopg [16] k (fun kq v16 w' => ∃ (x16_1 : Int), v16 = .int .i64 x16_1 ∧ Aside0 (tree_Check.l0 kq l0 l0 (l0.length : Int) x16_1 = some (r1, r2)) ∧ Aside0 (kq ≤ k) ∧ Aside0 (Below w.heap.size w w'))
  case atStart => exact ⟨(0), (by first | rfl | (simp; done) | (simp [*]; done)), H', ⟨Nat.le_refl _⟩, ⟨by repeat (first | (with_reducible first | exact HB.out | apply below_alloc | apply pw_below_drewN | apply below_drew1) | exact HB.out)⟩⟩
  case round =>
   clear H'
   try clear c2
   try clear c2b0
   try clear c2b1
   try clear p2
   obtain ⟨x16_1, rfl, HA, HK1, HB⟩ := hrel
   cases gk with
   | zero => exact absurd HA.out (by simp [tree_Check.l0])
   | succ k1 =>
    have H := HA.out
    clear HA
    simp only [tree_Check.l0] at H
    by_cases c3 : x16_1 < (l0.length : Int)
    ·rw [if_pos c3] at H
     have c3b0 : decide (x16_1 < (l0.length : Int)) = true := decide_eq_true c3
     clear c3
     by_cases c4 : 0 ≤ x16_1
     ·rw [if_pos c4] at H
      have c4b0 : decide (0 ≤ x16_1) = true := decide_eq_true c4
      clear c4
      by_cases c5 : x16_1 < (l0.length : Int)
      ·rw [if_pos c5] at H
       have c5b0 : decide (x16_1 < (l0.length : Int)) = true := decide_eq_true c5
       clear c5
       replace H := Option.bind_eq_some_iff.mp H
       obtain ⟨t126, A60, H⟩ := H
       replace H : (if t126 = 0 then (if x16_1 > 0 then (if 0 ≤ (wrap64 (x16_1 - 1)) then (if (wrap64 (x16_1 - 1)) < (l0.length : Int) then ((path_Compare.f k1 ((rd_T89 l0 (wrap64 (x16_1 - 1))).f0) ((rd_T89 l0 x16_1).f0)).bind fun t128 => (tree_Check.j1 k1 l0 x16_1 l0 (l0.length : Int) x16_1 (decide (t128 ≥ 0)) ((rd_T89 l0 x16_1).f0) ((rd_T89 l0 x16_1).f1) ((rd_T89 l0 x16_1).f2) ((rd_T89 l0 x16_1).f3) ((rd_T89 l0 x16_1).f4))) else (none)) else (none)) else (tree_Check.j1 k1 l0 x16_1 l0 (l0.length : Int) x16_1 false ((rd_T89 l0 x16_1).f0) ((rd_T89 l0 x16_1).f1) ((rd_T89 l0 x16_1).f2) ((rd_T89 l0 x16_1).f3) ((rd_T89 l0 x16_1).f4))) else (some (t126, x16_1))) = some (r1, r2) := H
       have A6 := Aside0.mk A60
       clear A60
       by_cases c7 : t126 = 0
       ·rw [if_pos c7] at H
        have c7b0 : (t126 == 0) = true := beq_iff_eq.mpr c7
        have c7b1 : (t126 != 0) = false := bne_eq_false_iff_eq.mpr c7
        clear c7
        have HC8 := Aside0.mk H
        clear H
        have p124 : 0 ≤ (x16_1 : Int) := of_decide_eq_true (by first | (with_reducible assumption) | assumption)
        have q124 : x16_1 < (l0.length : Int) := of_decide_eq_true (by first | (with_reducible assumption) | assumption)
        obtain ⟨ad124, A124_3, c124_3, e124, hx124_0, hx124_1, hx124_2, hx124_3, hx124_4, hl124_3, hi124_3⟩ := at_T89 HR0.out x16_1 p124 q124
        cases e124
        replace hx124_0 := (HB.out.cell (World.block_lt_of_cell? w _ hx124_0)).trans hx124_0
        replace hx124_1 := (HB.out.cell (World.block_lt_of_cell? w _ hx124_1)).trans hx124_1
        replace hx124_2 := (HB.out.cell (World.block_lt_of_cell? w _ hx124_2)).trans hx124_2
        replace hx124_3 := (HB.out.cell (World.block_lt_of_cell? w _ hx124_3)).trans hx124_3
        replace hx124_4 := (HB.out.cell (World.block_lt_of_cell? w _ hx124_4)).trans hx124_4
        have HR124_3 := Aside0.mk hi124_3
        have HC124_3 := Aside0.mk hl124_3
        clear hi124_3 hl124_3
        replace p124 := eq_true p124
        replace q124 := eq_true q124
        go_upto_region 9 with (first | ((with_reducible refine gate_dst (N := 5) rfl ?_); refine box_event ?hg (N := 5) ?hd (cs := #[.string (⟨#[]⟩ : ByteArray), .int .i64 0, .int .i64 0, .slice none 0 0, .string (⟨#[]⟩ : ByteArray)]) (t := 89) ?hr ?_; (case hd => rfl); (case hg => rfl); (case hr => first | (go_simp; done) | (go_simp; rfl)); intro gb125 hg w9 hbox hb; have n0_ := Aside0.mk (below_step (by repeat (first | (with_reducible first | exact HB.out | apply below_alloc | apply pw_below_drewN | apply below_drew1) | exact HB.out)) hb); have n1_ := Aside0.mk (hbox); have n2_ := Aside0.mk ((by rw [hg]; exact (below_size (by repeat (first | (with_reducible first | exact HB.out | apply below_alloc | apply pw_below_drewN | apply below_drew1) | exact HB.out))) : w.heap.size ≤ gb125)); have n3_ := Aside0.mk ((by rw [hg]; exact (below_size (by repeat (first | (with_reducible first | exact HB.out | apply below_alloc | apply pw_below_drewN | apply below_drew1) | exact HB.out))) : w.heap.size ≤ gb125)); clear HB; have HB := n0_; have BK125 := n1_; have GW125 := n2_; have GE125 := n3_; clear n0_ n1_ n2_ n3_; clear hb hbox hg; have hcz10_0 : w9.cell? ⟨gb125, 0, none⟩ = some (.string (⟨#[]⟩ : ByteArray)) := (blk_cell BK125.out 0).trans rfl; have hcz10_1 : w9.cell? ⟨gb125, 1, none⟩ = some (.int .i64 0) := (blk_cell BK125.out 1).trans rfl; have hcz10_2 : w9.cell? ⟨gb125, 2, none⟩ = some (.int .i64 0) := (blk_cell BK125.out 2).trans rfl; have hcz10_3 : w9.cell? ⟨gb125, 3, none⟩ = some (.slice none 0 0) := (blk_cell BK125.out 3).trans rfl; have hcz10_4 : w9.cell? ⟨gb125, 4, none⟩ = some (.string (⟨#[]⟩ : ByteArray)) := (blk_cell BK125.out 4).trans rfl; have hfz10_0 := blk_frozen BK125.out 0; have hfz10_1 := blk_frozen BK125.out 1; have hfz10_2 := blk_frozen BK125.out 2; have hfz10_3 := blk_frozen BK125.out 3; have hfz10_4 := blk_frozen BK125.out 4) | ((with_reducible refine gate_callee (f := 54) rfl ?_); refine goesL_ (some 22) rfl rfl Try.func54 (by kernel_rfl) rfl #[.agg #[.string ((rd_T89 l0 x16_1).f0), .int .i64 ((rd_T89 l0 x16_1).f1), .int .i64 ((rd_T89 l0 x16_1).f2), .slice A124_3 ((rd_T89 l0 x16_1).f3).length c124_3, .string ((rd_T89 l0 x16_1).f4)]] rfl (by (try simp only [List.map_toArray, List.map_cons, List.map_nil]); first | done | rfl | (simp only [List.length_drop, List.length_take]; rfl)) ?_; (with_reducible refine (tree_one.calls k1 ((rd_T89 l0 x16_1).f0) ((rd_T89 l0 x16_1).f1) ((rd_T89 l0 x16_1).f2) _ _ ((rd_T89 l0 x16_1).f3) ((rd_T89 l0 x16_1).f4) t126 _ ?side1 ?side2 A6.out).mono ?_); (case side1 => exact Kd.C_below HR124_3.out (by repeat (first | (with_reducible first | exact HB.out | apply below_alloc | apply pw_below_drewN | apply below_drew1 | refine below_set ?_ GE125.out) | exact HB.out))); (case side2 => exact HC124_3.out); rintro e w11 ⟨rfl, hb⟩; refine ⟨_, rfl, ?_⟩; have n0_ := Aside0.mk (blk_below (g := gb125) (o := .cells #[.string ((rd_T89 l0 x16_1).f0), .int .i64 ((rd_T89 l0 x16_1).f1), .int .i64 ((rd_T89 l0 x16_1).f2), .slice A124_3 ((rd_T89 l0 x16_1).f3).length c124_3, .string ((rd_T89 l0 x16_1).f4)] 89 (0, 0)) (by (with_reducible repeat (first | refine blk_drewN ?_ _ | refine blk_drew ?_ | refine blk_alloc ?_ _)); refine blk_put (cs := #[.string ((rd_T89 l0 x16_1).f0), .int .i64 ((rd_T89 l0 x16_1).f1), .int .i64 ((rd_T89 l0 x16_1).f2), .slice A124_3 ((rd_T89 l0 x16_1).f3).length c124_3, .string (⟨#[]⟩ : ByteArray)]) ?_ 4 _ rfl; (with_reducible repeat (first | refine blk_drewN ?_ _ | refine blk_drew ?_ | refine blk_alloc ?_ _)); refine blk_put (cs := #[.string ((rd_T89 l0 x16_1).f0), .int .i64 ((rd_T89 l0 x16_1).f1), .int .i64 ((rd_T89 l0 x16_1).f2), .slice none 0 0, .string (⟨#[]⟩ : ByteArray)]) ?_ 3 _ rfl; (with_reducible repeat (first | refine blk_drewN ?_ _ | refine blk_drew ?_ | refine blk_alloc ?_ _)); refine blk_put (cs := #[.string ((rd_T89 l0 x16_1).f0), .int .i64 ((rd_T89 l0 x16_1).f1), .int .i64 0, .slice none 0 0, .string (⟨#[]⟩ : ByteArray)]) ?_ 2 _ rfl; (with_reducible repeat (first | refine blk_drewN ?_ _ | refine blk_drew ?_ | refine blk_alloc ?_ _)); refine blk_put (cs := #[.string ((rd_T89 l0 x16_1).f0), .int .i64 0, .int .i64 0, .slice none 0 0, .string (⟨#[]⟩ : ByteArray)]) ?_ 1 _ rfl; (with_reducible repeat (first | refine blk_drewN ?_ _ | refine blk_drew ?_ | refine blk_alloc ?_ _)); refine blk_put (cs := #[.string (⟨#[]⟩ : ByteArray), .int .i64 0, .int .i64 0, .slice none 0 0, .string (⟨#[]⟩ : ByteArray)]) ?_ 0 _ rfl; (with_reducible repeat (first | refine blk_drewN ?_ _ | refine blk_drew ?_ | refine blk_alloc ?_ _)); exact BK125.out) hb); have n1_ := Aside0.mk (below_step (by repeat (first | (with_reducible first | exact HB.out | apply below_alloc | apply pw_below_drewN | apply below_drew1 | refine below_set ?_ GE125.out) | exact HB.out)) hb); clear BK125; clear HB; have BK125 := n0_; have HB := n1_; clear n0_ n1_; (try clear hb); (try clear hb2); (try clear hk); (try clear hi)))
        (try simp only [Act.put, List.setIfInBounds_toArray, List.set_cons_zero, List.set_cons_succ])
        go_cut [40] (fun v40 wc => ∃ (kq : Nat) (x40_7 : Bool), v40 = .bool x40_7 ∧ Aside0 (tree_Check.j1 kq l0 x16_1 l0 (l0.length : Int) x16_1 x40_7 ((rd_T89 l0 x16_1).f0) ((rd_T89 l0 x16_1).f1) ((rd_T89 l0 x16_1).f2) ((rd_T89 l0 x16_1).f3) ((rd_T89 l0 x16_1).f4) = some (r1, r2)) ∧ Aside0 (kq ≤ k1) ∧ Aside0 (wc.heap[gb125]? = some (.cells #[.string ((rd_T89 l0 x16_1).f0), .int .i64 ((rd_T89 l0 x16_1).f1), .int .i64 ((rd_T89 l0 x16_1).f2), (.slice A124_3 ((rd_T89 l0 x16_1).f3).length c124_3), .string ((rd_T89 l0 x16_1).f4)] 89 (0, 0))) ∧ Aside0 (Below w.heap.size w wc))
        case first =>
         have H := HC8.out
         clear HC8
         by_cases c12 : x16_1 > 0
         ·rw [if_pos c12] at H
          have c12b0 : decide (0 < x16_1) = true := decide_eq_true c12
          clear c12
          (first | rw [c12b0] | (simp only [i64_w, i32_w]; rw [c12b0]) | skip)
          obtain ⟨ji13, hji13⟩ : ∃ j_ : Int, (wrap64 (x16_1 - 1)) = j_ := ⟨_, rfl⟩
          replace H : (if 0 ≤ (ji13) then (if (ji13) < (l0.length : Int) then ((path_Compare.f k1 ((rd_T89 l0 (ji13)).f0) ((rd_T89 l0 x16_1).f0)).bind fun t128 => (tree_Check.j1 k1 l0 x16_1 l0 (l0.length : Int) x16_1 (decide (t128 ≥ 0)) ((rd_T89 l0 x16_1).f0) ((rd_T89 l0 x16_1).f1) ((rd_T89 l0 x16_1).f2) ((rd_T89 l0 x16_1).f3) ((rd_T89 l0 x16_1).f4))) else (none)) else (none)) = some (r1, r2) := by first | (rw [hji13] at H; exact H) | (simp only [hji13] at H ⊢; exact H)
          have hji13w : (IntKind.i64.wrap (x16_1 - 1)) = ji13 := (i64_w _).trans hji13
          by_cases c14 : 0 ≤ (ji13)
          ·rw [if_pos c14] at H
           have c14b0 : decide (0 ≤ (ji13)) = true := decide_eq_true c14
           clear c14
           by_cases c15 : (ji13) < (l0.length : Int)
           ·rw [if_pos c15] at H
            have c15b0 : decide ((ji13) < (l0.length : Int)) = true := decide_eq_true c15
            clear c15
            replace H := Option.bind_eq_some_iff.mp H
            obtain ⟨t128, A160, H⟩ := H
            replace H : (tree_Check.j1 k1 l0 x16_1 l0 (l0.length : Int) x16_1 (decide (t128 ≥ 0)) ((rd_T89 l0 x16_1).f0) ((rd_T89 l0 x16_1).f1) ((rd_T89 l0 x16_1).f2) ((rd_T89 l0 x16_1).f3) ((rd_T89 l0 x16_1).f4)) = some (r1, r2) := H
            have A16 := Aside0.mk A160
            clear A160
            have H' := Aside0.mk H
            clear H
            try go_wp2
            have n0_ := Aside0.mk (blk_drew BK125.out)
            have n1_ := Aside0.mk (below_drew1 HB.out)
            clear BK125
            clear HB
            have BK125 := n0_
            have HB := n1_
            clear n0_ n1_
            have p127 : 0 ≤ ((ji13) : Int) := of_decide_eq_true (by first | (with_reducible assumption) | assumption)
            have q127 : (ji13) < (l0.length : Int) := of_decide_eq_true (by first | (with_reducible assumption) | assumption)
            obtain ⟨ad127, A127_3, c127_3, e127, hx127_0, hx127_1, hx127_2, hx127_3, hx127_4, hl127_3, hi127_3⟩ := at_T89 HR0.out (ji13) p127 q127
            have hw127_4 := hx127_4
            have hw127_3 := hx127_3
            have hw127_2 := hx127_2
            have hw127_1 := hx127_1
            have hw127_0 := hx127_0
            obtain rfl : ad124 = ad127 := (by injection e127)
            replace hx127_0 := (HB.out.cell (World.block_lt_of_cell? w _ hx127_0)).trans hx127_0
            replace hx127_1 := (HB.out.cell (World.block_lt_of_cell? w _ hx127_1)).trans hx127_1
            replace hx127_2 := (HB.out.cell (World.block_lt_of_cell? w _ hx127_2)).trans hx127_2
            replace hx127_3 := (HB.out.cell (World.block_lt_of_cell? w _ hx127_3)).trans hx127_3
            replace hx127_4 := (HB.out.cell (World.block_lt_of_cell? w _ hx127_4)).trans hx127_4
            have HR127_3 := Aside0.mk hi127_3
            have HC127_3 := Aside0.mk hl127_3
            clear hi127_3 hl127_3
            replace p127 := eq_true p127
            replace q127 := eq_true q127
            refine start_ (n := 14) (S := fun w' => w'.cell? ⟨gb125, 0, none⟩ = some (.string ((rd_T89 l0 x16_1).f0)) ∧ w'.cell? ⟨gb125, 1, none⟩ = some (.int .i64 ((rd_T89 l0 x16_1).f1)) ∧ w'.cell? ⟨gb125, 2, none⟩ = some (.int .i64 ((rd_T89 l0 x16_1).f2)) ∧ w'.cell? ⟨gb125, 3, none⟩ = some (.slice A124_3 ((rd_T89 l0 x16_1).f3).length c124_3) ∧ w'.cell? ⟨gb125, 4, none⟩ = some (.string ((rd_T89 l0 x16_1).f4)) ∧ w'.cell? (ad124.add (((ji13)).toNat * 5)) = some (.string ((rd_T89 l0 (ji13)).f0)) ∧ w'.cell? ⟨(ad124.add (((ji13)).toNat * 5)).block, (ad124.add (((ji13)).toNat * 5)).off + 1, none⟩ = some (.int .i64 ((rd_T89 l0 (ji13)).f1)) ∧ w'.cell? ⟨(ad124.add (((ji13)).toNat * 5)).block, (ad124.add (((ji13)).toNat * 5)).off + 2, none⟩ = some (.int .i64 ((rd_T89 l0 (ji13)).f2)) ∧ w'.cell? ⟨(ad124.add (((ji13)).toNat * 5)).block, (ad124.add (((ji13)).toNat * 5)).off + 3, none⟩ = some (.slice A127_3 ((rd_T89 l0 (ji13)).f3).length c127_3) ∧ w'.cell? ⟨(ad124.add (((ji13)).toNat * 5)).block, (ad124.add (((ji13)).toNat * 5)).off + 4, none⟩ = some (.string ((rd_T89 l0 (ji13)).f4))) (ds := []) #[false, false, false, false, false, false, false, false, false, false, false, false, false, false] (by kernel_rfl) rfl rfl ⟨(blk_cell BK125.out 0).trans rfl, (blk_cell BK125.out 1).trans rfl, (blk_cell BK125.out 2).trans rfl, (blk_cell BK125.out 3).trans rfl, (blk_cell BK125.out 4).trans rfl, ((HB.out.cell (World.block_lt_of_cell? w _ hw127_0)).trans hw127_0), ((HB.out.cell (World.block_lt_of_cell? w _ hw127_1)).trans hw127_1), ((HB.out.cell (World.block_lt_of_cell? w _ hw127_2)).trans hw127_2), ((HB.out.cell (World.block_lt_of_cell? w _ hw127_3)).trans hw127_3), ((HB.out.cell (World.block_lt_of_cell? w _ hw127_4)).trans hw127_4)⟩ (fun hHeld => ?_); refine with_tabW tree_Check.tab9 tree_Check.bits9 (fun HT_ HW_ => ?_)
            generalize w11.drew = w17 at BK125 HB HR127_3 hx127_0 hx127_1 hx127_2 hx127_3 hx127_4 hHeld ⊢
            refine pure_ (i := 0) (N := some 27) (v := ?_) (a' := ?_) #[true, false, false, false, false, false, false, false, false, false, false, false, false, false] rfl rfl (any_of HT_.out (by kernel_rfl)) (fun _ _ _ h => h) (Or.inl ⟨by rfl, ?_⟩) ?_ ?_
            rotate_left
            ·intro w'
             go_simp
             with_reducible rfl
            rotate_left
            ·simp only [Act.put, List.setIfInBounds_toArray, List.set_cons_zero, List.set_cons_succ, i64_w, i32_w]
             rfl
            refine pure_ (i := 1) (N := some 28) (v := ?_) (a' := ?_) #[true, true, false, false, false, false, false, false, false, false, false, false, false, false] rfl rfl (any_of HT_.out (by kernel_rfl)) (fun _ _ _ h => h) (Or.inl ⟨by rfl, ?_⟩) ?_ ?_
            rotate_left
            ·intro w'
             go_simp
             with_reducible rfl
            rotate_left
            ·simp only [Act.put, List.setIfInBounds_toArray, List.set_cons_zero, List.set_cons_succ, i64_w, i32_w]
             rfl
            refine pure_ (i := 2) (N := some 29) (v := ?_) (a' := ?_) #[true, true, true, false, false, false, false, false, false, false, false, false, false, false] rfl rfl (any_of HT_.out (by kernel_rfl)) (fun _ _ _ h => h) (Or.inl ⟨by rfl, ?_⟩) ?_ ?_
            rotate_left
            ·intro w'
             go_simp
             with_reducible rfl
            rotate_left
            ·simp only [Act.put, List.setIfInBounds_toArray, List.set_cons_zero, List.set_cons_succ, i64_w, i32_w]
             rfl
            refine pure_ (i := 3) (N := some 30) (v := ?_) (a' := ?_) #[true, true, true, true, false, false, false, false, false, false, false, false, false, false] rfl rfl (any_of HT_.out (by kernel_rfl)) (fun _ _ _ h => h) (Or.inl ⟨by rfl, ?_⟩) ?_ ?_
            rotate_left
            ·intro w'
             go_simp
             with_reducible rfl
            rotate_left
            ·simp only [Act.put, List.setIfInBounds_toArray, List.set_cons_zero, List.set_cons_succ, i64_w, i32_w]
             rfl
            refine pure_ (i := 4) (N := some 31) (v := ?_) (a' := ?_) #[true, true, true, true, true, false, false, false, false, false, false, false, false, false] rfl rfl (any_of HT_.out (by kernel_rfl)) (fun _ _ _ h => h) (Or.inl ⟨by rfl, ?_⟩) ?_ ?_
            rotate_left
            ·intro w'
             go_simp
             with_reducible rfl
            rotate_left
            ·simp only [Act.put, List.setIfInBounds_toArray, List.set_cons_zero, List.set_cons_succ, i64_w, i32_w]
             rfl
            refine pure_ (i := 5) (N := some 32) (v := ?_) (a' := ?_) #[true, true, true, true, true, true, false, false, false, false, false, false, false, false] rfl rfl (any_of HT_.out (by kernel_rfl)) (fun _ _ _ h => h) (Or.inl ⟨by rfl, ?_⟩) ?_ ?_
            rotate_left
            ·intro w'
             go_simp
             with_reducible rfl
            rotate_left
            ·simp only [Act.put, List.setIfInBounds_toArray, List.set_cons_zero, List.set_cons_succ, i64_w, i32_w]
             rfl
            refine pure_ (i := 6) (N := some 33) (v := ?_) (a' := ?_) #[true, true, true, true, true, true, true, false, false, false, false, false, false, false] rfl rfl (any_of HT_.out (by kernel_rfl)) (fun _ _ _ h => h) (Or.inl ⟨by rfl, ?_⟩) ?_ ?_
            rotate_left
            ·intro w'
             go_simp
             with_reducible rfl
            rotate_left
            ·simp only [Act.put, List.setIfInBounds_toArray, List.set_cons_zero, List.set_cons_succ, i64_w, i32_w]
             rfl
            refine pure_ (i := 7) (N := some 34) (v := ?_) (a' := ?_) #[true, true, true, true, true, true, true, true, false, false, false, false, false, false] rfl rfl (any_of HT_.out (by kernel_rfl)) (fun _ _ _ h => h) (Or.inl ⟨by rfl, ?_⟩) ?_ ?_
            rotate_left
            ·intro w'
             go_simp
             with_reducible rfl
            rotate_left
            ·simp only [Act.put, List.setIfInBounds_toArray, List.set_cons_zero, List.set_cons_succ, i64_w, i32_w]
             rfl
            refine pure_ (i := 9) (N := some 36) (v := ?_) (a' := ?_) #[true, true, true, true, true, true, true, true, false, true, false, false, false, false] rfl rfl (any_of HT_.out (by kernel_rfl)) (fun _ _ _ h => h) (Or.inl ⟨by rfl, ?_⟩) ?_ ?_
            rotate_left
            ·intro w'
             go_simp
             with_reducible rfl
            rotate_left
            ·simp only [Act.put, List.setIfInBounds_toArray, List.set_cons_zero, List.set_cons_succ, i64_w, i32_w]
             rfl
            refine take_ (i := 8) (N := some 35) (v := ?_) (a' := ?_) #[true, true, true, true, true, true, true, true, true, true, false, false, false, false] rfl rfl (take_ofW HT_.out HW_.out (by kernel_rfl)) (fun _ _ _ h => h) (Or.inl ⟨by rfl, ?_⟩) hHeld ?_ ?_
            rotate_left
            ·rintro w' ⟨s0, s1, s2, s3, s4, s5, s6, s7, s8, s9⟩
             go_simp
             with_reducible rfl
            rotate_left
            ·simp only [Act.put, List.setIfInBounds_toArray, List.set_cons_zero, List.set_cons_succ, i64_w, i32_w]
             rfl
            refine take_ (i := 10) (N := some 37) (v := ?_) (a' := ?_) #[true, true, true, true, true, true, true, true, true, true, true, false, false, false] rfl rfl (take_ofW HT_.out HW_.out (by kernel_rfl)) (fun _ _ _ h => h) (Or.inl ⟨by rfl, ?_⟩) hHeld ?_ ?_
            rotate_left
            ·rintro w' ⟨s0, s1, s2, s3, s4, s5, s6, s7, s8, s9⟩
             go_simp
             with_reducible rfl
            rotate_left
            ·simp only [Act.put, List.setIfInBounds_toArray, List.set_cons_zero, List.set_cons_succ, i64_w, i32_w]
             rfl
            refine one_ (i := 11) (N := some 38) #[true, true, true, true, true, true, true, true, true, true, true, true, false, false] rfl rfl (one_of HT_.out (by kernel_rfl)) (by decide) (fun K hK => ?_)
            refine goes_ Try.func55 (by kernel_rfl) rfl #[.string ((rd_T89 l0 (ji13)).f0), .string ((rd_T89 l0 x16_1).f0)] (by rfl) rfl rfl (by (try simp only [List.map_toArray, List.map_cons, List.map_nil]); first | done | (simp only [hji13]; rfl) | rfl | (simp only [List.length_drop, List.length_take]; rfl)) ?_
            with_reducible refine (path_Compare.calls k1 ((rd_T89 l0 (ji13)).f0) ((rd_T89 l0 x16_1).f0) t128 _ A16.out).mono ?_
            rintro e w18 ⟨rfl, hb⟩
            refine ⟨_, rfl, ?_⟩
            have n0_ := Aside0.mk (blk_below (g := gb125) (o := .cells #[.string ((rd_T89 l0 x16_1).f0), .int .i64 ((rd_T89 l0 x16_1).f1), .int .i64 ((rd_T89 l0 x16_1).f2), .slice A124_3 ((rd_T89 l0 x16_1).f3).length c124_3, .string ((rd_T89 l0 x16_1).f4)] 89 (0, 0)) (by (with_reducible repeat (first | refine blk_drewN ?_ _ | refine blk_drew ?_ | refine blk_alloc ?_ _)); exact BK125.out) hb)
            have n1_ := Aside0.mk (below_step (by repeat (first | (with_reducible first | exact HB.out | apply below_alloc | apply pw_below_drewN | apply below_drew1 | refine below_set ?_ GE125.out) | exact HB.out)) hb)
            clear BK125
            clear HB
            have BK125 := n0_
            have HB := n1_
            clear n0_ n1_
            (try clear hb)
            (try clear hb2)
            (try clear hk)
            (try clear hi)
            refine hK.out _ _ ⟨(blk_cell BK125.out 0).trans rfl, (blk_cell BK125.out 1).trans rfl, (blk_cell BK125.out 2).trans rfl, (blk_cell BK125.out 3).trans rfl, (blk_cell BK125.out 4).trans rfl, ((HB.out.cell (World.block_lt_of_cell? w _ hw127_0)).trans hw127_0), ((HB.out.cell (World.block_lt_of_cell? w _ hw127_1)).trans hw127_1), ((HB.out.cell (World.block_lt_of_cell? w _ hw127_2)).trans hw127_2), ((HB.out.cell (World.block_lt_of_cell? w _ hw127_3)).trans hw127_3), ((HB.out.cell (World.block_lt_of_cell? w _ hw127_4)).trans hw127_4)⟩ (fun hHeld => ?_)
            clear hK K
            refine norm_ (a' := ?_) ?_ ?_
            rotate_left
            ·show Act.put _ (some 38) _ = _
             simp only [Act.put, List.setIfInBounds_toArray, List.set_cons_zero, List.set_cons_succ, i64_w, i32_w]
             rfl
            refine pure_ (i := 12) (N := some 39) (v := ?_) (a' := ?_) #[true, true, true, true, true, true, true, true, true, true, true, true, true, false] rfl rfl (any_of HT_.out (by kernel_rfl)) (fun _ _ _ h => h) (Or.inl ⟨by rfl, ?_⟩) ?_ ?_
            rotate_left
            ·intro w'
             go_simp
             with_reducible rfl
            rotate_left
            ·simp only [Act.put, List.setIfInBounds_toArray, List.set_cons_zero, List.set_cons_succ, i64_w, i32_w]
             rfl
            refine pure_ (i := 13) (N := some 40) (v := ?_) (a' := ?_) #[true, true, true, true, true, true, true, true, true, true, true, true, true, true] rfl rfl (any_of HT_.out (by kernel_rfl)) (fun _ _ _ h => h) (Or.inl ⟨by rfl, ?_⟩) ?_ ?_
            rotate_left
            ·intro w'
             go_simp
             with_reducible rfl
            rotate_left
            ·simp only [Act.put, List.setIfInBounds_toArray, List.set_cons_zero, List.set_cons_succ, i64_w, i32_w]
             rfl
            refine done_ (done_of HT_.out (by kernel_rfl)) ?_
            try go_wp2
            go_meet
            case rel => exact ⟨_, (decide (t128 ≥ 0)), (by first | rfl | (simp; done) | (simp [*]; done)), H', ⟨by have := HK1.out; first | omega | exact Nat.le_refl _⟩, ⟨by (with_reducible repeat (first | refine blk_drewN ?_ _ | refine blk_drew ?_ | refine blk_alloc ?_ _)); exact BK125.out⟩, ⟨by repeat (first | (with_reducible first | exact HB.out | apply below_alloc | apply pw_below_drewN | apply below_drew1 | refine below_set ?_ GE125.out) | exact HB.out)⟩⟩
           ·rw [if_neg c15] at H
            exact absurd H (by simp)
          ·rw [if_neg c14] at H
           exact absurd H (by simp)
         ·rw [if_neg c12] at H
          have c12b0 : decide (0 < x16_1) = false := decide_eq_false c12
          clear c12
          (first | rw [c12b0] | (simp only [i64_w, i32_w]; rw [c12b0]) | skip)
          have H' := Aside0.mk H
          clear H
          try go_wp2
          have n0_ := Aside0.mk (blk_drew BK125.out)
          have n1_ := Aside0.mk (below_drew1 HB.out)
          clear BK125
          clear HB
          have BK125 := n0_
          have HB := n1_
          clear n0_ n1_
          refine start_ (n := 14) (S := fun w' => True) (ds := []) #[false, false, false, false, false, false, false, false, false, false, false, false, false, false] (by kernel_rfl) rfl rfl trivial (fun hHeld => ?_); refine with_tabW tree_Check.tab9 tree_Check.bits9 (fun HT_ HW_ => ?_)
          generalize w11.drew = w19 at BK125 HB hHeld ⊢
          refine pure_ (i := 0) (N := some 27) (v := ?_) (a' := ?_) #[true, false, false, false, false, false, false, false, false, false, false, false, false, false] rfl rfl (any_of HT_.out (by kernel_rfl)) (fun _ _ _ h => h) (Or.inl ⟨by rfl, ?_⟩) ?_ ?_
          rotate_left
          ·intro w'
           go_simp
           with_reducible rfl
          rotate_left
          ·simp only [Act.put, List.setIfInBounds_toArray, List.set_cons_zero, List.set_cons_succ, i64_w, i32_w]
           rfl
          refine pure_ (i := 1) (N := some 28) (v := ?_) (a' := ?_) #[true, true, false, false, false, false, false, false, false, false, false, false, false, false] rfl rfl (any_of HT_.out (by kernel_rfl)) (fun _ _ _ h => h) (Or.inl ⟨by rfl, ?_⟩) ?_ ?_
          rotate_left
          ·intro w'
           go_simp
           with_reducible rfl
          rotate_left
          ·simp only [Act.put, List.setIfInBounds_toArray, List.set_cons_zero, List.set_cons_succ, i64_w, i32_w]
           rfl
          refine pure_ (i := 2) (N := some 29) (v := ?_) (a' := ?_) #[true, true, true, false, false, false, false, false, false, false, false, false, false, false] rfl rfl (any_of HT_.out (by kernel_rfl)) (fun _ _ _ h => h) (Or.inl ⟨by rfl, ?_⟩) ?_ ?_
          rotate_left
          ·intro w'
           go_simp
           with_reducible rfl
          rotate_left
          ·simp only [Act.put, List.setIfInBounds_toArray, List.set_cons_zero, List.set_cons_succ, i64_w, i32_w]
           rfl
          refine pure_ (i := 3) (N := some 30) (v := undef) (a' := ?_) #[true, true, true, true, false, false, false, false, false, false, false, false, false, false] rfl rfl (any_of HT_.out (by kernel_rfl)) (fun _ _ _ h => h) (Or.inr ⟨by rfl, rfl⟩) ?_ ?_
          rotate_left
          ·simp only [Act.put, List.setIfInBounds_toArray, List.set_cons_zero, List.set_cons_succ, i64_w, i32_w]
           rfl
          refine pure_ (i := 4) (N := some 31) (v := undef) (a' := ?_) #[true, true, true, true, true, false, false, false, false, false, false, false, false, false] rfl rfl (any_of HT_.out (by kernel_rfl)) (fun _ _ _ h => h) (Or.inr ⟨by rfl, rfl⟩) ?_ ?_
          rotate_left
          ·simp only [Act.put, List.setIfInBounds_toArray, List.set_cons_zero, List.set_cons_succ, i64_w, i32_w]
           rfl
          refine pure_ (i := 5) (N := some 32) (v := undef) (a' := ?_) #[true, true, true, true, true, true, false, false, false, false, false, false, false, false] rfl rfl (any_of HT_.out (by kernel_rfl)) (fun _ _ _ h => h) (Or.inr ⟨by rfl, rfl⟩) ?_ ?_
          rotate_left
          ·simp only [Act.put, List.setIfInBounds_toArray, List.set_cons_zero, List.set_cons_succ, i64_w, i32_w]
           rfl
          refine pure_ (i := 6) (N := some 33) (v := undef) (a' := ?_) #[true, true, true, true, true, true, true, false, false, false, false, false, false, false] rfl rfl (any_of HT_.out (by kernel_rfl)) (fun _ _ _ h => h) (Or.inr ⟨by rfl, rfl⟩) ?_ ?_
          rotate_left
          ·simp only [Act.put, List.setIfInBounds_toArray, List.set_cons_zero, List.set_cons_succ, i64_w, i32_w]
           rfl
          refine pure_ (i := 7) (N := some 34) (v := undef) (a' := ?_) #[true, true, true, true, true, true, true, true, false, false, false, false, false, false] rfl rfl (any_of HT_.out (by kernel_rfl)) (fun _ _ _ h => h) (Or.inr ⟨by rfl, rfl⟩) ?_ ?_
          rotate_left
          ·simp only [Act.put, List.setIfInBounds_toArray, List.set_cons_zero, List.set_cons_succ, i64_w, i32_w]
           rfl
          refine pure_ (i := 8) (N := some 35) (v := undef) (a' := ?_) #[true, true, true, true, true, true, true, true, true, false, false, false, false, false] rfl rfl (any_of HT_.out (by kernel_rfl)) (fun _ _ _ h => h) (Or.inr ⟨by rfl, rfl⟩) ?_ ?_
          rotate_left
          ·simp only [Act.put, List.setIfInBounds_toArray, List.set_cons_zero, List.set_cons_succ, i64_w, i32_w]
           rfl
          refine pure_ (i := 9) (N := some 36) (v := undef) (a' := ?_) #[true, true, true, true, true, true, true, true, true, true, false, false, false, false] rfl rfl (any_of HT_.out (by kernel_rfl)) (fun _ _ _ h => h) (Or.inr ⟨by rfl, rfl⟩) ?_ ?_
          rotate_left
          ·simp only [Act.put, List.setIfInBounds_toArray, List.set_cons_zero, List.set_cons_succ, i64_w, i32_w]
           rfl
          refine pure_ (i := 10) (N := some 37) (v := undef) (a' := ?_) #[true, true, true, true, true, true, true, true, true, true, true, false, false, false] rfl rfl (any_of HT_.out (by kernel_rfl)) (fun _ _ _ h => h) (Or.inr ⟨by rfl, rfl⟩) ?_ ?_
          rotate_left
          ·simp only [Act.put, List.setIfInBounds_toArray, List.set_cons_zero, List.set_cons_succ, i64_w, i32_w]
           rfl
          refine pure_ (i := 11) (N := some 38) (v := undef) (a' := ?_) #[true, true, true, true, true, true, true, true, true, true, true, true, false, false] rfl rfl (any_of HT_.out (by kernel_rfl)) (fun _ _ _ h => h) (Or.inr ⟨by rfl, rfl⟩) ?_ ?_
          rotate_left
          ·simp only [Act.put, List.setIfInBounds_toArray, List.set_cons_zero, List.set_cons_succ, i64_w, i32_w]
           rfl
          refine pure_ (i := 12) (N := some 39) (v := undef) (a' := ?_) #[true, true, true, true, true, true, true, true, true, true, true, true, true, false] rfl rfl (any_of HT_.out (by kernel_rfl)) (fun _ _ _ h => h) (Or.inr ⟨by rfl, rfl⟩) ?_ ?_
          rotate_left
          ·simp only [Act.put, List.setIfInBounds_toArray, List.set_cons_zero, List.set_cons_succ, i64_w, i32_w]
           rfl
          refine pure_ (i := 13) (N := some 40) (v := ?_) (a' := ?_) #[true, true, true, true, true, true, true, true, true, true, true, true, true, true] rfl rfl (any_of HT_.out (by kernel_rfl)) (fun _ _ _ h => h) (Or.inl ⟨by rfl, ?_⟩) ?_ ?_
          rotate_left
          ·intro w'
           go_simp
           with_reducible rfl
          rotate_left
          ·simp only [Act.put, List.setIfInBounds_toArray, List.set_cons_zero, List.set_cons_succ, i64_w, i32_w]
           rfl
          refine done_ (done_of HT_.out (by kernel_rfl)) ?_
          try go_wp2
          go_meet
          case rel => exact ⟨_, (false), (by first | rfl | (simp; done) | (simp [*]; done)), H', ⟨by have := HK1.out; first | omega | exact Nat.le_refl _⟩, ⟨by (with_reducible repeat (first | refine blk_drewN ?_ _ | refine blk_drew ?_ | refine blk_alloc ?_ _)); exact BK125.out⟩, ⟨by repeat (first | (with_reducible first | exact HB.out | apply below_alloc | apply pw_below_drewN | apply below_drew1 | refine below_set ?_ GE125.out) | exact HB.out)⟩⟩
        case rest =>
         clear HC8
         try clear c1
         try clear p1
         try clear q1
         try clear hx1
         try clear c2
         try clear c2b0
         try clear c2b1
         try clear p2
         try clear c3
         try clear c3b0
         try clear c4
         try clear c4b0
         try clear c5
         try clear c5b0
         try clear p6
         try clear c7
         try clear c7b0
         try clear c7b1
         try clear c12
         try clear c12b0
         try clear p12
         try clear q12
         try clear hx12
         try clear c14
         try clear c14b0
         try clear c15
         try clear c15b0
         try clear hcz10_0
         try clear hcz10_1
         try clear hcz10_2
         try clear hcz10_3
         try clear hcz10_4
         try clear hfz10_0
         try clear hfz10_1
         try clear hfz10_2
         try clear hfz10_3
         try clear hfz10_4
         try clear hx124_0
         try clear hx124_1
         try clear hx124_2
         try clear hx124_3
         try clear hx124_4
         try clear hx127_0
         try clear hx127_1
         try clear hx127_2
         try clear hx127_3
         try clear hx127_4
         try clear p124
         try clear p127
         try clear p2
         try clear q124
         try clear q127
         obtain ⟨kq, x40_7, rfl, HA, HJ7, BK125, HB⟩ := hcut
         cases kq with
         | zero => exact absurd HA.out (by simp [tree_Check.j1])
         | succ kj7 =>
          have H := HA.out
          clear HA
          simp only [tree_Check.j1] at H
          by_cases c20 : x40_7 = true
          ·subst c20
           have H1 : (some (7, x16_1)) = some (r1, r2) := by rw [if_pos rfl] at H; exact H
           clear H
           have H := H1
           clear H1
           simp only [Option.some.injEq, Prod.mk.injEq] at H
           obtain ⟨rfl, rfl⟩ := H
           go_wp2
           go_ret2
           exact ⟨by first | rfl | (simp [errW_none, errW_some] <;> rfl) | (simp [*, errW_none, errW_some] <;> rfl) | (simp [bt, *]; done) | (simp_all [bt]; done), by repeat (first | (with_reducible first | exact HB.out | apply below_alloc | apply pw_below_drewN | apply below_drew1 | refine below_set ?_ GE125.out) | exact HB.out)⟩
          ·replace c20 := Bool.eq_false_iff.mpr c20
           subst c20
           have H1 : ((path_Parent.f kj7 ((rd_T89 l0 x16_1).f0)).bind fun bt129 => (if bt129.2 = true then (if 0 ≤ x16_1 then (if x16_1 ≤ (l0.length : Int) then ((tree_place.f kj7 (l0.take (x16_1 : Int).toNat) bt129.1).bind fun bt135 => (if bt135.2 = true then (if 0 ≤ bt135.1 then (if bt135.1 < (l0.length : Int) then (if ((rd_T89 l0 bt135.1).f1) = 1 then (tree_Check.l0 kj7 l0 l0 (l0.length : Int) (wrap64 (x16_1 + 1))) else (some (6, x16_1))) else (none)) else (none)) else (some (6, x16_1)))) else (none)) else (none)) else (tree_Check.l0 kj7 l0 l0 (l0.length : Int) (wrap64 (x16_1 + 1))))) = some (r1, r2) := by rw [if_neg (show ¬ (false = true) by decide)] at H; exact H
           clear H
           have H := H1
           clear H1
           replace H := Option.bind_eq_some_iff.mp H
           obtain ⟨⟨t129, t130⟩, A210, H⟩ := H
           replace H : (if t130 = true then (if 0 ≤ x16_1 then (if x16_1 ≤ (l0.length : Int) then ((tree_place.f kj7 (l0.take (x16_1 : Int).toNat) t129).bind fun bt135 => (if bt135.2 = true then (if 0 ≤ bt135.1 then (if bt135.1 < (l0.length : Int) then (if ((rd_T89 l0 bt135.1).f1) = 1 then (tree_Check.l0 kj7 l0 l0 (l0.length : Int) (wrap64 (x16_1 + 1))) else (some (6, x16_1))) else (none)) else (none)) else (some (6, x16_1)))) else (none)) else (none)) else (tree_Check.l0 kj7 l0 l0 (l0.length : Int) (wrap64 (x16_1 + 1)))) = some (r1, r2) := H
           have A21 := Aside0.mk A210
           clear A210
           by_cases c22 : t130 = true
           ·subst c22
            have H1 : (if 0 ≤ x16_1 then (if x16_1 ≤ (l0.length : Int) then ((tree_place.f kj7 (l0.take (x16_1 : Int).toNat) t129).bind fun bt135 => (if bt135.2 = true then (if 0 ≤ bt135.1 then (if bt135.1 < (l0.length : Int) then (if ((rd_T89 l0 bt135.1).f1) = 1 then (tree_Check.l0 kj7 l0 l0 (l0.length : Int) (wrap64 (x16_1 + 1))) else (some (6, x16_1))) else (none)) else (none)) else (some (6, x16_1)))) else (none)) else (none)) = some (r1, r2) := by rw [if_pos rfl] at H; exact H
            clear H
            have H := H1
            clear H1
            by_cases c23 : 0 ≤ x16_1
            ·rw [if_pos c23] at H
             have c23b0 := eq_true c23
             have c23b1 : decide (0 ≤ x16_1) = true := decide_eq_true c23
             clear c23
             by_cases c24 : x16_1 ≤ (l0.length : Int)
             ·rw [if_pos c24] at H
              have c24b0 := eq_true c24
              have c24b1 : decide (x16_1 ≤ (l0.length : Int)) = true := decide_eq_true c24
              clear c24
              obtain ⟨y131, hy131⟩ : ∃ y_ : List (S89), y_ = (l0.take (x16_1 : Int).toNat) := ⟨_, rfl⟩
              replace H : ((tree_place.f kj7 y131 t129).bind fun bt135 => (if bt135.2 = true then (if 0 ≤ bt135.1 then (if bt135.1 < (l0.length : Int) then (if ((rd_T89 l0 bt135.1).f1) = 1 then (tree_Check.l0 kj7 l0 l0 (l0.length : Int) (wrap64 (x16_1 + 1))) else (some (6, x16_1))) else (none)) else (none)) else (some (6, x16_1)))) = some (r1, r2) := by first | (rw [hy131]; with_reducible exact H) | (have H2_ := (Option.bind_some _ _).symm.trans H; rw [hy131]; with_reducible exact H2_) | (have H2_ := (Option.bind_some _ _).symm.trans H; with_reducible exact H2_) | with_reducible exact H | (rw [hy131]; exact H) | exact H
              have Ny131 := Aside0.mk hy131
              clear hy131
              replace H := Option.bind_eq_some_iff.mp H
              obtain ⟨⟨t135, t136⟩, A250, H⟩ := H
              replace H : (if t136 = true then (if 0 ≤ t135 then (if t135 < (l0.length : Int) then (if ((rd_T89 l0 t135).f1) = 1 then (tree_Check.l0 kj7 l0 l0 (l0.length : Int) (wrap64 (x16_1 + 1))) else (some (6, x16_1))) else (none)) else (none)) else (some (6, x16_1))) = some (r1, r2) := H
              have A25 := Aside0.mk A250
              clear A250
              by_cases c26 : t136 = true
              ·subst c26
               have H1 : (if 0 ≤ t135 then (if t135 < (l0.length : Int) then (if ((rd_T89 l0 t135).f1) = 1 then (tree_Check.l0 kj7 l0 l0 (l0.length : Int) (wrap64 (x16_1 + 1))) else (some (6, x16_1))) else (none)) else (none)) = some (r1, r2) := by rw [if_pos rfl] at H; exact H
               clear H
               have H := H1
               clear H1
               by_cases c27 : 0 ≤ t135
               ·rw [if_pos c27] at H
                have c27b0 : decide (0 ≤ t135) = true := decide_eq_true c27
                clear c27
                by_cases c28 : t135 < (l0.length : Int)
                ·rw [if_pos c28] at H
                 have c28b0 : decide (t135 < (l0.length : Int)) = true := decide_eq_true c28
                 clear c28
                 by_cases c29 : ((rd_T89 l0 t135).f1) = 1
                 ·rw [if_pos c29] at H
                  have c29b0 : (((rd_T89 l0 t135).f1) == 1) = true := beq_iff_eq.mpr c29
                  have c29b1 : (((rd_T89 l0 t135).f1) != 1) = false := bne_eq_false_iff_eq.mpr c29
                  clear c29
                  have H' := Aside0.mk H
                  clear H
                  have hcz30_0 : wc.cell? ⟨gb125, 0, none⟩ = some (.string ((rd_T89 l0 x16_1).f0)) := (blk_cell BK125.out 0).trans rfl
                  have hcz30_1 : wc.cell? ⟨gb125, 1, none⟩ = some (.int .i64 ((rd_T89 l0 x16_1).f1)) := (blk_cell BK125.out 1).trans rfl
                  have hcz30_2 : wc.cell? ⟨gb125, 2, none⟩ = some (.int .i64 ((rd_T89 l0 x16_1).f2)) := (blk_cell BK125.out 2).trans rfl
                  have hcz30_3 : wc.cell? ⟨gb125, 3, none⟩ = some (.slice A124_3 ((rd_T89 l0 x16_1).f3).length c124_3) := (blk_cell BK125.out 3).trans rfl
                  have hcz30_4 : wc.cell? ⟨gb125, 4, none⟩ = some (.string ((rd_T89 l0 x16_1).f4)) := (blk_cell BK125.out 4).trans rfl
                  have hfz30_0 := blk_frozen BK125.out 0
                  have hfz30_1 := blk_frozen BK125.out 1
                  have hfz30_2 := blk_frozen BK125.out 2
                  have hfz30_3 := blk_frozen BK125.out 3
                  have hfz30_4 := blk_frozen BK125.out 4
                  go_wp2_with (first | ((with_reducible refine gate_callee (f := 56) rfl ?_); refine goesL_ (some 45) rfl rfl Try.func56 (by kernel_rfl) rfl #[.string ((rd_T89 l0 x16_1).f0)] rfl (by (try simp only [List.map_toArray, List.map_cons, List.map_nil]); first | done | rfl | (simp only [List.length_drop, List.length_take]; rfl)) ?_; (with_reducible refine (path_Parent.calls kj7 ((rd_T89 l0 x16_1).f0) t129 true _ A21.out).mono ?_); rintro e w31 ⟨rfl, hb⟩; refine ⟨_, rfl, ?_⟩; have n0_ := Aside0.mk (blk_below (g := gb125) (o := .cells #[.string ((rd_T89 l0 x16_1).f0), .int .i64 ((rd_T89 l0 x16_1).f1), .int .i64 ((rd_T89 l0 x16_1).f2), .slice A124_3 ((rd_T89 l0 x16_1).f3).length c124_3, .string ((rd_T89 l0 x16_1).f4)] 89 (0, 0)) (by (with_reducible repeat (first | refine blk_drewN ?_ _ | refine blk_drew ?_ | refine blk_alloc ?_ _)); exact BK125.out) hb); have n1_ := Aside0.mk (below_step (by repeat (first | (with_reducible first | exact HB.out | apply below_alloc | apply pw_below_drewN | apply below_drew1 | refine below_set ?_ GE125.out) | exact HB.out)) hb); clear BK125; clear HB; have BK125 := n0_; have HB := n1_; clear n0_ n1_; (try clear hb); (try clear hb2); (try clear hk); (try clear hi); have q32 : (x16_1 : Int) ≤ ((l0.length : Int) : Int) := of_decide_eq_true (by first | (with_reducible assumption) | assumption); obtain ⟨i032, hi032, _, hsz32, _⟩ := info_parts info89; have hroom32 : l0.length ≤ c0 := HC0.out; have hC32 : Kd.C k89 _ (some ad124) l0.length l0 := HR0.out; have hcut32 := cut_to (P := Try.prog) 27 89 .i64 Try.underlying27 hi032 (some ad124) l0.length c0 x16_1 (of_decide_eq_true (by first | (with_reducible assumption) | assumption)) q32 hroom32; have hr32 := Kd.C_take (m := (x16_1 : Int).toNat) hC32 (by omega); have hy32 : y131.length = (x16_1 : Int).toNat := (by rw [Ny131.out, List.length_take]; omega); rw [← Ny131.out] at hr32; rw [← hy32] at hcut32; have HR134 := Aside0.mk hr32; have HC134 := Aside0.mk (show y131.length ≤ c0 from by omega); clear hr32 hC32 hroom32 hi032 hsz32; have KY32 := Aside0.mk hy32; clear hy32; replace q32 := eq_true q32) | ((with_reducible refine gate_callee (f := 57) rfl ?_); refine goesL_ (some 54) rfl rfl Try.func57 (by kernel_rfl) rfl #[.slice (some ad124) y131.length c0, .string t129] rfl (by (try simp only [List.map_toArray, List.map_cons, List.map_nil]); first | done | rfl | (simp only [List.length_drop, List.length_take]; rfl)) ?_; (with_reducible refine (tree_place.calls kj7 _ _ y131 t129 t135 true _ ?side1 ?side2 A25.out).mono ?_); (case side1 => repeat (first | exact (Kd.C_below HR134.out HB.out) | (with_reducible refine Kd.C_alloc ?_ _) | (with_reducible refine Kd.C_drewN ?_ _) | (with_reducible refine Kd.C_drew ?_))); (case side2 => exact HC134.out); rintro e w33 ⟨rfl, hb⟩; refine ⟨_, rfl, ?_⟩; have n0_ := Aside0.mk (blk_below (g := gb125) (o := .cells #[.string ((rd_T89 l0 x16_1).f0), .int .i64 ((rd_T89 l0 x16_1).f1), .int .i64 ((rd_T89 l0 x16_1).f2), .slice A124_3 ((rd_T89 l0 x16_1).f3).length c124_3, .string ((rd_T89 l0 x16_1).f4)] 89 (0, 0)) (by (with_reducible repeat (first | refine blk_drewN ?_ _ | refine blk_drew ?_ | refine blk_alloc ?_ _)); exact BK125.out) hb); have n1_ := Aside0.mk (below_step (by repeat (first | (with_reducible first | exact HB.out | apply below_alloc | apply pw_below_drewN | apply below_drew1 | refine below_set ?_ GE125.out) | exact HB.out)) hb); clear BK125; clear HB; have BK125 := n0_; have HB := n1_; clear n0_ n1_; (try clear hb); (try clear hb2); (try clear hk); (try clear hi); have p137 : 0 ≤ (t135 : Int) := of_decide_eq_true (by first | (with_reducible assumption) | assumption); have q137 : t135 < (l0.length : Int) := of_decide_eq_true (by first | (with_reducible assumption) | assumption); obtain ⟨ad137, A137_3, c137_3, e137, hx137_0, hx137_1, hx137_2, hx137_3, hx137_4, hl137_3, hi137_3⟩ := at_T89 HR0.out t135 p137 q137; obtain rfl : ad124 = ad137 := (by injection e137); replace hx137_0 := (HB.out.cell (World.block_lt_of_cell? w _ hx137_0)).trans hx137_0; replace hx137_1 := (HB.out.cell (World.block_lt_of_cell? w _ hx137_1)).trans hx137_1; replace hx137_2 := (HB.out.cell (World.block_lt_of_cell? w _ hx137_2)).trans hx137_2; replace hx137_3 := (HB.out.cell (World.block_lt_of_cell? w _ hx137_3)).trans hx137_3; replace hx137_4 := (HB.out.cell (World.block_lt_of_cell? w _ hx137_4)).trans hx137_4; have HR137_3 := Aside0.mk hi137_3; have HC137_3 := Aside0.mk hl137_3; clear hi137_3 hl137_3; replace p137 := eq_true p137; replace q137 := eq_true q137))
                  go_roundg kj7
                  case measure => have := HK1.out; have := HJ7.out; omega
                  case rel => exact ⟨(wrap64 (x16_1 + 1)), (by first | rfl | (simp; done) | (simp [*]; done)), H', ⟨by have := HK1.out; have := HJ7.out; omega⟩, ⟨by repeat (first | (with_reducible first | exact HB.out | apply below_alloc | apply pw_below_drewN | apply below_drew1 | refine below_set ?_ GE125.out) | exact HB.out)⟩⟩
                 ·rw [if_neg c29] at H
                  have c29b0 : (((rd_T89 l0 t135).f1) == 1) = false := beq_eq_false_iff_ne.mpr c29
                  have c29b1 : (((rd_T89 l0 t135).f1) != 1) = true := bne_iff_ne.mpr c29
                  simp only [Option.some.injEq, Prod.mk.injEq] at H
                  obtain ⟨rfl, rfl⟩ := H
                  have hcz34_0 : wc.cell? ⟨gb125, 0, none⟩ = some (.string ((rd_T89 l0 x16_1).f0)) := (blk_cell BK125.out 0).trans rfl
                  have hcz34_1 : wc.cell? ⟨gb125, 1, none⟩ = some (.int .i64 ((rd_T89 l0 x16_1).f1)) := (blk_cell BK125.out 1).trans rfl
                  have hcz34_2 : wc.cell? ⟨gb125, 2, none⟩ = some (.int .i64 ((rd_T89 l0 x16_1).f2)) := (blk_cell BK125.out 2).trans rfl
                  have hcz34_3 : wc.cell? ⟨gb125, 3, none⟩ = some (.slice A124_3 ((rd_T89 l0 x16_1).f3).length c124_3) := (blk_cell BK125.out 3).trans rfl
                  have hcz34_4 : wc.cell? ⟨gb125, 4, none⟩ = some (.string ((rd_T89 l0 x16_1).f4)) := (blk_cell BK125.out 4).trans rfl
                  have hfz34_0 := blk_frozen BK125.out 0
                  have hfz34_1 := blk_frozen BK125.out 1
                  have hfz34_2 := blk_frozen BK125.out 2
                  have hfz34_3 := blk_frozen BK125.out 3
                  have hfz34_4 := blk_frozen BK125.out 4
                  go_wp2_with (first | ((with_reducible refine gate_callee (f := 56) rfl ?_); refine goesL_ (some 45) rfl rfl Try.func56 (by kernel_rfl) rfl #[.string ((rd_T89 l0 x16_1).f0)] rfl (by (try simp only [List.map_toArray, List.map_cons, List.map_nil]); first | done | rfl | (simp only [List.length_drop, List.length_take]; rfl)) ?_; (with_reducible refine (path_Parent.calls kj7 ((rd_T89 l0 x16_1).f0) t129 true _ A21.out).mono ?_); rintro e w35 ⟨rfl, hb⟩; refine ⟨_, rfl, ?_⟩; have n0_ := Aside0.mk (blk_below (g := gb125) (o := .cells #[.string ((rd_T89 l0 x16_1).f0), .int .i64 ((rd_T89 l0 x16_1).f1), .int .i64 ((rd_T89 l0 x16_1).f2), .slice A124_3 ((rd_T89 l0 x16_1).f3).length c124_3, .string ((rd_T89 l0 x16_1).f4)] 89 (0, 0)) (by (with_reducible repeat (first | refine blk_drewN ?_ _ | refine blk_drew ?_ | refine blk_alloc ?_ _)); exact BK125.out) hb); have n1_ := Aside0.mk (below_step (by repeat (first | (with_reducible first | exact HB.out | apply below_alloc | apply pw_below_drewN | apply below_drew1 | refine below_set ?_ GE125.out) | exact HB.out)) hb); clear BK125; clear HB; have BK125 := n0_; have HB := n1_; clear n0_ n1_; (try clear hb); (try clear hb2); (try clear hk); (try clear hi); have q36 : (x16_1 : Int) ≤ ((l0.length : Int) : Int) := of_decide_eq_true (by first | (with_reducible assumption) | assumption); obtain ⟨i036, hi036, _, hsz36, _⟩ := info_parts info89; have hroom36 : l0.length ≤ c0 := HC0.out; have hC36 : Kd.C k89 _ (some ad124) l0.length l0 := HR0.out; have hcut36 := cut_to (P := Try.prog) 27 89 .i64 Try.underlying27 hi036 (some ad124) l0.length c0 x16_1 (of_decide_eq_true (by first | (with_reducible assumption) | assumption)) q36 hroom36; have hr36 := Kd.C_take (m := (x16_1 : Int).toNat) hC36 (by omega); have hy36 : y131.length = (x16_1 : Int).toNat := (by rw [Ny131.out, List.length_take]; omega); rw [← Ny131.out] at hr36; rw [← hy36] at hcut36; have HR134 := Aside0.mk hr36; have HC134 := Aside0.mk (show y131.length ≤ c0 from by omega); clear hr36 hC36 hroom36 hi036 hsz36; have KY36 := Aside0.mk hy36; clear hy36; replace q36 := eq_true q36) | ((with_reducible refine gate_callee (f := 57) rfl ?_); refine goesL_ (some 54) rfl rfl Try.func57 (by kernel_rfl) rfl #[.slice (some ad124) y131.length c0, .string t129] rfl (by (try simp only [List.map_toArray, List.map_cons, List.map_nil]); first | done | rfl | (simp only [List.length_drop, List.length_take]; rfl)) ?_; (with_reducible refine (tree_place.calls kj7 _ _ y131 t129 t135 true _ ?side1 ?side2 A25.out).mono ?_); (case side1 => repeat (first | exact (Kd.C_below HR134.out HB.out) | (with_reducible refine Kd.C_alloc ?_ _) | (with_reducible refine Kd.C_drewN ?_ _) | (with_reducible refine Kd.C_drew ?_))); (case side2 => exact HC134.out); rintro e w37 ⟨rfl, hb⟩; refine ⟨_, rfl, ?_⟩; have n0_ := Aside0.mk (blk_below (g := gb125) (o := .cells #[.string ((rd_T89 l0 x16_1).f0), .int .i64 ((rd_T89 l0 x16_1).f1), .int .i64 ((rd_T89 l0 x16_1).f2), .slice A124_3 ((rd_T89 l0 x16_1).f3).length c124_3, .string ((rd_T89 l0 x16_1).f4)] 89 (0, 0)) (by (with_reducible repeat (first | refine blk_drewN ?_ _ | refine blk_drew ?_ | refine blk_alloc ?_ _)); exact BK125.out) hb); have n1_ := Aside0.mk (below_step (by repeat (first | (with_reducible first | exact HB.out | apply below_alloc | apply pw_below_drewN | apply below_drew1 | refine below_set ?_ GE125.out) | exact HB.out)) hb); clear BK125; clear HB; have BK125 := n0_; have HB := n1_; clear n0_ n1_; (try clear hb); (try clear hb2); (try clear hk); (try clear hi); have p137 : 0 ≤ (t135 : Int) := of_decide_eq_true (by first | (with_reducible assumption) | assumption); have q137 : t135 < (l0.length : Int) := of_decide_eq_true (by first | (with_reducible assumption) | assumption); obtain ⟨ad137, A137_3, c137_3, e137, hx137_0, hx137_1, hx137_2, hx137_3, hx137_4, hl137_3, hi137_3⟩ := at_T89 HR0.out t135 p137 q137; obtain rfl : ad124 = ad137 := (by injection e137); replace hx137_0 := (HB.out.cell (World.block_lt_of_cell? w _ hx137_0)).trans hx137_0; replace hx137_1 := (HB.out.cell (World.block_lt_of_cell? w _ hx137_1)).trans hx137_1; replace hx137_2 := (HB.out.cell (World.block_lt_of_cell? w _ hx137_2)).trans hx137_2; replace hx137_3 := (HB.out.cell (World.block_lt_of_cell? w _ hx137_3)).trans hx137_3; replace hx137_4 := (HB.out.cell (World.block_lt_of_cell? w _ hx137_4)).trans hx137_4; have HR137_3 := Aside0.mk hi137_3; have HC137_3 := Aside0.mk hl137_3; clear hi137_3 hl137_3; replace p137 := eq_true p137; replace q137 := eq_true q137))
                  go_ret2
                  exact ⟨by first | rfl | (simp [errW_none, errW_some] <;> rfl) | (simp [*, errW_none, errW_some] <;> rfl) | (simp [bt, *]; done) | (simp_all [bt]; done), by repeat (first | (with_reducible first | exact HB.out | apply below_alloc | apply pw_below_drewN | apply below_drew1 | refine below_set ?_ GE125.out) | exact HB.out)⟩
                ·rw [if_neg c28] at H
                 exact absurd H (by simp)
               ·rw [if_neg c27] at H
                exact absurd H (by simp)
              ·replace c26 := Bool.eq_false_iff.mpr c26
               subst c26
               have H1 : (some (6, x16_1)) = some (r1, r2) := by rw [if_neg (show ¬ (false = true) by decide)] at H; exact H
               clear H
               have H := H1
               clear H1
               simp only [Option.some.injEq, Prod.mk.injEq] at H
               obtain ⟨rfl, rfl⟩ := H
               have hcz38_0 : wc.cell? ⟨gb125, 0, none⟩ = some (.string ((rd_T89 l0 x16_1).f0)) := (blk_cell BK125.out 0).trans rfl
               have hcz38_1 : wc.cell? ⟨gb125, 1, none⟩ = some (.int .i64 ((rd_T89 l0 x16_1).f1)) := (blk_cell BK125.out 1).trans rfl
               have hcz38_2 : wc.cell? ⟨gb125, 2, none⟩ = some (.int .i64 ((rd_T89 l0 x16_1).f2)) := (blk_cell BK125.out 2).trans rfl
               have hcz38_3 : wc.cell? ⟨gb125, 3, none⟩ = some (.slice A124_3 ((rd_T89 l0 x16_1).f3).length c124_3) := (blk_cell BK125.out 3).trans rfl
               have hcz38_4 : wc.cell? ⟨gb125, 4, none⟩ = some (.string ((rd_T89 l0 x16_1).f4)) := (blk_cell BK125.out 4).trans rfl
               have hfz38_0 := blk_frozen BK125.out 0
               have hfz38_1 := blk_frozen BK125.out 1
               have hfz38_2 := blk_frozen BK125.out 2
               have hfz38_3 := blk_frozen BK125.out 3
               have hfz38_4 := blk_frozen BK125.out 4
               go_wp2_with (first | ((with_reducible refine gate_callee (f := 56) rfl ?_); refine goesL_ (some 45) rfl rfl Try.func56 (by kernel_rfl) rfl #[.string ((rd_T89 l0 x16_1).f0)] rfl (by (try simp only [List.map_toArray, List.map_cons, List.map_nil]); first | done | rfl | (simp only [List.length_drop, List.length_take]; rfl)) ?_; (with_reducible refine (path_Parent.calls kj7 ((rd_T89 l0 x16_1).f0) t129 true _ A21.out).mono ?_); rintro e w39 ⟨rfl, hb⟩; refine ⟨_, rfl, ?_⟩; have n0_ := Aside0.mk (blk_below (g := gb125) (o := .cells #[.string ((rd_T89 l0 x16_1).f0), .int .i64 ((rd_T89 l0 x16_1).f1), .int .i64 ((rd_T89 l0 x16_1).f2), .slice A124_3 ((rd_T89 l0 x16_1).f3).length c124_3, .string ((rd_T89 l0 x16_1).f4)] 89 (0, 0)) (by (with_reducible repeat (first | refine blk_drewN ?_ _ | refine blk_drew ?_ | refine blk_alloc ?_ _)); exact BK125.out) hb); have n1_ := Aside0.mk (below_step (by repeat (first | (with_reducible first | exact HB.out | apply below_alloc | apply pw_below_drewN | apply below_drew1 | refine below_set ?_ GE125.out) | exact HB.out)) hb); clear BK125; clear HB; have BK125 := n0_; have HB := n1_; clear n0_ n1_; (try clear hb); (try clear hb2); (try clear hk); (try clear hi); have q40 : (x16_1 : Int) ≤ ((l0.length : Int) : Int) := of_decide_eq_true (by first | (with_reducible assumption) | assumption); obtain ⟨i040, hi040, _, hsz40, _⟩ := info_parts info89; have hroom40 : l0.length ≤ c0 := HC0.out; have hC40 : Kd.C k89 _ (some ad124) l0.length l0 := HR0.out; have hcut40 := cut_to (P := Try.prog) 27 89 .i64 Try.underlying27 hi040 (some ad124) l0.length c0 x16_1 (of_decide_eq_true (by first | (with_reducible assumption) | assumption)) q40 hroom40; have hr40 := Kd.C_take (m := (x16_1 : Int).toNat) hC40 (by omega); have hy40 : y131.length = (x16_1 : Int).toNat := (by rw [Ny131.out, List.length_take]; omega); rw [← Ny131.out] at hr40; rw [← hy40] at hcut40; have HR134 := Aside0.mk hr40; have HC134 := Aside0.mk (show y131.length ≤ c0 from by omega); clear hr40 hC40 hroom40 hi040 hsz40; have KY40 := Aside0.mk hy40; clear hy40; replace q40 := eq_true q40) | ((with_reducible refine gate_callee (f := 57) rfl ?_); refine goesL_ (some 54) rfl rfl Try.func57 (by kernel_rfl) rfl #[.slice (some ad124) y131.length c0, .string t129] rfl (by (try simp only [List.map_toArray, List.map_cons, List.map_nil]); first | done | rfl | (simp only [List.length_drop, List.length_take]; rfl)) ?_; (with_reducible refine (tree_place.calls kj7 _ _ y131 t129 t135 false _ ?side1 ?side2 A25.out).mono ?_); (case side1 => repeat (first | exact (Kd.C_below HR134.out HB.out) | (with_reducible refine Kd.C_alloc ?_ _) | (with_reducible refine Kd.C_drewN ?_ _) | (with_reducible refine Kd.C_drew ?_))); (case side2 => exact HC134.out); rintro e w41 ⟨rfl, hb⟩; refine ⟨_, rfl, ?_⟩; have n0_ := Aside0.mk (blk_below (g := gb125) (o := .cells #[.string ((rd_T89 l0 x16_1).f0), .int .i64 ((rd_T89 l0 x16_1).f1), .int .i64 ((rd_T89 l0 x16_1).f2), .slice A124_3 ((rd_T89 l0 x16_1).f3).length c124_3, .string ((rd_T89 l0 x16_1).f4)] 89 (0, 0)) (by (with_reducible repeat (first | refine blk_drewN ?_ _ | refine blk_drew ?_ | refine blk_alloc ?_ _)); exact BK125.out) hb); have n1_ := Aside0.mk (below_step (by repeat (first | (with_reducible first | exact HB.out | apply below_alloc | apply pw_below_drewN | apply below_drew1 | refine below_set ?_ GE125.out) | exact HB.out)) hb); clear BK125; clear HB; have BK125 := n0_; have HB := n1_; clear n0_ n1_; (try clear hb); (try clear hb2); (try clear hk); (try clear hi)))
               go_ret2
               exact ⟨by first | rfl | (simp [errW_none, errW_some] <;> rfl) | (simp [*, errW_none, errW_some] <;> rfl) | (simp [bt, *]; done) | (simp_all [bt]; done), by repeat (first | (with_reducible first | exact HB.out | apply below_alloc | apply pw_below_drewN | apply below_drew1 | refine below_set ?_ GE125.out) | exact HB.out)⟩
             ·rw [if_neg c24] at H
              exact absurd H (by simp)
            ·rw [if_neg c23] at H
             exact absurd H (by simp)
           ·replace c22 := Bool.eq_false_iff.mpr c22
            subst c22
            have H1 : (tree_Check.l0 kj7 l0 l0 (l0.length : Int) (wrap64 (x16_1 + 1))) = some (r1, r2) := by rw [if_neg (show ¬ (false = true) by decide)] at H; exact H
            clear H
            have H := H1
            clear H1
            have H' := Aside0.mk H
            clear H
            have hcz42_0 : wc.cell? ⟨gb125, 0, none⟩ = some (.string ((rd_T89 l0 x16_1).f0)) := (blk_cell BK125.out 0).trans rfl
            have hcz42_1 : wc.cell? ⟨gb125, 1, none⟩ = some (.int .i64 ((rd_T89 l0 x16_1).f1)) := (blk_cell BK125.out 1).trans rfl
            have hcz42_2 : wc.cell? ⟨gb125, 2, none⟩ = some (.int .i64 ((rd_T89 l0 x16_1).f2)) := (blk_cell BK125.out 2).trans rfl
            have hcz42_3 : wc.cell? ⟨gb125, 3, none⟩ = some (.slice A124_3 ((rd_T89 l0 x16_1).f3).length c124_3) := (blk_cell BK125.out 3).trans rfl
            have hcz42_4 : wc.cell? ⟨gb125, 4, none⟩ = some (.string ((rd_T89 l0 x16_1).f4)) := (blk_cell BK125.out 4).trans rfl
            have hfz42_0 := blk_frozen BK125.out 0
            have hfz42_1 := blk_frozen BK125.out 1
            have hfz42_2 := blk_frozen BK125.out 2
            have hfz42_3 := blk_frozen BK125.out 3
            have hfz42_4 := blk_frozen BK125.out 4
            go_wp2_with (first | ((with_reducible refine gate_callee (f := 56) rfl ?_); refine goesL_ (some 45) rfl rfl Try.func56 (by kernel_rfl) rfl #[.string ((rd_T89 l0 x16_1).f0)] rfl (by (try simp only [List.map_toArray, List.map_cons, List.map_nil]); first | done | rfl | (simp only [List.length_drop, List.length_take]; rfl)) ?_; (with_reducible refine (path_Parent.calls kj7 ((rd_T89 l0 x16_1).f0) t129 false _ A21.out).mono ?_); rintro e w43 ⟨rfl, hb⟩; refine ⟨_, rfl, ?_⟩; have n0_ := Aside0.mk (blk_below (g := gb125) (o := .cells #[.string ((rd_T89 l0 x16_1).f0), .int .i64 ((rd_T89 l0 x16_1).f1), .int .i64 ((rd_T89 l0 x16_1).f2), .slice A124_3 ((rd_T89 l0 x16_1).f3).length c124_3, .string ((rd_T89 l0 x16_1).f4)] 89 (0, 0)) (by (with_reducible repeat (first | refine blk_drewN ?_ _ | refine blk_drew ?_ | refine blk_alloc ?_ _)); exact BK125.out) hb); have n1_ := Aside0.mk (below_step (by repeat (first | (with_reducible first | exact HB.out | apply below_alloc | apply pw_below_drewN | apply below_drew1 | refine below_set ?_ GE125.out) | exact HB.out)) hb); clear BK125; clear HB; have BK125 := n0_; have HB := n1_; clear n0_ n1_; (try clear hb); (try clear hb2); (try clear hk); (try clear hi)))
            go_roundg kj7
            case measure => have := HK1.out; have := HJ7.out; omega
            case rel => exact ⟨(wrap64 (x16_1 + 1)), (by first | rfl | (simp; done) | (simp [*]; done)), H', ⟨by have := HK1.out; have := HJ7.out; omega⟩, ⟨by repeat (first | (with_reducible first | exact HB.out | apply below_alloc | apply pw_below_drewN | apply below_drew1 | refine below_set ?_ GE125.out) | exact HB.out)⟩⟩
       ·rw [if_neg c7] at H
        have c7b0 : (t126 == 0) = false := beq_eq_false_iff_ne.mpr c7
        have c7b1 : (t126 != 0) = true := bne_iff_ne.mpr c7
        simp only [Option.some.injEq, Prod.mk.injEq] at H
        obtain ⟨rfl, rfl⟩ := H
        have p124 : 0 ≤ (x16_1 : Int) := of_decide_eq_true (by first | (with_reducible assumption) | assumption)
        have q124 : x16_1 < (l0.length : Int) := of_decide_eq_true (by first | (with_reducible assumption) | assumption)
        obtain ⟨ad124, A124_3, c124_3, e124, hx124_0, hx124_1, hx124_2, hx124_3, hx124_4, hl124_3, hi124_3⟩ := at_T89 HR0.out x16_1 p124 q124
        cases e124
        replace hx124_0 := (HB.out.cell (World.block_lt_of_cell? w _ hx124_0)).trans hx124_0
        replace hx124_1 := (HB.out.cell (World.block_lt_of_cell? w _ hx124_1)).trans hx124_1
        replace hx124_2 := (HB.out.cell (World.block_lt_of_cell? w _ hx124_2)).trans hx124_2
        replace hx124_3 := (HB.out.cell (World.block_lt_of_cell? w _ hx124_3)).trans hx124_3
        replace hx124_4 := (HB.out.cell (World.block_lt_of_cell? w _ hx124_4)).trans hx124_4
        have HR124_3 := Aside0.mk hi124_3
        have HC124_3 := Aside0.mk hl124_3
        clear hi124_3 hl124_3
        replace p124 := eq_true p124
        replace q124 := eq_true q124
        go_wp2_with (first | ((with_reducible refine gate_dst (N := 5) rfl ?_); refine box_event ?hg (N := 5) ?hd (cs := #[.string (⟨#[]⟩ : ByteArray), .int .i64 0, .int .i64 0, .slice none 0 0, .string (⟨#[]⟩ : ByteArray)]) (t := 89) ?hr ?_; (case hd => rfl); (case hg => rfl); (case hr => first | (go_simp; done) | (go_simp; rfl)); intro gb125 hg w44 hbox hb; have n0_ := Aside0.mk (below_step (by repeat (first | (with_reducible first | exact HB.out | apply below_alloc | apply pw_below_drewN | apply below_drew1) | exact HB.out)) hb); have n1_ := Aside0.mk (hbox); have n2_ := Aside0.mk ((by rw [hg]; exact (below_size (by repeat (first | (with_reducible first | exact HB.out | apply below_alloc | apply pw_below_drewN | apply below_drew1) | exact HB.out))) : w.heap.size ≤ gb125)); have n3_ := Aside0.mk ((by rw [hg]; exact (below_size (by repeat (first | (with_reducible first | exact HB.out | apply below_alloc | apply pw_below_drewN | apply below_drew1) | exact HB.out))) : w.heap.size ≤ gb125)); clear HB; have HB := n0_; have BK125 := n1_; have GW125 := n2_; have GE125 := n3_; clear n0_ n1_ n2_ n3_; clear hb hbox hg; have hcz45_0 : w44.cell? ⟨gb125, 0, none⟩ = some (.string (⟨#[]⟩ : ByteArray)) := (blk_cell BK125.out 0).trans rfl; have hcz45_1 : w44.cell? ⟨gb125, 1, none⟩ = some (.int .i64 0) := (blk_cell BK125.out 1).trans rfl; have hcz45_2 : w44.cell? ⟨gb125, 2, none⟩ = some (.int .i64 0) := (blk_cell BK125.out 2).trans rfl; have hcz45_3 : w44.cell? ⟨gb125, 3, none⟩ = some (.slice none 0 0) := (blk_cell BK125.out 3).trans rfl; have hcz45_4 : w44.cell? ⟨gb125, 4, none⟩ = some (.string (⟨#[]⟩ : ByteArray)) := (blk_cell BK125.out 4).trans rfl; have hfz45_0 := blk_frozen BK125.out 0; have hfz45_1 := blk_frozen BK125.out 1; have hfz45_2 := blk_frozen BK125.out 2; have hfz45_3 := blk_frozen BK125.out 3; have hfz45_4 := blk_frozen BK125.out 4) | ((with_reducible refine gate_callee (f := 54) rfl ?_); refine goesL_ (some 22) rfl rfl Try.func54 (by kernel_rfl) rfl #[.agg #[.string ((rd_T89 l0 x16_1).f0), .int .i64 ((rd_T89 l0 x16_1).f1), .int .i64 ((rd_T89 l0 x16_1).f2), .slice A124_3 ((rd_T89 l0 x16_1).f3).length c124_3, .string ((rd_T89 l0 x16_1).f4)]] rfl (by (try simp only [List.map_toArray, List.map_cons, List.map_nil]); first | done | rfl | (simp only [List.length_drop, List.length_take]; rfl)) ?_; (with_reducible refine (tree_one.calls k1 ((rd_T89 l0 x16_1).f0) ((rd_T89 l0 x16_1).f1) ((rd_T89 l0 x16_1).f2) _ _ ((rd_T89 l0 x16_1).f3) ((rd_T89 l0 x16_1).f4) t126 _ ?side1 ?side2 A6.out).mono ?_); (case side1 => exact Kd.C_below HR124_3.out (by repeat (first | (with_reducible first | exact HB.out | apply below_alloc | apply pw_below_drewN | apply below_drew1 | refine below_set ?_ GE125.out) | exact HB.out))); (case side2 => exact HC124_3.out); rintro e w46 ⟨rfl, hb⟩; refine ⟨_, rfl, ?_⟩; have n0_ := Aside0.mk (blk_below (g := gb125) (o := .cells #[.string ((rd_T89 l0 x16_1).f0), .int .i64 ((rd_T89 l0 x16_1).f1), .int .i64 ((rd_T89 l0 x16_1).f2), .slice A124_3 ((rd_T89 l0 x16_1).f3).length c124_3, .string ((rd_T89 l0 x16_1).f4)] 89 (0, 0)) (by (with_reducible repeat (first | refine blk_drewN ?_ _ | refine blk_drew ?_ | refine blk_alloc ?_ _)); refine blk_put (cs := #[.string ((rd_T89 l0 x16_1).f0), .int .i64 ((rd_T89 l0 x16_1).f1), .int .i64 ((rd_T89 l0 x16_1).f2), .slice A124_3 ((rd_T89 l0 x16_1).f3).length c124_3, .string (⟨#[]⟩ : ByteArray)]) ?_ 4 _ rfl; (with_reducible repeat (first | refine blk_drewN ?_ _ | refine blk_drew ?_ | refine blk_alloc ?_ _)); refine blk_put (cs := #[.string ((rd_T89 l0 x16_1).f0), .int .i64 ((rd_T89 l0 x16_1).f1), .int .i64 ((rd_T89 l0 x16_1).f2), .slice none 0 0, .string (⟨#[]⟩ : ByteArray)]) ?_ 3 _ rfl; (with_reducible repeat (first | refine blk_drewN ?_ _ | refine blk_drew ?_ | refine blk_alloc ?_ _)); refine blk_put (cs := #[.string ((rd_T89 l0 x16_1).f0), .int .i64 ((rd_T89 l0 x16_1).f1), .int .i64 0, .slice none 0 0, .string (⟨#[]⟩ : ByteArray)]) ?_ 2 _ rfl; (with_reducible repeat (first | refine blk_drewN ?_ _ | refine blk_drew ?_ | refine blk_alloc ?_ _)); refine blk_put (cs := #[.string ((rd_T89 l0 x16_1).f0), .int .i64 0, .int .i64 0, .slice none 0 0, .string (⟨#[]⟩ : ByteArray)]) ?_ 1 _ rfl; (with_reducible repeat (first | refine blk_drewN ?_ _ | refine blk_drew ?_ | refine blk_alloc ?_ _)); refine blk_put (cs := #[.string (⟨#[]⟩ : ByteArray), .int .i64 0, .int .i64 0, .slice none 0 0, .string (⟨#[]⟩ : ByteArray)]) ?_ 0 _ rfl; (with_reducible repeat (first | refine blk_drewN ?_ _ | refine blk_drew ?_ | refine blk_alloc ?_ _)); exact BK125.out) hb); have n1_ := Aside0.mk (below_step (by repeat (first | (with_reducible first | exact HB.out | apply below_alloc | apply pw_below_drewN | apply below_drew1 | refine below_set ?_ GE125.out) | exact HB.out)) hb); clear BK125; clear HB; have BK125 := n0_; have HB := n1_; clear n0_ n1_; (try clear hb); (try clear hb2); (try clear hk); (try clear hi)))
        go_ret2
        exact ⟨by first | rfl | (simp [errW_none, errW_some] <;> rfl) | (simp [*, errW_none, errW_some] <;> rfl) | (simp [bt, *]; done) | (simp_all [bt]; done), by repeat (first | (with_reducible first | exact HB.out | apply below_alloc | apply pw_below_drewN | apply below_drew1 | refine below_set ?_ GE125.out) | exact HB.out)⟩
      ·rw [if_neg c5] at H
       exact absurd H (by simp)
     ·rw [if_neg c4] at H
      exact absurd H (by simp)
    ·rw [if_neg c3] at H
     have c3b0 : decide (x16_1 < (l0.length : Int)) = false := decide_eq_false c3
     clear c3
     simp only [Option.some.injEq, Prod.mk.injEq] at H
     obtain ⟨rfl, rfl⟩ := H
     go_wp2
     go_ret2
     exact ⟨by first | rfl | (simp [errW_none, errW_some] <;> rfl) | (simp [*, errW_none, errW_some] <;> rfl) | (simp [bt, *]; done) | (simp_all [bt]; done), by repeat (first | (with_reducible first | exact HB.out | apply below_alloc | apply pw_below_drewN | apply below_drew1) | exact HB.out)⟩

end Go.Proofs.Ytmlgfgmgolgjbaa.X
end

/-! ## SatchelkitBigTree -/
section
namespace Go.Proofs.Ytmlgfgmgolgjbaa.X
open Go.RowKit Go.Proofs.YtmlgfgmgolgjbaaW.PrintWords Go.Proofs.YtmlgfgmgolgjbaaW.PrintLast Go.Proofs.YtmlgfgmgolgjbaaW.PrintMore
attribute [local go_sem] max2_int min2_int max_two min_two max_three min_three max_four min_four   -- for this text's walks alone
set_option linter.unusedVariables false
set_option linter.unusedSimpArgs false

attribute [local go_sem] str_gtr fld_fault0 fld_fault1
/-! ### satchelkit_BigTree: function 25 -/

end Go.Proofs.Ytmlgfgmgolgjbaa.X
end
