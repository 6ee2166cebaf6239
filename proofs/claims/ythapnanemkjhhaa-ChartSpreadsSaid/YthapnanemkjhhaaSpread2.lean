/- Contracts of math.NaN, chart.Spread, the fixed fact of the law's file. Condition: words of 64 bits, fewer than 2^31 shares. -/
import Derived.Test.YthapnanemkjhhaaShares
import Derived.Test.YthapnanemkjhhaaFloatR
namespace Go.Proofs.Ythapnanemkjhhaa
open Go.RowKit
set_option linter.unusedVariables false
def nanW : Nat := 9221120237041090561
theorem nanW_not : notR nanW = true := by unfold notR expI manI nanW; decide
theorem nanW_w : W64 nanW := by unfold W64 nanW; omega
theorem run_frombits (w : World) : (callFunc 56 #[.int .u64 9221120237041090561]).run Try.prog w = .ok (.value (.float .f64 nanW)) w := by kernel_rfl
theorem mathNaN_any (w : World) : Calls Try.prog 32 #[] w fun e w' => e = .returned (.float .f64 nanW) ∧ w = w' := by
  have hx := run_frombits
  go_enter Try.func32, Try.ntmps32
  go_wp2
  go_ret
  exact ⟨rfl, rfl⟩
theorem field_part (p1 p2 p3 : Int) (p4 : Nat) (w : World) : (Instr.field 32 (.agg #[.int .i64 p1, .int .i64 p2, .int .i64 p3, .float .f64 p4]) 3).run Try.prog w = .ok (.float .f64 p4) w := by kernel_rfl
def lowOf (xs : List ShareD) : Nat := if xs.length = 0 then nanW else (minTo xs xs.length).part
def highOf (xs : List ShareD) : Nat := if xs.length = 0 then nanW else (maxTo xs xs.length).part
set_option maxRecDepth 100000 in
theorem spread_any (v : Value) (n : Nat) (xs : List ShareD) (w : World) (hv : SlN 4 w v n (xs.flatMap ShareD.cells)) (hn : n = xs.length) (hb : n < 2147483648) (hx : ∀ x ∈ xs, W64 x.part) :
    Calls Try.prog 18 #[v] w fun e w' => e = .returned (.tuple #[.float .f64 (lowOf xs), .float .f64 (highOf xs)]) ∧ Below w.heap.size w w' := by
  have HV := Lib.hid hv
  obtain ⟨a, cap, rfl, -, hcap, hmax, -⟩ := hv
  have HX := Lib.hid hx
  have HN := Lib.hid hn
  unfold maxLen at hmax
  clear hx
  by_cases h0 : n = 0
  · subst h0
    have HL : Hid (lowOf xs = nanW) := by unfold lowOf; rw [if_pos hn.symm]; exact Lib.hid rfl
    have HH : Hid (highOf xs = nanW) := by unfold highOf; rw [if_pos hn.symm]; exact Lib.hid rfl
    clear hn
    go_enter Try.func18, Try.ntmps18
    go_wp2_with (go_at_call 32; refine (mathNaN_any _).mono ?_; rintro e w1 ⟨rfl, rfl⟩)
    go_ret2
    exact ⟨by rw [HL.out, HH.out]; rfl, Below.refl _ _⟩
  · have h1 : 1 ≤ n := by omega
    have HL : Hid (lowOf xs = (minTo xs n).part) := by unfold lowOf; rw [if_neg (by omega), hn]; exact Lib.hid rfl
    have HH : Hid (highOf xs = (maxTo xs n).part) := by unfold highOf; rw [if_neg (by omega), hn]; exact Lib.hid rfl
    have h0' : ((n : Int) == 0) = false := by simpa using h0
    clear hn h0
    go_enter Try.func18, Try.ntmps18
    go_wp2_with fail
    refine (minFunc_any _ n xs _ HV.out HN.out h1 hb HX.out).mono ?_
    rintro e w1 ⟨rfl, hb1⟩
    have HB1 := Lib.hid hb1
    generalize minTo xs n = m1 at *
    obtain ⟨p1, p2, p3, p4⟩ := m1
    unfold ShareD.val
    dsimp only at *
    have hf1 := field_part p1 p2 p3 p4
    clear hb1
    go_wp2_with fail
    refine (maxFunc_any _ n xs _ (HV.out.below HB1.out) HN.out h1 hb HX.out).mono ?_
    rintro e w2 ⟨rfl, hb2⟩
    have HB2 := Lib.hid hb2
    generalize maxTo xs n = m2 at *
    obtain ⟨q1, q2, q3, q4⟩ := m2
    unfold ShareD.val
    dsimp only at *
    have hf2 := field_part q1 q2 q3 q4
    clear hb2
    go_wp2
    go_ret2
    exact ⟨by rw [HL.out, HH.out]; rfl, HB1.out.trans (HB2.out.mono HB1.out.size)⟩
end Go.Proofs.Ythapnanemkjhhaa
