/- Contracts of the reference's functions on numbers with a point: Bits, Not, Less, Order. Condition: words of 64 bits. -/
import Derived.Test.YthapnanemkjhhaaFloat
namespace Go.Proofs.Ythapnanemkjhhaa
open Go.RowKit
set_option linter.unusedVariables false
def expI (a : Nat) : Int := ((a / 4503599627370496 % 2048 : Nat) : Int)
def manI (a : Nat) : Int := ((a % 4503599627370496 : Nat) : Int)
theorem bits04_any (a : Nat) (ha : W64 a) (w : World) : Calls Try.prog 36 #[.float .f64 a] w fun e w' => e = .returned (.tuple #[.bool (sgnB a), .int .u64 (expI a), .int .u64 (manI a)]) ∧ w = w' := by
  unfold W64 at ha
  have hx := run_bits a
  go_enter Try.func36, Try.ntmps36
  go_wp2
  go_ret3
  refine ⟨ret_t3 (v_bool ?_) (v_int ?_) (v_int ?_), rfl⟩
  · show decide _ = _
    unfold sgnB
    rw [decide_eq_decide]; omega
  · unfold expI; show (a : Int) / _ % _ = _; omega
  · unfold manI; show (a : Int) % _ = _; omega
def notR (a : Nat) : Bool := (expI a == 2047) && decide (0 < manI a)
theorem man_bd (a : Nat) : 0 ≤ manI a := by unfold manI; omega
theorem not04_any (a : Nat) (ha : W64 a) (w : World) : Calls Try.prog 19 #[.float .f64 a] w fun e w' => e = .returned (.bool (notR a)) ∧ w = w' := by
  have hb := man_bd a
  cases h1 : (expI a == 2047)
  all_goals
    have hf : notR a = ((expI a == 2047) && decide (0 < manI a)) := rfl
    rw [h1] at hf
    have HF := Lib.hid hf
    clear hf
    go_enter Try.func19, Try.ntmps19
    go_wp2_with (go_at_call 36; refine (bits04_any _ ha _).mono ?_; rintro e w1 ⟨rfl, rfl⟩)
    go_ret
    exact ⟨ret_bool (by rw [HF.out]; rfl), rfl⟩
def lessR (a b : Nat) : Bool :=
  if sgnB a && sgnB b then decide (b < a) else if sgnB a || sgnB b then sgnB a else decide (a < b)
set_option maxRecDepth 20000 in
theorem less04_any (a b : Nat) (ha : W64 a) (hb : W64 b) (w : World) : Calls Try.prog 37 #[.float .f64 a, .float .f64 b] w fun e w' => e = .returned (.bool (lessR a b)) ∧ w = w' := by
  unfold W64 at ha hb
  have hx := run_bits a
  have hy := run_bits b
  have e1 : sgnB a = decide ((9223372036854775808 : Int) ≤ (a : Int)) := by unfold sgnB; rw [decide_eq_decide]; omega
  have e2 : sgnB b = decide ((9223372036854775808 : Int) ≤ (b : Int)) := by unfold sgnB; rw [decide_eq_decide]; omega
  have hf : lessR a b = if sgnB a && sgnB b then decide (b < a) else if sgnB a || sgnB b then sgnB a else decide (a < b) := rfl
  cases h1 : sgnB a
  all_goals
    cases h2 : sgnB b
    all_goals
      rw [h1, h2] at hf
      have d1 := e1.symm.trans h1
      have d2 := e2.symm.trans h2
      have HF := Lib.hid hf
      clear hf e1 e2 h1 h2 ha hb
      go_enter Try.func37, Try.ntmps37
      go_wp2
      go_ret
      exact ⟨ret_bool (by rw [HF.out]; rfl), rfl⟩
def ordR (a b : Nat) : Int :=
  if notR a && notR b then 0 else if notR a then 1 else if notR b || lessR a b then -1 else if lessR b a then 1 else 0
theorem order04_any (a b : Nat) (ha : W64 a) (hb : W64 b) (w : World) : Calls Try.prog 20 #[.float .f64 a, .float .f64 b] w fun e w' => e = .returned (.int .i64 (ordR a b)) ∧ w = w' := by
  cases h1 : notR a
  all_goals
    cases h2 : notR b
    all_goals
      cases h3 : lessR a b
      all_goals
        cases h4 : lessR b a
        all_goals
          have hf : ordR a b = if notR a && notR b then 0 else if notR a then 1 else if notR b || lessR a b then -1 else if lessR b a then 1 else 0 := rfl
          rw [h1, h2, h3, h4] at hf
          have HF := Lib.hid hf
          clear hf
          go_enter Try.func20, Try.ntmps20
          go_wp2_with (first | (go_at_call 19; refine (not04_any _ (by assumption) _).mono ?_; rintro e w1 ⟨rfl, rfl⟩) | (go_at_call 37; refine (less04_any _ _ (by assumption) (by assumption) _).mono ?_; rintro e w1 ⟨rfl, rfl⟩))
          go_ret
          exact ⟨ret_int (by rw [HF.out]; rfl), rfl⟩
end Go.Proofs.Ythapnanemkjhhaa
