/- Contracts of the functions on numbers with a point: IsNaN, Signbit, class, sign, Order, Ratio, and the reference's Not, Less, Order. No condition. -/
import Derived.Test.YthapnanemkjhhaaChecked
import Derived.Test.YthapnanemkjhhaaKit
import Derived.Test.YthapnanemkjhhaaShelf
import Derived.WalkKit
import Derived.WalkSpells
import Derived.WalkLawsBesides
import Derived.Laws.Cover2
import Derived.Outline
namespace Go.Proofs.Ythapnanemkjhhaa
open Go.RowKit
set_option linter.unusedVariables false

/-- is it no number -/
def nanB (a : Nat) : Bool := FloatKind.f64.format.order a a != some .eq
theorem nan_any (a : Nat) (w : World) : Calls Try.prog 49 #[.float .f64 a] w fun e w' => e = .returned (.bool (nanB a)) ∧ w = w' := by
  go_enter Try.func49, Try.ntmps49
  go_wp2
  go_ret
  exact ⟨rfl, rfl⟩
def clsI (a : Nat) : Int := if nanB a = true then 1 else 0
theorem class_any (a : Nat) (w : World) : Calls Try.prog 27 #[.float .f64 a] w fun e w' => e = .returned (.int .i64 (clsI a)) ∧ w = w' := by
  cases h : nanB a
  all_goals
    have H := Lib.hid h
    go_enter Try.func27, Try.ntmps27
    go_wp2_with (go_at_call 49; refine (nan_any _ _).mono ?_; rintro e w1 ⟨rfl, rfl⟩)
    go_ret
    refine ⟨ret_int ?_, rfl⟩
    unfold clsI
    rw [H.out]
    rfl
/-- a word of 64 bits -/
def W64 (a : Nat) : Prop := a < 18446744073709551616
/-- is the sign bit set -/
def sgnB (a : Nat) : Bool := decide (9223372036854775808 ≤ a)
theorem run_bits (a : Nat) (w : World) : (callFunc 57 #[.float .f64 a]).run Try.prog w = .ok (.value (.int .u64 a)) w := by kernel_rfl
set_option maxRecDepth 20000 in
theorem signbit_any (a : Nat) (ha : W64 a) (w : World) : Calls Try.prog 51 #[.float .f64 a] w fun e w' => e = .returned (.bool (sgnB a)) ∧ w = w' := by
  go_enter Try.func51, Try.ntmps51
  have hx := run_bits a
  by_cases h : 9223372036854775808 ≤ a
  all_goals
    have H := Lib.hid h
    clear h
    go_wp2
    go_ret
    refine ⟨ret_bool ?_, rfl⟩
    have h := H.out
    unfold W64 at ha
    unfold sgnB wrap64
    rw [decide_eq_decide]
    omega
def sgnI (a : Nat) : Int := if sgnB a = true then -1 else 0
theorem sign_any (a : Nat) (ha : W64 a) (w : World) : Calls Try.prog 29 #[.float .f64 a] w fun e w' => e = .returned (.int .i64 (sgnI a)) ∧ w = w' := by
  cases h : sgnB a
  all_goals
    have H := Lib.hid h
    go_enter Try.func29, Try.ntmps29
    go_wp2_with (go_at_call 51; refine (signbit_any _ ha _).mono ?_; rintro e w1 ⟨rfl, rfl⟩)
    go_ret
    refine ⟨ret_int ?_, rfl⟩
    unfold sgnI
    rw [H.out]
    rfl

def ltF (a b : Nat) : Bool := FloatKind.f64.format.order a b == some .lt
def gtF (a b : Nat) : Bool := FloatKind.f64.format.order a b == some .gt
def eqF (a b : Nat) : Bool := FloatKind.f64.format.order a b == some .eq
/-- which one is the greater, as chance.Order tells it -/
def ordF (a b : Nat) : Int :=
  if 0 < clsI a + clsI b then Lib.compareInt (clsI a) (clsI b) else if ltF a b = true then -1 else if gtF a b = true then 1 else
  if eqF a 0 = true then Lib.compareInt (sgnI a) (sgnI b) else 0
theorem clsI_01 (a : Nat) : 0 ≤ clsI a ∧ clsI a ≤ 1 := by unfold clsI; split <;> omega
set_option maxHeartbeats 1000000 in
theorem order_any (a b : Nat) (ha : W64 a) (hb : W64 b) (w : World) : Calls Try.prog 14 #[.float .f64 a, .float .f64 b] w fun e w' => e = .returned (.int .i64 (ordF a b)) ∧ w = w' := by
  have ca := clsI_01 a
  have cb := clsI_01 b
  by_cases h1 : 0 < clsI a + clsI b
  · have hf : ordF a b = Lib.compareInt (clsI a) (clsI b) := by unfold ordF; rw [if_pos h1]
    have HF := Lib.hid hf
    clear hf
    go_enter Try.func14, Try.ntmps14
    go_wp2_with (first | (go_at_call 27; refine (class_any _ _).mono ?_; rintro e w1 ⟨rfl, rfl⟩) | (go_at_call 28; refine (Try.cmp_Compare_int _ _ _).mono ?_; rintro e w1 ⟨rfl, rfl⟩))
    go_ret
    exact ⟨ret_int HF.out.symm, rfl⟩
  · by_cases h2 : ltF a b = true
    · have hf : ordF a b = -1 := by unfold ordF; rw [if_neg h1, if_pos h2]
      have HF := Lib.hid hf
      have h2' : (FloatKind.f64.format.order a b == some .lt) = true := h2
      clear hf h2
      go_enter Try.func14, Try.ntmps14
      go_wp2_with (first | (go_at_call 27; refine (class_any _ _).mono ?_; rintro e w1 ⟨rfl, rfl⟩))
      go_ret
      exact ⟨ret_int HF.out.symm, rfl⟩
    · have h2' : (FloatKind.f64.format.order a b == some .lt) = false := by simpa [ltF] using h2
      by_cases h3 : gtF a b = true
      · have hf : ordF a b = 1 := by unfold ordF; rw [if_neg h1, if_neg h2, if_pos h3]
        have HF := Lib.hid hf
        have h3' : (FloatKind.f64.format.order a b == some .gt) = true := h3
        clear hf h2 h3
        go_enter Try.func14, Try.ntmps14
        go_wp2_with (first | (go_at_call 27; refine (class_any _ _).mono ?_; rintro e w1 ⟨rfl, rfl⟩))
        go_ret
        exact ⟨ret_int HF.out.symm, rfl⟩
      · have h3' : (FloatKind.f64.format.order a b == some .gt) = false := by simpa [gtF] using h3
        by_cases h4 : eqF a 0 = true
        · have hf : ordF a b = Lib.compareInt (sgnI a) (sgnI b) := by unfold ordF; rw [if_neg h1, if_neg h2, if_neg h3, if_pos h4]
          have HF := Lib.hid hf
          have h4' : (FloatKind.f64.format.order a 0 == some .eq) = true := h4
          clear hf h2 h3 h4
          go_enter Try.func14, Try.ntmps14
          go_wp2_with (first | (go_at_call 27; refine (class_any _ _).mono ?_; rintro e w1 ⟨rfl, rfl⟩) | (go_at_call 29; refine (sign_any _ (by assumption) _).mono ?_; rintro e w1 ⟨rfl, rfl⟩) | (go_at_call 28; refine (Try.cmp_Compare_int _ _ _).mono ?_; rintro e w1 ⟨rfl, rfl⟩))
          go_ret
          exact ⟨ret_int HF.out.symm, rfl⟩
        · have h4' : (FloatKind.f64.format.order a 0 == some .eq) = false := by simpa [eqF] using h4
          have hf : ordF a b = 0 := by unfold ordF; rw [if_neg h1, if_neg h2, if_neg h3, if_neg h4]
          have HF := Lib.hid hf
          clear hf h2 h3 h4
          go_enter Try.func14, Try.ntmps14
          go_wp2_with (first | (go_at_call 27; refine (class_any _ _).mono ?_; rintro e w1 ⟨rfl, rfl⟩))
          go_ret
          exact ⟨ret_int HF.out.symm, rfl⟩

theorem f64_weight : FloatKind.f64.format.signWeight = 9223372036854775808 := rfl
theorem f64_binade : FloatKind.f64.format.binade = 4503599627370496 := rfl
theorem f64_inf : FloatKind.f64.format.infRung = 9218868437227405312 := rfl
theorem read_nan (q : Nat) (h : 9218868437227405312 < q % 9223372036854775808) : ∃ s t, FloatKind.f64.format.read q = .nan s t := by
  refine ⟨q / FloatKind.f64.format.signWeight % 2 == 1, q % FloatKind.f64.format.signWeight - FloatKind.f64.format.infRung, ?_⟩
  unfold Ieee.Format.read
  dsimp only
  rw [if_neg (by rw [f64_weight, f64_binade]; omega), if_neg (by rw [f64_weight, f64_inf]; omega), if_neg (by rw [f64_weight, f64_inf]; omega)]
theorem nanB_of (q : Nat) (h : 9218868437227405312 < q % 9223372036854775808) : nanB q = true := by
  obtain ⟨s, t, hr⟩ := read_nan q h
  unfold nanB Ieee.Format.order
  rw [hr]; rfl
theorem nan_cut (x y t : Nat) : nanB ((Question.nanBits .f64 x y).cut t) = true := by
  apply nanB_of
  show 9218868437227405312 < ((t % 2) * 2 ^ 63 + 0x7ff0000000000000 + 1 + (t / 2) % (2 ^ 52 - 1)) % 9223372036854775808
  have : (t / 2) % (2 ^ 52 - 1) < 4503599627370495 := Nat.mod_lt _ (by decide)
  generalize (t / 2) % (2 ^ 52 - 1) = m at *
  omega
theorem cut_w64 (x y t : Nat) : W64 ((Question.nanBits .f64 x y).cut t) := by
  show (t % 2) * 2 ^ 63 + 0x7ff0000000000000 + 1 + (t / 2) % (2 ^ 52 - 1) < 18446744073709551616
  have : (t / 2) % (2 ^ 52 - 1) < 4503599627370495 := Nat.mod_lt _ (by decide)
  generalize (t / 2) % (2 ^ 52 - 1) = m at *
  omega
theorem word_w64 (s : Bool) (r : Nat) (h : r ≤ 9223372036854775807) : W64 (FloatKind.f64.format.word s r) := by
  unfold W64 Ieee.Format.word
  rw [f64_weight]
  split <;> omega
theorem write_w64 (d : Ieee.Datum) : W64 (FloatKind.f64.format.write d) := by
  cases d with
  | number s m e =>
    show W64 (FloatKind.f64.format.nearest s m e)
    unfold Ieee.Format.nearest
    split
    · exact word_w64 _ _ (by omega)
    · refine word_w64 _ _ (Nat.le_trans (Nat.min_le_right _ _) ?_)
      rw [f64_inf]; omega
  | infinity s => exact word_w64 _ _ (by rw [f64_inf]; omega)
  | nan s t =>
    refine word_w64 _ _ ?_
    rw [f64_inf, f64_binade]; omega
/-- what a by b may be: the nearest number; where there is none, any word that is no number -/
def RatioIs (a b : Int) (r : Nat) : Prop :=
  W64 r ∧ match FloatKind.f64.format.div (floatOfInt .f64 a) (floatOfInt .f64 b) with
  | some q => r = q
  | none => nanB r = true
theorem div_w64 {x y q : Nat} (h : FloatKind.f64.format.div x y = some q) : W64 q := by
  unfold Ieee.Format.div at h
  obtain ⟨d, -, rfl⟩ := Option.map_eq_some_iff.1 h
  exact write_w64 d
theorem ratio_any (a b : Int) (w : World) : Calls Try.prog 15 #[.int .u64 a, .int .u64 b] w fun e w' => ∃ r n, e = .returned (.float .f64 r) ∧ RatioIs a b r ∧ w' = w.drewN n := by
  cases hd : FloatKind.f64.format.div (floatOfInt .f64 a) (floatOfInt .f64 b) with
  | some q =>
    have HR : Hid (RatioIs a b q) := by unfold RatioIs; rw [hd]; exact Lib.hid ⟨div_w64 hd, rfl⟩
    have hrun : ∀ w, (binOp .quo 30 (.float .f64 (floatOfInt .f64 a)) (.float .f64 (floatOfInt .f64 b))).run Try.prog w = .ok (.float .f64 q) w := by
      intro w; simp [binOp, Op.floatArith, hd]
    clear hd
    go_enter Try.func15, Try.ntmps15
    go_wp2
    go_ret
    exact ⟨q, 0, rfl, HR.out, rfl⟩
  | none =>
    have hrun : ∀ w, (binOp .quo 30 (.float .f64 (floatOfInt .f64 a)) (.float .f64 (floatOfInt .f64 b))).run Try.prog w = .ok (.float .f64 ((Question.nanBits .f64 (floatOfInt .f64 a) (floatOfInt .f64 b)).cut (w.tape w.drawn (.nanBits .f64 (floatOfInt .f64 a) (floatOfInt .f64 b))))) w.drew := by
      intro w; simp [binOp, Op.floatArith, hd, choose]
      simp only [Sem.run, Question.forced]
      rfl
    have HR : ∀ t, RatioIs a b ((Question.nanBits .f64 (floatOfInt .f64 a) (floatOfInt .f64 b)).cut t) := by
      intro t; unfold RatioIs; rw [hd]; exact ⟨cut_w64 _ _ _, nan_cut _ _ _⟩
    have H := Lib.hid HR
    clear hd HR
    go_enter Try.func15, Try.ntmps15
    go_wp2
    go_ret
    exact ⟨_, 1, rfl, H.out _, rfl⟩
end Go.Proofs.Ythapnanemkjhhaa
