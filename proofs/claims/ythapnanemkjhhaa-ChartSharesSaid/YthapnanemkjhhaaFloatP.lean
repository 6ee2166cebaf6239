/- Plain: the program's order of numbers with a point is the document's, and it is the order of a whole number. Condition: words of 64 bits. -/
import Derived.Test.YthapnanemkjhhaaFloatR
namespace Go.Proofs.Ythapnanemkjhhaa
set_option linter.unusedVariables false
set_option linter.unusedSimpArgs false
def Bn : Nat := 4503599627370496
def valR (r : Nat) : Nat := if r < 4503599627370496 then r else (4503599627370496 + r % 4503599627370496) * 2 ^ (r / 4503599627370496 - 1)
theorem valR_ge {r : Nat} (h : 4503599627370496 ≤ r) : 4503599627370496 * 2 ^ (r / 4503599627370496 - 1) ≤ valR r ∧ valR r < 4503599627370496 * 2 ^ (r / 4503599627370496) := by
  unfold valR
  rw [if_neg (by omega)]
  have hm : r % 4503599627370496 < 4503599627370496 := Nat.mod_lt _ (by omega)
  have hq : 1 ≤ r / 4503599627370496 := by omega
  refine ⟨Nat.mul_le_mul_right _ (by omega), ?_⟩
  have h2 : 2 ^ (r / 4503599627370496) = 2 * 2 ^ (r / 4503599627370496 - 1) := by
    conv => lhs; rw [show r / 4503599627370496 = (r / 4503599627370496 - 1) + 1 by omega, Nat.pow_succ]
    omega
  rw [h2]
  have hp : 0 < 2 ^ (r / 4503599627370496 - 1) := Nat.pow_pos (by omega)
  generalize 2 ^ (r / 4503599627370496 - 1) = p at *
  generalize r % 4503599627370496 = m at *
  have : (4503599627370496 + m) * p < (2 * 4503599627370496) * p := Nat.mul_lt_mul_of_pos_right (by omega) hp
  calc (4503599627370496 + m) * p < (2 * 4503599627370496) * p := this
    _ = 4503599627370496 * (2 * p) := by omega
theorem valR_lt {r t : Nat} (h : r < t) : valR r < valR t := by
  by_cases h1 : r < 4503599627370496
  · have e : valR r = r := by unfold valR; rw [if_pos h1]
    rw [e]
    by_cases h2 : t < 4503599627370496
    · unfold valR; rw [if_pos h2]; exact h
    · have h3 := (valR_ge (r := t) (by omega)).1
      have hp : 0 < 2 ^ (t / 4503599627370496 - 1) := Nat.pow_pos (by omega)
      generalize 2 ^ (t / 4503599627370496 - 1) = p at *
      have : 4503599627370496 * 1 ≤ 4503599627370496 * p := Nat.mul_le_mul_left _ hp
      omega
  · by_cases hq : r / 4503599627370496 = t / 4503599627370496
    · unfold valR
      rw [if_neg h1, if_neg (by omega), hq]
      have hp : 0 < 2 ^ (t / 4503599627370496 - 1) := Nat.pow_pos (by omega)
      exact Nat.mul_lt_mul_of_pos_right (by omega) hp
    · have h2 := (valR_ge (r := r) (by omega)).2
      have h3 := (valR_ge (r := t) (by omega)).1
      have h4 : r / 4503599627370496 ≤ t / 4503599627370496 - 1 := by omega
      have h5 : 2 ^ (r / 4503599627370496) ≤ 2 ^ (t / 4503599627370496 - 1) := Nat.pow_le_pow_right (by omega) h4
      have h6 := Nat.mul_le_mul_left 4503599627370496 h5
      omega
theorem valR_zero : valR 0 = 0 := rfl
theorem valR_inj {r t : Nat} (h : valR r = valR t) : r = t := by
  rcases Nat.lt_trichotomy r t with h1 | h1 | h1
  · have := valR_lt h1; omega
  · exact h1
  · have := valR_lt h1; omega
def sval (a : Nat) : Int := if sgnB a then -(valR (a % 9223372036854775808) : Int) else valR (a % 9223372036854775808)
theorem cmp3 (x y : Int) : compare x y = if x < y then Ordering.lt else if x = y then .eq else .gt := rfl
theorem compare_int_mul (x y : Int) (p : Nat) (hp : 0 < p) : compare (x * p) (y * p) = compare x y := by
  have hp' : (0 : Int) < p := by omega
  rw [cmp3, cmp3]
  rcases Int.lt_trichotomy x y with h | h | h
  · have h2 : x * p < y * p := Int.mul_lt_mul_of_pos_right h hp'
    rw [if_pos h, if_pos h2]
  · rw [h]; simp
  · have h2 : y * p < x * p := Int.mul_lt_mul_of_pos_right h hp'
    rw [if_neg (by omega), if_neg (by omega), if_neg (by omega), if_neg (by omega)]
open Ieee in
theorem signed_mul (s : Bool) (m k q : Nat) : signed s m k * ((2 ^ q : Nat) : Int) = if s then -((m * 2 ^ (k + q) : Nat) : Int) else ((m * 2 ^ (k + q) : Nat) : Int) := by
  unfold signed
  rw [Nat.shiftLeft_eq, Nat.pow_add]
  cases s
  · simp only [Bool.false_eq_true, if_false]
    rw [← Int.natCast_mul, Nat.mul_assoc]
  · simp only [if_true]
    rw [Int.neg_mul, ← Int.natCast_mul, Nat.mul_assoc]
/-- a number: its digits and its place above the least -/
def magOf (r : Nat) : Nat := if r < 4503599627370496 then r else 4503599627370496 + r % 4503599627370496
def upOf (r : Nat) : Nat := if r < 4503599627370496 then 0 else r / 4503599627370496 - 1
theorem valR_eq (r : Nat) : valR r = magOf r * 2 ^ upOf r := by unfold valR magOf upOf; split <;> simp
theorem sgn_read (a : Nat) (ha : W64 a) : (a / 9223372036854775808 % 2 == 1) = sgnB a := by
  unfold W64 at ha
  unfold sgnB
  rw [Bool.eq_iff_iff, beq_iff_eq, decide_eq_true_eq]; omega
open Ieee in
theorem read_num (a : Nat) (ha : W64 a) (hr : a % 9223372036854775808 < 9218868437227405312) : FloatKind.f64.format.read a = .number (sgnB a) (magOf (a % 9223372036854775808)) (FloatKind.f64.format.leastPlace + (upOf (a % 9223372036854775808) : Nat)) := by
  unfold Format.read
  dsimp only
  rw [show FloatKind.f64.format.signWeight = 9223372036854775808 from rfl, show FloatKind.f64.format.binade = 4503599627370496 from rfl, show FloatKind.f64.format.infRung = 9218868437227405312 from rfl, sgn_read a ha]
  unfold magOf upOf
  generalize a % 9223372036854775808 = r at *
  by_cases h : r < 4503599627370496
  · rw [if_pos h, if_pos h, if_pos h]; simp
  · rw [if_neg h, if_pos hr, if_neg h, if_neg h]
open Ieee in
theorem read_inf (a : Nat) (ha : W64 a) (hr : a % 9223372036854775808 = 9218868437227405312) : FloatKind.f64.format.read a = .infinity (sgnB a) := by
  unfold Format.read
  dsimp only
  rw [show FloatKind.f64.format.signWeight = 9223372036854775808 from rfl, show FloatKind.f64.format.binade = 4503599627370496 from rfl, show FloatKind.f64.format.infRung = 9218868437227405312 from rfl, sgn_read a ha, hr]
  rw [if_neg (by omega), if_neg (by omega), if_pos rfl]
theorem sval_lt {a b : Nat} (ha : W64 a) (hb : W64 b) : sval a < sval b ↔ (if sgnB a then (if sgnB b then b % 9223372036854775808 < a % 9223372036854775808 else 0 < a % 9223372036854775808 ∨ 0 < b % 9223372036854775808) else (if sgnB b then False else a % 9223372036854775808 < b % 9223372036854775808)) := by
  unfold sval
  generalize a % 9223372036854775808 = r
  generalize b % 9223372036854775808 = t
  have h0 : ∀ x : Nat, 0 < x → 0 < valR x := fun x hx => by have := valR_lt hx; rw [valR_zero] at this; exact this
  cases sgnB a <;> cases sgnB b <;> simp only [Bool.false_eq_true, if_false, if_true]
  · constructor
    · intro h
      rcases Nat.lt_trichotomy r t with h1 | h1 | h1
      · exact h1
      · rw [h1] at h; omega
      · have := valR_lt h1; omega
    · intro h; have := valR_lt h; omega
  · exact ⟨fun h => by omega, False.elim⟩
  · constructor
    · intro h
      rcases Nat.eq_zero_or_pos r with h1 | h1
      · rcases Nat.eq_zero_or_pos t with h2 | h2
        · rw [h1, h2, valR_zero] at h; omega
        · exact .inr h2
      · exact .inl h1
    · rintro (h | h)
      · have := h0 r h; omega
      · have := h0 t h; omega
  · constructor
    · intro h
      rcases Nat.lt_trichotomy t r with h1 | h1 | h1
      · exact h1
      · rw [h1] at h; omega
      · have := valR_lt h1; omega
    · intro h; have := valR_lt h; omega
open Ieee in
theorem order_eq (a b : Nat) (ha : W64 a) (hb : W64 b) (ra : a % 9223372036854775808 ≤ 9218868437227405312) (rb : b % 9223372036854775808 ≤ 9218868437227405312) :
    FloatKind.f64.format.order a b = some (compare (sval a) (sval b)) := by
  unfold Format.order
  have sv : ∀ x, sval x = if sgnB x then -((magOf (x % 9223372036854775808) * 2 ^ upOf (x % 9223372036854775808) : Nat) : Int) else ((magOf (x % 9223372036854775808) * 2 ^ upOf (x % 9223372036854775808) : Nat) : Int) := fun x => by unfold sval; rw [valR_eq]
  have h0 : ∀ x : Nat, 0 ≤ valR x := fun _ => Nat.zero_le _
  have hinf : ∀ x : Nat, x < 9218868437227405312 → valR x < valR 9218868437227405312 := fun x => valR_lt
  have hz := hinf 0 (by omega)
  rw [valR_zero] at hz
  rcases Nat.lt_or_eq_of_le ra with h1 | h1
  · rcases Nat.lt_or_eq_of_le rb with h2 | h2
    · rw [read_num a ha h1, read_num b hb h2]
      unfold Datum.order
      dsimp only
      rw [sv a, sv b]
      generalize magOf (a % 9223372036854775808) = m
      generalize magOf (b % 9223372036854775808) = n
      generalize upOf (a % 9223372036854775808) = p
      generalize upOf (b % 9223372036854775808) = q
      generalize FloatKind.f64.format.leastPlace = l
      rw [show (l + (p : Nat) - min (l + (p : Nat)) (l + (q : Nat))).toNat = p - min p q by omega, show (l + (q : Nat) - min (l + (p : Nat)) (l + (q : Nat))).toNat = q - min p q by omega]
      rw [← compare_int_mul _ _ (2 ^ min p q) (Nat.pow_pos (by omega)), signed_mul, signed_mul, show p - min p q + min p q = p by omega, show q - min p q + min p q = q by omega]
    · rw [read_num a ha h1, read_inf b hb h2]
      unfold Datum.order
      dsimp only
      rw [cmp3]
      unfold sval
      rw [h2]
      have := hinf _ h1
      generalize valR (a % 9223372036854775808) = u at *
      generalize valR 9218868437227405312 = v at *
      cases sgnB a <;> cases sgnB b <;> simp only [Bool.false_eq_true, if_false, if_true]
      · rw [if_pos (by omega)]
      · rw [if_neg (by omega), if_neg (by omega)]
      · rw [if_pos (by omega)]
      · rw [if_neg (by omega), if_neg (by omega)]
  · rcases Nat.lt_or_eq_of_le rb with h2 | h2
    · rw [read_inf a ha h1, read_num b hb h2]
      unfold Datum.order
      dsimp only
      rw [cmp3]
      unfold sval
      rw [h1]
      have := hinf _ h2
      generalize valR (b % 9223372036854775808) = u at *
      generalize valR 9218868437227405312 = v at *
      cases sgnB a <;> cases sgnB b <;> simp only [Bool.false_eq_true, if_false, if_true]
      · rw [if_neg (by omega), if_neg (by omega)]
      · rw [if_neg (by omega), if_neg (by omega)]
      · rw [if_pos (by omega)]
      · rw [if_pos (by omega)]
    · rw [read_inf a ha h1, read_inf b hb h2]
      unfold Datum.order
      dsimp only
      rw [cmp3]
      unfold sval
      rw [h1, h2]
      generalize valR 9218868437227405312 = v at *
      cases sgnB a <;> cases sgnB b <;> simp only [Bool.false_eq_true, if_false, if_true]
      · rw [if_neg (by omega)]; rfl
      · rw [if_neg (by omega), if_neg (by omega)]; rfl
      · rw [if_pos (by omega)]; rfl
      · rw [if_neg (by omega)]; rfl
/-- no number: beyond infinity's rung -/
theorem notR_iff (a : Nat) : notR a = true ↔ 9218868437227405312 < a % 9223372036854775808 := by
  unfold notR expI manI
  rw [Bool.and_eq_true, beq_iff_eq, decide_eq_true_eq]
  omega
theorem nanB_eq (a : Nat) (ha : W64 a) : nanB a = notR a := by
  rw [Bool.eq_iff_iff]
  constructor
  · intro h
    rw [notR_iff]
    rcases Nat.lt_or_ge 9218868437227405312 (a % 9223372036854775808) with h1 | h1
    · exact h1
    · unfold nanB at h
      rw [order_eq a a ha ha h1 h1, cmp3, if_neg (by omega), if_pos rfl] at h
      cases h
  · intro h; exact nanB_of a ((notR_iff a).1 h)
/-- the place of a word in the order of all -/
def kOf (a : Nat) : Int := if notR a then 9223372036854775808 else if sgnB a then -(a % 9223372036854775808 : Nat) - 1 else (a % 9223372036854775808 : Nat)
def sgn3 (x y : Int) : Int := if x < y then -1 else if y < x then 1 else 0
theorem sgnB_iff (a : Nat) : sgnB a = true ↔ 9223372036854775808 ≤ a := by unfold sgnB; rw [decide_eq_true_eq]
theorem ordR_eq (a b : Nat) (ha : W64 a) (hb : W64 b) : ordR a b = sgn3 (kOf a) (kOf b) := by
  unfold W64 at ha hb
  have la : a % 9223372036854775808 < 9223372036854775808 := Nat.mod_lt _ (by omega)
  have lb : b % 9223372036854775808 < 9223372036854775808 := Nat.mod_lt _ (by omega)
  have sa := sgnB_iff a
  have sb := sgnB_iff b
  unfold ordR lessR kOf sgn3
  cases notR a <;> cases notR b <;> cases hsa : sgnB a <;> cases hsb : sgnB b <;> simp only [hsa, hsb, Bool.false_eq_true, false_iff, true_iff, iff_false, not_or, Bool.and_self, Bool.and_true, Bool.and_false, Bool.false_and, Bool.true_and, Bool.or_self, Bool.or_true, Bool.or_false, Bool.false_or, Bool.true_or, if_true, if_false, decide_eq_true_eq] at * <;> (repeat' split) <;> omega
theorem ordF_eq (a b : Nat) (ha : W64 a) (hb : W64 b) : ordF a b = sgn3 (kOf a) (kOf b) := by
  rw [← ordR_eq a b ha hb]
  unfold ordF clsI
  rw [nanB_eq a ha, nanB_eq b hb]
  cases hna : notR a
  · cases hnb : notR b
    · have ra : a % 9223372036854775808 ≤ 9218868437227405312 := by
        rcases Nat.lt_or_ge 9218868437227405312 (a % 9223372036854775808) with h | h
        · rw [(notR_iff a).2 h] at hna; cases hna
        · exact h
      have rb : b % 9223372036854775808 ≤ 9218868437227405312 := by
        rcases Nat.lt_or_ge 9218868437227405312 (b % 9223372036854775808) with h | h
        · rw [(notR_iff b).2 h] at hnb; cases hnb
        · exact h
      have hlt : (ltF a b = true) = (sval a < sval b) := by
        unfold ltF; rw [order_eq a b ha hb ra rb, cmp3]
        by_cases h : sval a < sval b
        · rw [if_pos h]; simp [h]
        · rw [if_neg h]; split <;> simp [h]
      have hgt : (gtF a b = true) = (sval b < sval a) := by
        unfold gtF; rw [order_eq a b ha hb ra rb, cmp3]
        by_cases h : sval b < sval a
        · rw [if_neg (by omega), if_neg (by omega)]; simp [h]
        · split
          · simp [h]
          · split
            · simp [h]
            · omega
      have heq : (eqF a 0 = true) = (a % 9223372036854775808 = 0) := by
        have e0 : sval 0 = 0 := rfl
        unfold eqF; rw [order_eq a 0 ha (by unfold W64; omega) ra (by omega), cmp3, e0]
        unfold sval
        have hz : valR (a % 9223372036854775808) = 0 ↔ a % 9223372036854775808 = 0 := ⟨fun h => valR_inj (h.trans valR_zero.symm), fun h => by rw [h]; rfl⟩
        rw [← hz]
        generalize valR (a % 9223372036854775808) = u
        cases sgnB a <;> simp only [Bool.false_eq_true, if_false, if_true] <;> (repeat' split) <;> simp <;> omega
      simp only [Bool.false_eq_true, if_false, hlt, hgt, heq]
      rw [if_neg (by omega)]
      have l1 := sval_lt ha hb
      have l2 := sval_lt hb ha
      unfold ordR
      rw [hna, hnb]
      simp only [Bool.and_self, Bool.false_eq_true, if_false, Bool.false_or]
      unfold W64 at ha hb
      have sa := sgnB_iff a
      have sb := sgnB_iff b
      unfold lessR sgnI Lib.compareInt
      generalize sval a = u at *
      generalize sval b = v at *
      cases hsa : sgnB a <;> cases hsb : sgnB b <;> simp only [hsa, hsb, Bool.false_eq_true, false_iff, true_iff, iff_false, not_or, Bool.and_self, Bool.and_true, Bool.and_false, Bool.false_and, Bool.true_and, Bool.or_self, Bool.or_true, Bool.or_false, Bool.false_or, Bool.true_or, if_true, if_false, decide_eq_true_eq] at * <;> (repeat' split) <;> omega
    · unfold ordR Lib.compareInt
      rw [hna, hnb]; simp
  · cases hnb : notR b
    · unfold ordR Lib.compareInt
      rw [hna, hnb]; simp
    · unfold ordR Lib.compareInt
      rw [hna, hnb]; simp
end Go.Proofs.Ythapnanemkjhhaa
