/- Plain: the least and the greatest part of shares, by the reference's order. Condition: words of 64 bits. -/
import Derived.Test.YthapnanemkjhhaaSpread2
import Derived.Test.YthapnanemkjhhaaFloatP
namespace Go.Proofs.Ythapnanemkjhhaa
open Go.RowKit
theorem sgn3_neg {x y : Int} : sgn3 x y < 0 ↔ x < y := by unfold sgn3; split <;> (try split) <;> omega
theorem sgn3_pos {x y : Int} : 0 < sgn3 x y ↔ y < x := by unfold sgn3; split <;> (try split) <;> omega
theorem sgn3_zero {x y : Int} : sgn3 x y = 0 ↔ x = y := by unfold sgn3; split <;> (try split) <;> omega
theorem minTo_ok (xs : List ShareD) (hw : ∀ x ∈ xs, W64 x.part) (k : Nat) (h0 : 0 < k) (hk : k ≤ xs.length) :
    minTo xs k ∈ xs ∧ ∀ x ∈ xs.take k, kOf (minTo xs k).part ≤ kOf x.part := by
  induction k with
  | zero => omega
  | succ k ih =>
    by_cases hk0 : k = 0
    · subst hk0
      cases xs with
      | nil => simp at hk
      | cons y l => exact ⟨List.mem_cons_self, fun x hx => by simp at hx; subst hx; exact Int.le_refl _⟩
    · have ⟨i1, i2⟩ := ih (by omega) (by omega)
      have hlt : k < xs.length := hk
      have hx := List.getElem_mem hlt
      rw [minTo_succ xs k (by omega) hlt]
      unfold minStep
      rw [ordF_eq _ _ (hw _ hx) (hw _ i1)]
      by_cases hc : sgn3 (kOf xs[k].part) (kOf (minTo xs k).part) < 0
      · rw [if_pos hc]
        rw [sgn3_neg] at hc
        refine ⟨hx, fun x h => ?_⟩
        rw [List.take_succ_eq_append_getElem hlt, List.mem_append] at h
        rcases h with h | h
        · have := i2 x h; omega
        · rw [List.mem_singleton] at h; subst h; exact Int.le_refl _
      · rw [if_neg hc]
        rw [sgn3_neg] at hc
        refine ⟨i1, fun x h => ?_⟩
        rw [List.take_succ_eq_append_getElem hlt, List.mem_append] at h
        rcases h with h | h
        · exact i2 x h
        · rw [List.mem_singleton] at h; subst h; omega
theorem maxTo_ok (xs : List ShareD) (hw : ∀ x ∈ xs, W64 x.part) (k : Nat) (h0 : 0 < k) (hk : k ≤ xs.length) :
    maxTo xs k ∈ xs ∧ ∀ x ∈ xs.take k, kOf x.part ≤ kOf (maxTo xs k).part := by
  induction k with
  | zero => omega
  | succ k ih =>
    by_cases hk0 : k = 0
    · subst hk0
      cases xs with
      | nil => simp at hk
      | cons y l => exact ⟨List.mem_cons_self, fun x hx => by simp at hx; subst hx; exact Int.le_refl _⟩
    · have ⟨i1, i2⟩ := ih (by omega) (by omega)
      have hlt : k < xs.length := hk
      have hx := List.getElem_mem hlt
      rw [maxTo_succ xs k (by omega) hlt]
      unfold maxStep
      rw [ordF_eq _ _ (hw _ hx) (hw _ i1)]
      by_cases hc : 0 < sgn3 (kOf xs[k].part) (kOf (maxTo xs k).part)
      · rw [if_pos hc]
        rw [sgn3_pos] at hc
        refine ⟨hx, fun x h => ?_⟩
        rw [List.take_succ_eq_append_getElem hlt, List.mem_append] at h
        rcases h with h | h
        · have := i2 x h; omega
        · rw [List.mem_singleton] at h; subst h; exact Int.le_refl _
      · rw [if_neg hc]
        rw [sgn3_pos] at hc
        refine ⟨i1, fun x h => ?_⟩
        rw [List.take_succ_eq_append_getElem hlt, List.mem_append] at h
        rcases h with h | h
        · exact i2 x h
        · rw [List.mem_singleton] at h; subst h; omega
def eqTo (a : Nat) (xs : List ShareD) (k : Nat) : Bool := (xs.take k).any fun x => ordR a x.part == 0
theorem eqTo_succ (a : Nat) (xs : List ShareD) (k : Nat) (h : k < xs.length) : eqTo a xs (k + 1) = (eqTo a xs k || (ordR a xs[k].part == 0)) := by
  unfold eqTo
  rw [List.take_succ_eq_append_getElem h, List.any_append]; simp
theorem low_ok (xs : List ShareD) (hw : ∀ x ∈ xs, W64 x.part) (h0 : 0 < xs.length) :
    W64 (lowOf xs) ∧ (∀ x ∈ xs, ordR (lowOf xs) x.part ≤ 0) ∧ eqTo (lowOf xs) xs xs.length = true := by
  obtain ⟨h1, h2⟩ := minTo_ok xs hw xs.length h0 (Nat.le_refl _)
  have e : lowOf xs = (minTo xs xs.length).part := by unfold lowOf; rw [if_neg (by omega)]
  rw [e]
  refine ⟨hw _ h1, fun x hx => ?_, ?_⟩
  · rw [ordR_eq _ _ (hw _ h1) (hw _ hx)]
    have := h2 x (by rw [List.take_length]; exact hx)
    have hn : ¬ 0 < sgn3 (kOf (minTo xs xs.length).part) (kOf x.part) := by rw [sgn3_pos]; omega
    omega
  · unfold eqTo
    rw [List.take_length, List.any_eq_true]
    exact ⟨_, h1, by rw [beq_iff_eq, ordR_eq _ _ (hw _ h1) (hw _ h1), sgn3_zero]⟩
theorem high_ok (xs : List ShareD) (hw : ∀ x ∈ xs, W64 x.part) (h0 : 0 < xs.length) :
    W64 (highOf xs) ∧ (∀ x ∈ xs, 0 ≤ ordR (highOf xs) x.part) ∧ eqTo (highOf xs) xs xs.length = true := by
  obtain ⟨h1, h2⟩ := maxTo_ok xs hw xs.length h0 (Nat.le_refl _)
  have e : highOf xs = (maxTo xs xs.length).part := by unfold highOf; rw [if_neg (by omega)]
  rw [e]
  refine ⟨hw _ h1, fun x hx => ?_, ?_⟩
  · rw [ordR_eq _ _ (hw _ h1) (hw _ hx)]
    have := h2 x (by rw [List.take_length]; exact hx)
    have hn : ¬ sgn3 (kOf (maxTo xs xs.length).part) (kOf x.part) < 0 := by rw [sgn3_neg]; omega
    omega
  · unfold eqTo
    rw [List.take_length, List.any_eq_true]
    exact ⟨_, h1, by rw [beq_iff_eq, ordR_eq _ _ (hw _ h1) (hw _ h1), sgn3_zero]⟩
end Go.Proofs.Ythapnanemkjhhaa
