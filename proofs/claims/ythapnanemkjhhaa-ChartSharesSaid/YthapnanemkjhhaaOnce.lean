/- Contracts of chart's once: things, rising, each once. Condition: fewer than 2^31 elements. -/
import Derived.Test.YthapnanemkjhhaaSlices
namespace Go.Proofs.Ythapnanemkjhhaa
open Go.RowKit
set_option linter.unusedVariables false

def onceI (zs : List Int) : List Int := compI (sortI zs)
theorem once_int_any (v : Value) (zs : List Int) (w : World) (hv : SlAt w v (zs.map (Value.int .i64))) (hlen : zs.length < 2147483648) :
    Calls Try.prog 23 #[v] w fun e w' => ∃ v', e = .returned v' ∧ w'.ownsRow w.heap.size 3 1 v' (onceI zs).length ((onceI zs).map (Value.int .i64)) ∧ Below w.heap.size w w' := by
  obtain ⟨a, n, cap, hv1, -⟩ := hv.opened
  subst hv1
  have HV := Lib.hid hv
  clear hv
  go_enter Try.func23, Try.ntmps23
  go_wp2_with fail
  refine (valuesint_any _ _ _ _).mono ?_
  rintro e w1 ⟨rfl, rfl⟩
  go_wp2_with fail
  refine (sorted_int_any w.heap.size _ zs hlen _ (by simp) (by simp) (HV.out.below ((Below.refl _ _).alloc (Nat.le_refl _) _))).mono ?_
  rintro e w2 ⟨v2, rfl, hr, hb⟩
  have hb' : Below w.heap.size w w2 := ((Below.refl _ w).alloc (Nat.le_refl _) (.cells #[.slice a n cap] 23)).trans (hb.mono (by simp))
  have hr' : w2.ownsRow w.heap.size 3 1 v2 zs.length ((sortI zs).map (Value.int .i64)) := ownsRow_base hr (by simp)
  clear hr hb
  go_wp2_with fail
  refine (compact_int w.heap.size zs.length v2 (sortI zs) _ hr' hb'.size hlen).mono ?_
  rintro e w3 ⟨v3, rfl, ht⟩
  go_wp2
  go_ret
  exact ⟨v3, rfl, ht.own, hb'.trans ht.below⟩

def onceS (zs : List ByteArray) : List ByteArray := compS (sortS zs)
theorem once_string_any (v : Value) (zs : List ByteArray) (w : World) (hv : SlAt w v (zs.map Value.string)) (hlen : zs.length < 2147483648) :
    Calls Try.prog 22 #[v] w fun e w' => ∃ v', e = .returned v' ∧ w'.ownsRow w.heap.size 9 1 v' (onceS zs).length ((onceS zs).map Value.string) ∧ Below w.heap.size w w' := by
  obtain ⟨a, n, cap, hv1, -⟩ := hv.opened
  subst hv1
  have HV := Lib.hid hv
  clear hv
  go_enter Try.func22, Try.ntmps22
  go_wp2_with fail
  refine (valuesstring_any _ _ _ _).mono ?_
  rintro e w1 ⟨rfl, rfl⟩
  go_wp2_with fail
  refine (sorted_string_any w.heap.size _ zs hlen _ (by simp) (by simp) (HV.out.below ((Below.refl _ _).alloc (Nat.le_refl _) _))).mono ?_
  rintro e w2 ⟨v2, rfl, hr, hb⟩
  have hb' : Below w.heap.size w w2 := ((Below.refl _ w).alloc (Nat.le_refl _) (.cells #[.slice a n cap] 22)).trans (hb.mono (by simp))
  have hr' : w2.ownsRow w.heap.size 9 1 v2 zs.length ((sortS zs).map Value.string) := ownsRow_base hr (by simp)
  clear hr hb
  go_wp2_with fail
  refine (compact_string w.heap.size zs.length v2 (sortS zs) _ hr' hb'.size hlen).mono ?_
  rintro e w3 ⟨v3, rfl, ht⟩
  go_wp2
  go_ret
  exact ⟨v3, rfl, ht.own, hb'.trans ht.below⟩
end Go.Proofs.Ythapnanemkjhhaa
