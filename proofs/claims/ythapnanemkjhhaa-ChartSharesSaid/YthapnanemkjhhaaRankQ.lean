/- Contracts of slices.Contains at ints, rank.without. Condition: fewer than 2^31 elements. -/
import Derived.Test.YthapnanemkjhhaaRank
import Derived.Test.YthapnanemkjhhaaSlices
import Derived.Outline
namespace Go.Proofs.Ythapnanemkjhhaa
open Go.RowKit
set_option linter.unusedVariables false
theorem contains_any (v : Value) (zs : List Int) (x : Int) (w : World) (hv : SlAt w v (zs.map (.int .i64))) :
    Calls Try.prog 55 #[v, .int .i64 x] w fun e w' => e = .returned (.bool (hasB zs x)) ∧ w = w' := by
  obtain ⟨a, n, cap, rfl, HN, hcap, hmax, hc⟩ := hv.opened
  have hn := HN.out
  rcases hc with h0 | ⟨b, off, rfl, hb, hcell⟩
  · subst h0
    have hz : zs = [] := List.eq_nil_of_length_eq_zero hn.symm
    subst hz
    exact (Try.slices_Contains_int_empty a cap x w).mono fun _ _ ⟨he, hw⟩ => ⟨he, hw.symm⟩
  · have h := Try.slices_Contains_int b off n cap zs x w (by omega) hmax (fun j hj => by rw [hcell j hj]; simp [List.getD, hj])
    rw [List.take_of_length_le (by omega)] at h
    exact h.mono fun _ _ ⟨he, hw⟩ => ⟨he, hw.symm⟩

def withoutL (a b : List Int) : List Int := sortI (a.filter fun x => !hasB b x)
theorem filter_snoc (a : List Int) (p : Int → Bool) (k : Nat) (h : k < a.length) : (a.take (k + 1)).filter p = if p a[k] = true then (a.take k).filter p ++ [a[k]] else (a.take k).filter p := by
  rw [List.take_succ_eq_append_getElem h, List.filter_append]
  split
  · rename_i hp; simp [hp]
  · rename_i hp; simp [hp]
set_option maxHeartbeats 1000000 in
theorem without_any (va vb : Value) (a b : List Int) (w : World) (ha : SlAt w va (a.map (.int .i64))) (hb : SlAt w vb (b.map (.int .i64))) (hlen : a.length < 2147483648) :
    Calls Try.prog 52 #[va, vb] w fun e w' => ∃ v', e = .returned v' ∧ w'.ownsRow w.heap.size 3 1 v' (withoutL a b).length ((withoutL a b).map (.int .i64)) ∧ Below w.heap.size w w' := by
  obtain ⟨pa, n, cap, rfl, HN, hcap, hmax, hc⟩ := ha.opened
  have HC := Lib.hid hc
  have HB := Lib.hid hb
  have hn : n < 2147483648 := by rw [HN.out]; exact hlen
  clear hc hb ha hlen
  go_enter Try.func52, Try.ntmps52
  go_wp2
  go_loopw [5, 10] (fun v i wr => ∃ k m : Nat, k ≤ n ∧ i = .int .i64 (k : Int) ∧ m ≤ k ∧ Hid (m = ((a.take k).filter fun x => !hasB b x).length) ∧ wr.ownsRow w.heap.size 3 1 v m (((a.take k).filter fun x => !hasB b x).map (.int .i64)) ∧ Below w.heap.size w wr) (fun _ i _ => n - (intOf i).toNat)
  case atStart => exact ⟨0, 0, Nat.zero_le _, rfl, Nat.le_refl _, Lib.hid rfl, World.ownsRow_nil _ _ _ _, Below.refl _ _⟩
  case round =>
    obtain ⟨k, m, hk, rfl, hm, HM, hown, hB⟩ := hrel
    have hsz := hB.size
    by_cases hlt : k < n
    · have hk2 : k < a.length := by rw [← HN.out]; exact hlt
      rcases HC.out with h0 | ⟨bb, off, rfl, hbb, hcell⟩
      · omega
      · have hc := (hB.cell (p := ⟨bb, off + k, none⟩) hbb).trans (hcell k hk2)
        have HS := Lib.hid (filter_snoc a (fun x => !hasB b x) k hk2)
        generalize a[k] = z at *
        clear hcell
        cases hh : hasB b z with
        | true =>
          have HH := Lib.hid hh
          go_wp2_with (go_at_call 55; refine (contains_any _ b _ _ (HB.out.below hB)).mono ?_; rintro e w5 ⟨rfl, rfl⟩)
          go_roundw
          case rel =>
            refine ⟨k + 1, m, by omega, by go_num, by omega, ?_, ?_, hB⟩
            · rw [HS.out, HH.out]; exact HM
            · rw [HS.out, HH.out]; exact hown
          case measure => simp [intOf]; omega
        | false =>
          have HH := Lib.hid hh
          go_wp2_with (first | (go_at_call 55; refine (contains_any _ b _ _ (HB.out.below hB)).mono ?_; rintro e w5 ⟨rfl, rfl⟩) | (at_builtin; refine wpList_append1 _ rfl _ _ 23 rfl w.heap.size 3 (.int .i64 0) 8 Try.underlying23 info_int rfl (by decide) hown rfl _ rfl rfl (by omega) hsz ?_; intro v' w1 hap; obtain ⟨g', cap', rfl⟩ := hap.some'))
          go_roundw
          case rel =>
            refine ⟨k + 1, m + 1, by omega, by go_num, by omega, ?_, ?_, hB.trans hap.below⟩
            · rw [HS.out, HH.out, HM.out]; exact Lib.hid (by simp)
            · rw [HS.out, HH.out, if_pos (by decide), List.map_append]; exact hap.own
          case measure => simp [intOf]; omega
    · obtain rfl : k = n := by omega
      have hfin : (a.take k).filter (fun x => !hasB b x) = a.filter (fun x => !hasB b x) := by rw [HN.out, List.take_length]
      rw [hfin] at hown
      have HL : Hid (m = (withoutL a b).length) := by
        have := HM.out; rw [hfin] at this; unfold withoutL; rw [sortI_length]; exact Lib.hid this
      clear hfin
      go_wp2_with fail
      refine (sort_int w.heap.size m _ (a.filter fun x => !hasB b x) _ hown hsz (by omega)).mono ?_
      rintro e w2 ⟨rfl, ht⟩
      go_wp2
      go_ret
      refine ⟨_, rfl, ?_, hB.trans ht.below⟩
      rw [← HL.out]
      exact ht.own
end Go.Proofs.Ythapnanemkjhhaa
