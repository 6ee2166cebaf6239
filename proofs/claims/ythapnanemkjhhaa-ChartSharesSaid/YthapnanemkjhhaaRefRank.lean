/- Contracts of the reference's functions on devices: has, Weight, Order, Has, Top. Condition: serials fit an int, keys are no longer than 2^47 bytes. -/
import Derived.Test.YthapnanemkjhhaaChecked
import Derived.Test.YthapnanemkjhhaaRep
import Derived.Test.YthapnanemkjhhaaInfo
import Derived.Test.YthapnanemkjhhaaRank
import Derived.Test.YthapnanemkjhhaaMixR
namespace Go.Proofs.Ythapnanemkjhhaa
open Go.RowKit
set_option linter.unusedVariables false

theorem has15_any (v : Value) (zs : List Int) (x : Int) (w : World) (hv : SlAt w v (zs.map (.int .i64))) : Calls Try.prog 47 #[v, .int .i64 x] w fun e w' => e = .returned (.bool (hasB zs x)) ∧ w = w' := by
  obtain ⟨a, n, cap, rfl, HN, hcap, hmax, hc⟩ := hv.opened
  have hfin1 : (∀ j, j < n → zs[j]? ≠ some x) → hasB zs x = false := by
    intro h
    rw [Bool.eq_false_iff, ne_eq, hasB_iff]
    intro hx
    obtain ⟨j, hj, he⟩ := List.getElem_of_mem hx
    exact h j (by rw [HN.out]; exact hj) (by rw [List.getElem?_eq_getElem hj, he])
  have hfin2 : ∀ j, zs[j]? = some x → hasB zs x = true := fun j h => (hasB_iff _ _).2 (List.mem_of_getElem? h)
  have HF1 := Lib.hid hfin1
  have HF2 := Lib.hid hfin2
  clear hfin1 hfin2
  have HC := Lib.hid hc
  clear hc
  go_enter Try.func47, Try.ntmps47
  go_wp2
  go_loop [9] (fun i => ∃ k : Nat, k ≤ n ∧ i = .int .i64 (k : Int) ∧ ∀ j, j < k → zs[j]? ≠ some x) (fun i => n - (intOf i).toNat)
  case atStart => exact ⟨0, Nat.zero_le _, rfl, fun j hj => by omega⟩
  case round =>
    obtain ⟨k, hk, rfl, hno⟩ := hrel
    have HO := Lib.hid hno
    clear hno
    by_cases hlt : k < n
    · have hk2 : k < zs.length := by rw [← HN.out]; exact hlt
      rcases HC.out with h0 | ⟨b, off, rfl, hb, hcell⟩
      · omega
      · have hc := hcell k hk2
        by_cases he : x = zs[k]
        · have he' : (x == zs[k]) = true := by simpa using he
          have HE := Lib.hid he
          clear he hcell
          go_wp2
          go_ret
          exact ⟨ret_bool (HF2.out k (by rw [List.getElem?_eq_getElem hk2, ← HE.out])).symm, rfl⟩
        · have he' : (x == zs[k]) = false := by simpa using he
          have HE := Lib.hid he
          clear he hcell
          go_wp2
          go_round
          case rel =>
            refine ⟨k + 1, by omega, by go_num, fun j hj => ?_⟩
            by_cases hjk : j = k
            · subst hjk
              rw [List.getElem?_eq_getElem hk2]
              intro h
              exact HE.out (by injection h with h; exact h.symm)
            · exact HO.out j (by omega)
          case measure => simp [intOf]; omega
    · obtain rfl : k = n := by omega
      go_wp2
      go_ret
      exact ⟨ret_bool (HF1.out HO.out).symm, rfl⟩


theorem weight15_any (s : ByteArray) (hs : s.size ≤ 140737488351232) (x : Int) (w : World) : Calls Try.prog 48 #[.string s, .int .i64 x] w fun e w' => e = .returned (.int .u64 (wI (wt s x))) ∧ w = w' := by
  go_enter Try.func48, Try.ntmps48
  go_wp2_with fail
  refine (rtext_any s hs 0 ⟨0#64, rfl⟩ _).mono ?_
  rintro e w1 ⟨rfl, rfl⟩
  go_wp2_with fail
  refine (rmix_any _ (U64.wrap _) _).mono ?_
  rintro e w1 ⟨rfl, rfl⟩
  go_wp2_with fail
  refine (rmix_any _ (U64.bits _ _ _) _).mono ?_
  rintro e w1 ⟨rfl, rfl⟩
  go_wp2
  go_ret
  refine ⟨ret_int ?_, rfl⟩
  rw [bI_xor, bI_wI, bI_wI, bI_wrap]; rfl

set_option maxRecDepth 100000 in
set_option maxHeartbeats 4000000 in
theorem order15_any (s : ByteArray) (hs : s.size ≤ 140737488351232) (v : Value) (zs : List Int) (w : World) (hv : SlAt w v (zs.map (.int .i64))) (hpos : ∀ z ∈ zs, 0 ≤ z) (hlen : zs.length < 4294967296) :
    Calls Try.prog 26 #[.string s, v] w fun e w' => ∃ v', e = .returned v' ∧ SlIn w.heap.size w'.heap.size w' v' ((refOrder s zs).map (.int .i64)) ∧ Below w.heap.size w w' := by
  obtain ⟨a, n, cap, rfl, HN, hcap, hmax, hc⟩ := hv.opened
  have HC := Lib.hid hc
  have HP := Lib.hid hpos
  have hn : n < 4294967296 := by rw [HN.out]; exact hlen
  clear hc hpos hv hlen
  go_enter Try.func26, Try.ntmps26
  go_wp2
  go_loopw [5, 6] (fun v i wr => ∃ t m : Nat, t ≤ n ∧ i = .int .i64 (t : Int) ∧ m ≤ t ∧ wr.ownsRow w.heap.size 3 1 v m ((refTo s zs t).map (.int .i64)) ∧ Below w.heap.size w wr) (fun _ i _ => n - (intOf i).toNat)
  case atStart =>
    exact ⟨0, 0, Nat.zero_le _, rfl, Nat.le_refl _, World.ownsRow_made w #[] 0 (Nat.le_refl _) (Nat.zero_le _) rfl, (Below.refl _ _).alloc (Nat.le_refl _) _⟩
  case round =>
    obtain ⟨t, m, ht, rfl, hm, hown, hB⟩ := hrel
    have hsz := hB.size
    by_cases hlt : t < n
    · go_wp2
      go_loop [7, 19] (fun bv iv => ∃ (k : Nat) (bt : Int), k ≤ n ∧ iv = .int .i64 (k : Int) ∧ bv = .int .i64 bt ∧ Hid (bt = refBest s (refTo s zs t) (zs.take k))) (fun _ iv => n - (intOf iv).toNat)
      case atStart => exact ⟨0, -1, Nat.zero_le _, rfl, rfl, Lib.hid rfl⟩
      case round =>
        obtain ⟨k, bt, hk, rfl, rfl, HB⟩ := hrel
        by_cases hlk : k < n
        · have hk2 : k < zs.length := by rw [← HN.out]; exact hlk
          have HS := Lib.hid (refBest_snoc s (refTo s zs t) zs k hk2)
          have hz0 := HP.out zs[k] (List.getElem_mem hk2)
          rcases HC.out with h0 | ⟨b, off, rfl, hb, hcell⟩
          · omega
          · have hc := (hB.cell (p := ⟨b, off + k, none⟩) hb).trans (hcell k hk2)
            generalize zs[k] = z at *
            clear hcell
            have hsl := SlAt.owned hown
            by_cases h1 : hasB (refTo s zs t) z = true
            · have H := Lib.hid h1
              go_wp2_with (go_at_call 47; refine (has15_any _ (refTo s zs t) _ _ (SlAt.owned hown)).mono ?_; rintro e w1 ⟨rfl, rfl⟩)
              go_round
              case rel =>
                refine ⟨k + 1, bt, by omega, by go_num, rfl, ?_⟩
                rw [HS.out, ← HB.out, refStep_in H.out]
                exact Lib.hid rfl
              case measure => simp [intOf]; omega
            · have h1' : hasB (refTo s zs t) z = false := by simpa using h1
              have H := Lib.hid h1
              clear h1
              by_cases h2 : bt < 0
              · go_wp2_with (go_at_call 47; refine (has15_any _ (refTo s zs t) _ _ (SlAt.owned hown)).mono ?_; rintro e w1 ⟨rfl, rfl⟩)
                go_round
                case rel =>
                  refine ⟨k + 1, z, by omega, by go_num, rfl, ?_⟩
                  rw [HS.out, ← HB.out, refStep_neg H.out h2]
                  exact Lib.hid rfl
                case measure => simp [intOf]; omega
              · by_cases h3 : wI (wt s bt) < wI (wt s z)
                · have h2' : 0 ≤ bt := Int.not_lt.1 h2
                  clear h2
                  go_wp2_with (first | (go_at_call 47; refine (has15_any _ (refTo s zs t) _ _ (SlAt.owned hown)).mono ?_; rintro e w1 ⟨rfl, rfl⟩) | (go_at_call 48; refine (weight15_any _ hs _ _).mono ?_; rintro e w1 ⟨rfl, rfl⟩))
                  go_round
                  case rel =>
                    refine ⟨k + 1, z, by omega, by go_num, rfl, ?_⟩
                    rw [HS.out, ← HB.out, refStep_gt H.out h2' h3]
                    exact Lib.hid rfl
                  case measure => simp [intOf]; omega
                · have h2' : 0 ≤ bt := Int.not_lt.1 h2
                  have h3' : wI (wt s z) ≤ wI (wt s bt) := Int.not_lt.1 h3
                  clear h2 h3
                  by_cases h4 : wI (wt s z) = wI (wt s bt)
                  · have h4' : (wI (wt s z) == wI (wt s bt)) = true := by simpa using h4
                    have H4 := Lib.hid h4
                    clear h4
                    by_cases h5 : z < bt
                    · go_wp2_with (first | (go_at_call 47; refine (has15_any _ (refTo s zs t) _ _ (SlAt.owned hown)).mono ?_; rintro e w1 ⟨rfl, rfl⟩) | (go_at_call 48; refine (weight15_any _ hs _ _).mono ?_; rintro e w1 ⟨rfl, rfl⟩))
                      go_round
                      case rel =>
                        refine ⟨k + 1, z, by omega, by go_num, rfl, ?_⟩
                        rw [HS.out, ← HB.out, refStep_tie H.out h2' h3' H4.out h5]
                        exact Lib.hid rfl
                      case measure => simp [intOf]; omega
                    · go_wp2_with (first | (go_at_call 47; refine (has15_any _ (refTo s zs t) _ _ (SlAt.owned hown)).mono ?_; rintro e w1 ⟨rfl, rfl⟩) | (go_at_call 48; refine (weight15_any _ hs _ _).mono ?_; rintro e w1 ⟨rfl, rfl⟩))
                      go_round
                      case rel =>
                        refine ⟨k + 1, bt, by omega, by go_num, rfl, ?_⟩
                        rw [HS.out, ← HB.out, refStep_no H.out h2' h3' (fun h => absurd h.2 (by omega))]
                        exact Lib.hid rfl
                      case measure => simp [intOf]; omega
                  · have h4' : (wI (wt s z) == wI (wt s bt)) = false := beq_eq_false_iff_ne.2 h4
                    have hd1 : decide (bt < 0) = false := decide_eq_false (by omega)
                    have hd2 : decide (wI (wt s bt) < wI (wt s z)) = false := decide_eq_false (by omega)
                    have H4 := Lib.hid h4
                    clear h4
                    go_wp2_with (first | (go_at_call 47; refine (has15_any _ (refTo s zs t) _ _ (SlAt.owned hown)).mono ?_; rintro e w1 ⟨rfl, rfl⟩) | (go_at_call 48; refine (weight15_any _ hs _ _).mono ?_; rintro e w1 ⟨rfl, rfl⟩))
                    go_round
                    case rel =>
                      refine ⟨k + 1, bt, by omega, by go_num, rfl, ?_⟩
                      rw [HS.out, ← HB.out, refStep_no H.out h2' h3' (fun h => H4.out h.1)]
                      exact Lib.hid rfl
                    case measure => simp [intOf]; omega
        · obtain rfl : k = n := by omega
          have hall : Hid (refTo s zs (t + 1) = if 0 ≤ bt then refTo s zs t ++ [bt] else refTo s zs t) := by
            rw [HB.out, HN.out, List.take_length]; exact Lib.hid rfl
          by_cases hb0 : 0 ≤ bt
          · go_wp2_with (at_builtin; (refine wpList_append1 wr rfl _ _ 23 rfl w.heap.size 3 (.int .i64 0) 8 Try.underlying23 info_int rfl (by decide) hown rfl (.int .i64 bt) rfl rfl (by omega) hsz ?_); intro v' w1 hap; obtain ⟨g', cap', rfl⟩ := hap.some')
            go_roundw
            case rel =>
              refine ⟨t + 1, m + 1, by omega, by go_num, by omega, ?_, hB.trans hap.below⟩
              rw [hall.out, if_pos hb0, List.map_append]
              exact hap.own
            case measure => simp [intOf]; omega
          · go_wp2
            go_roundw
            case rel =>
              refine ⟨t + 1, m, by omega, by go_num, by omega, ?_, hB⟩
              rw [hall.out, if_neg hb0]
              exact hown
            case measure => simp [intOf]; omega
    · obtain rfl : t = n := by omega
      have hfin : refOrder s zs = refTo s zs t := by unfold refOrder; rw [HN.out]
      have HF := Lib.hid hfin
      clear hfin
      go_wp2
      go_ret
      refine ⟨_, rfl, ?_, hB⟩
      rw [HF.out]
      exact SlIn.owned hown
end Go.Proofs.Ythapnanemkjhhaa
