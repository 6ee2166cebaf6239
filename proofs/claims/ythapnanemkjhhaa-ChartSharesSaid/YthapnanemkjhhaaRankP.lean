/- Contracts of the program's rank: Weight, the comparison, Order, Top. Condition: keys no longer than 2^47 bytes, at most 19 devices. -/
import Derived.Test.YthapnanemkjhhaaMixP
import Derived.Test.YthapnanemkjhhaaRank
import Derived.Test.YthapnanemkjhhaaSlices
import Derived.Deep.QuietTactic
import Derived.BigQuiet
import Derived.Outline
import Derived.Shelf.SlSortCmp.QuietGrown
namespace Go.Proofs.Ythapnanemkjhhaa
open Go.RowKit
set_option linter.unusedVariables false
theorem weight_any (s : ByteArray) (hs : s.size ≤ 140737488351232) (x : Int) (w : World) : Calls Try.prog 68 #[.string s, .int .i64 x] w fun e w' => e = .returned (.int .u64 (wI (wt s x))) ∧ Grew w w' := by
  go_enter Try.func68, Try.ntmps68
  go_wp2_with fail
  refine (text_any s hs 0 ⟨0#64, rfl⟩ _).mono ?_
  rintro e w1 ⟨rfl, hb1⟩
  go_wp2_with fail
  refine (pair_any _ _ (U64.of' _) (U64.wrap _) _).mono ?_
  rintro e w2 ⟨rfl, hb2⟩
  go_wp2
  go_ret
  refine ⟨ret_int ?_, hb1.trans hb2⟩
  rw [bI_wI, bI_wrap]; rfl
def cmpU (x y : Int) : Int := if x < y then -1 else if y < x then 1 else 0
theorem compareU_any (x y : Int) (w : World) : Calls Try.prog 67 #[.int .u64 x, .int .u64 y] w fun e w' => e = .returned (.int .i64 (cmpU x y)) ∧ w = w' := by
  by_cases h1 : x < y
  · have hf : cmpU x y = -1 := by unfold cmpU; rw [if_pos h1]
    rw [hf]
    clear hf
    go_enter Try.func67, Try.ntmps67
    go_wp2
    go_ret
    exact ⟨rfl, rfl⟩
  · by_cases h2 : y < x
    · have hf : cmpU x y = 1 := by unfold cmpU; rw [if_neg h1, if_pos h2]
      rw [hf]
      clear hf
      go_enter Try.func67, Try.ntmps67
      go_wp2
      go_ret
      exact ⟨rfl, rfl⟩
    · have hf : cmpU x y = 0 := by unfold cmpU; rw [if_neg h1, if_neg h2]
      rw [hf]
      clear hf
      go_enter Try.func67, Try.ntmps67
      go_wp2
      go_ret
      exact ⟨rfl, rfl⟩
/-- the comparison of two devices: the greater weight goes ahead -/
def cmpW (s : ByteArray) (x y : Int) : Int := cmpU (wI (wt s y)) (wI (wt s x))
theorem orderCmp_any (s : ByteArray) (hs : s.size ≤ 140737488351232) (b : Nat) (x y : Int) (w : World) (hc : w.cell? ⟨b, 0, none⟩ = some (.string s)) (hb : b < w.heap.size) :
    Calls Try.prog 66 #[.int .i64 x, .int .i64 y, .pointer (some ⟨b, 0, none⟩)] w fun e w' => e = .returned (.int .i64 (cmpW s x y)) ∧ Grew w w' := by
  go_enter Try.func66, Try.ntmps66
  have hmo : Try.prog.follows .mixedOrders = true := by kernel_rfl
  have hcg := cell_grown hb hc
  clear hc
  go_wp2_with fail
  go_quiet_grown (first | (go_at_call 68; exact Calls.grown_of (weight_any s hs _ _)) | (go_at_call 67; exact Calls.grown_of ((compareU_any _ _ _).mono fun _ _ ⟨he, hw⟩ => ⟨he, by rw [← hw]; exact Grew.refl _⟩)))
  go_wp2
  go_ret
  exact ⟨rfl, ⟨_, _, rfl⟩⟩
end Go.Proofs.Ythapnanemkjhhaa
