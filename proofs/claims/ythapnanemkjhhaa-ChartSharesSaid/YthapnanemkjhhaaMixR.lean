/- Contracts of the reference's functions that mix numbers and texts: they compute mixB, textB. Condition: a number fits 64 bits, a text is no longer than 2^47 bytes. -/
import Derived.Test.YthapnanemkjhhaaChecked
import Derived.Test.YthapnanemkjhhaaM0
import Derived.Test.YthapnanemkjhhaaKit
import Derived.WalkKit
import Derived.RowKit
import Derived.Deep.QuietTactic
import Derived.BigQuiet
import Derived.WalkSpells
import Derived.Lib.Hide
namespace Go.Proofs.Ythapnanemkjhhaa
open Go.RowKit
set_option linter.unusedVariables false
theorem down_any (x : Nat) (n : Nat) (hx : x < 18446744073709551616) (hn : n < 100) (w : World) : Calls Try.prog 82 #[.int .u64 (x : Int), .int .i64 (n : Int)] w fun e w' => e = .returned (.int .u64 ((x / 2 ^ n : Nat) : Int)) ∧ w' = w := by
  go_enter Try.func82, Try.ntmps82
  go_wp2
  go_loop [0, 5] (fun t i => ∃ k : Nat, k ≤ n ∧ i = .int .i64 (k : Int) ∧ t = .int .u64 ((x / 2 ^ k : Nat) : Int)) (fun _ i => n - (intOf i).toNat)
  case atStart => exact ⟨0, Nat.zero_le _, rfl, by simp⟩
  case round =>
    obtain ⟨k, hk, rfl, rfl⟩ := hrel
    by_cases hlt : k < n
    · generalize hm : x / 2 ^ k = m at *
      have hm2 : m < 18446744073709551616 := by rw [← hm]; exact Nat.lt_of_le_of_lt (Nat.div_le_self _ _) hx
      have HM := Lib.hid hm
      clear hm
      go_wp2
      go_round
      case rel => exact ⟨k + 1, by omega, by go_num, by rw [Nat.pow_succ, ← Nat.div_div_eq_div_mul, HM.out]; go_num⟩
      case measure => simp [intOf]; omega
    · obtain rfl : k = n := by omega
      go_wp2
      go_ret
      exact ⟨rfl, rfl⟩

theorem times_any (x y : BitVec 64) (w : World) : Calls Try.prog 81 #[.int .u64 (x.toNat : Int), .int .u64 (y.toNat : Int)] w fun e w' => e = .returned (.int .u64 ((x * y).toNat : Int)) ∧ w' = w := by
  rw [← timesTo_64]
  generalize hA : x.toNat = A
  generalize hB : y.toNat = B
  have hA' : A < 18446744073709551616 := by rw [← hA]; exact x.isLt
  have hB' : B < 18446744073709551616 := by rw [← hB]; exact y.isLt
  clear hA hB x y
  go_enter Try.func81, Try.ntmps81
  go_wp2
  go_loop [0, 1, 5, 6] (fun a b s i => ∃ k : Nat, k ≤ 64 ∧ i = .int .i64 (k : Int) ∧ s = .int .u64 ((timesTo k (0, A, B)).1 : Int) ∧ a = .int .u64 ((timesTo k (0, A, B)).2.1 : Int) ∧ b = .int .u64 ((timesTo k (0, A, B)).2.2 : Int)) (fun _ _ _ i => 64 - (intOf i).toNat)
  case atStart => exact ⟨0, Nat.zero_le _, rfl, rfl, rfl, rfl⟩
  case round =>
    obtain ⟨k, hk, rfl, rfl, rfl, rfl⟩ := hrel
    by_cases hlt : k < 64
    · obtain ⟨-, h2, h3, h4⟩ := timesTo_inv k A B hA'
      have h5 : (timesTo k (0, A, B)).2.2 < 18446744073709551616 := by rw [h2]; exact Nat.lt_of_le_of_lt (Nat.div_le_self _ _) hB'
      have HS : Hid (timesTo (k + 1) (0, A, B) = (let t := timesTo k (0, A, B); (if t.2.2 % 2 = 1 then (t.1 + t.2.1) % 2 ^ 64 else t.1, (t.2.1 + t.2.1) % 2 ^ 64, t.2.2 / 2))) := Lib.hid rfl
      clear h2
      generalize timesTo k (0, A, B) = t at *
      obtain ⟨s, a, b⟩ := t
      dsimp only at *
      by_cases hodd : b % 2 = 1
      · have hodd' : (((b : Int) % 2) == 1) = true := by simp; omega
        have HO := Lib.hid hodd
        clear hodd
        go_wp2
        go_round
        case rel =>
          refine ⟨k + 1, by omega, by go_num, ?_⟩
          rw [HS.out, if_pos HO.out]
          exact ⟨by rw [IntKind.wrap_u64]; go_num, by rw [IntKind.wrap_u64]; go_num, by go_num⟩
        case measure => simp [intOf]; omega
      · have hodd' : (((b : Int) % 2) == 1) = false := by simp; omega
        have HO := Lib.hid hodd
        clear hodd
        go_wp2
        go_round
        case rel =>
          refine ⟨k + 1, by omega, by go_num, ?_⟩
          rw [HS.out, if_neg HO.out]
          exact ⟨by go_num, by rw [IntKind.wrap_u64]; go_num, by go_num⟩
        case measure => simp [intOf]; omega
    · obtain rfl : k = 64 := by omega
      go_wp2
      go_ret
      exact ⟨rfl, rfl⟩

theorem down_u (x : Int) (h : U64 x) (n : Int) (hn : n = 30 ∨ n = 27 ∨ n = 31) (w : World) : Calls Try.prog 82 #[.int .u64 x, .int .i64 n] w fun e w' => e = .returned (.int .u64 (wI (bI x >>> n.toNat))) ∧ w = w' := by
  obtain ⟨v, rfl⟩ := h
  obtain ⟨k, rfl⟩ := Int.eq_ofNat_of_zero_le (show 0 ≤ n by omega)
  rw [show bI (v.toNat : Int) = v from bI_wI v]
  have e : wI (v >>> Int.toNat (k : Int)) = ((v.toNat / 2 ^ k : Nat) : Int) := by
    show (((v >>> k).toNat : Nat) : Int) = _
    rw [BitVec.toNat_ushiftRight, Nat.shiftRight_eq_div_pow]
  rw [e]
  exact (down_any v.toNat k v.isLt (by omega) w).mono fun _ _ ⟨a, b⟩ => ⟨a, b.symm⟩

theorem times_u (x y : Int) (h : U64 x) (h' : U64 y) (w : World) : Calls Try.prog 81 #[.int .u64 x, .int .u64 y] w fun e w' => e = .returned (.int .u64 (wI (bI x * bI y))) ∧ w = w' := by
  obtain ⟨v, rfl⟩ := h
  obtain ⟨u, rfl⟩ := h'
  rw [show bI (v.toNat : Int) = v from bI_wI v, show bI (u.toNat : Int) = u from bI_wI u]
  exact (times_any v u w).mono fun _ _ ⟨a, b⟩ => ⟨a, b.symm⟩

theorem rmix_any (x : Int) (h : U64 x) (w : World) : Calls Try.prog 69 #[.int .u64 x] w fun e w' => e = .returned (.int .u64 (wI (mixB (bI x)))) ∧ w = w' := by
  go_enter Try.func69, Try.ntmps69
  go_wp2_with fail
  refine (down_u _ h _ (.inl rfl) _).mono ?_
  rintro e w1 ⟨rfl, rfl⟩
  go_wp2_with fail
  refine (times_u _ 13787848793156543929 (U64.bits _ _ _) ⟨13787848793156543929#64, rfl⟩ _).mono ?_
  rintro e w1 ⟨rfl, rfl⟩
  go_wp2_with fail
  refine (down_u _ (U64.of' _) _ (.inr (.inl rfl)) _).mono ?_
  rintro e w1 ⟨rfl, rfl⟩
  go_wp2_with fail
  refine (times_u _ 10723151780598845931 (U64.bits _ _ _) ⟨10723151780598845931#64, rfl⟩ _).mono ?_
  rintro e w1 ⟨rfl, rfl⟩
  go_wp2_with fail
  refine (down_u _ (U64.of' _) _ (.inr (.inr rfl)) _).mono ?_
  rintro e w1 ⟨rfl, rfl⟩
  go_wp2
  go_ret
  refine ⟨ret_int ?_, rfl⟩
  rw [← (U64.bits .xor (wI _) (wI _)).wI]
  simp only [bI_xor, bI_wI]
  unfold mixB stepB
  rw [BitVec.mul_one]
  rfl

theorem rtext_any (s : ByteArray) (hs : s.size ≤ 140737488351232) (x : Int) (h : U64 x) (w : World) : Calls Try.prog 70 #[.string s, .int .u64 x] w fun e w' => e = .returned (.int .u64 (wI (textB s.data.toList (bI x)))) ∧ w = w' := by
  go_enter Try.func70, Try.ntmps70
  go_wp2_with (go_at_call 69; refine (rmix_any _ (U64.wrap _) _).mono ?_; rintro e w1 ⟨rfl, rfl⟩)
  go_loop [5, 6] (fun t i => ∃ k : Nat, k ≤ s.size ∧ i = .int .i64 (k : Int) ∧ t = .int .u64 (wI (textTo s.data.toList (bI x) k))) (fun _ i => s.size - (intOf i).toNat)
  case atStart =>
    refine ⟨0, Nat.zero_le _, rfl, ?_⟩
    rw [textTo_zero, bI_wrap, bI_add, bI_nat]
    rfl
  case round =>
    obtain ⟨k, hk, rfl, rfl⟩ := hrel
    by_cases hlt : k < s.size
    · go_wp2_with (go_at_call 69; refine (rmix_any _ (U64.bits _ _ _) _).mono ?_; rintro e w1 ⟨rfl, rfl⟩)
      go_round
      case rel =>
        refine ⟨k + 1, by omega, by go_num, ?_⟩
        rw [bI_xor, bI_wI, bI_wrap, bI_nat, textTo_succ _ _ _ hlt]; rfl
      case measure => simp [intOf]; omega
    · obtain rfl : k = s.size := by omega
      go_wp2
      go_ret
      refine ⟨ret_int ?_, rfl⟩
      rw [← textTo_all]; rfl
end Go.Proofs.Ythapnanemkjhhaa
