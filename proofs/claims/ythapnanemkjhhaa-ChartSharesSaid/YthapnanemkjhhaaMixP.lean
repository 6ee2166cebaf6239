/- Contracts of the program's functions that mix numbers and texts: they compute mixB, textB, pairB. Condition: a number fits 64 bits, a text is no longer than 2^47 bytes. -/
import Derived.Test.YthapnanemkjhhaaChecked
import Derived.Test.YthapnanemkjhhaaM0
import Derived.Test.YthapnanemkjhhaaKit
import Derived.WalkKit
import Derived.RowKit
import Derived.Deep.QuietTactic
import Derived.BigQuiet
import Derived.WalkSpells
import Derived.Lib.Hide
namespace Go.Proofs.Ythapnanemkjhhaa
open Go.RowKit
set_option linter.unusedVariables false
theorem rounds_any (w : World) : Calls Try.prog 115 #[] w fun e w' => e = .returned (.agg #[.int .u64 30, .int .u64 0xbf58476d1ce4e5b9, .int .u64 27, .int .u64 0x94d049bb133111eb, .int .u64 31, .int .u64 1]) ∧ Grew w w' := by
  go_enter Try.func115, Try.ntmps115
  go_wp2
  exact bodyPost_ret (v := .agg #[.int .u64 30, .int .u64 0xbf58476d1ce4e5b9, .int .u64 27, .int .u64 0x94d049bb133111eb, .int .u64 31, .int .u64 1]) (by simp [results, Try.results115, go_sem]) rfl ⟨rfl, (Grew.refl _).alloc _⟩

theorem mix_i (x : Int) (w : World) (_h0 : 0 ≤ x) (_h1 : x < 18446744073709551616) (y : Int)
   (hy : IntKind.u64.wrap (bits .xor .u64 (IntKind.u64.wrap (bits .xor .u64 (IntKind.u64.wrap (bits .xor .u64 x (x / 1073741824) * 13787848793156543929)) (IntKind.u64.wrap (bits .xor .u64 x (x / 1073741824) * 13787848793156543929) / 134217728) * 10723151780598845931)) (IntKind.u64.wrap (bits .xor .u64 (IntKind.u64.wrap (bits .xor .u64 x (x / 1073741824) * 13787848793156543929)) (IntKind.u64.wrap (bits .xor .u64 x (x / 1073741824) * 13787848793156543929) / 134217728) * 10723151780598845931) / 2147483648)) = y) :
    Calls Try.prog 104 #[.int .u64 x] w fun e w' => e = .returned (.int .u64 y) ∧ Grew w w' := by
  have i0 : ∀ (w : World), (Instr.index 130 (.agg #[.int .u64 30, .int .u64 0xbf58476d1ce4e5b9, .int .u64 27, .int .u64 0x94d049bb133111eb, .int .u64 31, .int .u64 1]) (.int .i64 0)).run Try.prog w = .ok (.agg #[.int .u64 30, .int .u64 0xbf58476d1ce4e5b9]) w := fun _ => by kernel_rfl
  have i1 : ∀ (w : World), (Instr.index 130 (.agg #[.int .u64 30, .int .u64 0xbf58476d1ce4e5b9, .int .u64 27, .int .u64 0x94d049bb133111eb, .int .u64 31, .int .u64 1]) (.int .i64 1)).run Try.prog w = .ok (.agg #[.int .u64 27, .int .u64 0x94d049bb133111eb]) w := fun _ => by kernel_rfl
  have i2 : ∀ (w : World), (Instr.index 130 (.agg #[.int .u64 30, .int .u64 0xbf58476d1ce4e5b9, .int .u64 27, .int .u64 0x94d049bb133111eb, .int .u64 31, .int .u64 1]) (.int .i64 2)).run Try.prog w = .ok (.agg #[.int .u64 31, .int .u64 1]) w := fun _ => by kernel_rfl
  have HY := Lib.hid hy
  clear hy
  go_enter Try.func104, Try.ntmps104
  go_wp2_with (go_at_call 115; refine (rounds_any _).mono ?_; rintro e w1 ⟨rfl, hb⟩)
  refine wp_loop_rounds 4 ?_
  rw [rounds_succ]
  go_wp2
  rw [rounds_succ]
  go_wp2
  rw [rounds_succ]
  go_wp2
  rw [rounds_succ]
  go_wp2
  go_ret
  exact ⟨ret_int HY.out, ((hb.alloc _).alloc _).alloc _⟩

theorem mix_any (v : BitVec 64) (w : World) : Calls Try.prog 104 #[.int .u64 (v.toNat : Int)] w fun e w' => e = .returned (.int .u64 ((mixB v).toNat : Int)) ∧ Grew w w' :=
  mix_i _ w (Int.natCast_nonneg _) (by have := v.isLt; omega) _ (mixI v)

theorem U64.wf {x : Int} (h : (Lit.int .u64 x).wf = true) : U64 x := by
  have hx : 0 ≤ x ∧ x ≤ 18446744073709551615 := by simpa [Lit.wf, IntKind.min, IntKind.max, IntKind.signed, IntKind.bits] using h
  refine ⟨BitVec.ofInt 64 x, ?_⟩
  rw [BitVec.toNat_ofInt, Int.toNat_of_nonneg (Int.emod_nonneg x (by decide : ((2 ^ 64 : Nat) : Int) ≠ 0))]
  exact (Int.emod_eq_of_lt hx.1 (by omega)).symm

theorem mix_u (x : Int) (h : U64 x) (w : World) : Calls Try.prog 104 #[.int .u64 x] w fun e w' => e = .returned (.int .u64 (wI (mixB (bI x)))) ∧ Grew w w' := by
  obtain ⟨v, rfl⟩ := h; rw [show bI (v.toNat : Int) = v from bI_wI v]; exact mix_any v w

theorem text_any (s : ByteArray) (hs : s.size ≤ 140737488351232) (x : Int) (h : U64 x) (w : World) : Calls Try.prog 80 #[.string s, .int .u64 x] w fun e w' => e = .returned (.int .u64 (wI (textB s.data.toList (bI x)))) ∧ Grew w w' := by
  go_enter Try.func80, Try.ntmps80
  go_wp2_with (go_at_call 104; refine (mix_u _ (U64.wrap _) _).mono ?_; rintro e w1 ⟨rfl, hb1⟩)
  go_loopw [5, 15] (fun t i wr => ∃ k : Nat, k ≤ s.size ∧ i = .int .i64 (k : Int) ∧ t = .int .u64 (wI (textTo s.data.toList (bI x) k)) ∧ Grew w wr) (fun _ i _ => s.size - (intOf i).toNat)
  case atStart =>
    refine ⟨0, Nat.zero_le _, rfl, ?_, hb1⟩
    rw [textTo_zero, bI_wrap, bI_add, bI_nat]
    rfl
  case round =>
    obtain ⟨k, hk, rfl, rfl, hb⟩ := hrel
    by_cases hlt : k < s.size
    · go_wp2_with (go_at_call 104; refine (mix_u _ (U64.bits _ _ _) _).mono ?_; rintro e w1 ⟨rfl, hb1⟩)
      go_roundw
      case rel =>
        refine ⟨k + 1, by omega, by go_num, ?_, hb.trans hb1⟩
        rw [bI_xor, bI_wI, bI_wrap, bI_nat, textTo_succ _ _ _ hlt]; rfl
      case measure => simp [intOf]; omega
    · obtain rfl : k = s.size := by omega
      go_wp2
      go_ret
      refine ⟨ret_int ?_, hb⟩
      rw [← textTo_all]; rfl

theorem pair_any (x y : Int) (h : U64 x) (h' : U64 y) (w : World) : Calls Try.prog 79 #[.int .u64 x, .int .u64 y] w fun e w' => e = .returned (.int .u64 (wI (pairB (bI x) (bI y)))) ∧ Grew w w' := by
  go_enter Try.func79, Try.ntmps79
  go_wp2_with fail
  refine (mix_u _ h' _).mono ?_
  rintro e w1 ⟨rfl, hb1⟩
  go_wp2_with fail
  refine (mix_u _ (U64.bits _ _ _) _).mono ?_
  rintro e w2 ⟨rfl, hb2⟩
  go_wp2
  go_ret
  refine ⟨ret_int ?_, hb1.trans hb2⟩
  rw [bI_xor, bI_wI]; rfl
end Go.Proofs.Ythapnanemkjhhaa
