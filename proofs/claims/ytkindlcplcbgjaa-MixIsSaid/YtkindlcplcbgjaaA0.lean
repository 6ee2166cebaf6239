/- Contracts of the functions that mix numbers and texts, and of the reference: both compute mixB, textB. Condition: a number fits 64 bits, a text is no longer than 2^47 bytes. -/
import Derived.Test.YtkindlcplcbgjaaChecked
import Derived.Test.YtkindlcplcbgjaaM0
import Derived.Test.YtkindlcplcbgjaaKit
import Derived.WalkKit
import Derived.RowKit
import Derived.Deep.QuietTactic
import Derived.BigQuiet
import Derived.WalkSpells
import Derived.Lib.Hide
namespace Go.Proofs.Ytkindlcplcbgjaa
open Go.RowKit
set_option linter.unusedVariables false

theorem rounds_any (w : World) : Calls Try.prog 15 #[] w fun e w' => e = .returned (.agg #[.int .u64 30, .int .u64 0xbf58476d1ce4e5b9, .int .u64 27, .int .u64 0x94d049bb133111eb, .int .u64 31, .int .u64 1]) ∧ Below w.heap.size w w' := by
  go_enter Try.func15, Try.ntmps15
  go_wp2
  exact bodyPost_ret (v := .agg #[.int .u64 30, .int .u64 0xbf58476d1ce4e5b9, .int .u64 27, .int .u64 0x94d049bb133111eb, .int .u64 31, .int .u64 1]) (by simp [results, Try.results15, go_sem]) rfl ⟨rfl, (Below.refl _ _).alloc (Nat.le_refl _) _⟩


theorem mix_i (x : Int) (w : World) (_h0 : 0 ≤ x) (_h1 : x < 18446744073709551616) (y : Int)
   (hy : IntKind.u64.wrap (bits .xor .u64 (IntKind.u64.wrap (bits .xor .u64 (IntKind.u64.wrap (bits .xor .u64 x (x / 1073741824) * 13787848793156543929)) (IntKind.u64.wrap (bits .xor .u64 x (x / 1073741824) * 13787848793156543929) / 134217728) * 10723151780598845931)) (IntKind.u64.wrap (bits .xor .u64 (IntKind.u64.wrap (bits .xor .u64 x (x / 1073741824) * 13787848793156543929)) (IntKind.u64.wrap (bits .xor .u64 x (x / 1073741824) * 13787848793156543929) / 134217728) * 10723151780598845931) / 2147483648)) = y) :
    Calls Try.prog 8 #[.int .u64 x] w fun e w' => e = .returned (.int .u64 y) ∧ Below w.heap.size w w' := by
  have i0 : ∀ (w : World), (Instr.index 34 (.agg #[.int .u64 30, .int .u64 0xbf58476d1ce4e5b9, .int .u64 27, .int .u64 0x94d049bb133111eb, .int .u64 31, .int .u64 1]) (.int .i64 0)).run Try.prog w = .ok (.agg #[.int .u64 30, .int .u64 0xbf58476d1ce4e5b9]) w := fun _ => by kernel_rfl
  have i1 : ∀ (w : World), (Instr.index 34 (.agg #[.int .u64 30, .int .u64 0xbf58476d1ce4e5b9, .int .u64 27, .int .u64 0x94d049bb133111eb, .int .u64 31, .int .u64 1]) (.int .i64 1)).run Try.prog w = .ok (.agg #[.int .u64 27, .int .u64 0x94d049bb133111eb]) w := fun _ => by kernel_rfl
  have i2 : ∀ (w : World), (Instr.index 34 (.agg #[.int .u64 30, .int .u64 0xbf58476d1ce4e5b9, .int .u64 27, .int .u64 0x94d049bb133111eb, .int .u64 31, .int .u64 1]) (.int .i64 2)).run Try.prog w = .ok (.agg #[.int .u64 31, .int .u64 1]) w := fun _ => by kernel_rfl
  have HY := Lib.hid hy
  clear hy
  go_enter Try.func8, Try.ntmps8
  go_wp2_with (go_at_call 15; refine (rounds_any _).mono ?_; rintro e w1 ⟨rfl, hb⟩)
  refine wp_loop_rounds 4 ?_
  rw [rounds_succ]
  go_wp2
  rw [rounds_succ]
  go_wp2
  rw [rounds_succ]
  go_wp2
  rw [rounds_succ]
  go_wp2
  go_ret
  exact ⟨ret_int HY.out, ((hb.alloc hb.size _).alloc (by have := hb.size; simp; omega) _).alloc (by have := hb.size; simp; omega) _⟩

theorem mix_any (v : BitVec 64) (w : World) : Calls Try.prog 8 #[.int .u64 (v.toNat : Int)] w fun e w' => e = .returned (.int .u64 ((mixB v).toNat : Int)) ∧ Below w.heap.size w w' :=
  mix_i _ w (Int.natCast_nonneg _) (by have := v.isLt; omega) _ (mixI v)

theorem down_any (x : Nat) (n : Nat) (hx : x < 18446744073709551616) (hn : n < 100) (w : World) : Calls Try.prog 17 #[.int .u64 (x : Int), .int .i64 (n : Int)] w fun e w' => e = .returned (.int .u64 ((x / 2 ^ n : Nat) : Int)) ∧ w' = w := by
  go_enter Try.func17, Try.ntmps17
  go_wp2
  go_loop [0, 5] (fun t i => ∃ k : Nat, k ≤ n ∧ i = .int .i64 (k : Int) ∧ t = .int .u64 ((x / 2 ^ k : Nat) : Int)) (fun _ i => n - (intOf i).toNat)
  case atStart => exact ⟨0, Nat.zero_le _, rfl, by simp⟩
  case round =>
    obtain ⟨k, hk, rfl, rfl⟩ := hrel
    by_cases hlt : k < n
    · generalize hm : x / 2 ^ k = m at *
      have hm2 : m < 18446744073709551616 := by rw [← hm]; exact Nat.lt_of_le_of_lt (Nat.div_le_self _ _) hx
      have HM := Lib.hid hm
      clear hm
      go_wp2
      go_round
      case rel => exact ⟨k + 1, by omega, by go_num, by rw [Nat.pow_succ, ← Nat.div_div_eq_div_mul, HM.out]; go_num⟩
      case measure => simp [intOf]; omega
    · obtain rfl : k = n := by omega
      go_wp2
      go_ret
      exact ⟨rfl, rfl⟩

theorem times_any (x y : BitVec 64) (w : World) : Calls Try.prog 16 #[.int .u64 (x.toNat : Int), .int .u64 (y.toNat : Int)] w fun e w' => e = .returned (.int .u64 ((x * y).toNat : Int)) ∧ w' = w := by
  rw [← timesTo_64]
  generalize hA : x.toNat = A
  generalize hB : y.toNat = B
  have hA' : A < 18446744073709551616 := by rw [← hA]; exact x.isLt
  have hB' : B < 18446744073709551616 := by rw [← hB]; exact y.isLt
  clear hA hB x y
  go_enter Try.func16, Try.ntmps16
  go_wp2
  go_loop [0, 1, 5, 6] (fun a b s i => ∃ k : Nat, k ≤ 64 ∧ i = .int .i64 (k : Int) ∧ s = .int .u64 ((timesTo k (0, A, B)).1 : Int) ∧ a = .int .u64 ((timesTo k (0, A, B)).2.1 : Int) ∧ b = .int .u64 ((timesTo k (0, A, B)).2.2 : Int)) (fun _ _ _ i => 64 - (intOf i).toNat)
  case atStart => exact ⟨0, Nat.zero_le _, rfl, rfl, rfl, rfl⟩
  case round =>
    obtain ⟨k, hk, rfl, rfl, rfl, rfl⟩ := hrel
    by_cases hlt : k < 64
    · obtain ⟨-, h2, h3, h4⟩ := timesTo_inv k A B hA'
      have h5 : (timesTo k (0, A, B)).2.2 < 18446744073709551616 := by rw [h2]; exact Nat.lt_of_le_of_lt (Nat.div_le_self _ _) hB'
      have HS : Hid (timesTo (k + 1) (0, A, B) = (let t := timesTo k (0, A, B); (if t.2.2 % 2 = 1 then (t.1 + t.2.1) % 2 ^ 64 else t.1, (t.2.1 + t.2.1) % 2 ^ 64, t.2.2 / 2))) := Lib.hid rfl
      clear h2
      generalize timesTo k (0, A, B) = t at *
      obtain ⟨s, a, b⟩ := t
      dsimp only at *
      by_cases hodd : b % 2 = 1
      · have hodd' : (((b : Int) % 2) == 1) = true := by simp; omega
        have HO := Lib.hid hodd
        clear hodd
        go_wp2
        go_round
        case rel =>
          refine ⟨k + 1, by omega, by go_num, ?_⟩
          rw [HS.out, if_pos HO.out]
          exact ⟨by rw [IntKind.wrap_u64]; go_num, by rw [IntKind.wrap_u64]; go_num, by go_num⟩
        case measure => simp [intOf]; omega
      · have hodd' : (((b : Int) % 2) == 1) = false := by simp; omega
        have HO := Lib.hid hodd
        clear hodd
        go_wp2
        go_round
        case rel =>
          refine ⟨k + 1, by omega, by go_num, ?_⟩
          rw [HS.out, if_neg HO.out]
          exact ⟨by go_num, by rw [IntKind.wrap_u64]; go_num, by go_num⟩
        case measure => simp [intOf]; omega
    · obtain rfl : k = 64 := by omega
      go_wp2
      go_ret
      exact ⟨rfl, rfl⟩

theorem up_any (v : BitVec 64) (d : Nat) (hd : d = 30 ∨ d = 27 ∨ d = 31) (w : World) : Calls Try.prog 18 #[.int .u64 (v.toNat : Int), .int .u64 (d : Int)] w fun e w' => e = .returned (.int .u64 ((upB v d).toNat : Int)) ∧ w' = w := by
  have hx := v.isLt
  generalize hX : (v.toNat : Int) = x at *
  have h0 : 0 ≤ x := by omega
  rcases hd with rfl | rfl | rfl
  all_goals
    have HX := Lib.hid hX
    clear hX hx
    go_enter Try.func18, Try.ntmps18
    go_wp2
    refine wp_loop_rounds 3 ?_
    rw [rounds_succ]
    go_wp2
    rw [rounds_succ]
    go_wp2
    rw [rounds_succ]
    go_wp2
    go_ret
    refine ⟨ret_int ?_, rfl⟩
    rw [← HX.out]
    first | exact upI v 30 60 | exact upI v 27 54 | exact upI v 31 62

theorem inverse_any (x : BitVec 64) (w : World) : Calls Try.prog 19 #[.int .u64 (x.toNat : Int)] w fun e w' => e = .returned (.int .u64 ((invB x).toNat : Int)) ∧ w' = w := by
  have hx := x.isLt
  generalize hX : (x.toNat : Int) = y at *
  have h0 : 0 ≤ y := by omega
  have HX := Lib.hid hX
  clear hX hx
  go_enter Try.func19, Try.ntmps19
  go_wp2
  refine wp_loop_rounds 6 ?_
  rw [rounds_succ]
  go_wp2
  rw [rounds_succ]
  go_wp2
  rw [rounds_succ]
  go_wp2
  rw [rounds_succ]
  go_wp2
  rw [rounds_succ]
  go_wp2
  rw [rounds_succ]
  go_wp2
  go_ret
  refine ⟨ret_int ?_, rfl⟩
  rw [← HX.out]
  simp only [newtI]
  rfl

/-! the two texts, and the pair -/
theorem U64.wf {x : Int} (h : (Lit.int .u64 x).wf = true) : U64 x := by
  have hx : 0 ≤ x ∧ x ≤ 18446744073709551615 := by simpa [Lit.wf, IntKind.min, IntKind.max, IntKind.signed, IntKind.bits] using h
  refine ⟨BitVec.ofInt 64 x, ?_⟩
  rw [BitVec.toNat_ofInt, Int.toNat_of_nonneg (Int.emod_nonneg x (by decide : ((2 ^ 64 : Nat) : Int) ≠ 0))]
  exact (Int.emod_eq_of_lt hx.1 (by omega)).symm
theorem inverse_at (x : Int) (w : World) (h : x = 13787848793156543929 ∨ x = 10723151780598845931 ∨ x = 1) : Calls Try.prog 19 #[.int .u64 x] w fun e w' => e = .returned (.int .u64 ((invB (BitVec.ofInt 64 x)).toNat : Int)) ∧ w' = w := by
  have hb : U64 x := by
    rcases h with rfl | rfl | rfl
    · exact ⟨13787848793156543929#64, rfl⟩
    · exact ⟨10723151780598845931#64, rfl⟩
    · exact ⟨1#64, rfl⟩
  have := inverse_any (BitVec.ofInt 64 x) w
  rw [hb.back] at this
  exact this

theorem up_at (x : Int) (hx : U64 x) (d : Int) (hd : d = 30 ∨ d = 27 ∨ d = 31) (w : World) : Calls Try.prog 18 #[.int .u64 x, .int .u64 d] w fun e w' => e = .returned (.int .u64 ((upB (BitVec.ofInt 64 x) d.toNat).toNat : Int)) ∧ w' = w := by
  obtain ⟨v, rfl⟩ := hx
  rw [ofInt_toNatB]
  have := up_any v d.toNat (by omega) w
  rw [Int.toNat_of_nonneg (by omega)] at this
  exact this

theorem back_any (v : BitVec 64) (w : World) : Calls Try.prog 14 #[.int .u64 (v.toNat : Int)] w fun e w' => e = .returned (.int .u64 ((backB v).toNat : Int)) ∧ Below w.heap.size w w' := by
  go_enter Try.func14, Try.ntmps14
  go_wp2_with (go_at_call 15; refine (rounds_any _).mono ?_; rintro e w1 ⟨rfl, hb⟩)
  refine wp_loop_rounds 4 ?_
  rw [rounds_succ]
  go_wp2
  go_quiet ((first | (go_at_call 19; exact Calls.quiet_of_same (inverse_at _ _ (by omega))) | (go_at_call 18; exact Calls.quiet_of_same (up_at _ (U64.wrap _) _ (by omega) _))))
  go_wp2
  rw [rounds_succ]
  go_wp2
  go_quiet ((first | (go_at_call 19; exact quiet_add_same (inverse_at _ _ (by omega))) | (go_at_call 18; exact quiet_add_same (up_at _ (U64.wrap _) _ (by omega) _))))
  go_wp2
  rw [rounds_succ]
  go_wp2
  go_quiet ((first | (go_at_call 19; exact quiet_add_same (inverse_at _ _ (by omega))) | (go_at_call 18; exact quiet_add_same (up_at _ (U64.wrap _) _ (by omega) _))))
  go_wp2
  rw [rounds_succ]
  go_wp2
  go_ret
  refine ⟨ret_int ?_, ?_⟩
  · simp only [wrap_u64B, ofInt_toNatB, ofInt_mulB, show Int.toNat 30 = 30 from rfl]
    rw [inv_one, inv_second, inv_first]
    rfl
  · exact below_drewN (hb.alloc hb.size _) _
theorem mix_u (x : Int) (h : U64 x) (w : World) : Calls Try.prog 8 #[.int .u64 x] w fun e w' => e = .returned (.int .u64 (wI (mixB (bI x)))) ∧ Below w.heap.size w w' := by
  obtain ⟨v, rfl⟩ := h; rw [show bI (v.toNat : Int) = v from bI_wI v]; exact mix_any v w
theorem down_u (x : Int) (h : U64 x) (n : Int) (hn : n = 30 ∨ n = 27 ∨ n = 31) (w : World) : Calls Try.prog 17 #[.int .u64 x, .int .i64 n] w fun e w' => e = .returned (.int .u64 (wI (bI x >>> n.toNat))) ∧ w = w' := by
  obtain ⟨v, rfl⟩ := h
  obtain ⟨k, rfl⟩ := Int.eq_ofNat_of_zero_le (show 0 ≤ n by omega)
  rw [show bI (v.toNat : Int) = v from bI_wI v]
  have e : wI (v >>> Int.toNat (k : Int)) = ((v.toNat / 2 ^ k : Nat) : Int) := by
    show (((v >>> k).toNat : Nat) : Int) = _
    rw [BitVec.toNat_ushiftRight, Nat.shiftRight_eq_div_pow]
  rw [e]
  exact (down_any v.toNat k v.isLt (by omega) w).mono fun _ _ ⟨a, b⟩ => ⟨a, b.symm⟩
theorem times_u (x y : Int) (h : U64 x) (h' : U64 y) (w : World) : Calls Try.prog 16 #[.int .u64 x, .int .u64 y] w fun e w' => e = .returned (.int .u64 (wI (bI x * bI y))) ∧ w = w' := by
  obtain ⟨v, rfl⟩ := h
  obtain ⟨u, rfl⟩ := h'
  rw [show bI (v.toNat : Int) = v from bI_wI v, show bI (u.toNat : Int) = u from bI_wI u]
  exact (times_any v u w).mono fun _ _ ⟨a, b⟩ => ⟨a, b.symm⟩
theorem rmix_any (x : Int) (h : U64 x) (w : World) : Calls Try.prog 9 #[.int .u64 x] w fun e w' => e = .returned (.int .u64 (wI (mixB (bI x)))) ∧ w = w' := by
  go_enter Try.func9, Try.ntmps9
  go_wp2_with fail
  refine (down_u _ h _ (.inl rfl) _).mono ?_
  rintro e w1 ⟨rfl, rfl⟩
  go_wp2_with fail
  refine (times_u _ 13787848793156543929 (U64.bits _ _ _) ⟨13787848793156543929#64, rfl⟩ _).mono ?_
  rintro e w1 ⟨rfl, rfl⟩
  go_wp2_with fail
  refine (down_u _ (U64.of' _) _ (.inr (.inl rfl)) _).mono ?_
  rintro e w1 ⟨rfl, rfl⟩
  go_wp2_with fail
  refine (times_u _ 10723151780598845931 (U64.bits _ _ _) ⟨10723151780598845931#64, rfl⟩ _).mono ?_
  rintro e w1 ⟨rfl, rfl⟩
  go_wp2_with fail
  refine (down_u _ (U64.of' _) _ (.inr (.inr rfl)) _).mono ?_
  rintro e w1 ⟨rfl, rfl⟩
  go_wp2
  go_ret
  refine ⟨ret_int ?_, rfl⟩
  rw [← (U64.bits .xor (wI _) (wI _)).wI]
  simp only [bI_xor, bI_wI]
  unfold mixB stepB
  rw [BitVec.mul_one]
  rfl
theorem text_any (s : ByteArray) (hs : s.size ≤ 140737488351232) (x : Int) (h : U64 x) (w : World) : Calls Try.prog 12 #[.string s, .int .u64 x] w fun e w' => e = .returned (.int .u64 (wI (textB s.data.toList (bI x)))) ∧ Below w.heap.size w w' := by
  go_enter Try.func12, Try.ntmps12
  go_wp2_with (go_at_call 8; refine (mix_u _ (U64.wrap _) _).mono ?_; rintro e w1 ⟨rfl, hb1⟩)
  go_loopw [5, 15] (fun t i wr => ∃ k : Nat, k ≤ s.size ∧ i = .int .i64 (k : Int) ∧ t = .int .u64 (wI (textTo s.data.toList (bI x) k)) ∧ Below w.heap.size w wr) (fun _ i _ => s.size - (intOf i).toNat)
  case atStart =>
    refine ⟨0, Nat.zero_le _, rfl, ?_, hb1⟩
    rw [textTo_zero, bI_wrap, bI_add, bI_nat]
    rfl
  case round =>
    obtain ⟨k, hk, rfl, rfl, hb⟩ := hrel
    by_cases hlt : k < s.size
    · go_wp2_with (go_at_call 8; refine (mix_u _ (U64.bits _ _ _) _).mono ?_; rintro e w1 ⟨rfl, hb1⟩)
      go_roundw
      case rel =>
        refine ⟨k + 1, by omega, by go_num, ?_, hb.trans (hb1.mono hb.size)⟩
        rw [bI_xor, bI_wI, bI_wrap, bI_nat, textTo_succ _ _ _ hlt]; rfl
      case measure => simp [intOf]; omega
    · obtain rfl : k = s.size := by omega
      go_wp2
      go_ret
      refine ⟨ret_int ?_, hb⟩
      rw [← textTo_all]; rfl
theorem rtext_any (s : ByteArray) (hs : s.size ≤ 140737488351232) (x : Int) (h : U64 x) (w : World) : Calls Try.prog 13 #[.string s, .int .u64 x] w fun e w' => e = .returned (.int .u64 (wI (textB s.data.toList (bI x)))) ∧ w = w' := by
  go_enter Try.func13, Try.ntmps13
  go_wp2_with (go_at_call 9; refine (rmix_any _ (U64.wrap _) _).mono ?_; rintro e w1 ⟨rfl, rfl⟩)
  go_loop [5, 6] (fun t i => ∃ k : Nat, k ≤ s.size ∧ i = .int .i64 (k : Int) ∧ t = .int .u64 (wI (textTo s.data.toList (bI x) k))) (fun _ i => s.size - (intOf i).toNat)
  case atStart =>
    refine ⟨0, Nat.zero_le _, rfl, ?_⟩
    rw [textTo_zero, bI_wrap, bI_add, bI_nat]
    rfl
  case round =>
    obtain ⟨k, hk, rfl, rfl⟩ := hrel
    by_cases hlt : k < s.size
    · go_wp2_with (go_at_call 9; refine (rmix_any _ (U64.bits _ _ _) _).mono ?_; rintro e w1 ⟨rfl, rfl⟩)
      go_round
      case rel =>
        refine ⟨k + 1, by omega, by go_num, ?_⟩
        rw [bI_xor, bI_wI, bI_wrap, bI_nat, textTo_succ _ _ _ hlt]; rfl
      case measure => simp [intOf]; omega
    · obtain rfl : k = s.size := by omega
      go_wp2
      go_ret
      refine ⟨ret_int ?_, rfl⟩
      rw [← textTo_all]; rfl

theorem pair_any (x y : Int) (h : U64 x) (h' : U64 y) (w : World) : Calls Try.prog 10 #[.int .u64 x, .int .u64 y] w fun e w' => e = .returned (.int .u64 (wI (pairB (bI x) (bI y)))) ∧ Below w.heap.size w w' := by
  go_enter Try.func10, Try.ntmps10
  go_wp2_with fail
  refine (mix_u _ h' _).mono ?_
  rintro e w1 ⟨rfl, hb1⟩
  go_wp2_with fail
  refine (mix_u _ (U64.bits _ _ _) _).mono ?_
  rintro e w2 ⟨rfl, hb2⟩
  go_wp2
  go_ret
  refine ⟨ret_int ?_, hb1.trans (hb2.mono hb1.size)⟩
  rw [bI_xor, bI_wI]; rfl

theorem back_u (x : Int) (h : U64 x) (w : World) : Calls Try.prog 14 #[.int .u64 x] w fun e w' => e = .returned (.int .u64 (wI (backB (bI x)))) ∧ Below w.heap.size w w' := by
  obtain ⟨v, rfl⟩ := h; rw [show bI (v.toNat : Int) = v from bI_wI v]; exact back_any v w

theorem awake_any (w : World) : Calls Try.prog 7 #[] w fun e w' => e = .returned (.bool true) ∧ Below w.heap.size w w' := by
  have h1 : (wI (mixB (bI 1)) != 0) = true := by rw [show bI 1 = 1#64 from rfl, mixB_one]; rfl
  go_enter Try.func7, Try.ntmps7
  go_wp2_with fail
  refine (mix_u 1 ⟨1#64, rfl⟩ _).mono ?_
  rintro e w1 ⟨rfl, hb1⟩
  go_wp2_with fail
  refine (rmix_any 1 ⟨1#64, rfl⟩ _).mono ?_
  rintro e w1 ⟨rfl, rfl⟩
  go_wp2_with fail
  refine (mix_u 1 ⟨1#64, rfl⟩ _).mono ?_
  rintro e w2 ⟨rfl, hb2⟩
  go_wp2
  go_ret
  exact ⟨rfl, hb1.trans (hb2.mono hb1.size)⟩
theorem mixIs_any (x y : Int) (h : U64 x) (h' : U64 y) (w : World) : Calls Try.prog 3 #[.int .u64 x, .int .u64 y] w fun e w' => e = .returned (.bool true) ∧ Below w.heap.size w w' := by
  have h0 : (wI (mixB (bI 0)) == 0) = true := by rw [show bI 0 = 0#64 from rfl, mixB_zero]; rfl
  have hp : (wI (pairB (bI x) (bI y)) == wI (mixB (bI (bits .xor .u64 x (wI (mixB (bI y))))))) = true := by
    rw [bI_xor, bI_wI]; exact beq_self_eq_true _
  go_enter Try.func3, Try.ntmps3
  go_wp2_with (go_at_call 7; refine (awake_any _).mono ?_; rintro e w1 ⟨rfl, hb1⟩)
  refine (mix_u x h _).mono ?_
  rintro e w2 ⟨rfl, hb2⟩
  go_wp2_with fail
  refine (rmix_any x h _).mono ?_
  rintro e w2 ⟨rfl, rfl⟩
  go_wp2_with fail
  refine (pair_any x y h h' _).mono ?_
  rintro e w3 ⟨rfl, hb3⟩
  go_wp2_with fail
  refine (rmix_any y h' _).mono ?_
  rintro e w3 ⟨rfl, rfl⟩
  go_wp2_with fail
  refine (rmix_any _ (U64.bits _ _ _) _).mono ?_
  rintro e w3 ⟨rfl, rfl⟩
  go_wp2_with fail
  refine (mix_u 0 ⟨0#64, rfl⟩ _).mono ?_
  rintro e w4 ⟨rfl, hb4⟩
  go_wp2
  go_ret
  exact ⟨rfl, btr (btr (btr hb1 hb2) hb3) hb4⟩
end Go.Proofs.Ytkindlcplcbgjaa
