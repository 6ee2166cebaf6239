/- Contracts of the laws MixBack, MixPairs, MixTexts: each returns true and changes nothing. Condition: numbers fit their kinds, a text is no longer than 2^47 bytes. -/
import Derived.Test.YtkindlcplcbgjaaA0
import Derived.RegionTactic
import Derived.ChangeAlike
namespace Go.Proofs.Ytkindlcplcbgjaa
open Go.RowKit
set_option linter.unusedVariables false

theorem cut_short (s : ByteArray) (n : Int) (w : World) (h : (s.size : Int) ≤ n) : Calls Try.prog 11 #[.string s, .int .i64 n] w fun e w' => e = .returned (.string s) ∧ w = w' := by
  go_enter Try.func11, Try.ntmps11
  go_wp2
  go_ret
  exact ⟨rfl, rfl⟩
theorem cut_long (s : ByteArray) (n : Nat) (w : World) (h : n < s.size) (hs : s.size ≤ 140737488351232) : Calls Try.prog 11 #[.string s, .int .i64 (n : Int)] w fun e w' => e = .returned (.string (s.extract 0 n)) ∧ w = w' := by
  go_enter Try.func11, Try.ntmps11
  go_wp2
  go_ret
  exact ⟨rfl, rfl⟩
theorem mixBack_any (x y : Int) (h : U64 x) (h' : U64 y) (w : World) : Calls Try.prog 5 #[.int .u64 x, .int .u64 y] w fun e w' => e = .returned (.bool true) ∧ Below w.heap.size w w' := by
  have f1 : (wI (backB (bI (wI (mixB (bI x))))) == x) = true := by rw [bI_wI, back_mix, h.wI]; exact beq_self_eq_true _
  have f2 : (wI (mixB (bI (wI (backB (bI x))))) == x) = true := by rw [bI_wI, mix_back, h.wI]; exact beq_self_eq_true _
  have f3 : ((wI (mixB (bI x)) == wI (mixB (bI y))) == (x == y)) = true := by rw [mix_eqb h h']; exact beq_self_eq_true _
  have f4 : ((wI (pairB (bI x) (bI 7)) == wI (pairB (bI y) (bI 7))) == (x == y)) = true := by rw [pair_eqb1 h h']; exact beq_self_eq_true _
  have f5 : ((wI (pairB (bI 7) (bI x)) == wI (pairB (bI 7) (bI y))) == (x == y)) = true := by rw [pair_eqb2 h h']; exact beq_self_eq_true _
  go_enter Try.func5, Try.ntmps5
  go_wp2_with fail
  refine (awake_any _).mono ?_
  rintro e w11 ⟨rfl, hb11⟩
  go_wp2_with fail
  refine (mix_u x h _).mono ?_
  rintro e w12 ⟨rfl, hb12⟩
  go_wp2_with fail
  refine (back_u _ (U64.of' _) _).mono ?_
  rintro e w13 ⟨rfl, hb13⟩
  go_wp2_with fail
  refine (back_u x h _).mono ?_
  rintro e w14 ⟨rfl, hb14⟩
  go_wp2_with fail
  refine (mix_u _ (U64.of' _) _).mono ?_
  rintro e w15 ⟨rfl, hb15⟩
  go_wp2_with fail
  refine (mix_u x h _).mono ?_
  rintro e w16 ⟨rfl, hb16⟩
  go_wp2_with fail
  refine (mix_u y h' _).mono ?_
  rintro e w17 ⟨rfl, hb17⟩
  go_wp2_with fail
  refine (pair_any x 7 h ⟨7#64, rfl⟩ _).mono ?_
  rintro e w18 ⟨rfl, hb18⟩
  go_wp2_with fail
  refine (pair_any y 7 h' ⟨7#64, rfl⟩ _).mono ?_
  rintro e w19 ⟨rfl, hb19⟩
  go_wp2_with fail
  refine (pair_any 7 x ⟨7#64, rfl⟩ h _).mono ?_
  rintro e w20 ⟨rfl, hb20⟩
  go_wp2_with fail
  refine (pair_any 7 y ⟨7#64, rfl⟩ h' _).mono ?_
  rintro e w21 ⟨rfl, hb21⟩
  go_wp2
  go_ret
  exact ⟨rfl, btr (btr (btr (btr (btr (btr (btr (btr (btr (btr hb11 hb12) hb13) hb14) hb15) hb16) hb17) hb18) hb19) hb20) hb21⟩
theorem mixPairs_any (x y : Int) (h : U64 x) (h' : U64 y) (w : World) : Calls Try.prog 6 #[.int .u64 x, .int .u64 y] w fun e w' => e = .returned (.bool true) ∧ Below w.heap.size w w' := by
  have f1 : (bits .xor .u64 (wI (backB (bI (wI (pairB (bI x) (bI y)))))) (wI (mixB (bI y))) == x) = true := by
    rw [← (U64.bits .xor (wI _) (wI _)).wI, bI_xor, bI_wI, bI_wI, bI_wI, pair_back1, h.wI]; exact beq_self_eq_true _
  have f2 : (wI (backB (bI (bits .xor .u64 (wI (backB (bI (wI (pairB (bI x) (bI y)))))) x))) == y) = true := by
    rw [bI_xor, bI_wI, bI_wI, pair_back2, h'.wI]; exact beq_self_eq_true _
  go_enter Try.func6, Try.ntmps6
  go_wp2_with fail
  refine (awake_any _).mono ?_
  rintro e w22 ⟨rfl, hb22⟩
  go_wp2_with fail
  refine (pair_any x y h h' _).mono ?_
  rintro e w23 ⟨rfl, hb23⟩
  go_wp2_with fail
  refine (back_u _ (U64.of' _) _).mono ?_
  rintro e w24 ⟨rfl, hb24⟩
  go_wp2_with fail
  refine (mix_u y h' _).mono ?_
  rintro e w25 ⟨rfl, hb25⟩
  go_wp2_with fail
  refine (pair_any x y h h' _).mono ?_
  rintro e w26 ⟨rfl, hb26⟩
  go_wp2_with fail
  refine (back_u _ (U64.of' _) _).mono ?_
  rintro e w27 ⟨rfl, hb27⟩
  go_wp2_with fail
  refine (back_u _ (U64.bits _ _ _) _).mono ?_
  rintro e w28 ⟨rfl, hb28⟩
  go_wp2
  go_ret
  exact ⟨rfl, btr (btr (btr (btr (btr (btr hb22 hb23) hb24) hb25) hb26) hb27) hb28⟩
theorem mixTexts_empty (s t : ByteArray) (hcut : ∀ w, Calls Try.prog 11 #[.string s, .int .i64 60] w fun e w' => e = .returned (.string t) ∧ w = w') (ht : t.size = 0) (x : Int) (h : U64 x) (b : Int) (w : World) :
    Calls Try.prog 4 #[.string s, .int .u64 x, .int .u8 b] w fun e w' => e = .returned (.bool true) ∧ Below w.heap.size w w' := by
  obtain rfl : t = ByteArray.empty := by
    cases t with | mk d => simp only [ByteArray.size] at ht; rw [Array.eq_empty_of_size_eq_zero ht]; rfl
  have e0 : textB (ByteArray.empty).data.toList (bI x) = mixB (bI x) := by
    show mixB (bI x + 0#64) = _
    rw [BitVec.add_zero]
  have f1 : (wI (textB (ByteArray.empty).data.toList (bI x)) == wI (mixB (bI x))) = true := by rw [e0]; exact beq_self_eq_true _
  have F1 := Lib.hid f1
  clear e0 f1
  have HC := Lib.hid hcut
  clear hcut
  go_enter Try.func4, Try.ntmps4
  go_wp2_with fail
  refine (awake_any _).mono ?_
  rintro e w1 ⟨rfl, hb1⟩
  go_wp2_with fail
  refine (HC.out _).mono ?_
  rintro e w2 ⟨rfl, rfl⟩
  go_wp2_with fail
  refine (text_any _ (by omega) x h _).mono ?_
  rintro e w2 ⟨rfl, hb2⟩
  go_wp2_with fail
  refine (rtext_any _ (by omega) x h _).mono ?_
  rintro e w3 ⟨rfl, rfl⟩
  go_wp2_with fail
  refine (text_any _ (by omega) x h _).mono ?_
  rintro e w3 ⟨rfl, hb3⟩
  go_wp2_with fail
  refine (mix_u x h _).mono ?_
  rintro e w4 ⟨rfl, hb4⟩
  have f1 := F1.out
  go_wp2
  go_ret
  exact ⟨ret_bool f1, btr (btr (btr hb1 hb2) hb3) hb4⟩

theorem nonempty_toList (t : ByteArray) (h1 : 0 < t.size) : t.toList.isEmpty = false := by
  rw [ByteArray.toList_eq]
  cases hl : t.data.toList with
  | nil =>
    have h2 : t.size = t.data.toList.length := rfl
    rw [hl] at h2
    exact absurd h2 (by simpa using Nat.ne_of_gt h1)
  | cons a l => rfl
theorem conv_one (b : Int) (W : World) : (convert 29 9 (.slice (some ⟨W.heap.size, 0, none⟩) 1 1)).run Try.prog ((W.alloc (.cells #[.int .u8 b] 5)).drew) = .ok (.string (strOfNums [b])) ((W.alloc (.cells #[.int .u8 b] 5)).drew) := by
  refine run_convert_bytes_arg _ 29 5 Try.underlying29 Try.underlying5 W.heap.size 0 1 1 [b] rfl (fun i hi => ?_) 9 Try.underlying9
  obtain rfl : i = 0 := by omega
  show (W.alloc (.cells #[.int .u8 b] 5)).cell? ⟨W.heap.size, 0, none⟩ = _
  simp [go_sem]
theorem last_bytes (t : ByteArray) (h1 : 0 < t.size) : ∃ l a, t.data.toList = l ++ [a] ∧ (t.extract 0 (t.size - 1)).data.toList = l := by
  refine ⟨t.data.toList.take (t.size - 1), t.data.toList[t.size - 1]'(by show _ < t.size; omega), ?_, ?_⟩
  · have h2 : t.data.toList.length = t.size := rfl
    rw [List.take_append_getElem]
    rw [Nat.sub_add_cancel h1, ← h2, List.take_length]
  · simp [ByteArray.data_extract]
    rw [List.dropLast_eq_take]; rfl
theorem full_size (t : ByteArray) (b : Int) (ht : t.size ≤ 60) (h1 : 0 < t.size) : (t.extract 0 (t.size - 1) ++ strOfNums [b]).size ≤ 140737488351232 := by
  rw [ByteArray.size_append, strOfNums_size, ByteArray.size_extract]
  have h2 : [b].length = 1 := rfl
  rw [h2]
  omega
theorem last_data (t : ByteArray) (b : Int) : (t.extract 0 (t.size - 1) ++ strOfNums [b]).data.toList = t.data.toList.dropLast ++ (strOfNums [b]).data.toList := by
  simp [ByteArray.data_append, ByteArray.data_extract]
theorem text_last (t : ByteArray) (h1 : 0 < t.size) (x : Int) (b : Int) :
    ((wI (textB (t.extract 0 (t.size - 1) ++ strOfNums [b]).data.toList (bI x)) == wI (textB t.data.toList (bI x))) == ((t.extract 0 (t.size - 1) ++ strOfNums [b]).toList == t.toList)) = true := by
  obtain ⟨l, a, ht, hl⟩ := last_bytes t h1
  rw [ByteArray.toList_eq, ByteArray.toList_eq, ByteArray.data_append, Array.toList_append, hl, ht, strOfNums_data, wI_beq]
  rw [beq_iff_eq, Bool.eq_iff_iff, beq_iff_eq, beq_iff_eq]
  show textB (l ++ [_]) _ = textB (l ++ [_]) _ ↔ l ++ [_] = l ++ [_]
  rw [textB_snoc]
  simp
theorem mixTexts_full (s t : ByteArray) (hcut : ∀ w, Calls Try.prog 11 #[.string s, .int .i64 60] w fun e w' => e = .returned (.string t) ∧ w = w') (ht : t.size ≤ 60) (h1 : 0 < t.size) (ht2 : t.size ≤ 140737488351232) (x : Int) (h : U64 x) (b : Int) (hb : 0 ≤ b ∧ b ≤ 255) (w : World) :
    Calls Try.prog 4 #[.string s, .int .u64 x, .int .u8 b] w fun e w' => e = .returned (.bool true) ∧ Below w.heap.size w w' := by
  have F1 := Lib.hid (text_last t h1 x b)
  have hne := nonempty_toList t h1
  have hconv := conv_one b
  have hwr : IntKind.i64.wrap ((t.size : Int) - 1) = (t.size : Int) - 1 := by rw [IntKind.wrap_i64]; omega
  have hsz : ¬ 9223372036854775807 < (t.extract 0 (t.size - 1)).size + (strOfNums [b]).size := by
    rw [strOfNums_size, ByteArray.size_extract]; simp; omega
  have HC := Lib.hid hcut
  clear hcut
  go_enter Try.func4, Try.ntmps4
  go_wp2_with fail
  refine (awake_any _).mono ?_
  rintro e w1 ⟨rfl, hb1⟩
  go_wp2_with fail
  refine (HC.out _).mono ?_
  rintro e w2 ⟨rfl, rfl⟩
  go_wp2_with fail
  refine (text_any _ (by omega) x h _).mono ?_
  rintro e w2 ⟨rfl, hb2⟩
  go_wp2_with fail
  refine (rtext_any _ (by omega) x h _).mono ?_
  rintro e w3 ⟨rfl, rfl⟩
  go_wp2_with fail
  go_region
  clear hsz hwr hconv
  go_wp2_with fail
  refine (text_any _ (full_size t b ht h1) x h _).mono ?_
  rintro e w4 ⟨rfl, hb4⟩
  go_wp2_with fail
  refine (text_any _ ht2 x h _).mono ?_
  rintro e w5 ⟨rfl, hb5⟩
  go_wp2
  go_ret
  refine ⟨ret_bool ?_, ?_⟩
  · rw [← last_data]
    exact F1.out
  have hz := hb2.size
  have hz1 := hb1.size
  have hb3 : Below w.heap.size w (w2.alloc (.cells #[.int .u8 b] 5)).drew := ((btr hb1 hb2).alloc (by omega) _).drew
  exact btr (btr hb3 hb4) hb5
theorem mixTexts_any (s : ByteArray) (hs : s.size ≤ 140737488351232) (x : Int) (h : U64 x) (b : Int) (hb : 0 ≤ b ∧ b ≤ 255) (w : World) :
    Calls Try.prog 4 #[.string s, .int .u64 x, .int .u8 b] w fun e w' => e = .returned (.bool true) ∧ Below w.heap.size w w' := by
  by_cases hl : s.size ≤ 60
  · have hc : ∀ w, Calls Try.prog 11 #[.string s, .int .i64 60] w fun e w' => e = .returned (.string s) ∧ w = w' := fun w => cut_short s 60 w (by omega)
    by_cases h0 : s.size = 0
    · exact mixTexts_empty s s hc h0 x h b w
    · exact mixTexts_full s s hc hl (by omega) hs x h b hb w
  · have hz : (s.extract 0 60).size = 60 := by rw [ByteArray.size_extract]; omega
    exact mixTexts_full s (s.extract 0 60) (fun w => cut_long s 60 w (by omega) hs) (by omega) (by omega) (by omega) x h b hb w
end Go.Proofs.Ytkindlcplcbgjaa
