/- Contracts of the laws' own helpers: Cut, keysOf, few. Condition: texts no longer than 2^47 bytes. -/
import Derived.Test.YthapnanemkjhhaaChecked
import Derived.Test.YthapnanemkjhhaaRep
import Derived.Test.YthapnanemkjhhaaInfo
import Derived.WalkKit
import Derived.WalkSpells
import Derived.Outline
namespace Go.Proofs.Ythapnanemkjhhaa
open Go.RowKit
set_option linter.unusedVariables false

def cutB (s : ByteArray) (n : Nat) : ByteArray := if n < s.size then s.extract 0 n else s
theorem cutB_size (s : ByteArray) (n : Nat) : (cutB s n).size ≤ n ∧ (cutB s n).size ≤ s.size := by
  unfold cutB
  split
  · rw [ByteArray.size_extract]; omega
  · omega
theorem cut_any (s : ByteArray) (hs : s.size ≤ 140737488351232) (n : Int) (hn : 0 ≤ n) (w : World) : Calls Try.prog 21 #[.string s, .int .i64 n] w fun e w' => e = .returned (.string (cutB s n.toNat)) ∧ w = w' := by
  obtain ⟨n, rfl⟩ := Int.eq_ofNat_of_zero_le hn
  rw [Int.toNat_natCast]
  by_cases h : n < s.size
  · have hf : cutB s n = s.extract 0 n := by unfold cutB; rw [if_pos h]
    rw [hf]
    clear hf
    go_enter Try.func21, Try.ntmps21
    go_wp2
    go_ret
    exact ⟨rfl, rfl⟩
  · have hf : cutB s n = s := by unfold cutB; rw [if_neg h]
    rw [hf]
    clear hf
    go_enter Try.func21, Try.ntmps21
    go_wp2
    go_ret
    exact ⟨rfl, rfl⟩

theorem and_small (x : Int) (m : Nat) (hm : m < 9223372036854775808) : 0 ≤ bits .and .i64 x (m : Int) ∧ bits .and .i64 x (m : Int) ≤ m := by
  have h2 : (BitVec.ofInt 64 (m : Int)).toNat = m := by
    rw [BitVec.ofInt_natCast, BitVec.toNat_ofNat]; exact Nat.mod_eq_of_lt (by omega)
  have hx : ((BitVec.ofInt 64 x).toNat &&& m) ≤ m := Nat.and_le_right
  have e : bits .and .i64 x (m : Int) = (((BitVec.ofInt 64 x).toNat &&& m : Nat) : Int) := by
    show IntKind.i64.wrap ((BitVec.ofInt 64 x &&& BitVec.ofInt 64 (m : Int)).toNat : Int) = _
    rw [BitVec.toNat_and, h2, IntKind.wrap_i64]
    omega
  rw [e]
  omega

def fewI (x : Int) : Int := 1 + bits .and .i64 x 1023 % 1000
theorem fewI_bd (x : Int) : 1 ≤ fewI x ∧ fewI x ≤ 1000 := by
  have := and_small x 1023 (by omega)
  unfold fewI; omega
def fewL (zs : List Int) : List Int := (zs.take 8).map fewI


set_option maxHeartbeats 1000000 in
theorem few_any (v : Value) (zs : List Int) (w : World) (hv : SlAt w v (zs.map (.int .i64))) :
    Calls Try.prog 9 #[v] w fun e w' => ∃ v', e = .returned v' ∧ w'.ownsRow w.heap.size 3 1 v' (fewL zs).length ((fewL zs).map (.int .i64)) ∧ Below w.heap.size w w' := by
  obtain ⟨a, n, cap, rfl, HN, hcap, hmax, hc⟩ := hv.opened
  have HC := Lib.hid hc
  clear hc hv
  go_enter Try.func9, Try.ntmps9
  go_wp2
  go_loopw [3, 4] (fun v i wr => ∃ k m : Nat, k ≤ n ∧ k ≤ 8 ∧ i = .int .i64 (k : Int) ∧ m = k ∧ wr.ownsRow w.heap.size 3 1 v m ((fewL (zs.take k)).map (.int .i64)) ∧ Below w.heap.size w wr) (fun _ i _ => n - (intOf i).toNat)
  case atStart => exact ⟨0, 0, Nat.zero_le _, Nat.zero_le _, rfl, rfl, by simpa [fewL] using World.ownsRow_nil w w.heap.size 3 1, Below.refl _ _⟩
  case round =>
    obtain ⟨k, m, hk, hk8, rfl, hmk, hown, hB⟩ := hrel
    have HM := Lib.hid hmk
    have hm8 : m ≤ 8 := by omega
    clear hmk
    have hsz := hB.size
    by_cases hlt : k < n
    · by_cases hlt8 : k < 8
      · have hk2 : k < zs.length := by rw [← HN.out]; exact hlt
        rcases HC.out with h0 | ⟨b, off, rfl, hb, hcell⟩
        · omega
        · have hc := (hB.cell (p := ⟨b, off + k, none⟩) hb).trans (hcell k hk2)
          have hstep : (fewL (zs.take (k + 1))).map (Value.int .i64) = (fewL (zs.take k)).map (Value.int .i64) ++ [.int .i64 (fewI zs[k])] := by
            unfold fewL
            rw [List.take_take, List.take_take, Nat.min_eq_right (by omega), Nat.min_eq_right (by omega), List.take_succ_eq_append_getElem hk2, List.map_append, List.map_append]; rfl
          have HS := Lib.hid hstep
          have hbd := and_small zs[k] 1023 (by omega)
          have hfe : fewI zs[k] = 1 + bits .and .i64 zs[k] 1023 % 1000 := rfl
          have HFE := Lib.hid hfe
          generalize zs[k] = z at *
          have hand : 0 ≤ bits .and .i64 z 1023 ∧ bits .and .i64 z 1023 ≤ 1023 := hbd
          obtain ⟨ha0, ha1⟩ := hand
          clear hcell hstep hbd hfe
          go_wp2_with (at_builtin; refine wpList_append1 wr rfl _ _ 23 rfl w.heap.size 3 (.int .i64 0) 8 Try.underlying23 info_int rfl (by decide) hown rfl _ rfl rfl (by omega) hsz ?_; intro v' w1 hap; obtain ⟨g', cap', rfl⟩ := hap.some')
          go_roundw
          case rel =>
            refine ⟨k + 1, m + 1, by omega, by omega, by go_num, by rw [HM.out], ?_, hB.trans hap.below⟩
            rw [HS.out, HFE.out]
            exact hap.own
          case measure => simp [intOf]; omega
      · obtain rfl : k = 8 := by omega
        go_wp2
        go_ret
        refine ⟨_, rfl, ?_, hB⟩
        have e : fewL (zs.take 8) = fewL zs := by unfold fewL; rw [List.take_take]; rfl
        have hl := hown.1
        rw [e] at hown
        have hl2 : m = (fewL zs).length := by have := hown.1; simp at this; omega
        rw [← hl2]; exact hown
    · obtain rfl : k = n := by omega
      go_wp2
      go_ret
      refine ⟨_, rfl, ?_, hB⟩
      have e : fewL (zs.take k) = fewL zs := by rw [HN.out, List.take_length]
      rw [e] at hown
      have hl2 : m = (fewL zs).length := by have := hown.1; simp at this; omega
      rw [← hl2]; exact hown

def keysL (ss : List ByteArray) : List ByteArray := (ss.take 30).map (cutB · 8)
set_option maxHeartbeats 1000000 in
theorem keysOf_any (v : Value) (ss : List ByteArray) (w : World) (hv : SlAt w v (ss.map .string)) (hss : ∀ s ∈ ss, s.size ≤ 140737488351232) :
    Calls Try.prog 8 #[v] w fun e w' => ∃ v', e = .returned v' ∧ w'.ownsRow w.heap.size 9 1 v' (keysL ss).length ((keysL ss).map .string) ∧ Below w.heap.size w w' := by
  obtain ⟨a, n, cap, rfl, HN, hcap, hmax, hc⟩ := hv.opened
  have HC := Lib.hid hc
  have HSS := Lib.hid hss
  clear hc hv hss
  go_enter Try.func8, Try.ntmps8
  go_wp2
  go_loopw [3, 4] (fun v i wr => ∃ k m : Nat, k ≤ n ∧ k ≤ 30 ∧ i = .int .i64 (k : Int) ∧ m = k ∧ wr.ownsRow w.heap.size 9 1 v m ((keysL (ss.take k)).map .string) ∧ Below w.heap.size w wr) (fun _ i _ => n - (intOf i).toNat)
  case atStart => exact ⟨0, 0, Nat.zero_le _, Nat.zero_le _, rfl, rfl, by simpa [keysL] using World.ownsRow_nil w w.heap.size 9 1, Below.refl _ _⟩
  case round =>
    obtain ⟨k, m, hk, hk8, rfl, hmk, hown, hB⟩ := hrel
    have HM := Lib.hid hmk
    have hm8 : m ≤ 30 := by omega
    clear hmk
    have hsz := hB.size
    by_cases hlt : k < n
    · by_cases hlt8 : k < 30
      · have hk2 : k < ss.length := by rw [← HN.out]; exact hlt
        rcases HC.out with h0 | ⟨b, off, rfl, hb, hcell⟩
        · omega
        · have hc := (hB.cell (p := ⟨b, off + k, none⟩) hb).trans (hcell k hk2)
          have hstep : (keysL (ss.take (k + 1))).map Value.string = (keysL (ss.take k)).map Value.string ++ [.string (cutB ss[k] 8)] := by
            unfold keysL
            rw [List.take_take, List.take_take, Nat.min_eq_right (by omega), Nat.min_eq_right (by omega), List.take_succ_eq_append_getElem hk2, List.map_append, List.map_append]; rfl
          have HS := Lib.hid hstep
          have hz := HSS.out ss[k] (List.getElem_mem hk2)
          generalize ss[k] = z at *
          clear hcell hstep
          go_wp2_with (first | (go_at_call 21; refine (cut_any z hz 8 (by omega) _).mono ?_; rintro e w1 ⟨rfl, rfl⟩) | (at_builtin; refine wpList_append1 wr rfl _ _ 22 rfl w.heap.size 9 (.string ByteArray.empty) 16 Try.underlying22 info_string rfl (by decide) hown rfl _ rfl rfl (by omega) hsz ?_; intro v' w1 hap; obtain ⟨g', cap', rfl⟩ := hap.some'))
          go_roundw
          case rel =>
            refine ⟨k + 1, m + 1, by omega, by omega, by go_num, by rw [HM.out], ?_, hB.trans hap.below⟩
            rw [HS.out]
            exact hap.own
          case measure => simp [intOf]; omega
      · obtain rfl : k = 30 := by omega
        go_wp2
        go_ret
        refine ⟨_, rfl, ?_, hB⟩
        have e : keysL (ss.take 30) = keysL ss := by unfold keysL; rw [List.take_take]; rfl
        rw [e] at hown
        have hl2 : m = (keysL ss).length := by have := hown.1; simp at this; omega
        rw [← hl2]; exact hown
    · obtain rfl : k = n := by omega
      go_wp2
      go_ret
      refine ⟨_, rfl, ?_, hB⟩
      have e : keysL (ss.take k) = keysL ss := by rw [HN.out, List.take_length]
      rw [e] at hown
      have hl2 : m = (keysL ss).length := by have := hown.1; simp at this; omega
      rw [← hl2]; exact hown
end Go.Proofs.Ythapnanemkjhhaa
