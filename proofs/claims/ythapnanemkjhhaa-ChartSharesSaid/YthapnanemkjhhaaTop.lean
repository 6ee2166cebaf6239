/- Contracts of rank.Top and Moved, of chart's source. Condition: keys no longer than 2^47 bytes, fewer than 20 devices. -/
import Derived.Test.YthapnanemkjhhaaOrder
namespace Go.Proofs.Ythapnanemkjhhaa
open Go.RowKit Go.Sort Go.Lib
set_option linter.unusedVariables false

def topL (s : ByteArray) (zs : List Int) (c : Int) : List Int := (orderL s zs).take c.toNat
theorem top_any (s : ByteArray) (hs : s.size ≤ 140737488351232) (v : Value) (zs : List Int) (c : Int) (w : World) (hv : SlAt w v (zs.map (.int .i64))) (hlen : zs.length < 20) :
    Calls Try.prog 24 #[.string s, v, .int .i64 c] w fun e w' => ∃ v', e = .returned v' ∧ SlIn w.heap.size w'.heap.size w' v' ((topL s zs c).map (.int .i64)) ∧ Below w.heap.size w w' := by
  go_enter Try.func24, Try.ntmps24
  go_wp2_with fail
  refine (rankOrder_any s hs v zs _ hv hlen).mono ?_
  rintro e w1 ⟨v1, rfl, ho, hb⟩
  have HE := Lib.hid (orderL_le s zs)
  have hsl := SlIn.owned ho
  obtain ⟨a, n, cap, hv1, HN, hcap, hmax, -⟩ := (hsl.at (Nat.le_refl _)).opened
  rw [hv1] at hsl
  have HL := Lib.hid hsl
  clear hsl hv ho
  subst hv1
  have hn : n < 20 := by rw [HN.out]; have := HE.out; omega
  have hcut : ∀ m : Nat, m = min n c.toNat → SlIn w.heap.size w1.heap.size w1 (.slice a m cap) ((topL s zs c).map (.int .i64)) := by
    intro m hm
    have h := HL.out.cut m (by rw [List.length_map, ← HN.out]; omega)
    rw [← List.map_take] at h
    have e : topL s zs c = (orderL s zs).take m := by
      unfold topL
      have h1 := HN.out
      by_cases hc : c.toNat ≤ n
      · rw [show m = c.toNat by omega]
      · rw [show m = n by omega, List.take_of_length_le (by omega), List.take_of_length_le (by omega)]
    rw [e]; exact h
  have HC := Lib.hid hcut
  clear hcut
  by_cases hc0 : c < 0
  · go_wp2
    go_ret
    exact ⟨_, rfl, HC.out _ (by omega), hb⟩
  · by_cases hc1 : c < n
    · go_wp2
      go_ret
      exact ⟨_, rfl, HC.out _ (by omega), hb⟩
    · go_wp2
      go_ret
      exact ⟨_, rfl, HC.out _ (by omega), hb⟩

theorem topL_le (s : ByteArray) (zs : List Int) (c : Int) : (topL s zs c).length ≤ zs.length := Nat.le_trans (by unfold topL; rw [List.length_take]; omega) (orderL_le s zs)
theorem moved_any (s : ByteArray) (hs : s.size ≤ 140737488351232) (va vb : Value) (old now : List Int) (c : Int) (w : World) (ha : SlAt w va (old.map (.int .i64))) (hb : SlAt w vb (now.map (.int .i64))) (hla : old.length < 20) (hlb : now.length < 20) :
    Calls Try.prog 30 #[.string s, va, vb, .int .i64 c] w fun e w' => ∃ v1 v2, e = .returned (.tuple #[v1, v2]) ∧
      w'.ownsRow w.heap.size 3 1 v1 (withoutL (topL s now c) (topL s old c)).length ((withoutL (topL s now c) (topL s old c)).map (.int .i64)) ∧ Below w.heap.size w w' := by
  have HA := Lib.hid ha
  have HB := Lib.hid hb
  have HL1 := Lib.hid (topL_le s old c)
  have HL2 := Lib.hid (topL_le s now c)
  clear ha hb
  go_enter Try.func30, Try.ntmps30
  go_wp2_with fail
  refine (top_any s hs va old c _ HA.out hla).mono ?_
  rintro e w1 ⟨v1, rfl, ho1, hb1⟩
  have HO1 := Lib.hid ho1
  have hs1 := hb1.size
  clear ho1
  go_wp2_with fail
  refine (top_any s hs vb now c _ (HB.out.below hb1) hlb).mono ?_
  rintro e w2 ⟨v2, rfl, ho2, hb2⟩
  have hs2 := hb2.size
  have HO2 := Lib.hid (ho2.at (Nat.le_refl _))
  have HO1' := Lib.hid ((HO1.out.below hb2 (Nat.le_refl _)).at (by omega))
  clear ho2 HO1
  go_wp2_with fail
  refine (without_any _ _ _ _ _ HO2.out HO1'.out (by have := HL2.out; omega)).mono ?_
  rintro e w3 ⟨v3, rfl, ho3, hb3⟩
  have hs3 := hb3.size
  have HO3 := Lib.hid (ownsRow_base ho3 (show w.heap.size ≤ w2.heap.size by omega))
  have HLT := Lib.hid (fun k hk => (ho3.lt k hk).2)
  clear ho3
  go_wp2_with fail
  refine (without_any _ _ _ _ _ (HO1'.out.below hb3) (HO2.out.below hb3) (by have := HL1.out; omega)).mono ?_
  rintro e w4 ⟨v4, rfl, ho4, hb4⟩
  go_wp2
  go_ret2
  refine ⟨_, _, rfl, ownsRow_below HO3.out hb4 (fun k hk => HLT.out k hk), ?_⟩
  exact ((hb1.trans (hb2.mono hs1)).trans (hb3.mono (by omega))).trans (hb4.mono (by omega))

/-- what IndexFunc answers -/
def Found (now l : List Int) (i : Int) : Prop := (∃ k : Nat, ∃ h : k < l.length, i = (k : Int) ∧ l.find? (hasB now) = some l[k]) ∨ (i = -1 ∧ l.find? (hasB now) = none)
theorem sourceFn_any (now : List Int) (vn : Value) (B : Nat) (x : Int) (w : World) (hc : w.cell? ⟨B, 0, none⟩ = some vn) (hn : SlAt w vn (now.map (.int .i64))) :
    Calls Try.prog 54 #[.int .i64 x, .pointer (some ⟨B, 0, none⟩)] w fun e w' => e = .returned (.bool (hasB now x)) ∧ w = w' := by
  obtain ⟨a, n, cap, hv1, -⟩ := hn.opened
  subst hv1
  have HN := Lib.hid hn
  clear hn
  go_enter Try.func54, Try.ntmps54
  go_wp2_with fail
  refine (contains_any _ now x _ HN.out).mono ?_
  rintro e w1 ⟨rfl, rfl⟩
  go_wp2
  go_ret
  exact ⟨rfl, rfl⟩
theorem find_none_succ {now l : List Int} {k : Nat} (h : k < l.length) (h0 : (l.take k).find? (hasB now) = none) (h1 : hasB now l[k] = false) : (l.take (k + 1)).find? (hasB now) = none := by
  rw [List.take_succ_eq_append_getElem h, List.find?_append, h0]
  simp [h1]
theorem find_some_at {now l : List Int} {k : Nat} (h : k < l.length) (h0 : (l.take k).find? (hasB now) = none) (h1 : hasB now l[k] = true) : l.find? (hasB now) = some l[k] := by
  conv => lhs; rw [← List.take_append_drop (k + 1) l]
  rw [List.find?_append, List.take_succ_eq_append_getElem h, List.find?_append, h0]
  simp [h1]
theorem indexFn_any (now l : List Int) (vl vn : Value) (B : Nat) (w : World) (hc : w.cell? ⟨B, 0, none⟩ = some vn) (hn : SlAt w vn (now.map (.int .i64))) (hl : SlAt w vl (l.map (.int .i64))) (hlen : l.length < 2147483648) :
    Calls Try.prog 53 #[vl, .func (.func 54) #[] #[.pointer (some ⟨B, 0, none⟩)]] w fun e w' => ∃ i, e = .returned (.int .i64 i) ∧ Found now l i ∧ ∃ q, w' = w.drewN q := by
  obtain ⟨a, n, cap, rfl, HN, hcap, hmax, hcell⟩ := hl.opened
  have HC := Lib.hid hcell
  have HH := Lib.hid hc
  have HV := Lib.hid hn
  have hn2 : n < 2147483648 := by rw [HN.out]; exact hlen
  clear hcell hl hn hc
  go_enter Try.func53, Try.ntmps53
  go_wp2
  go_loopw [8] (fun i wr => ∃ k : Nat, k ≤ n ∧ i = .int .i64 (k : Int) ∧ Hid ((l.take k).find? (hasB now) = none) ∧ ∃ q, wr = w.drewN q) (fun i _ => n - (intOf i).toNat)
  case atStart => exact ⟨0, Nat.zero_le _, rfl, Lib.hid rfl, 0, rfl⟩
  case round =>
    obtain ⟨k, hk, rfl, HF, q, rfl⟩ := hrel
    by_cases hlt : k < n
    · have hk2 : k < l.length := by rw [← HN.out]; exact hlt
      rcases HC.out with h0 | ⟨bb, off, rfl, hbb, hcell⟩
      · omega
      · have hcl : (w.drewN q).cell? ⟨bb, off + k, none⟩ = some (.int .i64 l[k]) := hcell k hk2
        have HS := Lib.hid (find_none_succ (now := now) hk2 HF.out)
        have HT := Lib.hid (find_some_at (now := now) hk2 HF.out)
        have HI : Hid (l.find? (hasB now) = some l[k] → Found now l (k : Int)) := Lib.hid (fun h => .inl ⟨k, hk2, rfl, h⟩)
        generalize l[k] = z at *
        clear hcell
        cases hh : hasB now z with
        | true =>
          have HZ := Lib.hid hh
          go_wp2_with fail
          refine (sourceFn_any now vn B z (w.drewN q) HH.out (HV.out.below (below_drewN (Below.refl _ _) _))).mono ?_
          rintro e w5 ⟨rfl, rfl⟩
          rw [hh]
          go_wp2
          go_ret
          exact ⟨_, rfl, HI.out (HT.out HZ.out), _, rfl⟩
        | false =>
          have HZ := Lib.hid hh
          go_wp2_with fail
          refine (sourceFn_any now vn B z (w.drewN q) HH.out (HV.out.below (below_drewN (Below.refl _ _) _))).mono ?_
          rintro e w5 ⟨rfl, rfl⟩
          rw [hh]
          go_wp2
          go_roundw
          case rel => exact ⟨k + 1, by omega, by go_num, Lib.hid (HS.out HZ.out), _, rfl⟩
          case measure => simp [intOf]; omega
    · obtain rfl : k = n := by omega
      have HNo : Hid (l.find? (hasB now) = none) := by have := HF.out; rw [HN.out, List.take_length] at this; exact Lib.hid this
      go_wp2
      go_ret
      exact ⟨_, rfl, .inr ⟨rfl, HNo.out⟩, _, rfl⟩
def srcOf (s : ByteArray) (old now : List Int) : Int := ((orderL s old).find? (hasB now)).getD 0
theorem source_any (s : ByteArray) (hs : s.size ≤ 140737488351232) (va vb : Value) (old now : List Int) (w : World) (ha : SlAt w va (old.map (.int .i64))) (hb : SlAt w vb (now.map (.int .i64))) (hla : old.length < 20) :
    Calls Try.prog 31 #[.string s, va, vb] w fun e w' => e = .returned (.int .i64 (srcOf s old now)) ∧ Below w.heap.size w w' := by
  have HA := Lib.hid ha
  obtain ⟨an, nn, capn, hvn, -⟩ := hb.opened
  subst hvn
  have HB := Lib.hid hb
  have HL1 := Lib.hid (orderL_le s old)
  clear ha hb
  go_enter Try.func31, Try.ntmps31
  go_wp2_with fail
  refine (rankOrder_any s hs va old _ (HA.out.below ((Below.refl _ _).alloc (Nat.le_refl _) _)) hla).mono ?_
  rintro e w1 ⟨v1, rfl, ho1, hb1⟩
  have hbox := (hb1.cell (p := ⟨w.heap.size, 0, none⟩) (by simp))
  rw [show (w.alloc (.cells #[.slice an nn capn] 23)).cell? ⟨w.heap.size, 0, none⟩ = some (.slice an nn capn) by simp] at hbox
  have hb0 : Below w.heap.size w w1 := ((Below.refl _ w).alloc (Nat.le_refl _) (.cells #[.slice an nn capn] 23)).trans (hb1.mono (by simp))
  have HO1 := Lib.hid (SlAt.owned ho1)
  clear ho1 hb1
  go_wp2_with fail
  refine (indexFn_any now (orderL s old) v1 _ _ _ hbox (HB.out.below hb0) HO1.out (by have := HL1.out; omega)).mono ?_
  rintro e w2 ⟨i, rfl, hf, q, rfl⟩
  rcases hf with ⟨k, hk, rfl, hf⟩ | ⟨rfl, hf⟩
  · have HF : Hid (srcOf s old now = (orderL s old)[k]) := by unfold srcOf; rw [hf]; exact Lib.hid rfl
    obtain ⟨a, n, cap, rfl, HN, hcap, hmax, hcell⟩ := HO1.out.opened
    have hn : n < 20 := by rw [HN.out]; have := HL1.out; omega
    have hkn : k < n := by rw [HN.out]; exact hk
    rcases hcell with h0 | ⟨bb, off, rfl, hbb, hcell⟩
    · omega
    · have hcl : (w1.drewN q).cell? ⟨bb, off + k, none⟩ = some (.int .i64 (orderL s old)[k]) := hcell k hk
      generalize (orderL s old)[k] = z at *
      clear hcell hf
      go_wp2
      go_ret
      exact ⟨ret_int HF.out.symm, below_drewN hb0 _⟩
  · have HF : Hid (srcOf s old now = 0) := by unfold srcOf; rw [hf]; exact Lib.hid rfl
    go_wp2
    go_ret
    exact ⟨ret_int HF.out.symm, below_drewN hb0 _⟩
end Go.Proofs.Ythapnanemkjhhaa
