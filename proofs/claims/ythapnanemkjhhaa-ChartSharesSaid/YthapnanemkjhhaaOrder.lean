/- Contracts of slices.SortStableFunc over fewer than 20 ints, of rank.Order, Top, Moved. Condition: keys no longer than 2^47 bytes, fewer than 20 devices. -/
import Derived.Test.YthapnanemkjhhaaRankP
import Derived.Test.YthapnanemkjhhaaRankQ
namespace Go.Proofs.Ythapnanemkjhhaa
open Go.RowKit Go.Sort Go.Lib
set_option linter.unusedVariables false

theorem cell_sortWorld_other {w : World} {blk off m B o : Nat} {dk : Array Int} {os : Array Obj} {x : Value} (hB : B < w.heap.size) (hne : B ≠ blk) (hc : w.cell? ⟨B, o, none⟩ = some x) :
    (sortWorld (Value.int .i64) w blk off m dk os).cell? ⟨B, o, none⟩ = some x := by
  unfold sortWorld
  rw [cell?_grow _ _ _ (by rw [size_putRow]; exact hB)]
  have hh : (putRow (Value.int .i64) (Sort.ahead w m) blk off dk).heap[B]? = w.heap[B]? := by
    simp [putRow, mapBlock, Sort.ahead, Array.getElem?_modify, Ne.symm hne]
  simpa only [World.cell?, hh] using hc

set_option maxHeartbeats 1000000 in
theorem stableCmp_any (s : ByteArray) (hs : s.size ≤ 140737488351232) (B blk cap n : Nat) (d : Array Int) (w0 w : World) (hB : B < w0.heap.size) (hne : B ≠ blk) (hc : w0.cell? ⟨B, 0, none⟩ = some (.string s))
    (R : Row1 (Value.int .i64) w0 blk 0 d) (hn : d.size = n) (hn20 : n < 20) (S : SW (Value.int .i64) w0 blk 0 d w) :
    Calls Try.prog 77 #[.slice (some ⟨blk, 0, none⟩) n cap, .int .i64 n, .func (.func 66) #[] #[.pointer (some ⟨B, 0, none⟩)]] w fun e w' => e = .returned (.tuple #[]) ∧ SW (Value.int .i64) w0 blk 0 (Sort.insertionSort (ltOf (cmpW s)) d 0 n) w' := by
  have hcmp : CmpLays1 Try.prog 66 #[.pointer (some ⟨B, 0, none⟩)] (Value.int .i64) (cmpW s) blk 0 d.size w0 := by
    intro m os dk hdk x y
    exact (orderCmp_any s hs B x y _ (cell_sortWorld_other hB hne hc) (by unfold sortWorld; rw [size_grow, size_putRow]; exact Nat.lt_of_lt_of_le hB (Nat.le_add_right _ _))).mono fun _ _ ⟨he, hg⟩ => ⟨he, hg⟩
  subst hn
  have HS := Lib.hid S
  have HC := Lib.hid hcmp
  have HR := Lib.hid R
  clear S hcmp R hc
  go_enter Try.func77, Try.ntmps77
  go_wp2
  go_loopw [7, 8] (fun x y wr => x = .int .i64 0 ∧ y = .int .i64 20 ∧ ∃ q, wr = w.drewN q) (fun _ _ _ => 0)
  case atStart => exact ⟨rfl, rfl, 0, rfl⟩
  case round =>
    obtain ⟨rfl, rfl, q, rfl⟩ := hrel
    have h20 : ¬ (20 : Int) ≤ (d.size : Int) := by omega
    go_wp2_with fail
    refine (Try.insertionSortCmpFunc_s (Value.int .i64) (cmpW s) 66 _ blk 0 cap 0 d.size d d w0 _ (fun _ _ => by kernel_rfl) HC.out HR.out rfl ?_ (Nat.zero_le _) (Nat.le_refl _) (by omega)).mono ?_
    · exact HS.out.drewN _
    rintro e w1 ⟨rfl, hw⟩
    have HW := Lib.hid hw
    clear hw
    go_wp2
    go_loopw [6] (fun x wr => x = .int .i64 20 ∧ ∃ q, wr = w1.drewN q) (fun _ _ => 0)
    case atStart => exact ⟨rfl, 0, rfl⟩
    case round =>
      obtain ⟨rfl, q, rfl⟩ := hrel
      have h20' : ¬ (20 : Int) < (d.size : Int) := by omega
      go_wp2
      go_end0
      exact ⟨rfl, HW.out.drewN _⟩
theorem stable_any (s : ByteArray) (hs : s.size ≤ 140737488351232) (B blk cap n : Nat) (d : Array Int) (w0 w : World) (hB : B < w0.heap.size) (hne : B ≠ blk) (hc : w0.cell? ⟨B, 0, none⟩ = some (.string s))
    (R : Row1 (Value.int .i64) w0 blk 0 d) (hn : d.size = n) (hn20 : n < 20) (S : SW (Value.int .i64) w0 blk 0 d w) :
    Calls Try.prog 65 #[.slice (some ⟨blk, 0, none⟩) n cap, .func (.func 66) #[] #[.pointer (some ⟨B, 0, none⟩)]] w fun e w' => e = .returned (.tuple #[]) ∧ SW (Value.int .i64) w0 blk 0 (Sort.insertionSort (ltOf (cmpW s)) d 0 n) w' := by
  go_enter Try.func65, Try.ntmps65
  go_wp2_with fail
  refine (stableCmp_any s hs B blk cap n d w0 _ hB hne hc R hn hn20 S).mono ?_
  rintro e w1 ⟨rfl, hw⟩
  go_wp2
  go_end0
  exact ⟨rfl, hw⟩
theorem stableNil_any (B : Nat) (w : World) :
    Calls Try.prog 77 #[.slice none 0 0, .int .i64 0, .func (.func 66) #[] #[.pointer (some ⟨B, 0, none⟩)]] w fun e w' => e = .returned (.tuple #[]) ∧ ∃ q, w' = w.drewN q := by
  go_enter Try.func77, Try.ntmps77
  go_wp2
  go_loopw [7, 8] (fun x y wr => x = .int .i64 0 ∧ y = .int .i64 20 ∧ ∃ q, wr = w.drewN q) (fun _ _ _ => 0)
  case atStart => exact ⟨rfl, rfl, 0, rfl⟩
  case round =>
    obtain ⟨rfl, rfl, q, rfl⟩ := hrel
    go_wp2_with fail
    refine (Try.insertionSortCmpFunc_none (α := Int) none 0 _ _).mono ?_
    rintro e w1 ⟨rfl, rfl⟩
    go_wp2
    go_loopw [6] (fun x wr => x = .int .i64 20 ∧ ∃ q, wr = w.drewN q) (fun _ _ => 0)
    case atStart => exact ⟨rfl, _, rfl⟩
    case round =>
      obtain ⟨rfl, q, rfl⟩ := hrel
      go_wp2
      go_end0
      exact ⟨rfl, _, rfl⟩
theorem stableNil2_any (B : Nat) (w : World) :
    Calls Try.prog 65 #[.slice none 0 0, .func (.func 66) #[] #[.pointer (some ⟨B, 0, none⟩)]] w fun e w' => e = .returned (.tuple #[]) ∧ ∃ q, w' = w.drewN q := by
  go_enter Try.func65, Try.ntmps65
  go_wp2_with fail
  refine (stableNil_any B _).mono ?_
  rintro e w1 ⟨rfl, q, rfl⟩
  go_wp2
  go_end0
  exact ⟨rfl, _, rfl⟩

theorem clone_int (v : Value) (zs : List Int) (w : World) (hv : SlAt w v (zs.map (.int .i64))) (hlen : zs.length < 2147483648) :
    Calls Try.prog 64 #[v] w fun e w' => ∃ v', e = .returned v' ∧ w'.ownsRow w.heap.size 3 1 v' zs.length (zs.map (.int .i64)) ∧ Below w.heap.size w w' := by
  obtain ⟨a, n, cap, rfl, hn, hc, hm, h⟩ := hv
  have hn' : n = zs.length := by simpa using hn
  subst hn'
  clear hn
  by_cases h0 : zs.length = 0
  · obtain rfl : zs = [] := List.eq_nil_of_length_eq_zero h0
    cases a with
    | none =>
      refine (Try.slices_Clone_int_nil _ _ w).mono ?_
      rintro e w' ⟨rfl, rfl⟩
      exact ⟨_, rfl, World.ownsRow_nil _ _ _ _, Below.refl _ _⟩
    | some a =>
      refine (Try.slices_Clone_int_zero a _ w).mono ?_
      rintro e w' ⟨v', rfl, ho, _, hb⟩
      exact ⟨_, rfl, ho, hb⟩
  · rcases h with h | ⟨b, off, rfl, hlt, hcell⟩
    · exact absurd h h0
    · refine (Try.slices_Clone_int b off zs.length cap zs w (Nat.le_refl _) (by omega) ?_).mono ?_
      · intro j hj
        rw [hcell j (.int .i64 zs[j]) (by simp [hj])]
        simp [List.getD, hj]
      · rintro e w' ⟨v', rfl, ho, _, hb⟩
        rw [List.take_length] at ho
        exact ⟨_, rfl, ho, hb⟩

def sortW (s : ByteArray) (zs : List Int) : List Int := (Sort.insertionSort (ltOf (cmpW s)) zs.toArray 0 zs.length).toList
def orderL (s : ByteArray) (zs : List Int) : List Int := sortW s (compI (sortI zs))
theorem cmpW_eq (s : ByteArray) (x y : Int) : cmpW s x y = if wI (wt s y) < wI (wt s x) then -1 else if wI (wt s x) < wI (wt s y) then 1 else 0 := rfl
theorem swo_cmpW (s : ByteArray) : SWO (ltOf (cmpW s)) := by
  have e : ∀ x y, ltOf (cmpW s) x y = decide (wI (wt s y) < wI (wt s x)) := by
    intro x y
    unfold ltOf
    rw [cmpW_eq]
    split
    · simp_all
    · split <;> simp_all
  exact ⟨fun x => by rw [e]; simp, fun x y z => by rw [e, e, e]; simp only [decide_eq_true_eq]; omega, fun x y z => by rw [e, e, e]; simp only [decide_eq_false_iff_not]; omega⟩
theorem sortW_perm (s : ByteArray) (zs : List Int) : (sortW s zs).Perm zs := by
  have h := (insertionSort_holds (swo_cmpW s) zs.toArray 0 zs.length (Nat.zero_le _) (by simp)).1
  obtain ⟨h1, -, h2⟩ := h
  have e1 : (Sort.insertionSort (ltOf (cmpW s)) zs.toArray 0 zs.length).extract 0 zs.length = Sort.insertionSort (ltOf (cmpW s)) zs.toArray 0 zs.length := by
    have : zs.length = (Sort.insertionSort (ltOf (cmpW s)) zs.toArray 0 zs.length).size := by rw [h1]; simp
    conv => lhs; arg 3; rw [this]
    exact Array.extract_size
  rw [e1] at h2
  have e2 : zs.toArray.extract 0 zs.length = zs.toArray := by
    have : zs.length = zs.toArray.size := by simp
    conv => lhs; arg 3; rw [this]
    exact Array.extract_size
  rw [e2] at h2
  exact h2
theorem sortW_length (s : ByteArray) (zs : List Int) : (sortW s zs).length = zs.length := (sortW_perm s zs).length_eq
theorem compI_le (zs : List Int) : (compI zs).length ≤ zs.length := compact_length_le zs
theorem orderL_le (s : ByteArray) (zs : List Int) : (orderL s zs).length ≤ zs.length := by
  unfold orderL
  rw [sortW_length]
  exact Nat.le_trans (compI_le _) (by rw [sortI_length]; exact Nat.le_refl _)

theorem rankOrder_any (s : ByteArray) (hs : s.size ≤ 140737488351232) (v : Value) (zs : List Int) (w : World) (hv : SlAt w v (zs.map (.int .i64))) (hlen : zs.length < 20) :
    Calls Try.prog 44 #[.string s, v] w fun e w' => ∃ v', e = .returned v' ∧ w'.ownsRow w.heap.size 3 1 v' (orderL s zs).length ((orderL s zs).map (.int .i64)) ∧ Below w.heap.size w w' := by
  have HV := Lib.hid hv
  obtain ⟨a, n, cap, hv1, -⟩ := hv.opened
  subst hv1
  clear hv
  go_enter Try.func44, Try.ntmps44
  go_wp2_with fail
  refine (clone_int _ zs _ (HV.out.below ((Below.refl _ _).alloc (Nat.le_refl _) _)) (by omega)).mono ?_
  rintro e w1 ⟨v1, rfl, ho1, hb1⟩
  have hsz : (w.alloc (.cells #[.string s] 9)).heap.size = w.heap.size + 1 := by simp
  have hbox := (hb1.cell (p := ⟨w.heap.size, 0, none⟩) (by simp))
  rw [show (w.alloc (.cells #[.string s] 9)).cell? ⟨w.heap.size, 0, none⟩ = some (.string s) by simp] at hbox
  have hb0 : Below w.heap.size w w1 := ((Below.refl _ w).alloc (Nat.le_refl _) (.cells #[.string s] 9)).trans (hb1.mono (by simp))
  have hs1 := hb1.size
  rw [hsz] at ho1 hs1
  clear hb1 hsz
  go_wp2_with fail
  refine (sort_int (w.heap.size + 1) zs.length v1 zs _ ho1 hs1 (by omega)).mono ?_
  rintro e w2 ⟨rfl, ht2⟩
  go_wp2_with fail
  refine (compact_int (w.heap.size + 1) zs.length v1 (sortI zs) _ ht2.own (Nat.le_trans hs1 ht2.below.size) (by omega)).mono ?_
  rintro e w3 ⟨v3, rfl, ht3⟩
  have hb3 : Below w.heap.size w w3 := (hb0.trans (ht2.below.mono (by omega))).trans (ht3.below.mono (by omega))
  have hbox3 := (ht3.below.cell (p := ⟨w.heap.size, 0, none⟩) (Nat.lt_succ_self _)).trans ((ht2.below.cell (p := ⟨w.heap.size, 0, none⟩) (Nat.lt_succ_self _)).trans hbox)
  have hs3 : w.heap.size + 1 ≤ w3.heap.size := Nat.le_trans hs1 (Nat.le_trans ht2.below.size ht3.below.size)
  have ho3 := ht3.own
  have HO : Hid (orderL s zs = sortW s (compI (sortI zs))) := Lib.hid rfl
  have hl3 : (compI (sortI zs)).length < 20 := Nat.lt_of_le_of_lt (compI_le _) (by rw [sortI_length]; exact hlen)
  clear hb0 ht2 ht3 hbox hs1 ho1
  generalize compI (sortI zs) = ys at *
  by_cases hnil : v3 = .slice none 0 0
  · subst hnil
    have hy : ys = [] := by
      rcases ho3.2 with ⟨_, h0⟩ | ⟨g, cap, cur, hv, _⟩
      · exact List.eq_nil_of_length_eq_zero h0
      · cases hv
    have HY := Lib.hid hy
    clear hy
    go_wp2_with fail
    refine (stableNil2_any _ _).mono ?_
    rintro e w4 ⟨rfl, q, rfl⟩
    go_wp2
    go_ret
    have ho : orderL s zs = [] := by
      rw [HO.out, HY.out]
      exact List.eq_nil_of_length_eq_zero (sortW_length s [])
    rw [ho]
    exact ⟨_, rfl, World.ownsRow_nil _ _ _ _, below_drewN hb3 _⟩
  · obtain ⟨g, cap, rfl, hb, hg, hnc, hcm, hl, hH⟩ := holds_of_ownsRow ho3 hnil
    go_wp2_with fail
    refine (stable_any s hs w.heap.size g _ ys.length ys.toArray w3 w3 (by omega) (by omega) hbox3 ⟨(fun _ => rfl), hH, hg⟩ (by simp) hl3 (SW.start hH)).mono ?_
    rintro e w4 ⟨rfl, q, os, rfl⟩
    go_wp2
    go_ret
    have hfin := ownsRow_putRow (q := q) (ys := sortW s ys) (k := ys.length) ho3 (sortW_length s ys) (Nat.le_refl _)
    rw [List.take_of_length_le (by rw [sortW_length]; exact Nat.le_refl _)] at hfin
    have hgr := grownBy_put (q := q) (Value.int .i64) (w := w3) (g := g) (sortW s ys).toArray os
    refine ⟨_, rfl, ?_, ?_⟩
    · rw [HO.out, sortW_length]
      have := ownsRow_grow (ownsRow_base hfin (Nat.le_succ w.heap.size)) os
      rw [show (sortW s ys).toArray = Sort.insertionSort (ltOf (cmpW s)) ys.toArray 0 ys.length from rfl] at this
      exact this
    · refine hb3.grown (row := some g) ?_ (by omega) (fun k hk => by cases hk; omega)
      simpa only [sortW, Array.toArray_toList, sortWorld] using hgr
end Go.Proofs.Ythapnanemkjhhaa
