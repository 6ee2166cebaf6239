/- The contract of chart.Plan. Condition: keys no longer than 2^47 bytes, at most 2^20 keys, fewer than 20 devices. -/
import Derived.Test.YthapnanemkjhhaaTop
import Derived.Test.YthapnanemkjhhaaOnce
import Derived.Test.YthapnanemkjhhaaRefChart
namespace Go.Proofs.Ythapnanemkjhhaa
open Go.RowKit
set_option linter.unusedVariables false

def movesOf (key : ByteArray) (old now : List Int) (c : Int) : List (ByteArray × Int × Int) := (withoutL (topL key now c) (topL key old c)).map fun n => (key, srcOf key old now, n)
def planK (ks : List ByteArray) (old now : List Int) (c : Int) (k : Nat) : List (ByteArray × Int × Int) := (ks.take k).flatMap fun key => movesOf key old now c
def chartPlan (ks : List ByteArray) (old now : List Int) (c : Int) : List (ByteArray × Int × Int) := planK (onceS ks) old now c (onceS ks).length
theorem withoutL_le (a b : List Int) : (withoutL a b).length ≤ a.length := by
  unfold withoutL
  rw [sortI_length]
  exact List.length_filter_le _ _
theorem movesOf_le (key : ByteArray) (old now : List Int) (c : Int) : (movesOf key old now c).length ≤ now.length := by
  unfold movesOf
  rw [List.length_map]
  exact Nat.le_trans (withoutL_le _ _) (topL_le _ _ _)
theorem planK_succ (ks : List ByteArray) (old now : List Int) (c : Int) (k : Nat) (h : k < ks.length) : planK ks old now c (k + 1) = planK ks old now c k ++ movesOf ks[k] old now c := by
  unfold planK
  rw [List.take_succ_eq_append_getElem h, List.flatMap_append]; simp
theorem compS_le (zs : List ByteArray) : (compS zs).length ≤ zs.length := by
  rw [compS_length]
  have := Lib.compact_length_le (datas zs)
  simpa [datas] using this
theorem onceS_le (zs : List ByteArray) : (onceS zs).length ≤ zs.length := by
  unfold onceS
  have := compS_le (sortS zs)
  rwa [sortS_length] at this
theorem info_move : (Try.prog.info? 47).map (fun i => (i.zero, i.size, i.bytes)) = some (some (.agg #[.string ByteArray.empty, .int .i64 0, .int .i64 0]), 3, 32) := by kernel_rfl
theorem cells3_length (ms : List (ByteArray × Int × Int)) : (ms.flatMap moveCells).length = ms.length * 3 := by
  induction ms with
  | nil => rfl
  | cons x l ih => rw [List.flatMap_cons, List.length_append, ih, List.length_cons]; simp [moveCells]; omega

set_option maxRecDepth 100000 in
set_option maxHeartbeats 8000000 in
theorem plan_any (vk vo vn : Value) (ks : List ByteArray) (old now : List Int) (c : Int) (w : World) (hvk : SlAt w vk (ks.map .string)) (hvo : SlAt w vo (old.map (.int .i64))) (hvn : SlAt w vn (now.map (.int .i64)))
    (hkr : ∀ s ∈ onceS ks, s.size ≤ 140737488351232) (hlen : ks.length ≤ 1048576) (hlo : old.length < 20) (hln : now.length < 20) :
    Calls Try.prog 16 #[vk, vo, vn, .int .i64 c] w fun e w' => ∃ v' m, e = .returned v' ∧ SlN 3 w' v' m ((chartPlan ks old now c).flatMap moveCells) ∧ m = (chartPlan ks old now c).length ∧ Below w.heap.size w w' := by
  have HKS := Lib.hid hkr
  have HVO := Lib.hid hvo
  have HVN := Lib.hid hvn
  have HVK := Lib.hid hvk
  have HKL := Lib.hid (Nat.le_trans (onceS_le ks) hlen)
  clear hkr hvo hvn hvk
  go_enter Try.func16, Try.ntmps16
  go_wp2_with fail
  refine (once_string_any vk ks _ HVK.out (by omega)).mono ?_
  rintro e w1 ⟨v1, rfl, hk1, hb1⟩
  have hs1 := hb1.size
  have HB1 := Lib.hid hb1
  clear hlen hb1
  obtain ⟨a, n, cap, rfl, HN, hcap, hmax, hc⟩ := (SlAt.owned hk1).opened
  have hn : n ≤ 1048576 := by rw [HN.out]; exact HKL.out
  have HC := Lib.hid hc
  clear hc hk1
  go_wp2
  go_loopw [9, 19] (fun v i wr => ∃ k m : Nat, k ≤ n ∧ i = .int .i64 (k : Int) ∧ m ≤ 20 * k ∧ wr.ownsRow w1.heap.size 47 3 v m ((planK (onceS ks) old now c k).flatMap moveCells) ∧ Hid (Below w1.heap.size w1 wr)) (fun _ i _ => n - (intOf i).toNat)
  case atStart => exact ⟨0, 0, Nat.zero_le _, rfl, Nat.zero_le _, World.ownsRow_nil _ _ _ _, Lib.hid (Below.refl _ _)⟩
  case round =>
    obtain ⟨k, m, hk, rfl, hm, hrow, hB⟩ := hrel
    obtain ⟨wo, rfl⟩ : ∃ wo : World, wo = wr := ⟨_, rfl⟩
    have hszw := hB.out.size
    by_cases hlt : k < n
    · have hk2 : k < (onceS ks).length := by rw [← HN.out]; exact hlt
      rcases HC.out with h0 | ⟨b, off, rfl, hb, hcell⟩
      · omega
      · have hc := (hB.out.cell (p := ⟨b, off + k, none⟩) hb).trans (hcell k hk2)
        have HS := Lib.hid (planK_succ (onceS ks) old now c k hk2)
        have HZ := Lib.hid (HKS.out (onceS ks)[k] (List.getElem_mem hk2))
        have HML := Lib.hid (movesOf_le (onceS ks)[k] old now c)
        generalize (onceS ks)[k] = z at *
        clear hcell
        have HVO1 : Hid (SlAt wo vo (old.map (.int .i64))) := Lib.hid (HVO.out.below (HB1.out.trans (hB.out.mono hs1)))
        have HVN1 : Hid (SlAt wo vn (now.map (.int .i64))) := Lib.hid (HVN.out.below (HB1.out.trans (hB.out.mono hs1)))
        go_wp2_with fail
        refine (moved_any z HZ.out vo vn old now c _ HVO1.out HVN1.out hlo hln).mono ?_
        rintro e w4 ⟨va, vb, rfl, hA, hb4⟩
        have hs4 := hb4.size
        have HA := Lib.hid (SlIn.owned hA)
        have HVO4 : Hid (SlAt w4 vo (old.map (.int .i64))) := Lib.hid (HVO1.out.below hb4)
        have HVN4 : Hid (SlAt w4 vn (now.map (.int .i64))) := Lib.hid (HVN1.out.below hb4)
        have HR4 := Lib.hid (ownsRow_below hrow hb4 (fun q hq => (hrow.lt q hq).2))
        have HO4 : Hid (∀ q, (_ : Value).ownBlock = some q → q < wo.heap.size ∨ w4.heap.size ≤ q) := Lib.hid (fun q hq => Or.inl (hrow.lt q hq).2)
        have HBw : Hid (Below w1.heap.size w1 w4) := Lib.hid (hB.out.trans (hb4.mono hszw))
        obtain ⟨ac, nc, capc, rfl, HNc, hcapc, hmaxc, -⟩ := (HA.out.at (Nat.le_refl _)).opened
        have hnc : nc < 20 := by
          have h1 := HNc.out
          have h2 := HML.out
          unfold movesOf at h2
          rw [List.length_map] at h2
          omega
        have HMO : Hid (movesOf z old now c = (withoutL (topL z now c) (topL z old c)).map fun n => (z, srcOf z old now, n)) := Lib.hid rfl
        generalize withoutL (topL z now c) (topL z old c) = come at *
        clear hA hrow
        go_wp2
        go_loopw [9, 33] (fun v i wr => ∃ (j q : Nat), j ≤ nc ∧ i = .int .i64 (j : Int) ∧ q ≤ 20 * k + j ∧ wr.ownsRow w1.heap.size 47 3 v q ((planK (onceS ks) old now c k ++ (come.take j).map fun n => (z, srcOf z old now, n)).flatMap moveCells) ∧ w4.heap.size ≤ wr.heap.size ∧ Hid (Below w1.heap.size w1 wr) ∧
          Hid (SlIn wo.heap.size w4.heap.size wr (.slice ac nc capc) (come.map (.int .i64))) ∧ Hid (SlAt wr vo (old.map (.int .i64))) ∧ Hid (SlAt wr vn (now.map (.int .i64))) ∧ Hid (∀ q, v.ownBlock = some q → q < wo.heap.size ∨ w4.heap.size ≤ q)) (fun _ i _ => nc - (intOf i).toNat)
        case atStart =>
          exact ⟨0, m, Nat.zero_le _, rfl, by omega, by simpa using HR4.out, Nat.le_refl _, HBw, HA, HVO4, HVN4, HO4⟩
        case round =>
          obtain ⟨j, q, hj, rfl, hq, HRow, hsz5, HBw5, HA5, HVO5, HVN5, HO5⟩ := hrel
          by_cases hltj : j < nc
          · have hj2 : j < come.length := by rw [← HNc.out]; exact hltj
            obtain ⟨a', n', cap', hv', -, -, -, hcc⟩ := (HA5.out.at hsz5).opened
            cases hv'
            rcases hcc with h0 | ⟨bc, offc, rfl, hbc, hcellc⟩
            · omega
            · have hcc := hcellc j hj2
              have HS1 : Hid ((come.take (j + 1)).map (fun n => (z, srcOf z old now, n)) = (come.take j).map (fun n => (z, srcOf z old now, n)) ++ [(z, srcOf z old now, come[j])]) := by
                rw [List.take_succ_eq_append_getElem hj2, List.map_append]; exact Lib.hid rfl
              generalize come[j] = y at *
              clear hcellc
              go_wp2_with fail
              refine (source_any z HZ.out vo vn old now _ HVO5.out HVN5.out hlo).mono ?_
              rintro e w6 ⟨rfl, hb6⟩
              have hs6 := hb6.size
              have hrow6 := ownsRow_below HRow hb6 (fun q hq => (HRow.lt q hq).2)
              have HLT6 : Hid (∀ q, _ → q < _) := Lib.hid (fun q hq => (HRow.lt q hq).2)
              have HA6 := Lib.hid (HA5.out.below hb6 hsz5)
              have HB6 := Lib.hid (HBw5.out.trans (hb6.mono (HBw5.out.size)))
              have HVO6 := Lib.hid (HVO5.out.below hb6)
              have HVN6 := Lib.hid (HVN5.out.below hb6)
              have HSRC : Hid (srcOf z old now = srcOf z old now) := Lib.hid rfl
              go_wp2_with (at_builtin; refine wpList_appendN _ rfl _ _ 41 rfl w1.heap.size 47 (.agg #[.string ByteArray.empty, .int .i64 0, .int .i64 0]) 3 32 Try.underlying41 info_move rfl (by decide) (by decide) hrow6 rfl [.string z, .int .i64 (srcOf z old now), .int .i64 y] rfl rfl rfl (by omega) (by omega) ?_; intro v' w5 hap; obtain ⟨g', cap', rfl⟩ := hap.some')
              go_roundw
              case rel =>
                have hg := hap.grown
                have hofs := HO5.out
                refine ⟨j + 1, q + 1, by omega, by go_num, by omega, ?_, by have := hg.size; omega, Lib.hid (HB6.out.trans (hap.below)), Lib.hid (HA6.out.grown hg hofs (by omega)), ?_, ?_, ?_⟩
                · rw [HS1.out, ← List.append_assoc, List.flatMap_append]
                  exact hap.own
                · exact Lib.hid (HVO.out.below (HB1.out.trans ((HB6.out.trans hap.below).mono hs1)))
                · exact Lib.hid (HVN.out.below (HB1.out.trans ((HB6.out.trans hap.below).mono hs1)))
                · refine Lib.hid fun x hx => ?_
                  rcases hap.blk with hblk | ⟨g, hblk, hgt⟩
                  · exact HO5.out x (by rw [← hblk]; exact hx)
                  · rw [hblk] at hx; cases hx; right; omega
              case measure => simp [intOf]; omega
          · obtain rfl : j = nc := by omega
            have HF : Hid (planK (onceS ks) old now c k ++ (come.take j).map (fun n => (z, srcOf z old now, n)) = planK (onceS ks) old now c (k + 1)) := by
              rw [HNc.out, List.take_length, HS.out, HMO.out]; exact Lib.hid rfl
            go_wp2
            go_roundw
            case rel =>
              refine ⟨k + 1, q, by omega, by go_num, by omega, ?_, HBw5⟩
              rw [← HF.out]; exact HRow
            case measure => simp [intOf]; omega
    · obtain rfl : k = n := by omega
      have HF : Hid (chartPlan ks old now c = planK (onceS ks) old now c k) := by unfold chartPlan; rw [HN.out]; exact Lib.hid rfl
      have HR := Lib.hid hrow
      have HLn : Hid (m = (planK (onceS ks) old now c k).length) := by
        have h1 := hrow.1
        rw [cells3_length] at h1
        exact Lib.hid (by omega)
      clear hrow
      go_wp2
      go_ret
      refine ⟨_, m, rfl, ?_, ?_, HB1.out.trans (hB.out.mono hs1)⟩
      · rw [HF.out]; exact SlN.owned HR.out
      · rw [HF.out]; exact HLn.out
end Go.Proofs.Ythapnanemkjhhaa
