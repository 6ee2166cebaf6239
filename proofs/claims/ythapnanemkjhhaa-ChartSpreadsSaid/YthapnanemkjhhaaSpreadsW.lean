/- The walk of the law ChartSpreads. No condition. -/
import Derived.Test.YthapnanemkjhhaaSpreadsP
import Derived.Test.YthapnanemkjhhaaAwake
namespace Go.Proofs.Ythapnanemkjhhaa
open Go.RowKit
set_option linter.unusedVariables false
attribute [local go_sem] run_store_float
set_option maxRecDepth 100000 in
set_option maxHeartbeats 4000000 in
theorem spreads_walk (v : Value) (zs : List Int) (of : Int) (w : World) (hv : SlAt w v (zs.map (.int .u64))) :
    Calls Try.prog 6 #[v, .int .u64 of] w fun e w' => e = .returned (.bool true) ∧ Below w.heap.size w w' := by
  obtain ⟨a, n, cap, rfl, HN, hcap, hmax, hc⟩ := hv.opened
  have HC := Lib.hid hc
  clear hc hv
  go_enter Try.func6, Try.ntmps6
  go_wp2_with fail
  refine (awake_any _).mono ?_
  rintro e w1 ⟨rfl, hb1⟩
  have hB1 := Lib.hid hb1
  have hs1 := hb1.size
  clear hb1
  go_wp2
  go_loopw [5, 6] (fun v i wr => ∃ (k : Nat) (xs : List ShareD), k ≤ n ∧ k ≤ 12 ∧ i = .int .i64 (k : Int) ∧ Hid (xs.length = k) ∧ Hid (wr.ownsRow w.heap.size 32 4 v k (xs.flatMap ShareD.cells)) ∧ Hid (∀ x ∈ xs, W64 x.part) ∧ w.heap.size ≤ wr.heap.size ∧ Hid (Below w.heap.size w wr)) (fun _ i _ => n - (intOf i).toNat)
  case atStart => exact ⟨0, [], Nat.zero_le _, Nat.zero_le _, rfl, Lib.hid rfl, Lib.hid (World.ownsRow_nil _ _ _ _), Lib.hid (fun x hx => by cases hx), hs1, hB1⟩
  case round =>
    obtain ⟨k, xs, hk, hk12, rfl, HL, hown, HW, hsz, HB⟩ := hrel
    by_cases hlt : k < n ∧ k < 12
    · obtain ⟨hlt, hlt12⟩ := hlt
      have hk2 : k < zs.length := by rw [← HN.out]; exact hlt
      rcases HC.out with h0 | ⟨b, off, rfl, hb, hcell⟩
      · omega
      · have hc := (HB.out.cell (p := ⟨b, off + k, none⟩) hb).trans (hcell k hk2)
        generalize zs[k] = z at *
        clear hcell
        go_wp2_with fail
        refine (ratio_any z of _).mono ?_
        rintro e w2 ⟨r, q, rfl, hr, hw2⟩
        have hb2 : Below wr.heap.size wr w2 := by rw [hw2]; exact below_drewN (Below.refl _ _) _
        have HR := Lib.hid hr
        have hown2 := ownsRow_below hown.out hb2 (fun q hq => (hown.out.lt q hq).2)
        have HB2 := Lib.hid (HB.out.trans (hb2.mono hsz))
        have hsz2 := Nat.le_trans hsz hb2.size
        clear hw2 hr
        go_wp2_with (at_builtin; refine wpList_appendN _ rfl _ _ 27 rfl w.heap.size 32 (.agg #[.int .i64 0, .int .i64 0, .int .i64 0, .float .f64 0]) 4 32 Try.underlying27 share_info rfl (by decide) (by decide) hown2 rfl [.int .i64 (k : Int), .int .i64 0, .int .i64 0, .float .f64 r] rfl rfl rfl (by omega) hsz2 ?_; intro v' w5 hap; obtain ⟨g', cap', rfl⟩ := hap.some')
        go_roundw
        case rel =>
          refine ⟨k + 1, xs ++ [⟨k, 0, 0, r⟩], by omega, by omega, by go_num, Lib.hid (by rw [List.length_append, HL.out]; rfl), Lib.hid ?_, Lib.hid ?_, Nat.le_trans hsz2 hap.grown.size, Lib.hid (HB2.out.trans hap.below)⟩
          · rw [List.flatMap_append]; exact hap.own
          · intro x hx
            rcases List.mem_append.1 hx with h | h
            · exact HW.out x h
            · rw [List.mem_singleton] at h; subst h; exact ratio_w HR.out
        case measure => simp [intOf]; omega
    · have hv := SlN.owned hown.out
      have HV := Lib.hid hv
      obtain ⟨a5, cap5, rfl, -, hc5, hm5, hcell5⟩ := hv
      have HCL := Lib.hid hcell5
      have HWl := HW.out
      have hkb : k < 2147483648 := by omega
      clear hcell5
      have hstop : (k < n → ¬ k < 12) := fun h1 h2 => hlt ⟨h1, h2⟩
      clear hlt
      have hthree : (k < n ∧ 12 ≤ k) ∨ n ≤ k := by omega
      clear hstop
      by_cases hk0 : k = 0
      · subst hk0
        have hx0 : xs = [] := List.eq_nil_of_length_eq_zero HL.out
        subst hx0
        have hL : Hid (lowOf [] = nanW) := Lib.hid rfl
        have hH : Hid (highOf [] = nanW) := Lib.hid rfl
        have hn0 : n = 0 := by omega
        subst hn0
        have HS := Lib.hid HWl
        clear HWl hthree
        go_wp2_with fail
        refine (spread_any _ 0 [] _ HV.out rfl hkb HS.out).mono ?_
        rintro e w6 ⟨rfl, hb6⟩
        rw [hL.out, hH.out]
        go_wp2_with (go_at_call 19; refine (not04_any nanW nanW_w _).mono ?_; rintro e w7 ⟨rfl, rfl⟩; rw [nanW_not])
        go_ret
        exact ⟨rfl, HB.out.trans (hb6.mono hsz)⟩
      · have hne : ((k : Int) == 0) = false := by simpa using hk0
        have hkp : 0 < k := by omega
        obtain ⟨lw64, lo, le⟩ := low_ok xs HWl (by rw [HL.out]; exact hkp)
        obtain ⟨gw64, go, ge⟩ := high_ok xs HWl (by rw [HL.out]; exact hkp)
        rw [HL.out] at le ge
        have HS := Lib.hid HWl
        have HLO := Lib.hid lo
        have HGO := Lib.hid go
        have HLE := Lib.hid le
        have HGE := Lib.hid ge
        clear HWl lo le go ge hk0
        by_cases hkn : k < n
        all_goals
          go_wp2_with fail
          refine (spread_any _ k xs _ HV.out HL.out.symm hkb HS.out).mono ?_
          rintro e w6 ⟨rfl, hb6⟩
          have HB6 := Lib.hid (HB.out.trans (hb6.mono hsz))
          have HV6 := Lib.hid (HV.out.below hb6)
          have hsz6 := Nat.le_trans hsz hb6.size
          have HB66 := Lib.hid hb6
          clear hb6
          generalize lowOf xs = lw at *
          generalize highOf xs = hw at *
          go_wp2
          go_loopw [9, 10, 52] (fun s m i w7 => ∃ j : Nat, j ≤ k ∧ i = .int .i64 (j : Int) ∧ s = .bool (eqTo lw xs j) ∧ m = .bool (eqTo hw xs j) ∧ w6.heap.size ≤ w7.heap.size ∧ Hid (Below w6.heap.size w6 w7)) (fun _ _ i _ => k - (intOf i).toNat)
          case atStart => exact ⟨0, Nat.zero_le _, rfl, rfl, rfl, Nat.le_refl _, Lib.hid (Below.refl _ _)⟩
          case round =>
            obtain ⟨j, hj, rfl, rfl, rfl, hsz7, HB7⟩ := hrel
            by_cases hjk : j < k
            · have hj2 : j < xs.length := by rw [HL.out]; exact hjk
              rcases HCL.out with h0 | ⟨b5, off5, rfl, hb5, hcells⟩
              · omega
              · have ⟨c1, c2, c3, c4⟩ := share_cells hcells j hj2
                have hb56 : b5 < w6.heap.size := Nat.lt_of_lt_of_le hb5 HB66.out.size
                rw [← HB66.out.cell (p := ⟨b5, off5 + j * 4, none⟩) hb5, ← HB7.out.cell (p := ⟨b5, off5 + j * 4, none⟩) hb56] at c1
                rw [← HB66.out.cell (p := ⟨b5, off5 + j * 4 + 1, none⟩) hb5, ← HB7.out.cell (p := ⟨b5, off5 + j * 4 + 1, none⟩) hb56] at c2
                rw [← HB66.out.cell (p := ⟨b5, off5 + j * 4 + 2, none⟩) hb5, ← HB7.out.cell (p := ⟨b5, off5 + j * 4 + 2, none⟩) hb56] at c3
                rw [← HB66.out.cell (p := ⟨b5, off5 + j * 4 + 3, none⟩) hb5, ← HB7.out.cell (p := ⟨b5, off5 + j * 4 + 3, none⟩) hb56] at c4
                have HE1 := Lib.hid (eqTo_succ lw xs j hj2)
                have HE2 := Lib.hid (eqTo_succ hw xs j hj2)
                have hx := List.getElem_mem hj2
                have hxw := HS.out _ hx
                have ho1 := HLO.out _ hx
                have ho2 := HGO.out _ hx
                generalize xs[j] = x at *
                obtain ⟨x1, x2, x3, x4⟩ := x
                dsimp only at *
                generalize eqTo lw xs j = sb at *
                generalize eqTo hw xs j = mb at *
                have HO1 : Hid (∃ y, y = ordR lw x4) := Lib.hid ⟨_, rfl⟩
                obtain ⟨y1, hy1⟩ := HO1.out
                obtain ⟨y2, hy2⟩ : ∃ y, y = ordR hw x4 := ⟨_, rfl⟩
                rw [← hy1] at ho1 HE1
                rw [← hy2] at ho2 HE2
                have HY1 := Lib.hid hy1
                have HY2 := Lib.hid hy2
                clear hy1 hy2 hcells hx HO1
                have t1 : decide (0 < y1) = false := decide_eq_false (by omega)
                have t2 : decide (y2 < 0) = false := decide_eq_false (by omega)
                rcases (show (y1 == 0) = true ∨ (y1 == 0) = false by cases (y1 == 0) <;> simp) with z1 | z1
                all_goals
                  rcases (show (y2 == 0) = true ∨ (y2 == 0) = false by cases (y2 == 0) <;> simp) with z2 | z2
                  all_goals
                    rw [z1] at HE1
                    rw [z2] at HE2
                    cases sb with
                    | false =>
                      cases mb with
                      | false =>
                        go_wp2_with fail
                        refine (order04_any lw x4 lw64 hxw _).mono ?_
                        rintro e w8 ⟨rfl, rfl⟩
                        rw [← HY1.out]
                        go_wp2_with fail
                        refine (order04_any hw x4 gw64 hxw _).mono ?_
                        rintro e w8 ⟨rfl, rfl⟩
                        rw [← HY2.out]
                        go_wp2_with fail
                        refine (order04_any lw x4 lw64 hxw _).mono ?_
                        rintro e w8 ⟨rfl, rfl⟩
                        rw [← HY1.out]
                        go_wp2_with fail
                        refine (order04_any hw x4 gw64 hxw _).mono ?_
                        rintro e w8 ⟨rfl, rfl⟩
                        rw [← HY2.out]
                        go_wp2_with fail
                        go_roundw
                        case rel =>
                          refine ⟨j + 1, by omega, by go_num, ?_, ?_, ?_, ?_⟩
                          · rw [HE1.out]; rfl
                          · rw [HE2.out]; rfl
                          · simp; omega
                          · exact Lib.hid (HB7.out.alloc hsz7 _)
                        case measure => simp [intOf]; omega
                      | true =>
                        go_wp2_with fail
                        refine (order04_any lw x4 lw64 hxw _).mono ?_
                        rintro e w8 ⟨rfl, rfl⟩
                        rw [← HY1.out]
                        go_wp2_with fail
                        refine (order04_any hw x4 gw64 hxw _).mono ?_
                        rintro e w8 ⟨rfl, rfl⟩
                        rw [← HY2.out]
                        go_wp2_with fail
                        refine (order04_any lw x4 lw64 hxw _).mono ?_
                        rintro e w8 ⟨rfl, rfl⟩
                        rw [← HY1.out]
                        go_wp2_with fail
                        go_roundw
                        case rel =>
                          refine ⟨j + 1, by omega, by go_num, ?_, ?_, ?_, ?_⟩
                          · rw [HE1.out]; rfl
                          · rw [HE2.out]; rfl
                          · simp; omega
                          · exact Lib.hid (HB7.out.alloc hsz7 _)
                        case measure => simp [intOf]; omega
                    | true =>
                      cases mb with
                      | false =>
                        go_wp2_with fail
                        refine (order04_any lw x4 lw64 hxw _).mono ?_
                        rintro e w8 ⟨rfl, rfl⟩
                        rw [← HY1.out]
                        go_wp2_with fail
                        refine (order04_any hw x4 gw64 hxw _).mono ?_
                        rintro e w8 ⟨rfl, rfl⟩
                        rw [← HY2.out]
                        go_wp2_with fail
                        refine (order04_any hw x4 gw64 hxw _).mono ?_
                        rintro e w8 ⟨rfl, rfl⟩
                        rw [← HY2.out]
                        go_wp2_with fail
                        go_roundw
                        case rel =>
                          refine ⟨j + 1, by omega, by go_num, ?_, ?_, ?_, ?_⟩
                          · rw [HE1.out]; rfl
                          · rw [HE2.out]; rfl
                          · simp; omega
                          · exact Lib.hid (HB7.out.alloc hsz7 _)
                        case measure => simp [intOf]; omega
                      | true =>
                        go_wp2_with fail
                        refine (order04_any lw x4 lw64 hxw _).mono ?_
                        rintro e w8 ⟨rfl, rfl⟩
                        rw [← HY1.out]
                        go_wp2_with fail
                        refine (order04_any hw x4 gw64 hxw _).mono ?_
                        rintro e w8 ⟨rfl, rfl⟩
                        rw [← HY2.out]
                        go_wp2_with fail
                        go_roundw
                        case rel =>
                          refine ⟨j + 1, by omega, by go_num, ?_, ?_, ?_, ?_⟩
                          · rw [HE1.out]; rfl
                          · rw [HE2.out]; rfl
                          · simp; omega
                          · exact Lib.hid (HB7.out.alloc hsz7 _)
                        case measure => simp [intOf]; omega
            · obtain rfl : j = k := by omega
              rw [HLE.out, HGE.out]
              go_wp2
              go_ret
              exact ⟨rfl, HB6.out.trans (HB7.out.mono hsz6)⟩
end Go.Proofs.Ythapnanemkjhhaa
