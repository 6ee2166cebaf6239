/- The walk of the law ChartStays. Condition: texts no longer than 2^47 bytes. -/
import Derived.Test.YthapnanemkjhhaaPlansW
namespace Go.Proofs.Ythapnanemkjhhaa
open Go.RowKit
set_option linter.unusedVariables false
attribute [local go_sem] run_store_float
theorem plan_keys {ks : List ByteArray} {old now : List Int} {c : Int} {m : ByteArray × Int × Int} (h : m ∈ chartPlan ks old now c) : m.1 ∈ onceS ks := by
  obtain ⟨key, hk, n, hn, rfl⟩ := (mem_plan _ _ _ _ _).1 h
  exact hk
def hadTo (L : List ShareD) (gone : Int) (k : Nat) : Int := (L.take k).foldl (fun h x => if x.serial = gone then x.keys else h) 0
theorem hadTo_succ (L : List ShareD) (gone : Int) (k : Nat) (h : k < L.length) : hadTo L gone (k + 1) = if L[k].serial = gone then L[k].keys else hadTo L gone k := by
  unfold hadTo
  rw [List.take_succ_eq_append_getElem h, List.foldl_append]; rfl
theorem had_ok {s0 ser : List Int} (hs0 : Ser s0) (hser : onceI s0 = ser) {ks : List ByteArray} {c : Int} {L : List ShareD} (hL : SharesOk ser ks c L) {gone : Int} (hg : gone ∈ s0) : hadTo L gone L.length = (cntL s0 ks c gone ks.length : Nat) := by
  have key : ∀ k, k ≤ L.length → (∃ i, ∃ h : i < L.length, i < k ∧ L[i].serial = gone) → hadTo L gone k = (cntL s0 ks c gone ks.length : Nat) := by
    intro k
    induction k with
    | zero => intro _ ⟨i, _, h, _⟩; omega
    | succ k ih =>
      intro hk ⟨i, hi, hik, hsi⟩
      rw [hadTo_succ L gone k (by omega)]
      by_cases he : L[k].serial = gone
      · rw [if_pos he]
        have hks : k < ser.length := by rw [← hL.len]; omega
        have h1 := hL.at' k (by omega) hks
        rw [h1.2.1, cntK_eq hs0 hser ks c _ (Nat.le_refl _) k hks, ← h1.1, he]
      · rw [if_neg he]
        refine ih (by omega) ⟨i, hi, ?_, hsi⟩
        rcases Nat.lt_or_ge i k with h | h
        · exact h
        · have : i = k := by omega
          subst this
          exact absurd hsi he
  refine key _ (Nat.le_refl _) ?_
  obtain ⟨i, hi, he⟩ := List.getElem_of_mem ((ser_mem hs0 hser gone).2 hg)
  have hi2 : i < L.length := by rw [hL.len]; exact hi
  exact ⟨i, hi2, hi2, by rw [(hL.at' i hi2 hi).1, he]⟩
def restTo (s : List Int) (gone : Int) (k : Nat) : List Int := (s.take k).filter fun x => decide (x ≠ gone)
theorem restTo_succ (s : List Int) (gone : Int) (k : Nat) (h : k < s.length) : restTo s gone (k + 1) = if s[k] = gone then restTo s gone k else restTo s gone k ++ [s[k]] := by
  unfold restTo
  rw [filter_snoc s _ k h]
  by_cases he : s[k] = gone <;> simp [he]
theorem restTo_le (s : List Int) (gone : Int) (k : Nat) : (restTo s gone k).length ≤ s.length := Nat.le_trans (List.length_filter_le _ _) (by rw [List.length_take]; omega)
theorem rest_mem (s : List Int) (gone : Int) (x : Int) : x ∈ restTo s gone s.length ↔ x ∈ s ∧ x ≠ gone := by
  unfold restTo
  rw [List.take_length, List.mem_filter, decide_eq_true_eq]
theorem top_ok (ks0 : List ByteArray) (ser0 : List Int) (c : Int) : ∀ key ∈ onceS (keysL ks0), TopOk (onceI (fewL ser0)) c key := fun key hk =>
  ⟨once_size hk, fun n hn => (orderL_mem key _ n).1 (List.mem_of_mem_take hn)⟩
theorem once_few_le (ser0 : List Int) : (onceI (fewL ser0)).length ≤ 8 := by
  unfold onceI
  exact Nat.le_trans (compI_le _) (by rw [sortI_length]; exact few_le ser0)
theorem le_of_lt_pw {l : List Int} (h : l.Pairwise (· < ·)) : l.Pairwise (· ≤ ·) := h.imp fun {a b} h => Int.le_of_lt h
set_option maxRecDepth 100000 in
set_option maxHeartbeats 4000000 in
theorem stays_walk (vk vs : Value) (ks0 : List ByteArray) (ser0 : List Int) (c : Int) (w : World) (hk : SlAt w vk (ks0.map .string)) (hs : SlAt w vs (ser0.map (.int .i64))) (hks : ∀ s ∈ ks0, s.size ≤ 140737488351232) :
    Calls Try.prog 5 #[vk, vs, .int .i64 c] w fun e w' => e = .returned (.bool true) ∧ Below w.heap.size w w' := by
  obtain ⟨ak, nk, capk, rfl, -⟩ := hk.opened
  obtain ⟨asr, ns, caps, rfl, -⟩ := hs.opened
  have HK := Lib.hid hk
  have HS := Lib.hid hs
  have HKS := Lib.hid hks
  clear hk hs hks
  go_enter Try.func5, Try.ntmps5
  go_wp2_with fail
  refine (awake_any _).mono ?_
  rintro e w1 ⟨rfl, hb1⟩
  go_wp2_with fail
  refine (keysOf_any _ ks0 _ (HK.out.below hb1) HKS.out).mono ?_
  rintro e w2 ⟨v2, rfl, ho2, hb2⟩
  have hb12 := hb1.trans (hb2.mono hb1.size)
  go_wp2_with fail
  refine (few_any _ ser0 _ (HS.out.below hb12)).mono ?_
  rintro e w3 ⟨v3, rfl, ho3, hb3⟩
  have HB3 := Lib.hid (hb12.trans (hb3.mono hb12.size))
  have HA3 := Lib.hid ((SlAt.owned ho2).below hb3)
  have HS3 := Lib.hid (SlAt.owned ho3)
  clear hb1 hb2 hb3 hb12 ho2 ho3 HK HS HKS
  obtain ⟨a3, n3, cap3, rfl, HN3, hcap3, hmax3, hcell3⟩ := HS3.out.opened
  have HC3 := Lib.hid hcell3
  clear hcell3
  have hn3 : n3 ≤ 8 := by rw [HN3.out]; exact few_le ser0
  have hsz3 := HB3.out.size
  go_wp2_with fail
  refine (plan_any v2 _ _ (keysL ks0) (fewL ser0) (fewL ser0) c _ HA3.out HS3.out HS3.out (fun s hs => once_size hs) (by have := keys_le ks0; omega) (by have := few_le ser0; omega) (by have := few_le ser0; omega)).mono ?_
  rintro e w4 ⟨v4, m4, rfl, hp4, hm4, hb4⟩
  rw [plan_stays _ _ _ (ser_few ser0)] at hm4 hp4
  simp only [List.length_nil] at hm4
  subst hm4
  obtain ⟨a4, cap4, rfl, -, -, -, -⟩ := hp4
  have HB4 := Lib.hid (HB3.out.trans (hb4.mono hsz3))
  have HA4 := Lib.hid (HA3.out.below hb4)
  have HS4 := Lib.hid (HS3.out.below hb4)
  have HB34 := Lib.hid hb4
  clear hb4
  by_cases h0 : n3 = 0
  · subst h0
    go_wp2
    go_ret
    exact ⟨rfl, HB4.out⟩
  · have h0' : ((n3 : Int) == 0) = false := by simpa using h0
    have h03 : 0 < n3 := by omega
    have h03l : 0 < (fewL ser0).length := by rw [← HN3.out]; exact h03
    clear h0
    rcases HC3.out with hz | ⟨b3, off3, rfl, hb3, hcell⟩
    · omega
    · have hc0 := (HB34.out.cell (p := ⟨b3, off3 + 0, none⟩) hb3).trans (hcell 0 h03l)
      simp only [Nat.add_zero] at hc0
      have HG : Hid ((fewL ser0)[0] ∈ fewL ser0) := Lib.hid (List.getElem_mem h03l)
      obtain ⟨gone, hgone⟩ : ∃ g, g = (fewL ser0)[0] := ⟨_, rfl⟩
      rw [← hgone] at hc0 HG
      clear hgone hcell
      go_wp2
      have hsz4 := HB4.out.size
      go_loopw [8, 38] (fun v i wr => ∃ k m : Nat, k ≤ n3 ∧ i = .int .i64 (k : Int) ∧ Hid (m = (restTo (fewL ser0) gone k).length) ∧ m ≤ k ∧ Hid (wr.ownsRow w4.heap.size 3 1 v m ((restTo (fewL ser0) gone k).map (.int .i64))) ∧ Hid (Below w4.heap.size w4 wr)) (fun _ i _ => n3 - (intOf i).toNat)
      case atStart => exact ⟨0, 0, Nat.zero_le _, rfl, Lib.hid rfl, Nat.le_refl _, Lib.hid (World.ownsRow_nil _ _ _ _), Lib.hid (Below.refl _ _)⟩
      case round =>
        obtain ⟨k, m, hk, rfl, HM, hmk, hown, HB⟩ := hrel
        have hszr := HB.out.size
        by_cases hlt : k < n3
        · have hk2 : k < (fewL ser0).length := by rw [← HN3.out]; exact hlt
          rcases HC3.out with hz | ⟨bb, oo, he, hbb, hcell⟩
          · omega
          · injection he with he
            injection he with he1 he2
            subst he1 he2
            have hc := (HB.out.cell (p := ⟨b3, off3 + k, none⟩) (Nat.lt_of_lt_of_le hb3 HB34.out.size)).trans ((HB34.out.cell (p := ⟨b3, off3 + k, none⟩) hb3).trans (hcell k hk2))
            have HST := Lib.hid (restTo_succ (fewL ser0) gone k hk2)
            generalize (fewL ser0)[k] = z at *
            clear hcell
            by_cases hz : z = gone
            · have hz' : (z != gone) = false := by rw [hz]; simp
              have HZ := Lib.hid hz
              clear hz
              go_wp2
              go_roundw
              case rel =>
                refine ⟨k + 1, m, by omega, by go_num, ?_, by omega, ?_, HB⟩
                · rw [HST.out, if_pos HZ.out]; exact HM
                · rw [HST.out, if_pos HZ.out]; exact hown
              case measure => simp [intOf]; omega
            · have hz' : (z != gone) = true := by simpa using hz
              have HZ := Lib.hid hz
              have hown' := hown.out
              clear hz
              go_wp2_with (at_builtin; refine wpList_append1 _ rfl _ _ 23 rfl w4.heap.size 3 (.int .i64 0) 8 Try.underlying23 info_int rfl (by decide) hown' rfl _ rfl rfl (by omega) hszr ?_; intro v' w5 hap; obtain ⟨g', cap', rfl⟩ := hap.some')
              go_roundw
              case rel =>
                refine ⟨k + 1, m + 1, by omega, by go_num, ?_, by omega, ?_, Lib.hid (HB.out.trans hap.below)⟩
                · rw [HST.out, if_neg HZ.out, HM.out]; exact Lib.hid (by simp)
                · rw [HST.out, if_neg HZ.out, List.map_append]; exact Lib.hid hap.own
              case measure => simp [intOf]; omega
        · obtain rfl : k = n3 := by omega
          have hrest : restTo (fewL ser0) gone k = restTo (fewL ser0) gone (fewL ser0).length := by rw [← HN3.out]
          have HR := Lib.hid (SlAt.owned hown.out)
          rw [hrest] at HR
          have HRM := Lib.hid (rest_mem (fewL ser0) gone)
          have HRL := Lib.hid (restTo_le (fewL ser0) gone (fewL ser0).length)
          obtain ⟨ar, nr, capr, rfl, -⟩ := HR.out.opened
          generalize restTo (fewL ser0) gone (fewL ser0).length = rest at *
          clear hrest HM hown
          have HA5 := Lib.hid (HA4.out.below HB.out)
          have HS5 := Lib.hid (HS4.out.below HB.out)
          have HB5 := Lib.hid (HB4.out.trans (HB.out.mono hsz4))
          have hsz5 := HB5.out.size
          clear HA4 HS4 HB4 HB HB34 hc0
          go_wp2_with fail
          refine (shares_any v2 _ (keysL ks0) (fewL ser0) c _ HA5.out HS5.out (onceS (keysL ks0)) rfl (onceI (fewL ser0)) rfl (top_ok ks0 ser0 c) (le_of_lt_pw (onceI_ok _).1) (by have := keys_le ks0; omega) (by have := few_le ser0; omega) (by have := onceS_le (keysL ks0); have := keys_le ks0; omega) (by have := once_few_le ser0; omega)).mono ?_
          rintro e w6 ⟨v6, L, rfl, hL6, hLok, hb6⟩
          have HA6 := Lib.hid (HA5.out.below hb6)
          have HS6 := Lib.hid (HS5.out.below hb6)
          have HR6 := Lib.hid (HR.out.below hb6)
          have HB6 := Lib.hid (HB5.out.trans (hb6.mono hsz5))
          have hsz6 := HB6.out.size
          have HAD := Lib.hid (had_ok (ser_few ser0) rfl hLok HG.out)
          have hLlen := hLok.len
          obtain ⟨a6, cap6, rfl, -, hc6, hm6, hcell6⟩ := hL6
          rw [← hLlen] at hc6 hcell6 ⊢
          have HC6 := Lib.hid hcell6
          have HLO := Lib.hid hLok
          clear hcell6 HA5 HS5 HR HB5 hb6 hLlen hLok
          have hLb : L.length ≤ 8 := by rw [HLO.out.len]; exact once_few_le ser0
          go_wp2
          go_loopw [11, 55] (fun h i w7 => ∃ j : Nat, j ≤ L.length ∧ i = .int .i64 (j : Int) ∧ h = .int .i64 (hadTo L gone j) ∧ Hid (Below w6.heap.size w6 w7)) (fun _ i _ => L.length - (intOf i).toNat)
          case atStart => exact ⟨0, Nat.zero_le _, rfl, rfl, Lib.hid (Below.refl _ _)⟩
          case round =>
            obtain ⟨j, hj, rfl, rfl, HB7⟩ := hrel
            have hsz7 := HB7.out.size
            by_cases hjl : j < L.length
            · rcases HC6.out with hz | ⟨b6, off6, rfl, hb6, hcell⟩
              · omega
              · obtain ⟨c1, c2, c3, c4⟩ := share_cells hcell j hjl
                rw [← HB7.out.cell (p := ⟨b6, off6 + j * 4, none⟩) hb6] at c1
                rw [← HB7.out.cell (p := ⟨b6, off6 + j * 4 + 1, none⟩) hb6] at c2
                rw [← HB7.out.cell (p := ⟨b6, off6 + j * 4 + 2, none⟩) hb6] at c3
                rw [← HB7.out.cell (p := ⟨b6, off6 + j * 4 + 3, none⟩) hb6] at c4
                have HST := Lib.hid (hadTo_succ L gone j hjl)
                generalize L[j] = x at *
                obtain ⟨x1, x2, x3, x4⟩ := x
                dsimp only at *
                generalize hadTo L gone j = hd at *
                clear hcell
                by_cases hx : x1 = gone
                · have hx' : (x1 == gone) = true := by simpa using hx
                  have HX := Lib.hid hx
                  clear hx
                  go_wp2
                  go_roundw
                  case rel =>
                    refine ⟨j + 1, by omega, by go_num, ?_, Lib.hid (HB7.out.alloc hsz7 _)⟩
                    rw [HST.out, if_pos HX.out]
                  case measure => simp [intOf]; omega
                · have hx' : (x1 == gone) = false := by simpa using hx
                  have HX := Lib.hid hx
                  clear hx
                  go_wp2
                  go_roundw
                  case rel =>
                    refine ⟨j + 1, by omega, by go_num, ?_, Lib.hid (HB7.out.alloc hsz7 _)⟩
                    rw [HST.out, if_neg HX.out]
                  case measure => simp [intOf]; omega
            · obtain rfl : j = L.length := by omega
              have HA7 := Lib.hid (HA6.out.below HB7.out)
              have HS7 := Lib.hid (HS6.out.below HB7.out)
              have HR7 := Lib.hid (HR6.out.below HB7.out)
              have HB77 := Lib.hid (HB6.out.trans (HB7.out.mono hsz6))
              have hsz77 := HB77.out.size
              generalize hadTo L gone L.length = had at *
              clear HA6 HS6 HR6 HB6 HB7 HC6
              go_wp2_with fail
              refine (plan_any v2 _ _ (keysL ks0) (fewL ser0) rest c _ HA7.out HS7.out HR7.out (fun s hs => once_size hs) (by have := keys_le ks0; omega) (by have := few_le ser0; omega) (by have := few_le ser0; have := HRL.out; omega)).mono ?_
              rintro e w8 ⟨v8, m8, rfl, hp8, hm8, hb8⟩
              obtain ⟨pg1, pg2⟩ := plan_gone (fewL ser0) rest gone c (keysL ks0) (ser_few ser0) HRM.out (few_bd HG.out).1
              have hle : (m8 : Int) ≤ had := by
                rw [HAD.out, hm8]
                have : cntL (fewL ser0) (onceS (keysL ks0)) c gone (onceS (keysL ks0)).length = (onceS (keysL ks0)).countP (holdsG (fewL ser0) gone c) := by unfold cntL; rw [List.take_length]; rfl
                rw [this]
                exact_mod_cast pg2
              have HPG := Lib.hid pg1
              have HKY := Lib.hid (fun m (h : m ∈ chartPlan (keysL ks0) (fewL ser0) rest c) => once_size (plan_keys h))
              obtain ⟨a8, cap8, rfl, -, hc8, hmx8, hcell8⟩ := hp8
              have HC8 := Lib.hid hcell8
              have HM8 := Lib.hid hm8
              have HS8 := Lib.hid (HS7.out.below hb8)
              have HB8 := Lib.hid (HB77.out.trans (hb8.mono hsz77))
              have hsz8 := HB8.out.size
              generalize chartPlan (keysL ks0) (fewL ser0) rest c = M2 at *
              unfold maxLen at hmx8
              clear pg1 pg2 hcell8 hm8 hb8 HA7 HS7 HR7 HB77
              obtain rfl : m8 = M2.length := HM8.out
              go_wp2
              go_loopw [73] (fun i w9 => ∃ j : Nat, j ≤ M2.length ∧ i = .int .i64 (j : Int) ∧ Hid (Below w8.heap.size w8 w9)) (fun i _ => M2.length - (intOf i).toNat)
              case atStart => exact ⟨0, Nat.zero_le _, rfl, Lib.hid (Below.refl _ _)⟩
              case round =>
                obtain ⟨j, hj, rfl, HB9⟩ := hrel
                have hsz9 := HB9.out.size
                by_cases hj2 : j < M2.length
                · rcases HC8.out with hz | ⟨b8, off8, rfl, hb8, hcell8⟩
                  · omega
                  · obtain ⟨c1, c2, c3⟩ := move_cells hcell8 j hj2
                    rw [← HB9.out.cell (p := ⟨b8, off8 + j * 3, none⟩) hb8] at c1
                    rw [← HB9.out.cell (p := ⟨b8, off8 + j * 3 + 1, none⟩) hb8] at c2
                    rw [← HB9.out.cell (p := ⟨b8, off8 + j * 3 + 2, none⟩) hb8] at c3
                    have hmv := HPG.out M2[j] (List.getElem_mem hj2)
                    have hky := HKY.out M2[j] (List.getElem_mem hj2)
                    generalize M2[j] = mv at *
                    obtain ⟨m1, m2, m3⟩ := mv
                    dsimp only at *
                    obtain ⟨hv1, hv2, hv3⟩ := hmv
                    have t1 : (m2 == gone) = false := beq_eq_false_iff_ne.2 hv1
                    have t2 : (m3 == gone) = false := beq_eq_false_iff_ne.2 hv2
                    have HV3 := Lib.hid hv3
                    have HS9 := Lib.hid (HS8.out.below HB9.out)
                    clear hcell8 hv1 hv2 hv3
                    go_wp2_with fail
                    refine (top29_any m1 hky _ (fewL ser0) c _ (HS9.out.below ((Below.refl _ _).alloc (Nat.le_refl _) _)) (fun z hz => by have := few_bd hz; omega) (by have := few_le ser0; omega)).mono ?_
                    rintro e w10 ⟨v10, rfl, hs10, hb10⟩
                    go_wp2_with fail
                    refine (has29_any v10 (topN (refOrder m1 (fewL ser0)) c) gone _ (hs10.at (Nat.le_refl _))).mono ?_
                    rintro e w11 ⟨rfl, rfl⟩
                    rw [HV3.out]
                    have HB10 := Lib.hid hb10
                    clear hs10 hb10
                    go_wp2
                    go_roundw
                    case rel => exact ⟨j + 1, by omega, by go_num, Lib.hid ((HB9.out.alloc hsz9 _).trans (HB10.out.mono (by simp; omega)))⟩
                    case measure => simp [intOf]; omega
                · obtain rfl : M2.length = j := by omega
                  go_wp2
                  go_ret
                  exact ⟨rfl, HB8.out.trans (HB9.out.mono hsz8)⟩
end Go.Proofs.Ythapnanemkjhhaa
