/- Contracts of the reference's functions on charts: Has, Top, Keys, Plan. Condition: serials fit an int, keys are no longer than 2^47 bytes. -/
import Derived.Test.YthapnanemkjhhaaRefRank
import Derived.Test.YthapnanemkjhhaaKeys
import Derived.WalkLawsBesides
import Derived.Outline
namespace Go.Proofs.Ythapnanemkjhhaa
open Go.RowKit
set_option linter.unusedVariables false

theorem has29_any (v : Value) (zs : List Int) (x : Int) (w : World) (hv : SlAt w v (zs.map (.int .i64))) : Calls Try.prog 12 #[v, .int .i64 x] w fun e w' => e = .returned (.bool (hasB zs x)) ∧ w = w' := by
  obtain ⟨a, n, cap, rfl, HN, hcap, hmax, hc⟩ := hv.opened
  have hfin1 : (∀ j, j < n → zs[j]? ≠ some x) → hasB zs x = false := by
    intro h
    rw [Bool.eq_false_iff, ne_eq, hasB_iff]
    intro hx
    obtain ⟨j, hj, he⟩ := List.getElem_of_mem hx
    exact h j (by rw [HN.out]; exact hj) (by rw [List.getElem?_eq_getElem hj, he])
  have hfin2 : ∀ j, zs[j]? = some x → hasB zs x = true := fun j h => (hasB_iff _ _).2 (List.mem_of_getElem? h)
  have HF1 := Lib.hid hfin1
  have HF2 := Lib.hid hfin2
  clear hfin1 hfin2
  have HC := Lib.hid hc
  clear hc
  go_enter Try.func12, Try.ntmps12
  go_wp2
  go_loop [9] (fun i => ∃ k : Nat, k ≤ n ∧ i = .int .i64 (k : Int) ∧ ∀ j, j < k → zs[j]? ≠ some x) (fun i => n - (intOf i).toNat)
  case atStart => exact ⟨0, Nat.zero_le _, rfl, fun j hj => by omega⟩
  case round =>
    obtain ⟨k, hk, rfl, hno⟩ := hrel
    have HO := Lib.hid hno
    clear hno
    by_cases hlt : k < n
    · have hk2 : k < zs.length := by rw [← HN.out]; exact hlt
      rcases HC.out with h0 | ⟨b, off, rfl, hb, hcell⟩
      · omega
      · have hc := hcell k hk2
        by_cases he : x = zs[k]
        · have he' : (x == zs[k]) = true := by simpa using he
          have HE := Lib.hid he
          clear he hcell
          go_wp2
          go_ret
          exact ⟨ret_bool (HF2.out k (by rw [List.getElem?_eq_getElem hk2, ← HE.out])).symm, rfl⟩
        · have he' : (x == zs[k]) = false := by simpa using he
          have HE := Lib.hid he
          clear he hcell
          go_wp2
          go_round
          case rel =>
            refine ⟨k + 1, by omega, by go_num, fun j hj => ?_⟩
            by_cases hjk : j = k
            · subst hjk
              rw [List.getElem?_eq_getElem hk2]
              intro h
              exact HE.out (by injection h with h; exact h.symm)
            · exact HO.out j (by omega)
          case measure => simp [intOf]; omega
    · obtain rfl : k = n := by omega
      go_wp2
      go_ret
      exact ⟨ret_bool (HF1.out HO.out).symm, rfl⟩



def topN (l : List Int) (c : Int) : List Int := l.take c.toNat
theorem top29_any (s : ByteArray) (hs : s.size ≤ 140737488351232) (v : Value) (zs : List Int) (c : Int) (w : World) (hv : SlAt w v (zs.map (.int .i64))) (hpos : ∀ z ∈ zs, 0 ≤ z) (hlen : zs.length < 4294967296) :
    Calls Try.prog 13 #[.string s, v, .int .i64 c] w fun e w' => ∃ v', e = .returned v' ∧ SlIn w.heap.size w'.heap.size w' v' ((topN (refOrder s zs) c).map (.int .i64)) ∧ Below w.heap.size w w' := by
  have hlo : (refOrder s zs).length < 4294967296 := Nat.lt_of_le_of_lt (refTo_length s zs zs.length) hlen
  have HO := Lib.hid hlo
  clear hlo
  go_enter Try.func13, Try.ntmps13
  go_wp2_with fail
  refine (order15_any s hs v zs _ hv hpos hlen).mono ?_
  rintro e w1 ⟨v1, rfl, hsl, hb⟩
  obtain ⟨a, n, cap, hv1, HN, hcap, hmax, -⟩ := (hsl.at (Nat.le_refl _)).opened
  rw [hv1] at hsl
  have HL := Lib.hid hsl
  clear hsl hv hpos
  subst hv1
  have hn : n < 4294967296 := by rw [HN.out]; exact HO.out
  have hcut : ∀ m : Nat, m = min n c.toNat → SlIn w.heap.size w1.heap.size w1 (.slice a m cap) ((topN (refOrder s zs) c).map (.int .i64)) := by
    intro m hm
    have h := HL.out.cut m (by rw [List.length_map, ← HN.out]; omega)
    rw [← List.map_take] at h
    have e : topN (refOrder s zs) c = (refOrder s zs).take m := by
      unfold topN
      have h1 := HN.out
      by_cases hc : c.toNat ≤ n
      · rw [show m = c.toNat by omega]
      · rw [show m = n by omega, List.take_of_length_le (by omega), List.take_of_length_le (by omega)]
    rw [e]; exact h
  have HC := Lib.hid hcut
  clear hcut
  go_wp2
  all_goals go_ret
  all_goals refine ⟨_, rfl, HC.out _ (by omega), hb⟩

set_option maxRecDepth 100000 in
set_option maxHeartbeats 4000000 in
theorem keys29_any (v : Value) (ss : List ByteArray) (w : World) (hv : SlAt w v (ss.map .string)) (hlen : ss.length < 2147483648) :
    Calls Try.prog 11 #[v] w fun e w' => ∃ v', e = .returned v' ∧ SlIn w.heap.size w'.heap.size w' v' ((refKeys ss).map .string) ∧ Below w.heap.size w w' := by
  obtain ⟨a, n, cap, rfl, HN, hcap, hmax, hc⟩ := hv.opened
  have HC := Lib.hid hc
  have hn : n < 2147483648 := by rw [HN.out]; exact hlen
  clear hc hv hlen
  go_enter Try.func11, Try.ntmps11
  go_wp2
  go_loopw [3, 13] (fun v i wr => ∃ k m : Nat, k ≤ n ∧ i = .int .i64 (k : Int) ∧ m ≤ k ∧ wr.ownsRow w.heap.size 9 1 v m ((keysTo ss k).map .string) ∧ Below w.heap.size w wr) (fun _ i _ => n - (intOf i).toNat)
  case atStart =>
    exact ⟨0, 0, Nat.zero_le _, rfl, Nat.le_refl _, World.ownsRow_made w #[] 0 (Nat.le_refl _) (Nat.zero_le _) rfl, (Below.refl _ _).alloc (Nat.le_refl _) _⟩
  case round =>
    obtain ⟨k, m, hk, rfl, hm, hown, hB⟩ := hrel
    obtain ⟨wo, rfl⟩ : ∃ wo : World, wo = wr := ⟨_, rfl⟩
    have hsz := hB.size
    by_cases hlt : k < n
    · have hk2 : k < ss.length := by rw [← HN.out]; exact hlt
      rcases HC.out with h0 | ⟨b, off, rfl, hb, hcell⟩
      · omega
      · have hc := (hB.cell (p := ⟨b, off + k, none⟩) hb).trans (hcell k hk2)
        have HS := Lib.hid (keysTo_succ ss k hk2)
        have HKL := Lib.hid (refIns_length ss[k] (keysTo ss k))
        have HIL := Lib.hid (insTo_length ss[k] (keysTo ss k))
        generalize ss[k] = z at *
        clear hcell
        obtain ⟨a1, p, cap1, rfl, HP, hcap1, hmax1, hc1⟩ := (SlAt.owned hown).opened
        have HC1 := Lib.hid hc1
        have hlt1 := hown.lt
        have hpm : p = m := by have := hown.1; simp at this; have := HP.out; omega
        have hp : p ≤ k := by omega
        have HPM := Lib.hid hpm
        clear hc1 hown hm hpm
        go_wp2
        go_loopw [6, 7, 20] (fun nv dv iv w2 => ∃ (j q : Nat) (d : Bool), j ≤ p ∧ iv = .int .i64 (j : Int) ∧ dv = .bool d ∧ q ≤ j + 1 ∧ Hid (d = (insTo z (keysTo ss k) j).2) ∧ w2.ownsRow wo.heap.size 9 1 nv q ((insTo z (keysTo ss k) j).1.map .string) ∧ Below wo.heap.size wo w2) (fun _ _ iv _ => p - (intOf iv).toNat)
        case atStart =>
          exact ⟨0, 0, false, Nat.zero_le _, rfl, rfl, by omega, Lib.hid rfl, World.ownsRow_made wo #[] 0 (Nat.le_refl _) (Nat.zero_le _) rfl, (Below.refl _ _).alloc (Nat.le_refl _) _⟩
        case round =>
          obtain ⟨j, q, d, hj, rfl, rfl, hq, HD, hown2, hB2⟩ := hrel
          have hsz2 := hB2.size
          by_cases hltj : j < p
          · have hj2 : j < (keysTo ss k).length := by rw [← HP.out]; exact hltj
            rcases HC1.out with h0 | ⟨b1, off1, rfl, hb1, hcell1⟩
            · omega
            · have hc1 := (hB2.cell (p := ⟨b1, off1 + j, none⟩) hb1).trans (hcell1 j hj2)
              have HS1 := Lib.hid (insTo_succ z (keysTo ss k) j hj2)
              have HL1 := Lib.hid (HIL.out (j + 1) (by omega))
              generalize (keysTo ss k)[j] = t at *
              clear hcell1
              cases d with
              | true =>
                go_wp2_with (at_builtin; refine wpList_append1 _ rfl _ _ 22 rfl wo.heap.size 9 (.string ByteArray.empty) 16 Try.underlying22 info_string rfl (by decide) hown2 rfl _ rfl rfl (by omega) hsz2 ?_; intro v' w1 hap; obtain ⟨g', cap', rfl⟩ := hap.some')
                go_roundw
                case rel =>
                  have e : insStep z (insTo z (keysTo ss k) j) t = ((insTo z (keysTo ss k) j).1 ++ [t], true) := by
                    unfold insStep; rw [← HD.out]; rfl
                  refine ⟨j + 1, q + 1, true, by omega, by go_num, rfl, by omega, ?_, ?_, hB2.trans hap.below⟩
                  · rw [HS1.out, e]; exact Lib.hid rfl
                  · rw [HS1.out, e, List.map_append]; exact hap.own
                case measure => simp [intOf]; omega
              | false =>
                cases hl : ltS z t with
                | true =>
                  have hl' : Op.bytesLess z.toList t.toList = true := hl
                  have HLT := Lib.hid hl
                  clear hl
                  go_wp2_with (first | (at_builtin; refine wpList_append1 _ rfl _ _ 22 rfl wo.heap.size 9 (.string ByteArray.empty) 16 Try.underlying22 info_string rfl (by decide) hap.own rfl _ rfl rfl (by omega) (Nat.le_trans hsz2 hap.below.size) ?_; intro v' w1 hap2; obtain ⟨g', cap', rfl⟩ := hap2.some') | (at_builtin; refine wpList_append1 _ rfl _ _ 22 rfl wo.heap.size 9 (.string ByteArray.empty) 16 Try.underlying22 info_string rfl (by decide) hown2 rfl _ rfl rfl (by omega) hsz2 ?_; intro v' w1 hap; obtain ⟨g', cap', rfl⟩ := hap.some'))
                  go_roundw
                  case rel =>
                    have e : insStep z (insTo z (keysTo ss k) j) t = ((insTo z (keysTo ss k) j).1 ++ [z] ++ [t], true) := by
                      unfold insStep; rw [← HD.out, HLT.out]; rfl
                    refine ⟨j + 1, q + 1 + 1, true, by omega, by go_num, rfl, ?_, ?_, ?_, (hB2.trans hap.below).trans hap2.below⟩
                    · have h1 := HL1.out
                      rw [HS1.out, e] at h1
                      have h2 := hown2.1
                      simp at h1 h2; omega
                    · rw [HS1.out, e]; exact Lib.hid rfl
                    · rw [HS1.out, e, List.map_append, List.map_append]; exact hap2.own
                  case measure => simp [intOf]; omega
                | false =>
                  have hl' : Op.bytesLess z.toList t.toList = false := hl
                  have HLT := Lib.hid hl
                  clear hl
                  go_wp2_with (at_builtin; refine wpList_append1 _ rfl _ _ 22 rfl wo.heap.size 9 (.string ByteArray.empty) 16 Try.underlying22 info_string rfl (by decide) hown2 rfl _ rfl rfl (by omega) hsz2 ?_; intro v' w1 hap; obtain ⟨g', cap', rfl⟩ := hap.some')
                  go_roundw
                  case rel =>
                    have e : insStep z (insTo z (keysTo ss k) j) t = ((insTo z (keysTo ss k) j).1 ++ [t], z.toList == t.toList) := by
                      unfold insStep; rw [← HD.out, HLT.out]; rfl
                    refine ⟨j + 1, q + 1, (z.toList == t.toList), by omega, by go_num, rfl, by omega, ?_, ?_, hB2.trans hap.below⟩
                    · rw [HS1.out, e]; exact Lib.hid rfl
                    · rw [HS1.out, e, List.map_append]; exact hap.own
                  case measure => simp [intOf]; omega
          · obtain rfl : j = p := by omega
            have hfin : keysTo ss (k + 1) = if d then (insTo z (keysTo ss k) j).1 else (insTo z (keysTo ss k) j).1 ++ [z] := by
              rw [HS.out]; unfold refIns; rw [← HP.out, ← HD.out]
            have HF := Lib.hid hfin
            clear hfin
            cases d with
            | true =>
              go_wp2
              go_roundw
              case rel =>
                refine ⟨k + 1, q, by omega, by go_num, ?_, ?_, hB.trans (hB2.mono hsz)⟩
                · omega
                · rw [HF.out]; exact ownsRow_base hown2 hsz
              case measure => simp [intOf]; omega
            | false =>
              go_wp2_with (at_builtin; refine wpList_append1 _ rfl _ _ 22 rfl wo.heap.size 9 (.string ByteArray.empty) 16 Try.underlying22 info_string rfl (by decide) hown2 rfl _ rfl rfl (by omega) hsz2 ?_; intro v' w1 hap; obtain ⟨g', cap', rfl⟩ := hap.some')
              go_roundw
              case rel =>
                refine ⟨k + 1, q + 1, by omega, by go_num, ?_, ?_, hB.trans ((hB2.trans hap.below).mono hsz)⟩
                · have h1 := hap.own.1
                  have h2 := HKL.out
                  rw [← HS.out, HF.out] at h2
                  simp at h1 h2; have := HP.out; omega
                · rw [HF.out]; simp only [Bool.false_eq_true, if_false, List.map_append]; exact ownsRow_base hap.own hsz
              case measure => simp [intOf]; omega
    · obtain rfl : k = n := by omega
      have hfin : refKeys ss = keysTo ss k := by unfold refKeys; rw [HN.out]
      have HF := Lib.hid hfin
      clear hfin
      go_wp2
      go_ret
      refine ⟨_, rfl, ?_, hB⟩
      rw [HF.out]
      exact SlIn.owned hown

/-- the first of some devices that is kept -/
def fromStep (now : List Int) (f n : Int) : Int := if f = 0 ∧ hasB now n = true then n else f
def fromOf (l now : List Int) : Int := l.foldl (fromStep now) 0
def moveCells (m : ByteArray × Int × Int) : List Value := [.string m.1, .int .i64 m.2.1, .int .i64 m.2.2]
def comes (a b : List Int) (j : Nat) : List Int := ((List.range j).map (fun (n : Nat) => (n : Int))).filter fun n => hasB b n && !hasB a n
def movesTo (key : ByteArray) (old now : List Int) (c : Int) (j : Nat) : List (ByteArray × Int × Int) :=
  (comes (topN (refOrder key old) c) (topN (refOrder key now) c) j).map fun n => (key, fromOf (refOrder key old) now, n)
def planTo (ks : List ByteArray) (old now : List Int) (c : Int) (k : Nat) : List (ByteArray × Int × Int) :=
  (ks.take k).flatMap fun key => movesTo key old now c 1024
def refPlan (keys : List ByteArray) (old now : List Int) (c : Int) : List (ByteArray × Int × Int) := planTo (refKeys keys) old now c (refKeys keys).length
theorem comes_succ (a b : List Int) (j : Nat) : comes a b (j + 1) = if (hasB b j && !hasB a j) = true then comes a b j ++ [(j : Int)] else comes a b j := by
  unfold comes
  rw [List.range_succ, List.map_append, List.filter_append]
  split
  · rename_i h; simp [h]
  · rename_i h; simp [h]
theorem movesTo_succ (key : ByteArray) (old now : List Int) (c : Int) (j : Nat) :
    movesTo key old now c (j + 1) = if (hasB (topN (refOrder key now) c) j && !hasB (topN (refOrder key old) c) j) = true then movesTo key old now c j ++ [(key, fromOf (refOrder key old) now, (j : Int))] else movesTo key old now c j := by
  unfold movesTo
  rw [comes_succ]
  split
  · rw [List.map_append]; rfl
  · rfl
theorem planTo_succ (ks : List ByteArray) (old now : List Int) (c : Int) (k : Nat) (h : k < ks.length) : planTo ks old now c (k + 1) = planTo ks old now c k ++ movesTo ks[k] old now c 1024 := by
  unfold planTo
  rw [List.take_succ_eq_append_getElem h, List.flatMap_append]; simp
theorem movesTo_length (key : ByteArray) (old now : List Int) (c : Int) (j : Nat) : (movesTo key old now c j).length ≤ j := by
  induction j with
  | zero => simp [movesTo, comes]
  | succ j ih => 
    rw [movesTo_succ]
    split
    · rw [List.length_append]; simp; omega
    · omega
theorem planTo_length (ks : List ByteArray) (old now : List Int) (c : Int) (k : Nat) (h : k ≤ ks.length) : (planTo ks old now c k).length ≤ 1024 * k := by
  induction k with
  | zero => simp [planTo]
  | succ k ih => rw [planTo_succ _ _ _ _ _ h, List.length_append]; have := movesTo_length ks[k] old now c 1024; have := ih (by omega); omega
theorem fromOf_snoc (l now : List Int) (k : Nat) (h : k < l.length) : fromOf (l.take (k + 1)) now = fromStep now (fromOf (l.take k) now) l[k] := by
  unfold fromOf
  rw [List.take_succ_eq_append_getElem h, List.foldl_append]; rfl

theorem info_rmove : (Try.prog.info? 46).map (fun i => (i.zero, i.size, i.bytes)) = some (some (.agg #[.string ByteArray.empty, .int .i64 0, .int .i64 0]), 3, 32) := by kernel_rfl
theorem move_snoc (L ms : List (ByteArray × Int × Int)) (z : ByteArray) (f i : Int) : (L ++ (ms ++ [(z, f, i)])).flatMap moveCells = (L ++ ms).flatMap moveCells ++ [.string z, .int .i64 f, .int .i64 i] := by
  rw [← List.append_assoc, List.flatMap_append]; rfl
/-- the row of moves and the slices beside it: in world wr the row v owns the cells, and lies off the blocks from B to C -/
structure MoveRow (base B C : Nat) (wr : World) (v : Value) (m : Nat) (ms : List (ByteArray × Int × Int)) : Prop where
  own : wr.ownsRow base 46 3 v m (ms.flatMap moveCells)
  off : ∀ k, v.ownBlock = some k → k < B ∨ C ≤ k
theorem MoveRow.len {base B C : Nat} {wr : World} {v : Value} {m : Nat} {ms : List (ByteArray × Int × Int)} (h : MoveRow base B C wr v m ms) : m = ms.length := by
  have h1 := h.own.1
  have h2 : (ms.flatMap moveCells).length = ms.length * 3 := by
    clear h1 h
    induction ms with
    | nil => rfl
    | cons x l ih => rw [List.flatMap_cons, List.length_append, ih, List.length_cons]; simp [moveCells]; omega
  omega
theorem MoveRow.below {base B C D : Nat} {wr w' : World} {v : Value} {m : Nat} {ms : List (ByteArray × Int × Int)} (h : MoveRow base B C wr v m ms) (hb : Below D wr w') (hD : wr.heap.size ≤ D) : MoveRow base B C w' v m ms :=
  ⟨ownsRow_below h.own hb fun k hk => Nat.lt_of_lt_of_le (h.own.lt k hk).2 hD, h.off⟩

set_option maxRecDepth 100000 in
set_option maxHeartbeats 8000000 in
theorem plan29_any (vk vo vn : Value) (ks : List ByteArray) (old now : List Int) (c : Int) (w : World) (hvk : SlAt w vk (ks.map .string)) (hvo : SlAt w vo (old.map (.int .i64))) (hvn : SlAt w vn (now.map (.int .i64)))
    (hks : ∀ s ∈ ks, s.size ≤ 140737488351232) (hkr : ∀ s ∈ refKeys ks, s.size ≤ 140737488351232) (hlen : ks.length ≤ 1048576) (hpo : ∀ z ∈ old, 1 ≤ z) (hpn : ∀ z ∈ now, 1 ≤ z) (hlo : old.length ≤ 1048576) (hln : now.length ≤ 1048576) :
    Calls Try.prog 17 #[vk, vo, vn, .int .i64 c] w fun e w' => ∃ v' m, e = .returned v' ∧ SlN 3 w' v' m ((refPlan ks old now c).flatMap moveCells) ∧ m = (refPlan ks old now c).length ∧ Below w.heap.size w w' := by
  have HKS := Lib.hid hkr
  have HVO := Lib.hid hvo
  have HVN := Lib.hid hvn
  have HPO := Lib.hid hpo
  have HPN := Lib.hid hpn
  have HKL := Lib.hid (Nat.le_trans (keysTo_length ks ks.length (Nat.le_refl _)) hlen)
  have HLO := Lib.hid hlo
  have HLN := Lib.hid hln
  clear hks hkr hvo hvn hpo hpn hlo hln
  go_enter Try.func17, Try.ntmps17
  go_wp2_with fail
  refine (keys29_any vk ks _ (hvk.below ((Below.refl _ _).alloc (Nat.le_refl _) _)) (by omega)).mono ?_
  rintro e w1 ⟨v1, rfl, hk1, hb1⟩
  clear hvk hlen
  obtain ⟨a, n, cap, rfl, HN, hcap, hmax, hc⟩ := (hk1.at (Nat.le_refl _)).opened
  have hn : n ≤ 1048576 := by rw [HN.out]; exact HKL.out
  have HC := Lib.hid hc
  have hz1 : w.heap.size + 1 ≤ w1.heap.size := by have := hb1.size; simp at this; exact this
  have hB1 : Hid (Below w.heap.size w w1) := Lib.hid (((Below.refl _ _).alloc (Nat.le_refl _) _).trans (hb1.mono (by simp)))
  have hO1 : Hid (w1.ownsRow w.heap.size 46 3 (.slice (some ⟨w.heap.size, 0, none⟩) 0 0) 0 []) := Lib.hid (ownsRow_below (World.ownsRow_made w #[] 0 (Nat.le_refl _) (Nat.zero_le _) rfl) hb1 (fun k hk => by simp [Value.ownBlock] at hk; subst hk; simp))
  have hK1 : Hid (SlIn (w.heap.size + 1) w1.heap.size w1 (.slice a n cap) ((refKeys ks).map .string)) := by
    have h := hk1; simp at h; exact Lib.hid h
  clear hc hk1 hb1
  go_wp2
  go_loopw [9, 22] (fun v i wr => ∃ k m : Nat, k ≤ n ∧ i = .int .i64 (k : Int) ∧ m ≤ 1024 * k ∧ MoveRow w.heap.size (w.heap.size + 1) w1.heap.size wr v m (planTo (refKeys ks) old now c k) ∧ w1.heap.size ≤ wr.heap.size ∧ Hid (Below w.heap.size w wr) ∧ Hid (SlIn (w.heap.size + 1) w1.heap.size wr (.slice a n cap) ((refKeys ks).map .string))) (fun _ i _ => n - (intOf i).toNat)
  case atStart =>
    exact ⟨0, 0, Nat.zero_le _, rfl, Nat.zero_le _, ⟨hO1.out, fun k hk => by simp [Value.ownBlock] at hk; omega⟩, Nat.le_refl _, hB1, hK1⟩
  case round =>
    obtain ⟨k, m, hk, rfl, hm, hrow, hsz, hB, hK⟩ := hrel
    obtain ⟨wo, rfl⟩ : ∃ wo : World, wo = wr := ⟨_, rfl⟩
    have hszw := hB.out.size
    by_cases hlt : k < n
    · have hk2 : k < (refKeys ks).length := by rw [← HN.out]; exact hlt
      obtain ⟨a', n', cap', hv', -, -, -, hcx⟩ := (hK.out.at hsz).opened
      cases hv'
      rcases hcx with h0 | ⟨b, off, rfl, hb, hcell⟩
      · omega
      · have hc := hcell k hk2
        have HS := Lib.hid (planTo_succ (refKeys ks) old now c k hk2)
        have HZ := Lib.hid (HKS.out (refKeys ks)[k] (List.getElem_mem hk2))
        have hML := movesTo_length (refKeys ks)[k] old now c
        have HML := Lib.hid hML
        generalize (refKeys ks)[k] = z at *
        clear hcell hML
        go_wp2_with fail
        refine (top29_any z HZ.out vo old c _ (HVO.out.below (hB.out.mono (Nat.le_refl _))) (fun y hy => by have := HPO.out y hy; omega) (by have := HLO.out; omega)).mono ?_
        rintro e w2 ⟨va, rfl, hA2, hb2⟩
        have HA2 := Lib.hid hA2
        have hs2 := hb2.size
        clear hA2
        go_wp2_with fail
        refine (top29_any z HZ.out vn now c _ (HVN.out.below ((hB.out.trans (hb2.mono hszw)))) (fun y hy => by have := HPN.out y hy; omega) (by have := HLN.out; omega)).mono ?_
        rintro e w3 ⟨vb, rfl, hA3, hb3⟩
        have HA3 := Lib.hid hA3
        have hs3 := hb3.size
        clear hA3
        go_wp2_with fail
        refine (order15_any z HZ.out vo old _ (HVO.out.below (((hB.out.trans (hb2.mono hszw))).trans (hb3.mono (Nat.le_trans hszw hs2)))) (fun y hy => by have := HPO.out y hy; omega) (by have := HLO.out; omega)).mono ?_
        rintro e w4 ⟨vc, rfl, hA4, hb4⟩
        have hs4 := hb4.size
        have HB4 : Hid (Below wo.heap.size wo w4) := Lib.hid ((hb2.trans (hb3.mono hs2)).trans (hb4.mono (Nat.le_trans hs2 hs3)))
        have HVa : Hid (SlIn wo.heap.size w4.heap.size w4 va ((topN (refOrder z old) c).map (.int .i64))) := Lib.hid (((HA2.out.below hb3 (Nat.le_refl _)).below hb4 hs3).mono (Nat.le_refl _) (Nat.le_trans hs3 hs4))
        have HVb : Hid (SlIn wo.heap.size w4.heap.size w4 vb ((topN (refOrder z now) c).map (.int .i64))) := Lib.hid ((HA3.out.below hb4 (Nat.le_refl _)).mono hs2 hs4)
        have HVN4 : Hid (SlAt w4 vn (now.map (.int .i64))) := Lib.hid (HVN.out.below (hB.out.trans (HB4.out.mono hszw)))
        obtain ⟨ac, nc, capc, rfl, HNc, hcapc, hmaxc, hcc⟩ := (hA4.at (Nat.le_refl _)).opened
        have HCc := Lib.hid hcc
        clear hA4 hcc hb2 hb3 hb4
        go_wp2
        go_loop [14, 38] (fun f i => ∃ (j : Nat) (fr : Int), j ≤ nc ∧ i = .int .i64 (j : Int) ∧ f = .int .i64 fr ∧ Hid (fr = fromOf ((refOrder z old).take j) now)) (fun _ i => nc - (intOf i).toNat)
        case atStart => exact ⟨0, 0, Nat.zero_le _, rfl, rfl, Lib.hid rfl⟩
        case round =>
          obtain ⟨j, fr, hj, rfl, rfl, HF⟩ := hrel
          by_cases hltj : j < nc
          · have hj2 : j < (refOrder z old).length := by rw [← HNc.out]; exact hltj
            rcases HCc.out with h0 | ⟨bc, offc, rfl, hbc, hcellc⟩
            · omega
            · have hcc := hcellc j hj2
              have HS1 := Lib.hid (fromOf_snoc (refOrder z old) now j hj2)
              generalize (refOrder z old)[j] = y at *
              clear hcellc
              by_cases hf0 : fr = 0
              · have HF0 := Lib.hid hf0
                have hf0' : (fr == 0) = true := by simpa using hf0
                clear hf0
                cases hh : hasB now y with
                | true =>
                  have HH := Lib.hid hh
                  go_wp2_with (go_at_call 12; refine (has29_any _ now _ _ HVN4.out).mono ?_; rintro e w5 ⟨rfl, rfl⟩)
                  go_round
                  case rel =>
                    refine ⟨j + 1, y, by omega, by go_num, rfl, ?_⟩
                    rw [HS1.out, ← HF.out]; unfold fromStep; rw [if_pos ⟨HF0.out, HH.out⟩]; exact Lib.hid rfl
                  case measure => simp [intOf]; omega
                | false =>
                  have HH := Lib.hid hh
                  go_wp2_with (go_at_call 12; refine (has29_any _ now _ _ HVN4.out).mono ?_; rintro e w5 ⟨rfl, rfl⟩)
                  go_round
                  case rel =>
                    refine ⟨j + 1, fr, by omega, by go_num, rfl, ?_⟩
                    rw [HS1.out, ← HF.out]; unfold fromStep; rw [if_neg (fun h => by rw [HH.out] at h; cases h.2)]; exact Lib.hid rfl
                  case measure => simp [intOf]; omega
              · have HF0 := Lib.hid hf0
                have hf0' : (fr == 0) = false := by simpa using hf0
                clear hf0
                go_wp2_with (go_at_call 12; refine (has29_any _ now _ _ HVN4.out).mono ?_; rintro e w5 ⟨rfl, rfl⟩)
                go_round
                case rel =>
                  refine ⟨j + 1, fr, by omega, by go_num, rfl, ?_⟩
                  rw [HS1.out, ← HF.out]; unfold fromStep; rw [if_neg (fun h => HF0.out h.1)]; exact Lib.hid rfl
                case measure => simp [intOf]; omega
          · obtain rfl : j = nc := by omega
            have HFr : Hid (fr = fromOf (refOrder z old) now) := by rw [HF.out, HNc.out, List.take_length]; exact Lib.hid rfl
            have HR4 : Hid (MoveRow w.heap.size wo.heap.size w4.heap.size w4 _ m (planTo (refKeys ks) old now c k)) := Lib.hid ⟨(hrow.below HB4.out (Nat.le_refl _)).own, fun q hq => .inl ((hrow.own.lt q hq).2)⟩
            have HO4 := Lib.hid hrow.off
            have HBw := Lib.hid (hB.out.trans (HB4.out.mono hszw))
            have HK4 := Lib.hid (hK.out.below HB4.out hsz)
            clear hrow hcapc hmaxc
            go_wp2
            go_loopw [9, 17] (fun v i wr => ∃ (j q : Nat), j ≤ 1024 ∧ i = .int .i64 (j : Int) ∧ q ≤ 1024 * k + j ∧ Hid (MoveRow w.heap.size wo.heap.size w4.heap.size wr v q (planTo (refKeys ks) old now c k ++ movesTo z old now c j)) ∧ w4.heap.size ≤ wr.heap.size ∧ Hid (Below w.heap.size w wr) ∧
              Hid (SlIn wo.heap.size w4.heap.size wr va ((topN (refOrder z old) c).map (.int .i64))) ∧ Hid (SlIn wo.heap.size w4.heap.size wr vb ((topN (refOrder z now) c).map (.int .i64))) ∧ Hid (SlIn (w.heap.size + 1) w1.heap.size wr (.slice (some ⟨b, off, none⟩) n cap) ((refKeys ks).map .string)) ∧ Hid (∀ q, v.ownBlock = some q → q < w.heap.size + 1 ∨ w1.heap.size ≤ q)) (fun _ i _ => 1024 - (intOf i).toNat)
            case atStart =>
              exact ⟨0, m, Nat.zero_le _, rfl, by omega, by simpa [movesTo, comes] using HR4, Nat.le_refl _, HBw, HVa, HVb, HK4, HO4⟩
            case round =>
              obtain ⟨i3, q, hi3, rfl, hq, HRow, hsz5, HBw5, HVa5, HVb5, HK5, HO5⟩ := hrel
              by_cases hlt3 : i3 < 1024
              · have HM3 := Lib.hid (movesTo_succ z old now c i3)
                have hbase : w.heap.size ≤ wr.heap.size := by omega
                cases hb3 : hasB (topN (refOrder z now) c) i3 with
                | true =>
                  have HB3 := Lib.hid hb3
                  cases ha3 : hasB (topN (refOrder z old) c) i3 with
                  | true =>
                    have HA3 := Lib.hid ha3
                    go_wp2_with fail
                    refine (has29_any _ (topN (refOrder z now) c) _ _ (HVb5.out.at hsz5)).mono ?_
                    rintro e w5 ⟨rfl, rfl⟩
                    go_wp2_with fail
                    refine (has29_any _ (topN (refOrder z old) c) _ _ (HVa5.out.at hsz5)).mono ?_
                    rintro e w5 ⟨rfl, rfl⟩
                    go_wp2
                    go_roundw
                    case rel =>
                      refine ⟨i3 + 1, q, by omega, by go_num, by omega, ?_, hsz5, HBw5, HVa5, HVb5, HK5, HO5⟩
                      rw [HM3.out, HB3.out, HA3.out]; exact HRow
                    case measure => simp [intOf]; omega
                  | false =>
                    have HA3 := Lib.hid ha3
                    have hown := HRow.out.own
                    go_wp2_with fail
                    refine (has29_any _ (topN (refOrder z now) c) _ _ (HVb5.out.at hsz5)).mono ?_
                    rintro e w5 ⟨rfl, rfl⟩
                    go_wp2_with fail
                    refine (has29_any _ (topN (refOrder z old) c) _ _ (HVa5.out.at hsz5)).mono ?_
                    rintro e w5 ⟨rfl, rfl⟩
                    go_wp2_with (at_builtin; refine wpList_appendN _ rfl _ _ 43 rfl w.heap.size 46 (.agg #[.string ByteArray.empty, .int .i64 0, .int .i64 0]) 3 32 Try.underlying43 info_rmove rfl (by decide) (by decide) hown rfl [.string z, .int .i64 fr, .int .i64 i3] rfl rfl rfl (by omega) hbase ?_; intro v' w5 hap; obtain ⟨g', cap', rfl⟩ := hap.some')
                    go_roundw
                    case rel =>
                      have hofs := HRow.out.off
                      have hg := hap.grown
                      refine ⟨i3 + 1, q + 1, by omega, by go_num, by omega, ?_, Nat.le_trans hsz5 hg.size, Lib.hid (HBw5.out.trans hap.below), Lib.hid (HVa5.out.grown hg hofs hsz5), Lib.hid (HVb5.out.grown hg hofs hsz5), Lib.hid (HK5.out.grown hg HO5.out (by omega)), ?_⟩
                      · rw [HM3.out, HB3.out, HA3.out]
                        refine Lib.hid ⟨?_, ?_⟩
                        · rw [if_pos (by decide), move_snoc, ← HFr.out]
                          exact hap.own
                        · intro x hx
                          rcases hap.blk with hblk | ⟨g, hblk, hgt⟩
                          · exact hofs x (by rw [← hblk]; exact hx)
                          · rw [hblk] at hx; cases hx; right; omega
                      · refine Lib.hid fun x hx => ?_
                        rcases hap.blk with hblk | ⟨g, hblk, hgt⟩
                        · exact HO5.out x (by rw [← hblk]; exact hx)
                        · rw [hblk] at hx; cases hx; right; omega
                    case measure => simp [intOf]; omega
                | false =>
                  have HB3 := Lib.hid hb3
                  go_wp2_with fail
                  refine (has29_any _ (topN (refOrder z now) c) _ _ (HVb5.out.at hsz5)).mono ?_
                  rintro e w5 ⟨rfl, rfl⟩
                  go_wp2
                  go_roundw
                  case rel =>
                    refine ⟨i3 + 1, q, by omega, by go_num, by omega, ?_, hsz5, HBw5, HVa5, HVb5, HK5, HO5⟩
                    rw [HM3.out, HB3.out]; exact HRow
                  case measure => simp [intOf]; omega
              · obtain rfl : i3 = 1024 := by omega
                go_wp2
                go_roundw
                case rel =>
                  refine ⟨k + 1, q, by omega, by go_num, by omega, ?_, by omega, HBw5, HK5⟩
                  rw [HS.out]
                  exact ⟨HRow.out.own, HO5.out⟩
                case measure => simp [intOf]; omega
    · obtain rfl : k = n := by omega
      have hfin : refPlan ks old now c = planTo (refKeys ks) old now c k := by unfold refPlan; rw [HN.out]
      have HF := Lib.hid hfin
      have HR := Lib.hid hrow
      clear hfin hrow
      go_wp2
      go_ret
      refine ⟨_, m, rfl, ?_, ?_, hB.out⟩
      · rw [HF.out]; exact SlN.owned HR.out.own
      · rw [HF.out]; exact HR.out.len
end Go.Proofs.Ythapnanemkjhhaa
