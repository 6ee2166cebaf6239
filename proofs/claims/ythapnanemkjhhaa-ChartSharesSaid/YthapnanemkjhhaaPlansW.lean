/- The walk of the law ChartPlans. Condition: texts no longer than 2^47 bytes. -/
import Derived.Test.YthapnanemkjhhaaAwake
import Derived.Test.YthapnanemkjhhaaChartP
import Derived.Test.YthapnanemkjhhaaSmallLaw
import Derived.Deep.RegionHeld3
import Derived.Deep.RegionHeldLaw
import Derived.Deep.AppendLies
import Derived.Deep.QuietTactic
import Derived.BigQuiet
import Derived.Deep.CutRange
import Derived.Deep.DeepCutAuto
namespace Go.Proofs.Ythapnanemkjhhaa
open Go.RowKit
set_option linter.unusedVariables false
/-- a block that holds a variable of the function's own -/
def Boxed (w : World) (B : Nat) (cs : Array Value) (T : TypeId) : Prop := w.heap[B]? = some (.cells cs T (0, 0))
theorem Boxed.cell {w : World} {B : Nat} {cs : Array Value} {T : TypeId} (h : Boxed w B cs T) (i : Nat) : w.cell? ⟨B, i, none⟩ = cs[i]? := by unfold Boxed at h; simp [World.cell?, h]
theorem Boxed.below {w w' : World} {B C : Nat} {cs : Array Value} {T : TypeId} (h : Boxed w B cs T) (hb : Below C w w') (hB : B < C) : Boxed w' B cs T := (hb.block B hB).trans h
theorem Boxed.lt {w : World} {B : Nat} {cs : Array Value} {T : TypeId} (h : Boxed w B cs T) : B < w.heap.size := (Array.getElem?_eq_some_iff.1 h).1

/-- the function's variable stands, and nothing of before has turned -/
structure At5 (w W : World) (a b c d e : Value) (T : TypeId) : Prop where
  box : Boxed W w.heap.size #[a, b, c, d, e] T
  below : Below w.heap.size w W
theorem At5.cells {w W : World} {a b c d e : Value} {T : TypeId} (h : At5 w W a b c d e T) : W.cell? ⟨w.heap.size, 0, none⟩ = some a ∧ W.cell? ⟨w.heap.size, 1, none⟩ = some b ∧ W.cell? ⟨w.heap.size, 2, none⟩ = some c ∧ W.cell? ⟨w.heap.size, 3, none⟩ = some d ∧ W.cell? ⟨w.heap.size, 4, none⟩ = some e :=
  ⟨h.box.cell 0, h.box.cell 1, h.box.cell 2, h.box.cell 3, h.box.cell 4⟩
theorem At5.next {w W W' : World} {a b c d e : Value} {T : TypeId} (h : At5 w W a b c d e T) (hb : Below W.heap.size W W') : At5 w W' a b c d e T :=
  ⟨h.box.below hb h.box.lt, h.below.trans (hb.mono h.below.size)⟩
theorem At5.drewN {w W : World} {a b c d e : Value} {T : TypeId} (h : At5 w W a b c d e T) (n : Nat) : At5 w (W.drewN n) a b c d e T := h.next (below_drewN (Below.refl _ _) n)
theorem At5.drew {w W : World} {a b c d e : Value} {T : TypeId} (h : At5 w W a b c d e T) : At5 w W.drew a b c d e T := h.next (Below.drew (Below.refl _ _))

/-- what an append of a slice leaves -/
structure Added (w w' : World) (base e : Nat) (v v' : Value) (n : Nat) (xs : List Value) : Prop where
  own : w'.ownsRow base e 1 v' n xs
  grown : w.grownBy w' v.ownBlock
  below : Below base w w'
  blk : v'.ownBlock = v.ownBlock ∨ v'.ownBlock = some w.heap.size
theorem ownsRow_cellsOf {w : World} {base e m : Nat} {g cap : Nat} {xs : List Value} (h : w.ownsRow base e 1 (.slice (some ⟨g, 0, none⟩) m cap) m xs) : ∀ j u, xs[j]? = some u → w.cell? ((⟨g, 0, none⟩ : Addr).add j) = some u := by
  intro j u hj
  rcases h.2 with ⟨h0, _⟩ | ⟨g', cap', cur, hv, _, hg, hn, hm, hs, hx⟩
  · cases h0
  · cases hv
    have hadd : (⟨g, 0, none⟩ : Addr).add j = ⟨g, j, none⟩ := by unfold Addr.add; split <;> simp_all
    rw [hadd]
    simp only [World.cell?, hg]
    have hj' : j < xs.length := (List.getElem?_eq_some_iff.1 hj).1
    have hl := h.1
    have h2 : (cur.toList.take (m * 1))[j]? = some u := by rw [hx]; exact hj
    rw [List.getElem?_take_of_lt (by omega)] at h2
    simpa using h2
theorem ownsRow_lit {w : World} {base e B : Nat} {x : Value} (hb : base ≤ B) (h : w.heap[B]? = some (.cells #[x] e)) : w.ownsRow base e 1 (.slice (some ⟨B, 0, none⟩) 1 1) 1 [x] :=
  ⟨rfl, .inr ⟨B, 1, #[x], rfl, hb, h, Nat.le_refl _, by decide, rfl, rfl⟩⟩
theorem step_append_sl {P : Program} {ops : Array Oper} {o : Oper} {a : Act} {K : Act → World → Prop} {Q : Exit → Act → World → Prop} {E : Prop} (w : World) (hgd : o.guard = none) (s x : Operand) (t : TypeId)
    (ho : o.op = .call { callee := .builtin .append, args := #[s, x], argTypes := #[t, t] })
    (base : Nat) (e : TypeId) (z : Value) (bytes : Nat) (ht : P.underlying t = some (.slice e)) (hinfo : (P.info? e).map (fun i => (i.zero, i.size, i.bytes)) = some (some z, 1, bytes)) (hzs : z.cells.size = 1)
    (v : Value) (n : Nat) (xs : List Value) (hs : a.eval s = v) (hown : w.ownsRow base e 1 v n xs) (basex : Nat) (vx : Value) (m : Nat) (news : List Value) (hx : a.eval x = vx) (hownx : w.ownsRow basex e 1 vx m news) (h1 : news.all Value.oneCell' = true)
    (h63 : n + m ≤ maxLen) (hbytes : (n + m) * bytes ≤ 140737488355328) (hbase : base ≤ w.heap.size)
    (h : ∀ v' w', Added w w' base e v v' (n + m) (xs ++ news) → K (a.put o.dst v') w') :
    if Region.wanted o (yielded ops a.tmps) = true then Oper.wp P o a w K Q else E := by
  have hw : Region.wanted o (yielded ops a.tmps) = true := by simp [Region.wanted, hgd]
  rw [if_pos hw]
  obtain ⟨i, hi, hz, hsize, hb⟩ := info_parts hinfo
  obtain ⟨v', w', hr, hA⟩ : ∃ v' w', (Builtin.append_ #[t, t] o.type #[v, vx]).run P w = .ok v' w' ∧ Added w w' base e v v' (n + m) (xs ++ news) := by
    rcases hownx.2 with ⟨rfl, rfl⟩ | ⟨g, cap, cur, rfl, _, hg, hn, hm, hs', hx'⟩
    · have hnil : news = [] := List.eq_nil_of_length_eq_zero (by have := hownx.1; omega)
      subst hnil
      refine ⟨v, w, ?_, by simpa using hown, ⟨rfl, rfl, rfl, Nat.le_refl _, fun _ _ _ => rfl⟩, Below.refl _ _, .inl rfl⟩
      exact run_append_owned_none (P := P) (w := w) base t o.type e i 1 ht hi v n xs hown
    · obtain ⟨v', w', hr, h2, h3, -, h5⟩ := run_append_own_at (P := P) w base t o.type e i z 1 bytes ht hi hz hsize hb hzs (by decide) v n xs hown ⟨g, 0, none⟩ m cap news (by have := hownx.1; omega) (ownsRow_cellsOf hownx) (fun y hy => List.all_eq_true.1 h1 y hy) h63 hbytes hbase
      exact ⟨v', w', hr, h2, h3, (Below.refl base w).grown h3 hbase fun k hk => (hown.lt k hk).1, h5⟩
  unfold Oper.wp execOp
  simp only [ho, resolve, invoke, builtin, Sem.run_bind, Sem.run_pure, Result.andThen_ok, List.map_toArray, List.map_cons, List.map_nil, hs, hx, hr]
  exact h v' w' hA
theorem bel_alloc {w w1 : World} (h : Below w.heap.size w w1) (o : Obj) : Below w.heap.size w (w1.alloc o) := h.alloc h.size o
theorem ownsRow_empty {w : World} {base e B : Nat} (hb : base ≤ B) (h : w.heap[B]? = some (.cells #[] e)) : w.ownsRow base e 1 (.slice (some ⟨B, 0, none⟩) 0 0) 0 [] :=
  ⟨rfl, .inr ⟨B, 0, #[], rfl, hb, h, Nat.le_refl _, by decide, rfl, rfl⟩⟩
theorem heap_drew (w : World) (k : Nat) : w.drew.heap[k]? = w.heap[k]? := rfl
theorem ones_int (l : List Int) : (l.map (Value.int .i64)).all Value.oneCell' = true := by
  rw [List.all_map, List.all_eq_true]; intro x _; rfl
theorem fewI_wrap (x : Int) : wrap64 (1 + (bits .and .i64 x 1023).tmod 1000) = fewI x := by
  have h : 0 ≤ bits .and .i64 x 1023 ∧ bits .and .i64 x 1023 ≤ 1023 := and_small x 1023 (by omega)
  have h2 := fewI_bd x
  unfold fewI at *
  rw [Int.tmod_eq_emod_of_nonneg h.1]
  unfold wrap64; omega
theorem few_le (zs : List Int) : (fewL zs).length ≤ 8 := by unfold fewL; rw [List.length_map, List.length_take]; omega
theorem few_bd {zs : List Int} {z : Int} (h : z ∈ fewL zs) : 1 ≤ z ∧ z ≤ 1000 := by
  unfold fewL at h
  obtain ⟨x, -, rfl⟩ := List.mem_map.1 h
  exact fewI_bd x
theorem ser_few (zs : List Int) : Ser (fewL zs) := fun z h => by have := few_bd h; omega
theorem keys_le (ss : List ByteArray) : (keysL ss).length ≤ 30 := by unfold keysL; rw [List.length_map, List.length_take]; omega
theorem keys_size {ss : List ByteArray} {s : ByteArray} (h : s ∈ keysL ss) : s.size ≤ 140737488351232 := by
  unfold keysL at h
  obtain ⟨x, -, rfl⟩ := List.mem_map.1 h
  have := (cutB_size x 8).1
  omega
theorem once_size {ss : List ByteArray} {s : ByteArray} (h : s ∈ onceS (keysL ss)) : s.size ≤ 140737488351232 := keys_size (((onceS_ok _).2 s).1 h)
theorem refKeys_size {ss : List ByteArray} {s : ByteArray} (h : s ∈ refKeys (keysL ss)) : s.size ≤ 140737488351232 := by rw [← onceS_eq] at h; exact once_size h

theorem move_at (ms : List (ByteArray × Int × Int)) (k : Nat) (hk : k < ms.length) (j : Nat) (hj : j < 3) : (ms.flatMap moveCells)[k * 3 + j]? = (moveCells ms[k])[j]? := by
  induction ms generalizing k with
  | nil => simp at hk
  | cons y l ih =>
    rw [List.flatMap_cons]
    cases k with
    | zero => rw [List.getElem?_append_left (by simp [moveCells]; omega)]; simp
    | succ k =>
      rw [List.getElem?_append_right (by simp [moveCells]; omega)]
      have e : (k + 1) * 3 + j - (moveCells y).length = k * 3 + j := by simp [moveCells]; omega
      rw [e, ih k (by simpa using hk)]
      rfl
/-- the three cells of a move -/
theorem move_cells {w : World} {b off : Nat} {ms : List (ByteArray × Int × Int)} (h : ∀ i x, (ms.flatMap moveCells)[i]? = some x → w.cell? ⟨b, off + i, none⟩ = some x) (k : Nat) (hk : k < ms.length) :
    w.cell? ⟨b, off + k * 3, none⟩ = some (.string ms[k].1) ∧ w.cell? ⟨b, off + k * 3 + 1, none⟩ = some (.int .i64 ms[k].2.1) ∧ w.cell? ⟨b, off + k * 3 + 2, none⟩ = some (.int .i64 ms[k].2.2) := by
  have hg := move_at ms k hk
  refine ⟨?_, ?_, ?_⟩
  · have := h (k * 3 + 0) _ ((hg 0 (by omega)).trans rfl); simpa using this
  · have := h (k * 3 + 1) _ ((hg 1 (by omega)).trans rfl); simpa [Nat.add_assoc] using this
  · have := h (k * 3 + 2) _ ((hg 2 (by omega)).trans rfl); simpa [Nat.add_assoc] using this

theorem lit_kept {W w' : World} {ob : Option Nat} {k B base e : Nat} {x : Value} (hg : W.grownBy w' ob) (hob : ob = some B) (hne : B ≠ k) (hk : W.heap[k]? = some (.cells #[x] e)) (hb : base ≤ k) : w'.ownsRow base e 1 (.slice (some ⟨k, 0, none⟩) 1 1) 1 [x] :=
  ownsRow_lit hb ((hg.block k (Array.getElem?_eq_some_iff.1 hk).1 (by rw [hob]; intro h; injection h with h; first | exact hne h | exact hne h.symm)).trans hk)
theorem At5.alloc {w W : World} {a b c d e : Value} {T : TypeId} (h : At5 w W a b c d e T) (o : Obj) : At5 w (W.alloc o) a b c d e T := h.next ((Below.refl _ _).alloc (Nat.le_refl _) _)
theorem At5.c3 {w W : World} {a b c d e : Value} {T : TypeId} (h : At5 w W a b c d e T) : W.cell? ⟨w.heap.size, 3, none⟩ = some d := h.cells.2.2.2.1
set_option maxRecDepth 100000 in
set_option maxHeartbeats 4000000 in
theorem plans_walk (vk vo vn : Value) (ks0 : List ByteArray) (old0 now0 : List Int) (c one : Int) (w : World) (hk : SlAt w vk (ks0.map .string)) (ho : SlAt w vo (old0.map (.int .i64))) (hn : SlAt w vn (now0.map (.int .i64)))
  (hks : ∀ s ∈ ks0, s.size ≤ 140737488351232) :
  Calls Try.prog 4 #[.agg #[vk, vo, vn, .int .i64 c, .int .i64 one]] w fun e w' => e = .returned (.bool true) ∧ Below w.heap.size w w' := by
  obtain ⟨ak, nk, capk, rfl, -⟩ := hk.opened
  obtain ⟨ao, no, capo, rfl, -⟩ := ho.opened
  obtain ⟨an, nn, capn, rfl, -⟩ := hn.opened
  have HK := Lib.hid hk
  have HO := Lib.hid ho
  have HN := Lib.hid hn
  have HKS := Lib.hid hks
  clear hk ho hn hks
  go_enter Try.func4, Try.ntmps4
  go_wp2_with fail
  refine (awake_any _).mono ?_
  rintro e w1 ⟨rfl, hb1⟩
  have hs1 := hb1.size
  simp only [World.size_alloc] at hs1 hb1
  have hB1 : Below w.heap.size w w1 := ((Below.refl _ w).alloc (Nat.le_refl _) (.cells #[.slice ak nk capk, .slice ao no capo, .slice an nn capn, .int .i64 c, .int .i64 one] 40)).trans (hb1.mono (by omega))
  have HX : Hid (At5 w w1 (.slice ak nk capk) (.slice ao no capo) (.slice an nn capn) (.int .i64 c) (.int .i64 one) 40) := Lib.hid ⟨(hb1.block _ (Nat.lt_succ_self _)).trans (heap_alloc_new _ _), hB1⟩
  clear hb1 hB1
  obtain ⟨e0, e1, e2, e3, e4⟩ := HX.out.cells
  go_wp2_with fail
  have hx1 := HX.out.drew
  go_region_held3 (fun W => W.cell? ⟨w.heap.size, 0, none⟩ = some (.slice ak nk capk) ∧ W.cell? ⟨w.heap.size, 1, none⟩ = some (.slice ao no capo) ∧ W.cell? ⟨w.heap.size, 2, none⟩ = some (.slice an nn capn) ∧ W.cell? ⟨w.heap.size, 3, none⟩ = some (.int .i64 c) ∧ W.cell? ⟨w.heap.size, 4, none⟩ = some (.int .i64 one)) (exact At5.cells (by assumption)) (first
    | (go_at_call 8
       refine (keysOf_any _ ks0 _ ?hks HKS.out).mono ?_
       case hks => exact HK.out.below (At5.below (by assumption))
       rintro e w2 ⟨v2, rfl, ho2, hb2⟩
       have hx2 := At5.next (by assumption) hb2
       replace ho2 := SlAt.owned ho2)
    | (go_at_call 9
       refine (few_any _ old0 _ ?hks).mono ?_
       case hks => exact HO.out.below (At5.below (by assumption))
       rintro e w3 ⟨v3, rfl, ho3, hb3⟩
       have hx3 := At5.next (by assumption) hb3
       have hl3 := fun q hq => (ho3.lt q hq).2)
    | (go_at_call 9
       refine (few_any _ now0 _ ?hks).mono ?_
       case hks => exact HN.out.below (At5.below (by assumption))
       rintro e w4 ⟨v4, rfl, ho4, hb4⟩
       have hx4 := At5.next (by assumption) hb4
       replace ho4 := SlAt.owned ho4))
  have HX4 := Lib.hid hx4
  have HA := Lib.hid ((ho2.below hb3).below hb4)
  have HB := Lib.hid (ownsRow_below ho3 hb4 hl3)
  have HC := Lib.hid ho4
  clear hx1 hx2 hx3 hx4 hb2 hb3 hb4 ho2 ho3 ho4 hl3 e0 e1 e2 e3 e4 HX HK HO HN
  obtain ⟨e0, e1, e2, e3, e4⟩ := HX4.out.cells
  go_wp2_with fail
  refine (plan_any v2 v3 v4 (keysL ks0) (fewL old0) (fewL now0) c _ HA.out (SlAt.owned HB.out) HC.out (fun s hs => once_size hs) (by have := keys_le ks0; omega) (by have := few_le old0; omega) (by have := few_le now0; omega)).mono ?_
  rintro e w5 ⟨v5, m5, rfl, hp5, hm5, hb5⟩
  rw [chartPlan_eq _ _ _ _ (ser_few _) (ser_few _) (fun z hz => (few_bd hz).1) (fun z hz => by have := few_bd hz; omega)] at hp5 hm5
  have HX5 := Lib.hid (HX4.out.next hb5)
  have HA5 := Lib.hid (HA.out.below hb5)
  have HB5 := Lib.hid (ownsRow_below HB.out hb5 (fun q hq => (HB.out.lt q hq).2))
  have HC5 := Lib.hid (HC.out.below hb5)
  have HP5 := Lib.hid hp5
  clear e0 e1 e2 e3 e4 HX4 HA HB HC hb5 hp5
  obtain ⟨e0, e1, e2, e3, e4⟩ := HX5.out.cells
  go_wp2_with fail
  refine (plan29_any v2 v3 v4 (keysL ks0) (fewL old0) (fewL now0) c _ HA5.out (SlAt.owned HB5.out) HC5.out (fun s hs => keys_size hs) (fun s hs => refKeys_size hs) (by have := keys_le ks0; omega) (fun z hz => (few_bd hz).1) (fun z hz => (few_bd hz).1) (by have := few_le old0; omega) (by have := few_le now0; omega)).mono ?_
  rintro e w6 ⟨v6, m6, rfl, hp6, hm6, hb6⟩
  have HX6 := Lib.hid (HX5.out.next hb6)
  have HA6 := Lib.hid (HA5.out.below hb6)
  have HB6 := Lib.hid (ownsRow_below HB5.out hb6 (fun q hq => (HB5.out.lt q hq).2))
  have HP56 := Lib.hid (HP5.out.below hb6)
  clear e0 e1 e2 e3 e4 HX5 HA5 HB5 HC5 HP5 hb6
  subst hm5
  obtain ⟨a5, cap5, rfl, -, hc5, hmx5, hcell5⟩ := HP56.out
  obtain ⟨a6, cap6, rfl, -, hc6, hmx6, hcell6⟩ := hp6
  have hlen : (refPlan (keysL ks0) (fewL old0) (fewL now0) c).length ≤ 1048576 := by
    have h1 := planTo_length (refKeys (keysL ks0)) (fewL old0) (fewL now0) c (refKeys (keysL ks0)).length (Nat.le_refl _)
    have h2 : (refKeys (keysL ks0)).length ≤ 30 := Nat.le_trans (keysTo_length _ _ (Nat.le_refl _)) (keys_le ks0)
    have h3 : (refPlan (keysL ks0) (fewL old0) (fewL now0) c).length ≤ 1024 * (refKeys (keysL ks0)).length := h1
    omega
  generalize refPlan (keysL ks0) (fewL old0) (fewL now0) c = M at *
  subst hm6
  have HC5 := Lib.hid hcell5
  have HC6 := Lib.hid hcell6
  clear hcell5 hcell6 hc5 hc6 hmx5 hmx6
  have hs6 := HX6.out.below.size
  go_wp2
  go_loopw [43] (fun i wr => ∃ k : Nat, k ≤ M.length ∧ i = .int .i64 (k : Int) ∧ Hid (Below w6.heap.size w6 wr)) (fun i _ => M.length - (intOf i).toNat)
  case atStart => exact ⟨0, Nat.zero_le _, rfl, Lib.hid (Below.refl _ _)⟩
  case round =>
    obtain ⟨k, hk, rfl, HB⟩ := hrel
    by_cases hlt : k < M.length
    · rcases HC5.out with h0 | ⟨b5, off5, rfl, hb5, hcell5⟩
      · omega
      · rcases HC6.out with h0 | ⟨b6, off6, rfl, hb6, hcell6⟩
        · omega
        · obtain ⟨c1, c2, c3⟩ := move_cells hcell5 k hlt
          obtain ⟨d1, d2, d3⟩ := move_cells hcell6 k hlt
          rw [← HB.out.cell (p := ⟨b5, off5 + k * 3, none⟩) hb5] at c1
          rw [← HB.out.cell (p := ⟨b5, off5 + k * 3 + 1, none⟩) hb5] at c2
          rw [← HB.out.cell (p := ⟨b5, off5 + k * 3 + 2, none⟩) hb5] at c3
          rw [← HB.out.cell (p := ⟨b6, off6 + k * 3, none⟩) hb6] at d1
          rw [← HB.out.cell (p := ⟨b6, off6 + k * 3 + 1, none⟩) hb6] at d2
          rw [← HB.out.cell (p := ⟨b6, off6 + k * 3 + 2, none⟩) hb6] at d3
          have hszr := HB.out.size
          have hb5w : b5 < wr.heap.size := Nat.lt_of_lt_of_le hb5 hszr
          have hb6w : b6 < wr.heap.size := Nat.lt_of_lt_of_le hb6 hszr
          have n1 := Nat.ne_of_lt hb5w
          have a1 : ∀ o, (wr.alloc o).cell? ⟨b5, off5 + k * 3, none⟩ = wr.cell? ⟨b5, off5 + k * 3, none⟩ := fun o => World.cell?_alloc_old _ _ _ n1
          have a2 : ∀ o, (wr.alloc o).cell? ⟨b5, off5 + k * 3 + 1, none⟩ = wr.cell? ⟨b5, off5 + k * 3 + 1, none⟩ := fun o => World.cell?_alloc_old _ _ _ n1
          have a3 : ∀ o, (wr.alloc o).cell? ⟨b5, off5 + k * 3 + 2, none⟩ = wr.cell? ⟨b5, off5 + k * 3 + 2, none⟩ := fun o => World.cell?_alloc_old _ _ _ n1
          generalize M[k] = mv at *
          obtain ⟨m1, m2, m3⟩ := mv
          dsimp only at *
          clear hcell5 hcell6
          go_wp2_with fail
          go_quiet (fail)
          go_wp2
          go_roundw
          case rel => exact ⟨k + 1, by omega, by go_num, Lib.hid (by first | exact below_drewN (HB.out.alloc (by omega) _) _ | exact (HB.out.alloc (by omega) _).drew)⟩
          case measure => simp [intOf]; omega
    · obtain rfl : M.length = k := by omega
      have HX7 := Lib.hid (HX6.out.next HB.out)
      have HA7 := Lib.hid (HA6.out.below HB.out)
      have HB7 := Lib.hid (ownsRow_below HB6.out HB.out (fun q hq => (HB6.out.lt q hq).2))
      clear HX6 HA6 HB6 HP56 HC5 HC6 HB
      obtain ⟨e0, e1, e2, e3, e4⟩ := HX7.out.cells
      go_wp2_with fail
      rw [fewI_wrap]
      obtain ⟨o1, ho1⟩ : ∃ o1, o1 = fewI one := ⟨_, rfl⟩
      rw [← ho1]
      have HO1 := Lib.hid ho1
      clear ho1
      have hx7 := HX7.out.drew
      have hown7 := HB7.out
      have hfl := few_le old0
      go_region_held_law (fun W => W.cell? ⟨w.heap.size, 3, none⟩ = some (.int .i64 c)) ((apply At5.c3; repeat (first | assumption | apply At5.alloc | apply At5.drew))) (first
        | (refine step_append_sl _ rfl _ _ 23 rfl wr.heap.size 3 (.int .i64 0) 8 Try.underlying23 info_int rfl _ 0 [] rfl ?own w2.heap.size v3 (fewL old0).length ((fewL old0).map (.int .i64)) rfl ?ownx (ones_int _) ?max ?byt ?bas ?_
           case own => first | exact ownsRow_empty (Nat.le_refl _) (heap_alloc_new _ _) | exact ownsRow_empty (Nat.le_succ _) (heap_alloc2 _ _ _) | exact ownsRow_empty (Nat.le_refl _) ((Below.heap_alloc _ _ _ (by simp)).trans (heap_alloc_new _ _))
           case ownx => exact ownsRow_below hown7 (B := wr.heap.size) (by (repeat (first | assumption | exact Below.refl _ _ | refine Below.drew ?_ | refine bel_alloc ?_ _))) (fun q hq => (hown7.lt q hq).2)
           case max => unfold maxLen; omega
           case byt => omega
           case bas => simp [World.drew]; try omega
           intro v70 w70 hap
           have hb70 : Below wr.heap.size wr w70 := Below.trans (by (repeat (first | assumption | exact Below.refl _ _ | refine Below.drew ?_ | refine bel_alloc ?_ _))) hap.below
           have hx70 := HX7.out.next hb70
           have hown70 := hap.own
           have hblk70 := hap.blk
           have hz70 : wr.heap.size ≤ w70.heap.size := hb70.size
           have hgr70 := hap.grown)
        | (refine step_append_sl _ rfl _ _ 23 rfl wr.heap.size 3 (.int .i64 0) 8 Try.underlying23 info_int rfl _ (0 + (fewL old0).length) ([] ++ (fewL old0).map (.int .i64)) rfl ?own wr.heap.size _ 1 [.int .i64 o1] rfl ?ownx rfl ?max ?byt ?bas ?_
           case own => first | exact hown70 | exact hown70.alloc _
           case ownx => first | exact ownsRow_lit hz70 (heap_alloc_new _ _) | exact lit_kept hgr70 (B := wr.heap.size) rfl (by omega) (heap_alloc2 _ _ _) (Nat.le_succ _) | exact lit_kept hgr70 (B := wr.heap.size + 1) rfl (by omega) ((Below.heap_alloc _ _ _ (by simp)).trans (heap_alloc_new _ _)) (Nat.le_refl _)
           case max => unfold maxLen; omega
           case byt => omega
           case bas => first | exact hb70.size | (have := hb70.size; simp; omega)
           intro v71 w71 hap2
           have hb71 : Below wr.heap.size wr w71 := Below.trans (by first | exact hb70 | exact hb70.alloc hb70.size _) hap2.below
           have hx71 := HX7.out.next hb71
           have hown71 := hap2.own)
        | (go_at_call 16
           refine (plan_any v2 v3 v71 (keysL ks0) (fewL old0) (fewL old0 ++ [o1]) c _ ?k1 ?k2 ?k3 (fun s hs => once_size hs) (by have := keys_le ks0; omega) (by omega) (by rw [List.length_append, List.length_singleton]; omega)).mono ?_
           case k1 => exact HA7.out.below hb71
           case k2 => exact (SlAt.owned hown7).below hb71
           case k3 => exact SlAt.owned (by simpa using hown71)
           rintro e w8 ⟨v8, m8, rfl, hp8, hm8, hb8⟩
           have hb81 : Below wr.heap.size wr w8 := hb71.trans (hb8.mono hb71.size)
           have hx81 := HX7.out.next hb81
           obtain ⟨a8, cap8, rfl, -, hc8, hmx8, hcell8⟩ := hp8))
      all_goals
        have HB8 := Lib.hid hb81
        have hsz8 := hb81.size
        have HC8 := Lib.hid hcell8
        have HM8 := Lib.hid hm8
        have HB78 := Lib.hid (ownsRow_below hown7 hb81 (fun q hq => (hown7.lt q hq).2))
        have HP8 := Lib.hid (plan_one (keysL ks0) (fewL old0) o1 c (ser_few old0) (fun z hz => (few_bd hz).1) (by rw [HO1.out]; exact (fewI_bd one).1) (by rw [HO1.out]; have := (fewI_bd one).2; omega))
        have hx8 := hx81
        clear hx71 hb70 hb71 hcell8 hm8 hown7 hx81 hown70 hown71 hblk70 hgr70 hap hap2 hx7 hb81 hb8 hx70
        generalize chartPlan (keysL ks0) (fewL old0) (fewL old0 ++ [o1]) c = M2 at *
        obtain rfl : m8 = M2.length := HM8.out
        go_wp2_with fail
        go_loopw [78] (fun i w9 => ∃ j : Nat, j ≤ M2.length ∧ i = .int .i64 (j : Int) ∧ Hid (Below w8.heap.size w8 w9)) (fun i _ => M2.length - (intOf i).toNat)
        case atStart => exact ⟨0, Nat.zero_le _, rfl, Lib.hid (Below.refl _ _)⟩
        case round =>
          obtain ⟨j, hj, rfl, HB9⟩ := hrel
          unfold maxLen at hmx8
          by_cases hjm : j < M2.length
          · have hj2 : j < M2.length := hjm
            rcases HC8.out with h0 | ⟨b8, off8, rfl, hb8, hcell8⟩
            · omega
            · obtain ⟨c1, c2, c3⟩ := move_cells hcell8 j hj2
              rw [← HB9.out.cell (p := ⟨b8, off8 + j * 3, none⟩) hb8] at c1
              rw [← HB9.out.cell (p := ⟨b8, off8 + j * 3 + 1, none⟩) hb8] at c2
              rw [← HB9.out.cell (p := ⟨b8, off8 + j * 3 + 2, none⟩) hb8] at c3
              have hmv := HP8.out M2[j] (List.getElem_mem hj2)
              generalize M2[j] = mv at *
              obtain ⟨m1, m2, m3⟩ := mv
              dsimp only at *
              obtain ⟨hv1, hv2, hv3⟩ := hmv
              have t1 : (m3 != o1) = false := by rw [hv1]; simp
              have t2 : (m2 == o1) = false := beq_eq_false_iff_ne.2 hv2
              have HV3 := Lib.hid hv3
              have HS8 := Lib.hid ((SlAt.owned HB78.out).below HB9.out)
              have hsz9 := HB9.out.size
              clear hcell8 hv1 hv2 hv3
              go_wp2_with fail
              refine (has29_any v3 (fewL old0) o1 _ (HS8.out.below ((Below.refl _ _).alloc (Nat.le_refl _) _))).mono ?_
              rintro e w10 ⟨rfl, rfl⟩
              rw [HV3.out]
              go_wp2
              go_roundw
              case rel => exact ⟨j + 1, by omega, by go_num, Lib.hid (HB9.out.alloc hsz9 _)⟩
              case measure => simp [intOf]; omega
          · obtain rfl : M2.length = j := by omega
            go_wp2
            go_ret
            exact ⟨rfl, HX7.out.below.trans ((HB8.out.trans (HB9.out.mono hsz8)).mono HX7.out.below.size)⟩
end Go.Proofs.Ythapnanemkjhhaa
