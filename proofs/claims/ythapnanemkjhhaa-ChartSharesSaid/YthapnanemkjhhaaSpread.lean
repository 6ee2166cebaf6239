/- Contracts of chart.Spread and of slices.MinFunc, MaxFunc at Share. Condition: words of 64 bits, fewer than 2^31 elements. -/
import Derived.Test.YthapnanemkjhhaaFloat
import Derived.Test.YthapnanemkjhhaaRep
import Derived.Laws.Entries
import Derived.Shelf.SlSortCmp.QuietGrown
import Derived.Outline
namespace Go.Proofs.Ythapnanemkjhhaa
open Go.RowKit Go.Sort
set_option linter.unusedVariables false
theorem run_store_float (P : Program) (w : World) (a : Addr) (m : Mode) (k : FloatKind) (b : Nat) : (store a (.float k b) m).run P w = stored P w a (.float k b) m := run_store P w a _ m rfl
attribute [local go_sem] run_store_float

structure ShareD where
  serial : Int
  keys : Int
  sectors : Int
  part : Nat
def ShareD.cells (s : ShareD) : List Value := [.int .i64 s.serial, .int .i64 s.keys, .int .i64 s.sectors, .float .f64 s.part]
def ShareD.val (s : ShareD) : Value := .agg #[.int .i64 s.serial, .int .i64 s.keys, .int .i64 s.sectors, .float .f64 s.part]

theorem spreadCmp_any (x y : ShareD) (hx : W64 x.part) (hy : W64 y.part) (w : World) : Calls Try.prog 33 #[x.val, y.val] w fun e w' => e = .returned (.int .i64 (ordF x.part y.part)) ∧ Grew w w' := by
  obtain ⟨x1, x2, x3, x4⟩ := x
  obtain ⟨y1, y2, y3, y4⟩ := y
  unfold ShareD.val
  dsimp only at *
  go_enter Try.func33, Try.ntmps33
  go_wp2_with fail
  refine (order_any _ _ hx hy _).mono ?_
  rintro e w1 ⟨rfl, rfl⟩
  go_wp2
  go_ret
  exact ⟨rfl, ((Grew.refl _).alloc _).alloc _⟩

instance : Inhabited ShareD := ⟨⟨0, 0, 0, 0⟩⟩
def minStep (m x : ShareD) : ShareD := if ordF x.part m.part < 0 then x else m
def maxStep (m x : ShareD) : ShareD := if 0 < ordF x.part m.part then x else m
def minTo (xs : List ShareD) (k : Nat) : ShareD := ((xs.take k).drop 1).foldl minStep (xs.headD default)
def maxTo (xs : List ShareD) (k : Nat) : ShareD := ((xs.take k).drop 1).foldl maxStep (xs.headD default)
theorem minTo_succ (xs : List ShareD) (k : Nat) (h0 : 0 < k) (h : k < xs.length) : minTo xs (k + 1) = minStep (minTo xs k) xs[k] := by
  unfold minTo
  rw [List.take_succ_eq_append_getElem h, List.drop_append_of_le_length (by rw [List.length_take]; omega), List.foldl_append]; rfl
theorem maxTo_succ (xs : List ShareD) (k : Nat) (h0 : 0 < k) (h : k < xs.length) : maxTo xs (k + 1) = maxStep (maxTo xs k) xs[k] := by
  unfold maxTo
  rw [List.take_succ_eq_append_getElem h, List.drop_append_of_le_length (by rw [List.length_take]; omega), List.foldl_append]; rfl

theorem share_at (xs : List ShareD) (k : Nat) (hk : k < xs.length) (j : Nat) (hj : j < 4) : (xs.flatMap ShareD.cells)[k * 4 + j]? = (xs[k].cells)[j]? := by
  induction xs generalizing k with
  | nil => simp at hk
  | cons y l ih =>
    rw [List.flatMap_cons]
    cases k with
    | zero => rw [List.getElem?_append_left (by simp [ShareD.cells]; omega)]; simp
    | succ k =>
      rw [List.getElem?_append_right (by simp [ShareD.cells]; omega)]
      have e : (k + 1) * 4 + j - (y.cells).length = k * 4 + j := by simp [ShareD.cells]; omega
      rw [e, ih k (by simpa using hk)]
      rfl
/-- the four cells of an element -/
theorem share_cells {w : World} {b off : Nat} {xs : List ShareD} (h : ∀ i x, (xs.flatMap ShareD.cells)[i]? = some x → w.cell? ⟨b, off + i, none⟩ = some x) (k : Nat) (hk : k < xs.length) :
    w.cell? ⟨b, off + k * 4, none⟩ = some (.int .i64 xs[k].serial) ∧ w.cell? ⟨b, off + k * 4 + 1, none⟩ = some (.int .i64 xs[k].keys) ∧ w.cell? ⟨b, off + k * 4 + 2, none⟩ = some (.int .i64 xs[k].sectors) ∧ w.cell? ⟨b, off + k * 4 + 3, none⟩ = some (.float .f64 xs[k].part) := by
  have hg := share_at xs k hk
  refine ⟨?_, ?_, ?_, ?_⟩
  · have := h (k * 4 + 0) _ ((hg 0 (by omega)).trans rfl); simpa using this
  · have := h (k * 4 + 1) _ ((hg 1 (by omega)).trans rfl); simpa [Nat.add_assoc] using this
  · have := h (k * 4 + 2) _ ((hg 2 (by omega)).trans rfl); simpa [Nat.add_assoc] using this
  · have := h (k * 4 + 3) _ ((hg 3 (by omega)).trans rfl); simpa [Nat.add_assoc] using this

theorem heap_alloc2 (w : World) (o o' : Obj) : ((w.alloc o).alloc o').heap[w.heap.size + 1]? = some o' := by
  have h := heap_alloc_new (w.alloc o) o'
  rwa [World.size_alloc] at h
theorem block4 {W : World} {B : Nat} {a b c d : Value} {T : TypeId} (h : W.heap[B]? = some (.cells #[a, b, c, d] T (0, 0))) :
    W.cell? ⟨B, 0, none⟩ = some a ∧ W.cell? ⟨B, 1, none⟩ = some b ∧ W.cell? ⟨B, 2, none⟩ = some c ∧ W.cell? ⟨B, 3, none⟩ = some d := by
  refine ⟨?_, ?_, ?_, ?_⟩ <;> simp [World.cell?, h]
theorem block4_free {W : World} {B : Nat} {a b c d : Value} {T : TypeId} (h : W.heap[B]? = some (.cells #[a, b, c, d] T (0, 0))) (j : Nat) : W.frozen? ⟨B, j, none⟩ = false := by simp [World.frozen?, h]
theorem block4_set {W : World} {B : Nat} {a b c d a' b' c' d' : Value} {T : TypeId} (h : W.heap[B]? = some (.cells #[a, b, c, d] T (0, 0))) :
    ((((W.setCell ⟨B, 0, none⟩ a').setCell ⟨B, 1, none⟩ b').setCell ⟨B, 2, none⟩ c').setCell ⟨B, 3, none⟩ d').heap[B]? = some (.cells #[a', b', c', d'] T (0, 0)) := by
  simp [World.setCell, Array.getElem?_modify, h]

set_option maxRecDepth 100000 in
set_option maxHeartbeats 4000000 in
theorem minFunc_any (v : Value) (n : Nat) (xs : List ShareD) (w : World) (hv : SlN 4 w v n (xs.flatMap ShareD.cells)) (hn : n = xs.length) (h1 : 1 ≤ n) (hb : n < 2147483648) (hx : ∀ x ∈ xs, W64 x.part) :
    Calls Try.prog 34 #[v, .func (.func 33) #[] #[]] w fun e w' => e = .returned ((minTo xs n).val) ∧ Below w.heap.size w w' := by
  obtain ⟨a, cap, rfl, -, hcap, hmax, hc⟩ := hv
  rcases hc with h0 | ⟨b, off, rfl, hbb, hcell⟩
  · omega
  · have hs := share_cells hcell
    have HS := Lib.hid hs
    have HX := Lib.hid hx
    have HN := Lib.hid hn
    have hs0 := hs 0 (by omega)
    have HM0 : Hid (minTo xs 1 = xs[0]) := by
      cases xs with
      | nil => simp at hn; omega
      | cons x l => exact Lib.hid rfl
    have hmo : Try.prog.follows .mixedOrders = true := by kernel_rfl
    have HX0 := Lib.hid (hx xs[0] (List.getElem_mem (by omega)))
    generalize xs[0] = x0 at *
    obtain ⟨p1, p2, p3, p4⟩ := x0
    dsimp only at hs0
    simp only [Nat.zero_mul, Nat.add_zero] at hs0
    obtain ⟨c1, c2, c3, c4⟩ := hs0
    unfold maxLen at hmax
    clear hs hx hn hcell
    go_enter Try.func34, Try.ntmps34
    go_wp2_with fail
    go_loopw [6] (fun i wr => ∃ k : Nat, 1 ≤ k ∧ k ≤ n ∧ i = .int .i64 (k : Int) ∧ Hid (wr.heap[w.heap.size + 1]? = some (.cells #[.int .i64 (minTo xs k).serial, .int .i64 (minTo xs k).keys, .int .i64 (minTo xs k).sectors, .float .f64 (minTo xs k).part] 32 (0, 0))) ∧
      Hid (wr.heap[w.heap.size]? = some (.cells #[.int .i64 0, .int .i64 0, .int .i64 0, .float .f64 0] 32 (0, 0))) ∧ Hid (Below w.heap.size w wr) ∧ w.heap.size + 1 < wr.heap.size ∧ Hid (W64 (minTo xs k).part)) (fun i _ => n - (intOf i).toNat)
    case atStart =>
      refine ⟨1, by omega, by omega, rfl, ?_, ?_, Lib.hid (((Below.refl _ _).alloc (Nat.le_refl _) _).alloc (by simp) _), by simp, ?_⟩
      · rw [HM0.out]; exact Lib.hid (heap_alloc2 _ _ _)
      · refine Lib.hid ?_
        rw [Below.heap_alloc _ _ _ (by simp)]; exact heap_alloc_new _ _
      · rw [HM0.out]; exact Lib.hid HX0.out
    case round =>
      obtain ⟨k, hk1, hk, rfl, HM, HR, HB, hsz, HW⟩ := hrel
      by_cases hlt : k < n
      · have hk2 : k < xs.length := by rw [← HN.out]; exact hlt
        have hSk := HS.out k hk2
        have HST := Lib.hid (minTo_succ xs k (by omega) hk2)
        have HXk := HX.out xs[k] (List.getElem_mem hk2)
        generalize xs[k] = x at *
        generalize minTo xs k = m at *
        obtain ⟨x1, x2, x3, x4⟩ := x
        obtain ⟨m1, m2, m3, m4⟩ := m
        dsimp only at *
        obtain ⟨d1, d2, d3, d4⟩ := hSk
        have g1 := cell_grown (Nat.lt_of_lt_of_le hbb HB.out.size) ((HB.out.cell (p := ⟨b, off + k * 4, none⟩) hbb).trans d1)
        have g2 := cell_grown (Nat.lt_of_lt_of_le hbb HB.out.size) ((HB.out.cell (p := ⟨b, off + k * 4 + 1, none⟩) hbb).trans d2)
        have g3 := cell_grown (Nat.lt_of_lt_of_le hbb HB.out.size) ((HB.out.cell (p := ⟨b, off + k * 4 + 2, none⟩) hbb).trans d3)
        have g4 := cell_grown (Nat.lt_of_lt_of_le hbb HB.out.size) ((HB.out.cell (p := ⟨b, off + k * 4 + 3, none⟩) hbb).trans d4)
        obtain ⟨e1, e2, e3, e4⟩ := block4 HM.out
        have f1 := cell_grown (a := ⟨w.heap.size + 1, 0, none⟩) hsz e1
        have f2 := cell_grown (a := ⟨w.heap.size + 1, 1, none⟩) hsz e2
        have f3 := cell_grown (a := ⟨w.heap.size + 1, 2, none⟩) hsz e3
        have f4 := cell_grown (a := ⟨w.heap.size + 1, 3, none⟩) hsz e4
        clear d1 d2 d3 d4 e1 e2 e3 e4 c1 c2 c3 c4
        by_cases hs : ordF x4 m4 < 0
        · have HS1 := Lib.hid hs
          go_wp2_with fail
          go_quiet_grown (first | (go_at_call 33; exact Calls.grown_of (spreadCmp_any ⟨x1, x2, x3, x4⟩ ⟨m1, m2, m3, m4⟩ HXk HW.out _)))
          have hfr := fun j => block4_free (j := j) (show (grow (wr.drewN nq) osq).heap[w.heap.size + 1]? = _ from (heap_grow_old _ _ hsz).trans HM.out)
          go_wp2
          go_roundw
          case rel =>
            have hblk : (grow (wr.drewN nq) osq).heap[w.heap.size + 1]? = _ := (heap_grow_old _ _ hsz).trans HM.out
            have hset := block4_set (a' := .int .i64 x1) (b' := .int .i64 x2) (c' := .int .i64 x3) (d' := .float .f64 x4) hblk
            refine ⟨k + 1, by omega, by omega, by go_num, ?_, ?_, ?_, ?_, ?_⟩
            · rw [HST.out]; unfold minStep; rw [if_pos HS1.out]; exact Lib.hid hset
            · refine Lib.hid ?_
              rw [Below.heap_setCell _ _ _ _ (by simp), Below.heap_setCell _ _ _ _ (by simp), Below.heap_setCell _ _ _ _ (by simp), Below.heap_setCell _ _ _ _ (by simp)]
              exact (heap_grow_old _ _ (show w.heap.size < wr.heap.size by omega)).trans HR.out
            · exact Lib.hid ((((((HB.out.trans ((Grew.below ⟨_, _, rfl⟩).mono HB.out.size)).setCell (by simp) _).setCell (by simp) _).setCell (by simp) _).setCell (by simp) _))
            · simp [World.drewN]; omega
            · rw [HST.out]; unfold minStep; rw [if_pos HS1.out]; exact Lib.hid HXk
          case measure => simp [intOf]; omega
        · have hs' : 0 ≤ ordF x4 m4 := Int.not_lt.1 hs
          have HS1 := Lib.hid hs
          clear hs
          go_wp2_with fail
          go_quiet_grown (first | (go_at_call 33; exact Calls.grown_of (spreadCmp_any ⟨x1, x2, x3, x4⟩ ⟨m1, m2, m3, m4⟩ HXk HW.out _)))
          go_wp2
          go_roundw
          case rel =>
            refine ⟨k + 1, by omega, by omega, by go_num, ?_, ?_, ?_, ?_, ?_⟩
            · rw [HST.out]; unfold minStep; rw [if_neg (Int.not_lt.2 HS1.out)]; exact Lib.hid ((heap_grow_old _ _ hsz).trans HM.out)
            · exact Lib.hid ((heap_grow_old _ _ (show w.heap.size < wr.heap.size by omega)).trans HR.out)
            · exact Lib.hid (HB.out.trans ((Grew.below ⟨_, _, rfl⟩).mono HB.out.size))
            · simp [World.drewN]; omega
            · rw [HST.out]; unfold minStep; rw [if_neg (Int.not_lt.2 HS1.out)]; exact HW
          case measure => simp [intOf]; omega
      · obtain rfl : k = n := by omega
        rcases hmm : minTo xs k with ⟨m1, m2, m3, m4⟩
        rw [hmm] at HM
        have HMM := Lib.hid hmm
        clear hmm
        dsimp only at HM
        obtain ⟨e1, e2, e3, e4⟩ := block4 HM.out
        have hfr := block4_free HR.out
        obtain ⟨r1, r2, r3, r4⟩ := block4 HR.out
        clear c1 c2 c3 c4
        go_wp2
        have hbs := block4_set (a' := .int .i64 m1) (b' := .int .i64 m2) (c' := .int .i64 m3) (d' := .float .f64 m4) HR.out
        obtain ⟨s1, s2, s3, s4⟩ := block4 hbs
        refine bodyPost_ret (v := .agg #[.int .i64 m1, .int .i64 m2, .int .i64 m3, .float .f64 m4]) (by simp [results, Try.results34, go_sem, s1, s2, s3, s4]) rfl ⟨by rw [HMM.out]; rfl, ?_⟩
        exact (((HB.out.setCell (Nat.le_refl _) _).setCell (Nat.le_refl _) _).setCell (Nat.le_refl _) _).setCell (Nat.le_refl _) _
set_option maxRecDepth 100000 in
set_option maxHeartbeats 4000000 in
theorem maxFunc_any (v : Value) (n : Nat) (xs : List ShareD) (w : World) (hv : SlN 4 w v n (xs.flatMap ShareD.cells)) (hn : n = xs.length) (h1 : 1 ≤ n) (hb : n < 2147483648) (hx : ∀ x ∈ xs, W64 x.part) :
    Calls Try.prog 35 #[v, .func (.func 33) #[] #[]] w fun e w' => e = .returned ((maxTo xs n).val) ∧ Below w.heap.size w w' := by
  obtain ⟨a, cap, rfl, -, hcap, hmax, hc⟩ := hv
  rcases hc with h0 | ⟨b, off, rfl, hbb, hcell⟩
  · omega
  · have hs := share_cells hcell
    have HS := Lib.hid hs
    have HX := Lib.hid hx
    have HN := Lib.hid hn
    have hs0 := hs 0 (by omega)
    have HM0 : Hid (maxTo xs 1 = xs[0]) := by
      cases xs with
      | nil => simp at hn; omega
      | cons x l => exact Lib.hid rfl
    have hmo : Try.prog.follows .mixedOrders = true := by kernel_rfl
    have HX0 := Lib.hid (hx xs[0] (List.getElem_mem (by omega)))
    generalize xs[0] = x0 at *
    obtain ⟨p1, p2, p3, p4⟩ := x0
    dsimp only at hs0
    simp only [Nat.zero_mul, Nat.add_zero] at hs0
    obtain ⟨c1, c2, c3, c4⟩ := hs0
    unfold maxLen at hmax
    clear hs hx hn hcell
    go_enter Try.func35, Try.ntmps35
    go_wp2_with fail
    go_loopw [6] (fun i wr => ∃ k : Nat, 1 ≤ k ∧ k ≤ n ∧ i = .int .i64 (k : Int) ∧ Hid (wr.heap[w.heap.size + 1]? = some (.cells #[.int .i64 (maxTo xs k).serial, .int .i64 (maxTo xs k).keys, .int .i64 (maxTo xs k).sectors, .float .f64 (maxTo xs k).part] 32 (0, 0))) ∧
      Hid (wr.heap[w.heap.size]? = some (.cells #[.int .i64 0, .int .i64 0, .int .i64 0, .float .f64 0] 32 (0, 0))) ∧ Hid (Below w.heap.size w wr) ∧ w.heap.size + 1 < wr.heap.size ∧ Hid (W64 (maxTo xs k).part)) (fun i _ => n - (intOf i).toNat)
    case atStart =>
      refine ⟨1, by omega, by omega, rfl, ?_, ?_, Lib.hid (((Below.refl _ _).alloc (Nat.le_refl _) _).alloc (by simp) _), by simp, ?_⟩
      · rw [HM0.out]; exact Lib.hid (heap_alloc2 _ _ _)
      · refine Lib.hid ?_
        rw [Below.heap_alloc _ _ _ (by simp)]; exact heap_alloc_new _ _
      · rw [HM0.out]; exact Lib.hid HX0.out
    case round =>
      obtain ⟨k, hk1, hk, rfl, HM, HR, HB, hsz, HW⟩ := hrel
      by_cases hlt : k < n
      · have hk2 : k < xs.length := by rw [← HN.out]; exact hlt
        have hSk := HS.out k hk2
        have HST := Lib.hid (maxTo_succ xs k (by omega) hk2)
        have HXk := HX.out xs[k] (List.getElem_mem hk2)
        generalize xs[k] = x at *
        generalize maxTo xs k = m at *
        obtain ⟨x1, x2, x3, x4⟩ := x
        obtain ⟨m1, m2, m3, m4⟩ := m
        dsimp only at *
        obtain ⟨d1, d2, d3, d4⟩ := hSk
        have g1 := cell_grown (Nat.lt_of_lt_of_le hbb HB.out.size) ((HB.out.cell (p := ⟨b, off + k * 4, none⟩) hbb).trans d1)
        have g2 := cell_grown (Nat.lt_of_lt_of_le hbb HB.out.size) ((HB.out.cell (p := ⟨b, off + k * 4 + 1, none⟩) hbb).trans d2)
        have g3 := cell_grown (Nat.lt_of_lt_of_le hbb HB.out.size) ((HB.out.cell (p := ⟨b, off + k * 4 + 2, none⟩) hbb).trans d3)
        have g4 := cell_grown (Nat.lt_of_lt_of_le hbb HB.out.size) ((HB.out.cell (p := ⟨b, off + k * 4 + 3, none⟩) hbb).trans d4)
        obtain ⟨e1, e2, e3, e4⟩ := block4 HM.out
        have f1 := cell_grown (a := ⟨w.heap.size + 1, 0, none⟩) hsz e1
        have f2 := cell_grown (a := ⟨w.heap.size + 1, 1, none⟩) hsz e2
        have f3 := cell_grown (a := ⟨w.heap.size + 1, 2, none⟩) hsz e3
        have f4 := cell_grown (a := ⟨w.heap.size + 1, 3, none⟩) hsz e4
        clear d1 d2 d3 d4 e1 e2 e3 e4 c1 c2 c3 c4
        by_cases hs : 0 < ordF x4 m4
        · have HS1 := Lib.hid hs
          go_wp2_with fail
          go_quiet_grown (first | (go_at_call 33; exact Calls.grown_of (spreadCmp_any ⟨x1, x2, x3, x4⟩ ⟨m1, m2, m3, m4⟩ HXk HW.out _)))
          have hfr := fun j => block4_free (j := j) (show (grow (wr.drewN nq) osq).heap[w.heap.size + 1]? = _ from (heap_grow_old _ _ hsz).trans HM.out)
          go_wp2
          go_roundw
          case rel =>
            have hblk : (grow (wr.drewN nq) osq).heap[w.heap.size + 1]? = _ := (heap_grow_old _ _ hsz).trans HM.out
            have hset := block4_set (a' := .int .i64 x1) (b' := .int .i64 x2) (c' := .int .i64 x3) (d' := .float .f64 x4) hblk
            refine ⟨k + 1, by omega, by omega, by go_num, ?_, ?_, ?_, ?_, ?_⟩
            · rw [HST.out]; unfold maxStep; rw [if_pos HS1.out]; exact Lib.hid hset
            · refine Lib.hid ?_
              rw [Below.heap_setCell _ _ _ _ (by simp), Below.heap_setCell _ _ _ _ (by simp), Below.heap_setCell _ _ _ _ (by simp), Below.heap_setCell _ _ _ _ (by simp)]
              exact (heap_grow_old _ _ (show w.heap.size < wr.heap.size by omega)).trans HR.out
            · exact Lib.hid ((((((HB.out.trans ((Grew.below ⟨_, _, rfl⟩).mono HB.out.size)).setCell (by simp) _).setCell (by simp) _).setCell (by simp) _).setCell (by simp) _))
            · simp [World.drewN]; omega
            · rw [HST.out]; unfold maxStep; rw [if_pos HS1.out]; exact Lib.hid HXk
          case measure => simp [intOf]; omega
        · have hs' : ordF x4 m4 ≤ 0 := Int.not_lt.1 hs
          have HS1 := Lib.hid hs
          clear hs
          go_wp2_with fail
          go_quiet_grown (first | (go_at_call 33; exact Calls.grown_of (spreadCmp_any ⟨x1, x2, x3, x4⟩ ⟨m1, m2, m3, m4⟩ HXk HW.out _)))
          go_wp2
          go_roundw
          case rel =>
            refine ⟨k + 1, by omega, by omega, by go_num, ?_, ?_, ?_, ?_, ?_⟩
            · rw [HST.out]; unfold maxStep; rw [if_neg (Int.not_lt.2 HS1.out)]; exact Lib.hid ((heap_grow_old _ _ hsz).trans HM.out)
            · exact Lib.hid ((heap_grow_old _ _ (show w.heap.size < wr.heap.size by omega)).trans HR.out)
            · exact Lib.hid (HB.out.trans ((Grew.below ⟨_, _, rfl⟩).mono HB.out.size))
            · simp [World.drewN]; omega
            · rw [HST.out]; unfold maxStep; rw [if_neg (Int.not_lt.2 HS1.out)]; exact HW
          case measure => simp [intOf]; omega
      · obtain rfl : k = n := by omega
        rcases hmm : maxTo xs k with ⟨m1, m2, m3, m4⟩
        rw [hmm] at HM
        have HMM := Lib.hid hmm
        clear hmm
        dsimp only at HM
        obtain ⟨e1, e2, e3, e4⟩ := block4 HM.out
        have hfr := block4_free HR.out
        obtain ⟨r1, r2, r3, r4⟩ := block4 HR.out
        clear c1 c2 c3 c4
        go_wp2
        have hbs := block4_set (a' := .int .i64 m1) (b' := .int .i64 m2) (c' := .int .i64 m3) (d' := .float .f64 m4) HR.out
        obtain ⟨s1, s2, s3, s4⟩ := block4 hbs
        refine bodyPost_ret (v := .agg #[.int .i64 m1, .int .i64 m2, .int .i64 m3, .float .f64 m4]) (by simp [results, Try.results35, go_sem, s1, s2, s3, s4]) rfl ⟨by rw [HMM.out]; rfl, ?_⟩
        exact (((HB.out.setCell (Nat.le_refl _) _).setCell (Nat.le_refl _) _).setCell (Nat.le_refl _) _).setCell (Nat.le_refl _) _
end Go.Proofs.Ythapnanemkjhhaa
