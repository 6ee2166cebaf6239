/- Contracts of slices.Sort, Compact, Clone, Sorted over slices that the caller owns. Condition: fewer than 2^31 elements. -/
import Derived.Test.YthapnanemkjhhaaShelf
import Derived.Test.YthapnanemkjhhaaRep
import Derived.Test.YthapnanemkjhhaaIter
import Derived.Lib.OwnBridge
import Derived.Lib.RowBridge
import Derived.Sort.Grow
namespace Go.Proofs.Ythapnanemkjhhaa
open Go.RowKit Go.Sort Go.Lib
open Go.Proofs (encStr)
set_option linter.unusedVariables false

theorem ownsRow_grow {w : World} {base e size n : Nat} {v : Value} {xs : List Value} (h : w.ownsRow base e size v n xs) (os : Array Obj) : (grow w os).ownsRow base e size v n xs := by
  refine ⟨h.1, ?_⟩
  rcases h.2 with h | ⟨g, cap, cur, rfl, hg, hc, r⟩
  · exact .inl h
  · exact .inr ⟨g, cap, cur, rfl, hg, by rw [heap_grow_old _ _ (Array.getElem?_eq_some_iff.1 hc).1]; exact hc, r⟩

theorem grownBy_put {α : Type} [Inhabited α] (enc : α → Value) {w : World} {g q : Nat} (d : Array α) (os : Array Obj) : w.grownBy (grow (putRow enc (Sort.ahead w q) g 0 d) os) (some g) := by
  refine ⟨rfl, rfl, rfl, by simp, fun k hk hne => ?_⟩
  rw [heap_grow_old _ _ (by simpa using hk)]
  have : g ≠ k := fun e => hne (by rw [e])
  simp [putRow, mapBlock, Sort.ahead, Array.getElem?_modify, this]

/-- what a call on an own slice leaves: the slice (cut to m elements) owns these; only its row, and what is new, has turned -/
structure Turned (w w' : World) (base e : Nat) (v v' : Value) (m : Nat) (xs : List Value) : Prop where
  own : w'.ownsRow base e 1 v' m xs
  grown : w.grownBy w' v.ownBlock
  blk : v'.ownBlock = v.ownBlock
  below : Below base w w'
theorem Turned.mk' {w w' : World} {base e n m : Nat} {v v' : Value} {zs xs : List Value} (h0 : w.ownsRow base e 1 v n zs) (hs : base ≤ w.heap.size) (own : w'.ownsRow base e 1 v' m xs) (grown : w.grownBy w' v.ownBlock) (blk : v'.ownBlock = v.ownBlock) : Turned w w' base e v v' m xs :=
  ⟨own, grown, blk, (Below.refl base w).grown grown hs fun k hk => (h0.lt k hk).1⟩

def sortI (zs : List Int) : List Int := zs.mergeSort fun x y => decide (x ≤ y)
theorem sortI_length (zs : List Int) : (sortI zs).length = zs.length := List.length_mergeSort zs
theorem sort_int (base n : Nat) (v : Value) (zs : List Int) (w : World) (h : w.ownsRow base 3 1 v n (zs.map (.int .i64))) (hs : base ≤ w.heap.size) (hn : n < 2147483648) :
    Calls Try.prog 62 #[v] w fun e w' => e = .returned (.tuple #[]) ∧ Turned w w' base 3 v v n ((sortI zs).map (.int .i64)) := by
  by_cases hv : v = .slice none 0 0
  · subst hv
    have hn0 : n = 0 := by
      rcases h.2 with ⟨_, h0⟩ | ⟨g, cap, cur, hv, _⟩
      · exact h0
      · cases hv
    have hz : zs = [] := List.eq_nil_of_length_eq_zero (by have := h.1; simp at this; omega)
    subst hz
    refine (Try.slices_Sort_int_none none 0 w).mono ?_
    rintro e w' ⟨rfl, rfl⟩
    exact ⟨rfl, Turned.mk' h hs (by simpa [sortI] using h) ⟨rfl, rfl, rfl, Nat.le_refl _, fun _ _ _ => rfl⟩ rfl⟩
  · obtain ⟨g, cap, rfl, hb, hg, hnc, hcm, hl, hH⟩ := holds_of_ownsRow h hv
    have hc := Try.slices_Sort_int g 0 cap zs w hH hg (by omega)
    rw [hl] at hc
    refine hc.mono ?_
    rintro e w' ⟨rfl, q, os, rfl⟩
    refine ⟨rfl, Turned.mk' h hs (ownsRow_grow ?_ os) (grownBy_put _ _ _) rfl⟩
    have := ownsRow_putRow (q := q) (ys := sortI zs) (k := n) h (by rw [sortI_length, hl]) (Nat.le_refl _)
    rwa [List.take_of_length_le (by rw [sortI_length]; omega)] at this

def compI (zs : List Int) : List Int := Lib.compact zs
theorem compact_int (base n : Nat) (v : Value) (zs : List Int) (w : World) (h : w.ownsRow base 3 1 v n (zs.map (.int .i64))) (hs : base ≤ w.heap.size) (hn : n < 2147483648) :
    Calls Try.prog 41 #[v] w fun e w' => ∃ v', e = .returned v' ∧ Turned w w' base 3 v v' (compI zs).length ((compI zs).map (.int .i64)) := by
  by_cases hv : v = .slice none 0 0
  · subst hv
    have hn0 : n = 0 := by
      rcases h.2 with ⟨_, h0⟩ | ⟨g, cap, cur, hv, _⟩
      · exact h0
      · cases hv
    have hz : zs = [] := List.eq_nil_of_length_eq_zero (by have := h.1; simp at this; omega)
    subst hz hn0
    refine (Try.slices_Compact_int_empty none 0 w).mono ?_
    rintro e w' ⟨rfl, rfl⟩
    exact ⟨_, rfl, Turned.mk' h hs (by simpa [compI, Lib.compact, Lib.compactUpTo] using h) ⟨rfl, rfl, rfl, Nat.le_refl _, fun _ _ _ => rfl⟩ rfl⟩
  · obtain ⟨g, cap, rfl, hb, hg, hnc, hcm, hl, hH⟩ := holds_of_ownsRow h hv
    have hc := Try.slices_Compact_int g 0 cap zs w hH (by omega) (by omega)
    rw [hl] at hc
    refine hc.mono ?_
    rintro e w' ⟨rfl, q, rfl⟩
    have hle' : (Lib.compact zs).length ≤ zs.length := compact_length_le zs
    have hgr := grownBy_put (q := q) (Value.int .i64) (w := w) (g := g) (Lib.compact zs ++ List.replicate (n - (Lib.compact zs).length) 0).toArray #[]
    rw [grow_empty] at hgr
    refine ⟨_, rfl, Turned.mk' h hs ?_ hgr rfl⟩
    have := ownsRow_putRow (q := q) (ys := Lib.compact zs ++ List.replicate (n - (Lib.compact zs).length) 0) (k := (Lib.compact zs).length) h (by rw [List.length_append, List.length_replicate]; omega) (by omega)
    rwa [List.take_left] at this
def datas (zs : List ByteArray) : List (List UInt8) := zs.map (·.data.toList)
def ofDatas (l : List (List UInt8)) : List ByteArray := l.map fun x => ⟨x.toArray⟩
theorem datas_cells (zs : List ByteArray) : (datas zs).map encStr = zs.map Value.string := map_encStr zs
theorem ofDatas_cells (l : List (List UInt8)) : (ofDatas l).map Value.string = l.map encStr := by unfold ofDatas; rw [List.map_map]; rfl
def sortS (zs : List ByteArray) : List ByteArray := ofDatas ((datas zs).mergeSort fun x y => decide (x ≤ y))
theorem sortS_length (zs : List ByteArray) : (sortS zs).length = zs.length := by unfold sortS ofDatas datas; rw [List.length_map, List.length_mergeSort, List.length_map]
theorem sort_string (base n : Nat) (v : Value) (zs : List ByteArray) (w : World) (h : w.ownsRow base 9 1 v n (zs.map .string)) (hs : base ≤ w.heap.size) (hn : n < 2147483648) :
    Calls Try.prog 59 #[v] w fun e w' => e = .returned (.tuple #[]) ∧ Turned w w' base 9 v v n ((sortS zs).map .string) := by
  by_cases hv : v = .slice none 0 0
  · subst hv
    have hn0 : n = 0 := by
      rcases h.2 with ⟨_, h0⟩ | ⟨g, cap, cur, hv, _⟩
      · exact h0
      · cases hv
    have hz : zs = [] := List.eq_nil_of_length_eq_zero (by have := h.1; simp at this; omega)
    subst hz
    refine (Try.slices_Sort_string_none none 0 w).mono ?_
    rintro e w' ⟨rfl, rfl⟩
    exact ⟨rfl, Turned.mk' h hs (by simpa [sortS, ofDatas, datas] using h) ⟨rfl, rfl, rfl, Nat.le_refl _, fun _ _ _ => rfl⟩ rfl⟩
  · have h0 := h
    rw [← datas_cells] at h
    obtain ⟨g, cap, rfl, hb, hg, hnc, hcm, hl, hH⟩ := holds_of_ownsRow h hv
    have hc := Try.slices_Sort_string g 0 cap (datas zs) w hH hg (by omega)
    rw [hl] at hc
    refine hc.mono ?_
    rintro e w' ⟨rfl, q, os, rfl⟩
    refine ⟨rfl, Turned.mk' h0 hs (ownsRow_grow ?_ os) (grownBy_put _ _ _) rfl⟩
    have := ownsRow_putRow (q := q) (ys := (datas zs).mergeSort fun x y => decide (x ≤ y)) (k := n) h (by rw [List.length_mergeSort, hl]) (Nat.le_refl _)
    rw [List.take_of_length_le (by rw [List.length_mergeSort]; omega)] at this
    unfold sortS
    rwa [ofDatas_cells]

def compS (zs : List ByteArray) : List ByteArray := ofDatas (Lib.compact (datas zs))
theorem compS_length (zs : List ByteArray) : (compS zs).length = (Lib.compact (datas zs)).length := by unfold compS ofDatas; rw [List.length_map]
theorem compact_string (base n : Nat) (v : Value) (zs : List ByteArray) (w : World) (h : w.ownsRow base 9 1 v n (zs.map .string)) (hs : base ≤ w.heap.size) (hn : n < 2147483648) :
    Calls Try.prog 38 #[v] w fun e w' => ∃ v', e = .returned v' ∧ Turned w w' base 9 v v' (compS zs).length ((compS zs).map .string) := by
  by_cases hv : v = .slice none 0 0
  · subst hv
    have hn0 : n = 0 := by
      rcases h.2 with ⟨_, h0⟩ | ⟨g, cap, cur, hv, _⟩
      · exact h0
      · cases hv
    have hz : zs = [] := List.eq_nil_of_length_eq_zero (by have := h.1; simp at this; omega)
    subst hz hn0
    refine (Try.slices_Compact_string_empty none 0 w).mono ?_
    rintro e w' ⟨rfl, rfl⟩
    exact ⟨_, rfl, Turned.mk' h hs (by simpa [compS, ofDatas, datas, Lib.compact, Lib.compactUpTo] using h) ⟨rfl, rfl, rfl, Nat.le_refl _, fun _ _ _ => rfl⟩ rfl⟩
  · have h0 := h
    rw [← datas_cells] at h
    obtain ⟨g, cap, rfl, hb, hg, hnc, hcm, hl, hH⟩ := holds_of_ownsRow h hv
    have hc := Try.slices_Compact_string g 0 cap (datas zs) w hH (by omega) (by omega)
    rw [hl] at hc
    refine hc.mono ?_
    rintro e w' ⟨rfl, q, rfl⟩
    have hle' : (Lib.compact (datas zs)).length ≤ (datas zs).length := compact_length_le (datas zs)
    have hgr := grownBy_put (q := q) encStr (w := w) (g := g) (Lib.compact (datas zs) ++ List.replicate (n - (Lib.compact (datas zs)).length) []).toArray #[]
    rw [grow_empty] at hgr
    refine ⟨_, rfl, Turned.mk' h0 hs ?_ hgr rfl⟩
    have := ownsRow_putRow (q := q) (ys := Lib.compact (datas zs) ++ List.replicate (n - (Lib.compact (datas zs)).length) []) (k := (Lib.compact (datas zs)).length) h (by rw [List.length_append, List.length_replicate]; omega) (by omega)
    rw [List.take_left] at this
    rw [compS_length]
    unfold compS
    rwa [ofDatas_cells]

theorem sorted_int_any (Bs : Nat) (v : Value) (zs : List Int) (hlen : zs.length < 2147483648) (w : World) (hBs : Bs < w.heap.size)
    (hcv : w.cell? ⟨Bs, 0, none⟩ = some v) (hsl : SlAt w v (zs.map (Value.int .i64))) :
    Calls Try.prog 42 #[.func (.func 63) #[] #[.pointer (some ⟨Bs, 0, none⟩)]] w fun e w' => ∃ v, e = .returned v ∧ w'.ownsRow w.heap.size 3 1 v zs.length ((sortI zs).map (Value.int .i64)) ∧ Below w.heap.size w w' := by
  go_enter Try.func42, Try.ntmps42
  go_wp2_with fail
  refine (collectint_any Bs v zs (by omega) _ hBs hcv hsl).mono ?_
  rintro e w1 ⟨v1, rfl, hr, hnil, hb⟩
  go_wp2_with fail
  refine (sort_int w.heap.size zs.length v1 zs _ hr hb.size hlen).mono ?_
  rintro e w2 ⟨rfl, ht⟩
  go_wp2
  go_ret
  exact ⟨v1, rfl, ht.own, hb.trans ht.below⟩

theorem sorted_string_any (Bs : Nat) (v : Value) (zs : List ByteArray) (hlen : zs.length < 2147483648) (w : World) (hBs : Bs < w.heap.size)
    (hcv : w.cell? ⟨Bs, 0, none⟩ = some v) (hsl : SlAt w v (zs.map Value.string)) :
    Calls Try.prog 39 #[.func (.func 60) #[] #[.pointer (some ⟨Bs, 0, none⟩)]] w fun e w' => ∃ v, e = .returned v ∧ w'.ownsRow w.heap.size 9 1 v zs.length ((sortS zs).map Value.string) ∧ Below w.heap.size w w' := by
  go_enter Try.func39, Try.ntmps39
  go_wp2_with fail
  refine (collectstring_any Bs v zs (by omega) _ hBs hcv hsl).mono ?_
  rintro e w1 ⟨v1, rfl, hr, hnil, hb⟩
  go_wp2_with fail
  refine (sort_string w.heap.size zs.length v1 zs _ hr hb.size hlen).mono ?_
  rintro e w2 ⟨rfl, ht⟩
  go_wp2
  go_ret
  exact ⟨v1, rfl, ht.own, hb.trans ht.below⟩
end Go.Proofs.Ythapnanemkjhhaa
