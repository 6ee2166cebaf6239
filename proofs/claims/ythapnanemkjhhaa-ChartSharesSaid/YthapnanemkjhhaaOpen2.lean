/- Arguments of a law: a struct of fields of one cell, by value, and what its fields read as. No condition. -/
import Derived.Test.YthapnanemkjhhaaOpen
import Derived.Deep.Fields
import Derived.Lib.SmallJoins
namespace Go.Proofs.Ythapnanemkjhhaa
open Go.RowKit Go.WideShapes Go.ChangeShapes Go.Deep Go.Joins
set_option linter.unusedVariables false
theorem arr1 {α : Type} {cs : Array α} (h : cs.size = 1) : ∃ c0, cs = #[c0] := by
  obtain ⟨l⟩ := cs
  match l, h with
  | [c0], _ => exact ⟨c0, rfl⟩
theorem lis1 {α : Type} {cs : List α} (h : cs.length = 1) : ∃ c0, cs = [c0] := by
  match cs, h with
  | [c0], _ => exact ⟨c0, rfl⟩
theorem arr2 {α : Type} {cs : Array α} (h : cs.size = 2) : ∃ c0 c1, cs = #[c0, c1] := by
  obtain ⟨l⟩ := cs
  match l, h with
  | [c0, c1], _ => exact ⟨c0, c1, rfl⟩
theorem lis2 {α : Type} {cs : List α} (h : cs.length = 2) : ∃ c0 c1, cs = [c0, c1] := by
  match cs, h with
  | [c0, c1], _ => exact ⟨c0, c1, rfl⟩
theorem arr3 {α : Type} {cs : Array α} (h : cs.size = 3) : ∃ c0 c1 c2, cs = #[c0, c1, c2] := by
  obtain ⟨l⟩ := cs
  match l, h with
  | [c0, c1, c2], _ => exact ⟨c0, c1, c2, rfl⟩
theorem lis3 {α : Type} {cs : List α} (h : cs.length = 3) : ∃ c0 c1 c2, cs = [c0, c1, c2] := by
  match cs, h with
  | [c0, c1, c2], _ => exact ⟨c0, c1, c2, rfl⟩
theorem arr4 {α : Type} {cs : Array α} (h : cs.size = 4) : ∃ c0 c1 c2 c3, cs = #[c0, c1, c2, c3] := by
  obtain ⟨l⟩ := cs
  match l, h with
  | [c0, c1, c2, c3], _ => exact ⟨c0, c1, c2, c3, rfl⟩
theorem lis4 {α : Type} {cs : List α} (h : cs.length = 4) : ∃ c0 c1 c2 c3, cs = [c0, c1, c2, c3] := by
  match cs, h with
  | [c0, c1, c2, c3], _ => exact ⟨c0, c1, c2, c3, rfl⟩
theorem arr5 {α : Type} {cs : Array α} (h : cs.size = 5) : ∃ c0 c1 c2 c3 c4, cs = #[c0, c1, c2, c3, c4] := by
  obtain ⟨l⟩ := cs
  match l, h with
  | [c0, c1, c2, c3, c4], _ => exact ⟨c0, c1, c2, c3, c4, rfl⟩
theorem lis5 {α : Type} {cs : List α} (h : cs.length = 5) : ∃ c0 c1 c2 c3 c4, cs = [c0, c1, c2, c3, c4] := by
  match cs, h with
  | [c0, c1, c2, c3, c4], _ => exact ⟨c0, c1, c2, c3, c4, rfl⟩
theorem arr6 {α : Type} {cs : Array α} (h : cs.size = 6) : ∃ c0 c1 c2 c3 c4 c5, cs = #[c0, c1, c2, c3, c4, c5] := by
  obtain ⟨l⟩ := cs
  match l, h with
  | [c0, c1, c2, c3, c4, c5], _ => exact ⟨c0, c1, c2, c3, c4, c5, rfl⟩
theorem lis6 {α : Type} {cs : List α} (h : cs.length = 6) : ∃ c0 c1 c2 c3 c4 c5, cs = [c0, c1, c2, c3, c4, c5] := by
  match cs, h with
  | [c0, c1, c2, c3, c4, c5], _ => exact ⟨c0, c1, c2, c3, c4, c5, rfl⟩
theorem arr7 {α : Type} {cs : Array α} (h : cs.size = 7) : ∃ c0 c1 c2 c3 c4 c5 c6, cs = #[c0, c1, c2, c3, c4, c5, c6] := by
  obtain ⟨l⟩ := cs
  match l, h with
  | [c0, c1, c2, c3, c4, c5, c6], _ => exact ⟨c0, c1, c2, c3, c4, c5, c6, rfl⟩
theorem lis7 {α : Type} {cs : List α} (h : cs.length = 7) : ∃ c0 c1 c2 c3 c4 c5 c6, cs = [c0, c1, c2, c3, c4, c5, c6] := by
  match cs, h with
  | [c0, c1, c2, c3, c4, c5, c6], _ => exact ⟨c0, c1, c2, c3, c4, c5, c6, rfl⟩
theorem arr8 {α : Type} {cs : Array α} (h : cs.size = 8) : ∃ c0 c1 c2 c3 c4 c5 c6 c7, cs = #[c0, c1, c2, c3, c4, c5, c6, c7] := by
  obtain ⟨l⟩ := cs
  match l, h with
  | [c0, c1, c2, c3, c4, c5, c6, c7], _ => exact ⟨c0, c1, c2, c3, c4, c5, c6, c7, rfl⟩
theorem lis8 {α : Type} {cs : List α} (h : cs.length = 8) : ∃ c0 c1 c2 c3 c4 c5 c6 c7, cs = [c0, c1, c2, c3, c4, c5, c6, c7] := by
  match cs, h with
  | [c0, c1, c2, c3, c4, c5, c6, c7], _ => exact ⟨c0, c1, c2, c3, c4, c5, c6, c7, rfl⟩
theorem arr9 {α : Type} {cs : Array α} (h : cs.size = 9) : ∃ c0 c1 c2 c3 c4 c5 c6 c7 c8, cs = #[c0, c1, c2, c3, c4, c5, c6, c7, c8] := by
  obtain ⟨l⟩ := cs
  match l, h with
  | [c0, c1, c2, c3, c4, c5, c6, c7, c8], _ => exact ⟨c0, c1, c2, c3, c4, c5, c6, c7, c8, rfl⟩
theorem lis9 {α : Type} {cs : List α} (h : cs.length = 9) : ∃ c0 c1 c2 c3 c4 c5 c6 c7 c8, cs = [c0, c1, c2, c3, c4, c5, c6, c7, c8] := by
  match cs, h with
  | [c0, c1, c2, c3, c4, c5, c6, c7, c8], _ => exact ⟨c0, c1, c2, c3, c4, c5, c6, c7, c8, rfl⟩
section
variable {H : Type} {enc : TypeId × Value → H} {P : Program}
/-- the cells of a struct, with what each field reads as -/
theorem open_cells {W : World} {r : Reach} {b0 base : Nat} {spare : Nat → Bool} {held : Bool} {t : TypeId} {fs : Array Field} {v : Value} {d : DataW H} {p : List MemPlace} (hs : P.underlying t = some (.struct fs)) (hone : oneCellFields P fs = true)
    (hv : Value.okWide P W r b0 t v) (h : DataW.Trod enc P W base spare held t v d p) :
    ∃ (cs : Array Value) (n : Nat) (xs : List (DataW H × List MemPlace)), v = .agg cs ∧ cs.size = P.cellsOf t ∧ d = .agg (xs.map (·.1)) ∧ p = xs.flatMap (·.2) ∧ xs.length = fs.size ∧
      ∀ (i : Nat) (f : Field) (c : Value), fs[i]? = some f → cs[i]? = some c → DataW.trod enc P W base spare held n f.type [c] = xs[i]? := by
  obtain ⟨cs, rfl, hsz⟩ := okWide_struct hs hv
  obtain ⟨fuel, hf⟩ := h
  obtain ⟨xs, n, _, hx, _, hlen, hg⟩ := DataW.trod_struct hs hf
  rw [Prod.mk.injEq] at hx
  refine ⟨cs, n, xs, rfl, hsz, hx.1, hx.2, hlen, fun i f c hfi hci => ?_⟩
  obtain ⟨ho, hk⟩ := hone_of hone i f hfi
  have h1 := hg i f hfi
  rw [ho, hk] at h1
  have hl : i < cs.toList.length := by have := (Array.getElem?_eq_some_iff.1 hci).1; simpa using this
  have h3 : ((Value.cells (.agg cs)).toList.drop i).take 1 = [c] := by
    show (cs.toList.drop i).take 1 = _
    rw [List.drop_eq_getElem_cons hl]
    have := (Array.getElem?_eq_some_iff.1 hci).2
    simpa using this
  rwa [h3] at h1

theorem ints_of_trod {W : World} {t e : TypeId} {k : IntKind} {v : Value} {y : DataW H × List MemPlace} {fuel : Nat} (ht : P.underlying t = some (.slice e)) (he : P.underlying e = some (.int k)) (hc : P.cellsOf e = 1)
    (hf : DataW.trod enc P W 0 (fun _ => true) true fuel t [v] = some y) (hlt : ∀ x ∈ y.2, x.block < W.heap.size) :
    ∃ zs : List Int, SlAt W v (zs.map (.int k)) ∧ ∀ z ∈ zs, (Lit.int k z).wf = true := by
  obtain ⟨d, p⟩ := y
  rcases open_ints ht he hc hf with ⟨hcs, hx⟩ | ⟨a, len, cap, zs, hcs, _, hl, hm, hz, hx, hcell, hws⟩
  · rw [List.cons.injEq] at hcs
    obtain ⟨rfl, -⟩ := hcs
    exact ⟨[], SlAt.nil W, fun z hz => by cases hz⟩
  · rw [List.cons.injEq] at hcs
    obtain ⟨rfl, -⟩ := hcs
    simp only [Prod.mk.injEq] at hx
    obtain ⟨rfl, rfl⟩ := hx
    simp only [if_true] at hz
    refine ⟨zs.take len, ⟨some a, len, cap, rfl, by rw [List.length_map, List.length_take]; omega, hl, hm, ?_⟩, fun z h => hws z (List.mem_of_mem_take h)⟩
    by_cases hl0 : len = 0
    · exact .inl hl0
    · right
      obtain ⟨b, off, spot⟩ := a
      have hspot : spot = none := by simpa [Addr.add] using World.cell?_spot (hcell 0 (by omega))
      subst hspot
      refine ⟨b, off, rfl, hlt (.cell b off) (MemPlace.mem_row.2 ⟨0, by omega, by simp⟩), fun i x hi => ?_⟩
      rw [List.getElem?_map] at hi
      obtain ⟨y, hy, rfl⟩ := Option.map_eq_some_iff.1 hi
      have hi2 : i < (zs.take len).length := (List.getElem?_eq_some_iff.1 hy).1
      rw [List.length_take] at hi2
      have := hcell i (by omega)
      rw [add_plain] at this
      rw [this]
      rw [List.getElem?_take_of_lt (by omega)] at hy
      simp [List.getD, hy]
theorem strings_of_trod {W : World} {t e : TypeId} {v : Value} {y : DataW H × List MemPlace} {fuel : Nat} (ht : P.underlying t = some (.slice e)) (he : P.underlying e = some .string) (hc : P.cellsOf e = 1)
    (hf : DataW.trod enc P W 0 (fun _ => true) true fuel t [v] = some y) (hlt : ∀ x ∈ y.2, x.block < W.heap.size) (hsz : ∀ n ∈ DataW.weights P t y.1, n ≤ reachBytes) :
    ∃ ss : List ByteArray, SlAt W v (ss.map .string) ∧ ∀ s ∈ ss, s.size ≤ 140737488351232 := by
  obtain ⟨d, p⟩ := y
  rcases open_strings ht he hc hf with ⟨hcs, hx⟩ | ⟨a, len, cap, zs, hcs, _, hl, hm, hz, hx, hcell, hws⟩
  · rw [List.cons.injEq] at hcs
    obtain ⟨rfl, -⟩ := hcs
    exact ⟨[], SlAt.nil W, fun z hz => by cases hz⟩
  · rw [List.cons.injEq] at hcs
    obtain ⟨rfl, -⟩ := hcs
    simp only [Prod.mk.injEq] at hx
    obtain ⟨rfl, rfl⟩ := hx
    simp only [if_true] at hz
    refine ⟨zs.take len, ⟨some a, len, cap, rfl, by rw [List.length_map, List.length_take]; omega, hl, hm, ?_⟩, fun z hzm => ?_⟩
    · by_cases hl0 : len = 0
      · exact .inl hl0
      · right
        obtain ⟨b, off, spot⟩ := a
        have hspot : spot = none := by simpa [Addr.add] using World.cell?_spot (hcell 0 (by omega))
        subst hspot
        refine ⟨b, off, rfl, hlt (.cell b off) (MemPlace.mem_row.2 ⟨0, by omega, by simp⟩), fun i x hi => ?_⟩
        rw [List.getElem?_map] at hi
        obtain ⟨y, hy, rfl⟩ := Option.map_eq_some_iff.1 hi
        have hi2 : i < (zs.take len).length := (List.getElem?_eq_some_iff.1 hy).1
        rw [List.length_take] at hi2
        have := hcell i (by omega)
        rw [add_plain] at this
        rw [this]
        rw [List.getElem?_take_of_lt (by omega)] at hy
        simp [List.getD, hy]
    · have h1 : z.data.toList.length ∈ DataW.weights P t (.slice (strs (H := H) (zs.take len)) (strs (zs.drop len))) := by
        simp only [DataW.weights, ht, List.mem_cons, List.mem_append]
        right; left
        refine weightsAll_mem (d := .lit (.string z.data.toList)) ?_ ?_
        · unfold strs; exact List.mem_map.2 ⟨z, hzm, rfl⟩
        · simp [DataW.weights]
      exact Nat.le_trans (hsz _ h1) (by decide)
theorem weightsEach_mem {n : Nat} : ∀ {ts : List TypeId} {ds : List (DataW H)} {i : Nat} {t : TypeId} {d : DataW H}, ts[i]? = some t → ds[i]? = some d → n ∈ DataW.weights P t d → n ∈ DataW.weightsEach P ts ds
  | t0 :: ts, d0 :: ds, 0, t, d, ht, hd, h => by
    simp only [List.getElem?_cons_zero, Option.some.injEq] at ht hd
    subst ht hd
    simp only [DataW.weightsEach, List.mem_append]
    exact .inl h
  | t0 :: ts, d0 :: ds, i + 1, t, d, ht, hd, h => by
    simp only [List.getElem?_cons_succ] at ht hd
    simp only [DataW.weightsEach, List.mem_append]
    exact .inr (weightsEach_mem ht hd h)
  | [], _, i, t, d, ht, _, _ => by simp at ht
  | _ :: _, [], i, t, d, _, hd, _ => by simp at hd
/-- what a field weighs is among what the struct weighs -/
theorem weights_field {t : TypeId} {fs : Array Field} {xs : List (DataW H × List MemPlace)} {i n : Nat} {f : Field} {y : DataW H × List MemPlace} (hs : P.underlying t = some (.struct fs)) (hf : fs[i]? = some f) (hy : xs[i]? = some y)
    (h : n ∈ DataW.weights P f.type y.1) : n ∈ DataW.weights P t (.agg (xs.map (·.1))) := by
  simp only [DataW.weights, hs]
  refine weightsEach_mem (i := i) (t := f.type) (d := y.1) ?_ ?_ h
  · rw [List.getElem?_map]
    have : fs.toList[i]? = some f := by simpa using hf
    rw [this]; rfl
  · rw [List.getElem?_map, hy]; rfl
end
end Go.Proofs.Ythapnanemkjhhaa
