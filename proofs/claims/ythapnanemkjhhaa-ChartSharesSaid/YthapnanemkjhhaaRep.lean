/- How lists lie in memory: slices that are read. No condition. -/
import Derived.Test.YthapnanemkjhhaaKit
import Derived.OwnWalk
import Derived.Lib.Hide
import Derived.Laws.AppendOwn
import Derived.Deep.OwnRows
namespace Go.Proofs.Ythapnanemkjhhaa
open Go.RowKit

/-- a slice of elements of one cell reads as these cells -/
def SlAt (w : World) (v : Value) (cs : List Value) : Prop :=
  ∃ a n cap, v = .slice a n cap ∧ n = cs.length ∧ n ≤ cap ∧ cap ≤ maxLen ∧ (n = 0 ∨ ∃ b off, a = some ⟨b, off, none⟩ ∧ b < w.heap.size ∧ ∀ i x, cs[i]? = some x → w.cell? ⟨b, off + i, none⟩ = some x)

theorem SlAt.below {w w' : World} {v : Value} {cs : List Value} (h : SlAt w v cs) (hb : Below w.heap.size w w') : SlAt w' v cs := by
  obtain ⟨a, n, cap, hv, hn, hc, hm, h⟩ := h
  refine ⟨a, n, cap, hv, hn, hc, hm, ?_⟩
  rcases h with h | ⟨b, off, ha, hlt, hcell⟩
  · exact .inl h
  · exact .inr ⟨b, off, ha, Nat.lt_of_lt_of_le hlt hb.size, fun i x hi => (hb.cell (p := ⟨b, off + i, none⟩) hlt).trans (hcell i x hi)⟩

/-- what a call made itself reads as it owns it -/
theorem SlAt.owned {w : World} {base e n : Nat} {v : Value} {cs : List Value} (h : w.ownsRow base e 1 v n cs) : SlAt w v cs := by
  obtain ⟨hl, h⟩ := h
  rcases h with ⟨rfl, rfl⟩ | ⟨g, cap, cur, rfl, _, hg, hn, hm, hs, hx⟩
  · exact ⟨none, 0, 0, rfl, by omega, Nat.le_refl _, Nat.zero_le _, .inl rfl⟩
  · refine ⟨some ⟨g, 0, none⟩, n, cap, rfl, by omega, hn, hm, .inr ⟨g, 0, rfl, (Array.getElem?_eq_some_iff.1 hg).1, fun i x hi => ?_⟩⟩
    simp only [World.cell?, hg]
    rw [Nat.zero_add]
    have hi' : i < cs.length := (List.getElem?_eq_some_iff.1 hi).1
    have h2 : (cur.toList.take (n * 1))[i]? = some x := by rw [hx]; exact hi
    rw [List.getElem?_take_of_lt (by omega)] at h2
    simpa using h2

/-- the first elements of a slice -/
theorem SlAt.cut {w : World} {a : Option Addr} {n cap : Nat} {cs : List Value} (h : SlAt w (.slice a n cap) cs) (m : Nat) (hm : m ≤ cs.length) : SlAt w (.slice a m cap) (cs.take m) := by
  obtain ⟨a', n', cap', hv, hn, hc, hx, h⟩ := h
  cases hv
  refine ⟨a, m, cap, rfl, by rw [List.length_take, Nat.min_eq_left hm], by omega, hx, ?_⟩
  rcases h with h | ⟨b, off, ha, hlt, hcell⟩
  · exact .inl (by omega)
  · exact .inr ⟨b, off, ha, hlt, fun i x hi => hcell i x (by
      rw [List.getElem?_take] at hi
      split at hi
      · exact hi
      · cases hi)⟩

theorem SlAt.nil (w : World) : SlAt w (.slice none 0 0) [] := ⟨none, 0, 0, rfl, rfl, Nat.le_refl _, Nat.zero_le _, .inl rfl⟩

/-- what a walk wants of a slice that is read -/
theorem SlAt.opened {α : Type} {w : World} {v : Value} (enc : α → Value) (xs : List α) (h : SlAt w v (xs.map enc)) :
    ∃ a n cap, v = .slice a n cap ∧ Hid (n = xs.length) ∧ n ≤ cap ∧ n ≤ 9223372036854775807 ∧ (n = 0 ∨ ∃ b off, a = some ⟨b, off, none⟩ ∧ b < w.heap.size ∧ ∀ i (h : i < xs.length), w.cell? ⟨b, off + i, none⟩ = some (enc xs[i])) := by
  obtain ⟨a, n, cap, hv, hn, hc, hm, h⟩ := h
  refine ⟨a, n, cap, hv, by rw [hn]; exact Lib.hid (by simp), hc, Nat.le_trans hc hm, ?_⟩
  rcases h with h | ⟨b, off, ha, hlt, hcell⟩
  · exact .inl h
  · exact .inr ⟨b, off, ha, hlt, fun i hi => hcell i _ (by simp [hi])⟩

theorem grownBy_alloc {w w' : World} {o : Obj} {row : Option Nat} (h : (w.alloc o).grownBy w' row) : w.grownBy w' row :=
  ⟨h.os, h.tape, h.output, Nat.le_trans (by simp) h.size, fun k hk hne => (h.block k (by simp; omega) hne).trans (Below.heap_alloc w o k hk)⟩

/-- what an append leaves: the row, grown; only that row, and what is new, has turned -/
structure Appended (w w' : World) (base e : Nat) (v v' : Value) (n : Nat) (xs : List Value) : Prop where
  own : w'.ownsRow base e 1 v' n xs
  grown : w.grownBy w' v.ownBlock
  some' : ∃ g cap, v' = .slice (some ⟨g, 0, none⟩) n cap
  below : Below base w w'

/-- 'out = append(out, x)' of an own row, one element of one cell -/
theorem wpList_append1 {P : Program} {ops : Array Oper} {rest : List Oper} {o : Oper} {a : Act} {Q : Exit → Act → World → Prop} (w : World) (hgd : o.guard = none) (s x : Operand) (t : TypeId)
    (ho : o.op = .call { callee := .builtin .append, args := #[s, x], argTypes := #[t, t] })
    (base : Nat) (e : TypeId) (z : Value) (bytes : Nat) (ht : P.underlying t = some (.slice e)) (hinfo : (P.info? e).map (fun i => (i.zero, i.size, i.bytes)) = some (some z, 1, bytes))
    (hzs : z.cells.size = 1) (hby : bytes ≤ 4096)
    {v : Value} {n : Nat} {xs : List Value} (hown : w.ownsRow base e 1 v n xs) (hs : a.eval s = v) (u : Value) (hx : a.eval x = .slice (some ⟨w.heap.size, 0, none⟩) 1 1) (h1 : u.oneCell' = true)
    (hn : n < 4294967296) (hbase : base ≤ w.heap.size)
    (h : ∀ v' w', Appended w w' base e v v' (n + 1) (xs ++ [u]) → wpList P ops Q rest (a.put o.dst v') w') : wpList P ops Q (o :: rest) a (w.alloc (.cells #[u] e)) := by
  obtain ⟨i, hi, hz, hsize, hb⟩ := info_parts hinfo
  refine wpList_append_own _ hgd s x t ho base e i z 1 bytes ht hi hz hsize hb hzs (by decide) v n xs hs (hown.alloc _) ⟨w.heap.size, 0, none⟩ 1 1 [u] hx rfl ?_ ?_ ?_ ?_ ?_ ?_
  · intro j y hj
    cases j with
    | zero =>
      simp only [List.getElem?_cons_zero, Option.some.injEq] at hj
      subst hj
      show (w.alloc _).cell? ⟨w.heap.size, 0, none⟩ = _
      simp only [World.cell?, heap_alloc_new]
      rfl
    | succ j => simp at hj
  · intro y hy; rw [List.mem_singleton] at hy; subst hy; exact h1
  · unfold maxLen; omega
  · have : (n + 1) * bytes ≤ 4294967296 * 4096 := Nat.mul_le_mul (by omega) hby
    omega
  · simp; omega
  · intro v' w' hown' hg _
    have hg' := grownBy_alloc hg
    refine h v' w' ⟨hown', hg', ?_, ?_⟩
    · rcases hown'.2 with ⟨_, h0⟩ | ⟨g, cap, cur, hv, _⟩
      · omega
      · exact ⟨g, cap, hv⟩
    · exact (Below.refl base w).grown hg' hbase fun k hk => (hown.lt k hk).1

theorem ownsRow_base {w : World} {base base' e size n : Nat} {v : Value} {xs : List Value} (h : w.ownsRow base e size v n xs) (hb : base' ≤ base) : w.ownsRow base' e size v n xs := by
  refine ⟨h.1, ?_⟩
  rcases h.2 with h | ⟨g, cap, cur, hv, hg, r⟩
  · exact .inl h
  · exact .inr ⟨g, cap, cur, hv, Nat.le_trans hb hg, r⟩
theorem ownsRow_below {w w' : World} {base e size n B : Nat} {v : Value} {xs : List Value} (h : w.ownsRow base e size v n xs) (hb : Below B w w') (hlt : ∀ k, v.ownBlock = some k → k < B) : w'.ownsRow base e size v n xs := by
  refine ⟨h.1, ?_⟩
  rcases h.2 with h | ⟨g, cap, cur, rfl, hg, hc, r⟩
  · exact .inl h
  · exact .inr ⟨g, cap, cur, rfl, hg, by rw [hb.block g (hlt g rfl)]; exact hc, r⟩

/-- what an append leaves: the row, grown; only that row, and what is new, has turned; the row lies where it lay, or anew -/
structure AppendedN (w w' : World) (base e size : Nat) (v v' : Value) (n : Nat) (xs : List Value) : Prop where
  own : w'.ownsRow base e size v' n xs
  grown : w.grownBy w' v.ownBlock
  some' : ∃ g cap, v' = .slice (some ⟨g, 0, none⟩) n cap
  below : Below base w w'
  blk : v'.ownBlock = v.ownBlock ∨ ∃ g, v'.ownBlock = some g ∧ w.heap.size < g

/-- where an append puts its row -/
theorem append_where {P : Program} {w w' : World} {v v' : Value} {base e size bytes n : Nat} {t ty : TypeId} {z : Value} {xs : List Value} (ht : P.underlying t = some (.slice e)) (hinfo : (P.info? e).map (fun i => (i.zero, i.size, i.bytes)) = some (some z, size, bytes))
    (hown : w.ownsRow base e size v n xs) (a : Addr) (news : List Value) (hl : news.length = size) (hnews : ∀ j u, news[j]? = some u → w.cell? (a.add j) = some u) (h1 : ∀ u ∈ news, u.oneCell' = true)
    (h63 : n + 1 ≤ maxLen) (hbytes : (n + 1) * bytes ≤ 140737488355328)
    (hr : (Builtin.append_ #[t, t] ty #[v, .slice (some a) 1 1]).run P w = .ok v' w') : v'.ownBlock = v.ownBlock ∨ v'.ownBlock = some w.heap.size := by
  obtain ⟨i, hi, hz, hsize, hb⟩ := info_parts hinfo
  subst hsize hb
  have hn63 : n + 1 ≤ 9223372036854775807 := by simpa only [maxLen] using h63
  rcases hown.2 with ⟨rfl, rfl⟩ | ⟨g, cap, cur, rfl, -, hg, hnc, -, hcs, -⟩
  · have h := run_append_nil (P := P) w t ty e i z ht hi hz a 1 1 news (by omega) hnews (by omega) (by omega) (by omega)
    rw [h] at hr
    injection hr with h2 _
    exact .inr (by rw [← h2]; rfl)
  · by_cases hroom : n + 1 ≤ cap
    · have hfit : n * i.size + news.length ≤ cur.size := by
        rw [hl, hcs]
        have := Nat.mul_le_mul_right i.size hroom
        rw [Nat.add_mul] at this
        omega
      have h := run_append_room (P := P) w t ty e i ht hi g n cap cur hg a 1 1 news (by omega) hnews h1 hroom hfit
      rw [h] at hr
      injection hr with h2 _
      exact .inl (by rw [← h2]; rfl)
    · have h := run_append_grow (P := P) w t ty e i z ht hi hz ⟨g, 0, none⟩ n cap xs hown.1 (hown.cells (g := g) rfl) a 1 1 news (by omega) hnews (by omega) (by omega) (growslice_fits (by omega) hbytes)
      rw [h] at hr
      injection hr with h2 _
      exact .inr (by rw [← h2]; rfl)

/-- 'out = append(out, x)' of an own row, one element of several cells -/
theorem wpList_appendN {P : Program} {ops : Array Oper} {rest : List Oper} {o : Oper} {a : Act} {Q : Exit → Act → World → Prop} (w : World) (hgd : o.guard = none) (s x : Operand) (t : TypeId)
    (ho : o.op = .call { callee := .builtin .append, args := #[s, x], argTypes := #[t, t] })
    (base : Nat) (e : TypeId) (z : Value) (size bytes : Nat) (ht : P.underlying t = some (.slice e)) (hinfo : (P.info? e).map (fun i => (i.zero, i.size, i.bytes)) = some (some z, size, bytes))
    (hzs : z.cells.size = size) (hsz : 0 < size) (hby : bytes ≤ 4096)
    {v : Value} {n : Nat} {xs : List Value} (hown : w.ownsRow base e size v n xs) (hs : a.eval s = v) (us : List Value) (hus : us.length = size) (hx : a.eval x = .slice (some ⟨w.heap.size, 0, none⟩) 1 1) (h1 : us.all Value.oneCell' = true)
    (hn : n < 4294967296) (hbase : base ≤ w.heap.size)
    (h : ∀ v' w', AppendedN w w' base e size v v' (n + 1) (xs ++ us) → wpList P ops Q rest (a.put o.dst v') w') : wpList P ops Q (o :: rest) a (w.alloc (.cells us.toArray e)) := by
  refine wpList_plain hgd fun K hK => ?_
  obtain ⟨i, hi, hz, hsize, hb⟩ := info_parts hinfo
  have hcells : ∀ j y, us[j]? = some y → (w.alloc (.cells us.toArray e)).cell? ((⟨w.heap.size, 0, none⟩ : Addr).add j) = some y := by
    intro j y hj
    have hadd : (⟨w.heap.size, 0, none⟩ : Addr).add j = ⟨w.heap.size, j, none⟩ := by unfold Addr.add; split <;> simp_all
    rw [hadd]
    simp only [World.cell?, heap_alloc_new]
    simpa using hj
  have hones : ∀ y ∈ us, y.oneCell' = true := fun y hy => List.all_eq_true.1 h1 y hy
  have hm : n + 1 ≤ maxLen := by unfold maxLen; omega
  have hbt : (n + 1) * bytes ≤ 140737488355328 := by
    have : (n + 1) * bytes ≤ 4294967296 * 4096 := Nat.mul_le_mul (by omega) hby
    omega
  have hown' := hown.alloc (.cells us.toArray e)
  have hbase' : base ≤ (w.alloc (.cells us.toArray e)).heap.size := by simp; omega
  obtain ⟨v', w', hr, h2, h3, -⟩ := run_append_own (P := P) _ base t o.type e i z size bytes ht hi hz hsize hb hzs hsz v n xs hown' ⟨w.heap.size, 0, none⟩ 1 1 us (by omega) hcells hones hm hbt hbase'
  have hblk := append_where (P := P) ht hinfo hown' ⟨w.heap.size, 0, none⟩ us hus hcells hones hm hbt hr
  have hg' := grownBy_alloc h3
  have fin : AppendedN w w' base e size v v' (n + 1) (xs ++ us) := by
    refine ⟨h2, hg', ?_, (Below.refl base w).grown hg' hbase fun k hk => (hown.lt k hk).1, ?_⟩
    · rcases h2.2 with ⟨_, h0⟩ | ⟨g, cap, cur, hv, _⟩
      · omega
      · exact ⟨g, cap, hv⟩
    · rcases hblk with hb | hb
      · exact .inl hb
      · exact .inr ⟨_, hb, by simp⟩
  unfold Oper.wp execOp
  simp only [ho, resolve, invoke, builtin, Sem.run_bind, Sem.run_pure, Result.andThen_ok, List.map_toArray, List.map_cons, List.map_nil, hs, hx, hr]
  exact hK _ _ (h v' w' fin)

/-- a slice of n elements of several cells reads as these cells -/
def SlN (size : Nat) (w : World) (v : Value) (n : Nat) (cs : List Value) : Prop :=
  ∃ a cap, v = .slice a n cap ∧ cs.length = n * size ∧ n ≤ cap ∧ cap ≤ maxLen ∧ (n = 0 ∨ ∃ b off, a = some ⟨b, off, none⟩ ∧ b < w.heap.size ∧ ∀ i x, cs[i]? = some x → w.cell? ⟨b, off + i, none⟩ = some x)
theorem SlN.below {size n : Nat} {w w' : World} {v : Value} {cs : List Value} (h : SlN size w v n cs) (hb : Below w.heap.size w w') : SlN size w' v n cs := by
  obtain ⟨a, cap, hv, hn, hc, hm, h⟩ := h
  refine ⟨a, cap, hv, hn, hc, hm, ?_⟩
  rcases h with h | ⟨b, off, ha, hlt, hcell⟩
  · exact .inl h
  · exact .inr ⟨b, off, ha, Nat.lt_of_lt_of_le hlt hb.size, fun i x hi => (hb.cell (p := ⟨b, off + i, none⟩) hlt).trans (hcell i x hi)⟩
theorem SlN.owned {size : Nat} {w : World} {base e n : Nat} {v : Value} {cs : List Value} (h : w.ownsRow base e size v n cs) : SlN size w v n cs := by
  obtain ⟨hl, h⟩ := h
  rcases h with ⟨rfl, rfl⟩ | ⟨g, cap, cur, rfl, _, hg, hn, hm, hs, hx⟩
  · exact ⟨none, 0, rfl, hl, Nat.le_refl _, Nat.zero_le _, .inl rfl⟩
  · refine ⟨some ⟨g, 0, none⟩, cap, rfl, hl, hn, hm, .inr ⟨g, 0, rfl, (Array.getElem?_eq_some_iff.1 hg).1, fun i x hi => ?_⟩⟩
    simp only [World.cell?, hg]
    rw [Nat.zero_add]
    have hi' : i < cs.length := (List.getElem?_eq_some_iff.1 hi).1
    have h2 : (cur.toList.take (n * size))[i]? = some x := by rw [hx]; exact hi
    rw [List.getElem?_take_of_lt (by omega)] at h2
    simpa using h2

/-- the same, in a block from B on, below C -/
def SlIn (B C : Nat) (w : World) (v : Value) (cs : List Value) : Prop :=
  ∃ a n cap, v = .slice a n cap ∧ n = cs.length ∧ n ≤ cap ∧ cap ≤ maxLen ∧ (n = 0 ∨ ∃ b off, a = some ⟨b, off, none⟩ ∧ B ≤ b ∧ b < C ∧ ∀ i x, cs[i]? = some x → w.cell? ⟨b, off + i, none⟩ = some x)
theorem SlIn.at {B C : Nat} {w : World} {v : Value} {cs : List Value} (h : SlIn B C w v cs) (hC : C ≤ w.heap.size) : SlAt w v cs := by
  obtain ⟨a, n, cap, hv, hn, hc, hm, h⟩ := h
  refine ⟨a, n, cap, hv, hn, hc, hm, ?_⟩
  rcases h with h | ⟨b, off, ha, -, hlt, hcell⟩
  · exact .inl h
  · exact .inr ⟨b, off, ha, Nat.lt_of_lt_of_le hlt hC, hcell⟩
theorem SlIn.below {B C D : Nat} {w w' : World} {v : Value} {cs : List Value} (h : SlIn B C w v cs) (hb : Below D w w') (hC : C ≤ D) : SlIn B C w' v cs := by
  obtain ⟨a, n, cap, hv, hn, hc, hm, h⟩ := h
  refine ⟨a, n, cap, hv, hn, hc, hm, ?_⟩
  rcases h with h | ⟨b, off, ha, hB, hlt, hcell⟩
  · exact .inl h
  · exact .inr ⟨b, off, ha, hB, hlt, fun i x hi => (hb.cell (p := ⟨b, off + i, none⟩) (Nat.lt_of_lt_of_le hlt hC)).trans (hcell i x hi)⟩
theorem SlIn.grown {B C : Nat} {w w' : World} {row : Option Nat} {v : Value} {cs : List Value} (h : SlIn B C w v cs) (hg : w.grownBy w' row) (hr : ∀ k, row = some k → k < B ∨ C ≤ k) (hC : C ≤ w.heap.size) : SlIn B C w' v cs := by
  obtain ⟨a, n, cap, hv, hn, hc, hm, h⟩ := h
  refine ⟨a, n, cap, hv, hn, hc, hm, ?_⟩
  rcases h with h | ⟨b, off, ha, hB, hlt, hcell⟩
  · exact .inl h
  · refine .inr ⟨b, off, ha, hB, hlt, fun i x hi => (World.cell?_of_block (hg.block b (by omega) fun e => ?_)).trans (hcell i x hi)⟩
    rcases hr b e.symm with h | h <;> omega
theorem SlIn.owned {w : World} {base e n : Nat} {v : Value} {cs : List Value} (h : w.ownsRow base e 1 v n cs) : SlIn base w.heap.size w v cs := by
  have h0 := SlAt.owned h
  obtain ⟨hl, h⟩ := h
  rcases h with ⟨rfl, rfl⟩ | ⟨g, cap, cur, rfl, hb, hg, hn, hm, hs, hx⟩
  · exact ⟨none, 0, 0, rfl, by omega, Nat.le_refl _, Nat.zero_le _, .inl rfl⟩
  · obtain ⟨a, n', cap', hv, hn', hc', hm', h0⟩ := h0
    cases hv
    refine ⟨_, _, _, rfl, hn', hc', hm', ?_⟩
    rcases h0 with h0 | ⟨b, off, ha, hlt, hcell⟩
    · exact .inl h0
    · cases ha
      exact .inr ⟨_, _, rfl, hb, hlt, hcell⟩
theorem SlIn.cut {B C : Nat} {w : World} {a : Option Addr} {n cap : Nat} {cs : List Value} (h : SlIn B C w (.slice a n cap) cs) (m : Nat) (hm : m ≤ cs.length) : SlIn B C w (.slice a m cap) (cs.take m) := by
  obtain ⟨a', n', cap', hv, hn, hc, hx, h⟩ := h
  cases hv
  refine ⟨a, m, cap, rfl, by rw [List.length_take, Nat.min_eq_left hm], by omega, hx, ?_⟩
  rcases h with h | ⟨b, off, ha, hB, hlt, hcell⟩
  · exact .inl (by omega)
  · exact .inr ⟨b, off, ha, hB, hlt, fun i x hi => hcell i x (by
      rw [List.getElem?_take] at hi
      split at hi
      · exact hi
      · cases hi)⟩
theorem SlIn.mono {B B' C C' : Nat} {w : World} {v : Value} {cs : List Value} (h : SlIn B C w v cs) (hB : B' ≤ B) (hC : C ≤ C') : SlIn B' C' w v cs := by
  obtain ⟨a, n, cap, hv, hn, hc, hm, h⟩ := h
  refine ⟨a, n, cap, hv, hn, hc, hm, ?_⟩
  rcases h with h | ⟨b, off, ha, h1, h2, hcell⟩
  · exact .inl h
  · exact .inr ⟨b, off, ha, Nat.le_trans hB h1, Nat.lt_of_lt_of_le h2 hC, hcell⟩
end Go.Proofs.Ythapnanemkjhhaa
