/- Plain: things put in order, each once, are the document's; strictly rising lists of the same members are one. No condition. -/
import Derived.Test.YthapnanemkjhhaaOnce
import Derived.Test.YthapnanemkjhhaaKeys
import Derived.Sort.Walk0
namespace Go.Proofs.Ythapnanemkjhhaa
set_option linter.unusedVariables false
section
variable {α : Type} {lt : α → α → Prop}
theorem strict_ext (hirr : ∀ x, ¬ lt x x) (htr : ∀ x y z, lt x y → lt y z → lt x z) {l1 l2 : List α} (h1 : l1.Pairwise lt) (h2 : l2.Pairwise lt) (hm : ∀ x, x ∈ l1 ↔ x ∈ l2) : l1 = l2 := by
  have n1 : l1.Nodup := h1.imp fun {a b} h e => by subst e; exact hirr _ h
  have n2 : l2.Nodup := h2.imp fun {a b} h e => by subst e; exact hirr _ h
  exact ((List.perm_ext_iff_of_nodup n1 n2).2 hm).eq_of_pairwise (fun a b _ _ h k => absurd (htr _ _ _ h k) (hirr _)) h1 h2

open Go.Lib in
theorem compactUpTo_ok [Inhabited α] [DecidableEq α] (htr : ∀ x y z, lt x y → lt y z → lt x z) (d : Array α) (hd : ∀ i j, i < j → j < d.size → d[i]! = d[j]! ∨ lt d[i]! d[j]!) (m : Nat) (hm : m ≤ d.size) :
    (compactUpTo d m).Pairwise lt ∧ ∀ x, x ∈ compactUpTo d m ↔ ∃ j, j < m ∧ d[j]! = x := by
  induction m with
  | zero => exact ⟨by simp [compactUpTo], fun x => by simp [compactUpTo]⟩
  | succ m ih =>
    obtain ⟨i1, i2⟩ := ih (by omega)
    rw [compactUpTo_succ]
    by_cases hk : keeps d m = true
    · rw [if_pos hk]
      refine ⟨?_, fun x => ?_⟩
      · rw [List.pairwise_append]
        refine ⟨i1, by simp, fun y hy z hz => ?_⟩
        simp only [List.mem_singleton] at hz
        subst hz
        obtain ⟨j, hj, rfl⟩ := (i2 y).1 hy
        have hne : d[m]! ≠ d[m - 1]! := by
          unfold keeps at hk
          simp only [decide_eq_true_eq] at hk
          rcases hk with h | h
          · omega
          · exact h
        have hl : lt d[m - 1]! d[m]! := by
          rcases hd (m - 1) m (by omega) (by omega) with h | h
          · exact absurd h.symm hne
          · exact h
        rcases Nat.lt_or_ge j (m - 1) with h | h
        · rcases hd j (m - 1) h (by omega) with h | h
          · rw [h]; exact hl
          · exact htr _ _ _ h hl
        · rw [show j = m - 1 by omega]; exact hl
      · rw [List.mem_append, i2, List.mem_singleton]
        constructor
        · rintro (⟨j, hj, rfl⟩ | rfl)
          · exact ⟨j, by omega, rfl⟩
          · exact ⟨m, by omega, rfl⟩
        · rintro ⟨j, hj, rfl⟩
          rcases Nat.lt_or_ge j m with h | h
          · exact .inl ⟨j, h, rfl⟩
          · right; rw [show j = m by omega]
    · rw [if_neg hk, List.append_nil]
      refine ⟨i1, fun x => ?_⟩
      rw [i2]
      have h2 : ¬ (m = 0 ∨ d[m]! ≠ d[m - 1]!) := by
        intro h; apply hk; unfold keeps; simpa using h
      constructor
      · rintro ⟨j, hj, rfl⟩; exact ⟨j, by omega, rfl⟩
      · rintro ⟨j, hj, rfl⟩
        rcases Nat.lt_or_ge j m with h | h
        · exact ⟨j, h, rfl⟩
        · refine ⟨m - 1, by omega, ?_⟩
          have : j = m := by omega
          subst this
          exact (Decidable.byContradiction fun h3 => h2 (.inr fun h4 => h3 h4.symm))
theorem compact_ok [Inhabited α] [DecidableEq α] (htr : ∀ x y z, lt x y → lt y z → lt x z) (zs : List α) (hd : zs.Pairwise fun x y => x = y ∨ lt x y) : (Lib.compact zs).Pairwise lt ∧ ∀ x, x ∈ Lib.compact zs ↔ x ∈ zs := by
  have h := compactUpTo_ok htr zs.toArray (fun i j hij hj => by
    have hj' : j < zs.length := by simpa using hj
    rw [getElem!_pos zs.toArray i (by simp; omega), getElem!_pos zs.toArray j hj]
    simpa using List.pairwise_iff_getElem.1 hd i j (by omega) hj' hij) zs.length (by simp)
  refine ⟨h.1, fun x => ?_⟩
  rw [show Lib.compact zs = Lib.compactUpTo zs.toArray zs.length from rfl, h.2, List.mem_iff_getElem]
  constructor
  · rintro ⟨j, hj, rfl⟩; exact ⟨j, hj, by rw [getElem!_pos zs.toArray j (by simpa using hj)]; simp⟩
  · rintro ⟨j, hj, rfl⟩; exact ⟨j, hj, by rw [getElem!_pos zs.toArray j (by simpa using hj)]; simp⟩
end

/-! numbers -/
theorem sortI_ok (zs : List Int) : (sortI zs).Pairwise (fun x y => x = y ∨ x < y) ∧ ∀ x, x ∈ sortI zs ↔ x ∈ zs := by
  refine ⟨?_, fun x => (List.mergeSort_perm zs _).mem_iff⟩
  have h := List.pairwise_mergeSort (le := fun (x y : Int) => decide (x ≤ y)) (by intro a b c; simp only [decide_eq_true_eq]; omega) (by intro a b; simp only [Bool.or_eq_true, decide_eq_true_eq]; omega) zs
  exact h.imp fun {a b} h => by simp only [decide_eq_true_eq] at h; omega
theorem onceI_ok (zs : List Int) : (onceI zs).Pairwise (· < ·) ∧ ∀ x, x ∈ onceI zs ↔ x ∈ zs := by
  have h := sortI_ok zs
  have k := compact_ok (lt := fun (x y : Int) => x < y) (fun x y z => Int.lt_trans) (sortI zs) h.1
  exact ⟨k.1, fun x => (k.2 x).trans (h.2 x)⟩
theorem onceI_ext {zs l : List Int} (hl : l.Pairwise (· < ·)) (hm : ∀ x, x ∈ l ↔ x ∈ zs) : onceI zs = l :=
  strict_ext (fun x => Int.lt_irrefl x) (fun x y z => Int.lt_trans) (onceI_ok zs).1 hl fun x => ((onceI_ok zs).2 x).trans (hm x).symm

/-! texts -/
theorem ltS_iff (s t : ByteArray) : ltS s t = true ↔ s.data.toList < t.data.toList := by
  unfold ltS
  rw [bytesLess_eq, ByteArray.toList_eq, ByteArray.toList_eq]; simp
theorem eqS_iff (s t : ByteArray) : eqS s t = true ↔ s = t := by
  unfold eqS
  rw [ByteArray.toList_eq, ByteArray.toList_eq]
  constructor
  · intro h
    have h2 : s.data.toList = t.data.toList := by simpa using h
    obtain ⟨⟨s⟩⟩ := s
    obtain ⟨⟨t⟩⟩ := t
    simp only at h2
    rw [h2]
  · rintro rfl; simp
theorem ltS_irr (s : ByteArray) : ¬ ltS s s = true := by rw [ltS_iff]; exact List.lt_irrefl _
theorem ltS_tr (s t u : ByteArray) (h : ltS s t = true) (k : ltS t u = true) : ltS s u = true := by rw [ltS_iff] at *; exact List.lt_trans h k
theorem ltS_tri (s t : ByteArray) : ltS s t = true ∨ s = t ∨ ltS t s = true := by
  rw [ltS_iff, ltS_iff, ← eqS_iff]
  by_cases h1 : s.data.toList < t.data.toList
  · exact .inl h1
  · by_cases h2 : t.data.toList < s.data.toList
    · exact .inr (.inr h2)
    · refine .inr (.inl ?_)
      unfold eqS
      rw [ByteArray.toList_eq, ByteArray.toList_eq]
      simp only [beq_iff_eq]
      exact List.le_antisymm (List.not_lt.1 h2) (List.not_lt.1 h1)
theorem datas_ofDatas (l : List (List UInt8)) : datas (ofDatas l) = l := by
  unfold datas ofDatas
  rw [List.map_map]
  conv => rhs; rw [← List.map_id l]
  apply List.map_congr_left
  intro x _; simp
theorem mem_ofDatas (l : List (List UInt8)) (s : ByteArray) : s ∈ ofDatas l ↔ s.data.toList ∈ l := by
  unfold ofDatas
  rw [List.mem_map]
  constructor
  · rintro ⟨x, hx, rfl⟩; simpa using hx
  · intro h; exact ⟨_, h, by obtain ⟨⟨s⟩⟩ := s; rfl⟩
theorem mem_datas (zs : List ByteArray) (s : ByteArray) : s.data.toList ∈ datas zs ↔ s ∈ zs := by
  unfold datas
  rw [List.mem_map]
  constructor
  · rintro ⟨x, hx, h⟩
    have : x = s := (eqS_iff x s).1 (by unfold eqS; rw [ByteArray.toList_eq, ByteArray.toList_eq, h]; simp)
    rw [← this]; exact hx
  · intro h; exact ⟨s, h, rfl⟩
theorem onceS_ok (zs : List ByteArray) : (onceS zs).Pairwise (fun x y => ltS x y = true) ∧ ∀ x, x ∈ onceS zs ↔ x ∈ zs := by
  have e : onceS zs = ofDatas (Lib.compact ((datas zs).mergeSort fun x y => decide (x ≤ y))) := by unfold onceS compS sortS; rw [datas_ofDatas]
  have h := List.pairwise_mergeSort (le := fun (x y : List UInt8) => decide (x ≤ y)) (by intro a b c; simp only [decide_eq_true_eq]; exact List.le_trans) (by intro a b; simp only [Bool.or_eq_true, decide_eq_true_eq]; exact List.le_total a b) (datas zs)
  have h' : ((datas zs).mergeSort fun x y => decide (x ≤ y)).Pairwise fun x y => x = y ∨ x < y := h.imp fun {a b} h => by
    simp only [decide_eq_true_eq] at h
    by_cases h2 : a < b
    · exact .inr h2
    · exact .inl (List.le_antisymm h (List.not_lt.1 h2))
  have k := compact_ok (lt := fun (x y : List UInt8) => x < y) (fun x y z => List.lt_trans) _ h'
  rw [e]
  refine ⟨?_, fun x => ?_⟩
  · unfold ofDatas
    rw [List.pairwise_map]
    exact k.1.imp fun {a b} h => by rw [ltS_iff]; simpa using h
  · rw [mem_ofDatas, k.2, (List.mergeSort_perm _ _).mem_iff, mem_datas]
/-- a text put into its place -/
theorem insTo_ok (s : ByteArray) (out : List ByteArray) (ho : out.Pairwise fun x y => ltS x y = true) (k : Nat) (hk : k ≤ out.length) :
    (insTo s out k).1.Pairwise (fun x y => ltS x y = true) ∧ (∀ x, x ∈ (insTo s out k).1 ↔ x ∈ out.take k ∨ ((insTo s out k).2 = true ∧ x = s)) ∧
    ((insTo s out k).2 = true → ∃ e ∈ out.take k, ltS s e = true ∨ s = e) ∧ ((insTo s out k).2 = false → ∀ e ∈ out.take k, ltS e s = true) := by
  induction k with
  | zero => simp [insTo]
  | succ k ih =>
    obtain ⟨i1, i2, i3, i4⟩ := ih (by omega)
    have hlt : ∀ e ∈ out.take k, ltS e out[k] = true := by
      intro e he
      obtain ⟨j, hj, rfl⟩ := List.mem_iff_getElem.1 he
      rw [List.getElem_take]
      rw [List.length_take] at hj
      exact List.pairwise_iff_getElem.1 ho j k (by omega) hk (by omega)
    rw [insTo_succ s out k hk, List.take_succ_eq_append_getElem hk]
    generalize insTo s out k = st at *
    obtain ⟨L, d⟩ := st
    generalize out[k] = t at *
    generalize out.take k = pre at *
    unfold insStep
    dsimp only at *
    cases d with
    | true =>
      obtain ⟨e, he, hse⟩ := i3 rfl
      simp only [Bool.not_true, Bool.false_and, Bool.true_or, if_false, Bool.false_eq_true]
      refine ⟨?_, ?_, ?_, by simp⟩
      · rw [List.pairwise_append]
        refine ⟨i1, by simp, fun y hy z hz => ?_⟩
        simp only [List.mem_singleton] at hz
        subst hz
        rcases (i2 y).1 hy with h | ⟨_, rfl⟩
        · exact hlt y h
        · rcases hse with h | rfl
          · exact ltS_tr _ _ _ h (hlt e he)
          · exact hlt _ he
      · intro x
        rw [List.mem_append, i2, List.mem_append, List.mem_singleton]
        simp only [true_and]
        constructor
        · rintro ((h | h) | h)
          · exact .inl (.inl h)
          · exact .inr h
          · exact .inl (.inr h)
        · rintro ((h | h) | h)
          · exact .inl (.inl h)
          · exact .inr h
          · exact .inl (.inr h)
      · intro _; exact ⟨e, List.mem_append_left _ he, hse⟩
    | false =>
      have i4 := i4 rfl
      have i2' : ∀ x, x ∈ L ↔ x ∈ pre := fun x => by rw [i2]; simp
      by_cases h1 : ltS s t = true
      · simp only [h1, Bool.not_false, Bool.true_and, if_true, Bool.false_or, Bool.true_or]
        refine ⟨?_, ?_, ?_, by simp⟩
        · rw [List.pairwise_append, List.pairwise_append]
          refine ⟨⟨i1, by simp, fun y hy z hz => ?_⟩, by simp, fun y hy z hz => ?_⟩
          · simp only [List.mem_singleton] at hz; subst hz; exact i4 y ((i2' y).1 hy)
          · simp only [List.mem_singleton] at hz
            subst hz
            rcases List.mem_append.1 hy with h | h
            · exact hlt y ((i2' y).1 h)
            · simp only [List.mem_singleton] at h; subst h; exact h1
        · intro x
          rw [List.mem_append, List.mem_append, i2', List.mem_append, List.mem_singleton, List.mem_singleton]
          simp only [true_and]
          constructor
          · rintro ((h | h) | h)
            · exact .inl (.inl h)
            · exact .inr h
            · exact .inl (.inr h)
          · rintro ((h | h) | h)
            · exact .inl (.inl h)
            · exact .inr h
            · exact .inl (.inr h)
        · intro _; exact ⟨t, by simp, .inl h1⟩
      · simp only [h1, Bool.not_false, Bool.true_and, if_false, Bool.false_or, Bool.false_eq_true]
        have hp : (L ++ [t]).Pairwise fun x y => ltS x y = true := by
          rw [List.pairwise_append]
          refine ⟨i1, by simp, fun y hy z hz => ?_⟩
          simp only [List.mem_singleton] at hz; subst hz; exact hlt y ((i2' y).1 hy)
        refine ⟨hp, ?_, ?_, ?_⟩
        · intro x
          rw [List.mem_append, i2', List.mem_append, List.mem_singleton]
          constructor
          · intro h; exact .inl h
          · rintro (h | ⟨h, rfl⟩)
            · exact h
            · exact .inr ((eqS_iff _ _).1 h)
        · intro h; exact ⟨t, by simp, .inr ((eqS_iff _ _).1 h)⟩
        · intro h e he
          rcases List.mem_append.1 he with h2 | h2
          · exact i4 e h2
          · simp only [List.mem_singleton] at h2
            subst h2
            rcases ltS_tri s e with h3 | h3 | h3
            · exact absurd h3 h1
            · rw [(eqS_iff s e).2 h3] at h; cases h
            · exact h3
theorem refIns_ok (s : ByteArray) (out : List ByteArray) (ho : out.Pairwise fun x y => ltS x y = true) : (refIns s out).Pairwise (fun x y => ltS x y = true) ∧ ∀ x, x ∈ refIns s out ↔ x ∈ out ∨ x = s := by
  obtain ⟨h1, h2, h3, h4⟩ := insTo_ok s out ho out.length (Nat.le_refl _)
  rw [List.take_length] at h2 h3 h4
  unfold refIns
  by_cases hd : (insTo s out out.length).2 = true
  · rw [if_pos hd]
    refine ⟨h1, fun x => ?_⟩
    rw [h2, hd]; simp
  · rw [if_neg hd]
    simp only [Bool.not_eq_true] at hd
    refine ⟨?_, fun x => ?_⟩
    · rw [List.pairwise_append]
      refine ⟨h1, by simp, fun y hy z hz => ?_⟩
      simp only [List.mem_singleton] at hz
      subst hz
      refine h4 hd y ?_
      have := (h2 y).1 hy
      simpa [hd] using this
    · rw [List.mem_append, h2, hd, List.mem_singleton]; simp
theorem keysTo_ok (l : List ByteArray) (k : Nat) (hk : k ≤ l.length) : (keysTo l k).Pairwise (fun x y => ltS x y = true) ∧ ∀ x, x ∈ keysTo l k ↔ x ∈ l.take k := by
  induction k with
  | zero => simp [keysTo]
  | succ k ih =>
    obtain ⟨i1, i2⟩ := ih (by omega)
    rw [keysTo_succ l k hk, List.take_succ_eq_append_getElem hk]
    obtain ⟨h1, h2⟩ := refIns_ok l[k] _ i1
    exact ⟨h1, fun x => by rw [h2, i2, List.mem_append, List.mem_singleton]⟩
theorem onceS_eq (zs : List ByteArray) : onceS zs = refKeys zs := by
  have h := onceS_ok zs
  have k := keysTo_ok zs zs.length (Nat.le_refl _)
  rw [List.take_length] at k
  exact strict_ext ltS_irr ltS_tr h.1 k.1 fun x => (h.2 x).trans (k.2 x).symm
end Go.Proofs.Ythapnanemkjhhaa
