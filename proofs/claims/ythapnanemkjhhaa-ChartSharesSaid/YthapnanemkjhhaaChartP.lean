/- Plain: what moves where a device comes, or goes; what belongs to each device, and together. Condition: serials fit an int, and are 1 or more. -/
import Derived.Test.YthapnanemkjhhaaAwake
namespace Go.Proofs.Ythapnanemkjhhaa
open Go.RowKit
set_option linter.unusedVariables false
theorem mem_plan (ks : List ByteArray) (old now : List Int) (c : Int) (m : ByteArray × Int × Int) : m ∈ chartPlan ks old now c ↔ ∃ key ∈ onceS ks, ∃ n ∈ withoutL (topL key now c) (topL key old c), m = (key, srcOf key old now, n) := by
  unfold chartPlan planK movesOf
  rw [List.take_length, List.mem_flatMap]
  constructor
  · rintro ⟨key, hk, hm⟩
    obtain ⟨n, hn, rfl⟩ := List.mem_map.1 hm
    exact ⟨key, hk, n, hn, rfl⟩
  · rintro ⟨key, hk, n, hn, rfl⟩
    exact ⟨key, hk, List.mem_map.2 ⟨n, hn, rfl⟩⟩
theorem topL_sorted (s : ByteArray) {zs : List Int} (hz : Ser zs) (c : Int) : (topL s zs c).Pairwise (ahd s) := by rw [topL_eq s zs hz]; exact topN_sorted s hz c
theorem refOrder_ext (s : ByteArray) {a b : List Int} (ha : Ser a) (hb : Ser b) (h : ∀ x, x ∈ a ↔ x ∈ b) : refOrder s a = refOrder s b :=
  strict_ext (ahd_irr s) (ahd_tr s) (refOrder_ok s a ha).1 (refOrder_ok s b hb).1 fun x => ((refOrder_ok s a ha).2 x).trans ((h x).trans ((refOrder_ok s b hb).2 x).symm)
/-- the order without one is the order with it, but for that one -/
theorem refOrder_filter (s : ByteArray) {a b : List Int} (ha : Ser a) (hb : Ser b) (g : Int) (h : ∀ x, x ∈ b ↔ x ∈ a ∧ x ≠ g) : refOrder s b = (refOrder s a).filter (fun x => decide (x ≠ g)) :=
  strict_ext (ahd_irr s) (ahd_tr s) (refOrder_ok s b hb).1 ((refOrder_ok s a ha).1.filter _) fun x => by
    rw [(refOrder_ok s b hb).2 x, h x, List.mem_filter, (refOrder_ok s a ha).2 x, decide_eq_true_eq]
theorem mem_take_filter {l : List Int} {p : Int → Bool} {c : Nat} {x : Int} (h : x ∈ l.take c) (hp : p x = true) : x ∈ (l.filter p).take c := by
  have h1 : x ∈ (l.take c).filter p := List.mem_filter.2 ⟨h, hp⟩
  have e : l.filter p = (l.take c).filter p ++ (l.drop c).filter p := by rw [← List.filter_append, List.take_append_drop]
  have hl : ((l.take c).filter p).length ≤ c := Nat.le_trans (List.length_filter_le _ _) (by rw [List.length_take]; omega)
  rw [e, List.take_append]
  rw [List.take_of_length_le hl]
  exact List.mem_append_left _ h1
theorem nodup_order {s : ByteArray} {l : List Int} (h : l.Pairwise (ahd s)) : l.Nodup := h.imp fun {a b} h e => by subst e; exact ahd_irr s _ h
theorem src_mem (s : ByteArray) (old now : List Int) : srcOf s old now = 0 ∨ (srcOf s old now ∈ old ∧ srcOf s old now ∈ now) := by
  unfold srcOf
  cases h : (orderL s old).find? (hasB now) with
  | none => exact .inl rfl
  | some y =>
    refine .inr ⟨(orderL_mem s old y).1 (List.mem_of_find?_eq_some h), ?_⟩
    have := List.find?_some h
    exact (hasB_iff now y).1 this
/-- where one device comes, all moves are to that -/
theorem plan_one (ks : List ByteArray) (old : List Int) (one c : Int) (ho : Ser old) (hp : ∀ z ∈ old, 1 ≤ z) (h1 : 1 ≤ one) (hb : one < 9223372036854775808) :
    ∀ m ∈ chartPlan ks old (old ++ [one]) c, m.2.2 = one ∧ m.2.1 ≠ one ∧ hasB old one = false := by
  intro m hm
  obtain ⟨key, -, n, hn, rfl⟩ := (mem_plan _ _ _ _ _).1 hm
  have hs : Ser (old ++ [one]) := fun z hz => by
    rcases List.mem_append.1 hz with h | h
    · exact ho z h
    · rw [List.mem_singleton] at h; subst h; exact ⟨by omega, hb⟩
  have hw := ((withoutL_ok key _ _ (topL_sorted key hs c)).2 n).1 hn
  rw [topL_eq key _ hs, topL_eq key _ ho] at hw
  obtain ⟨hw1, hw2⟩ := hw
  dsimp only
  by_cases hin : one ∈ old
  · have e := refOrder_ext key hs ho (fun x => by
      rw [List.mem_append, List.mem_singleton]
      exact ⟨fun h => by rcases h with h | rfl <;> assumption, .inl⟩)
    rw [e] at hw1
    exact absurd hw1 hw2
  · have e := refOrder_filter key hs ho one (fun x => by
      rw [List.mem_append, List.mem_singleton]
      constructor
      · intro h; exact ⟨.inl h, fun e => hin (e ▸ h)⟩
      · rintro ⟨h | h, k⟩
        · exact h
        · exact absurd h k)
    refine ⟨?_, ?_, ?_⟩
    · by_cases hno : n = one
      · exact hno
      · exfalso
        refine hw2 ?_
        unfold topN at *
        rw [e]
        exact mem_take_filter hw1 (by simpa using hno)
    · rcases src_mem key old (old ++ [one]) with h | ⟨h, -⟩
      · rw [h]; omega
      · intro e; rw [e] at h; exact hin h
    · rw [Bool.eq_false_iff, ne_eq, hasB_iff]; exact hin
theorem nil_of_none {l : List Int} (h : ∀ x, x ∉ l) : l = [] := List.eq_nil_iff_forall_not_mem.2 h
/-- where the devices stay, nothing moves -/
theorem plan_stays (ks : List ByteArray) (s : List Int) (c : Int) (hs : Ser s) : chartPlan ks s s c = [] := by
  refine List.eq_nil_iff_forall_not_mem.2 fun m hm => ?_
  obtain ⟨key, -, n, hn, -⟩ := (mem_plan _ _ _ _ _).1 hm
  have hw := ((withoutL_ok key _ _ (topL_sorted key hs c)).2 n).1 hn
  exact hw.2 hw.1
theorem length_le_one {l : List Int} {y : Int} (h : l.Pairwise (· < ·)) (he : ∀ x ∈ l, x = y) : l.length ≤ 1 := by
  cases l with
  | nil => simp
  | cons a l =>
    cases l with
    | nil => simp
    | cons b l =>
      have h1 := he a (by simp)
      have h2 := he b (by simp)
      rw [List.pairwise_cons] at h
      have := h.1 b (by simp)
      omega
theorem filter_ne_length {l : List Int} (h : l.Nodup) (g : Int) : l.length ≤ (l.filter (fun x => decide (x ≠ g))).length + 1 := by
  induction l with
  | nil => simp
  | cons a l ih =>
    rw [List.nodup_cons] at h
    by_cases ha : a = g
    · subst ha
      rw [List.filter_cons_of_neg (by simp)]
      have e : l.filter (fun x => decide (x ≠ a)) = l := List.filter_eq_self.2 fun y hy => by
        rw [decide_eq_true_eq]
        rintro rfl
        exact h.1 hy
      rw [e]; simp
    · rw [List.filter_cons_of_pos (by simpa using ha)]
      have := ih h.2
      simp only [List.length_cons]
      omega
theorem take_filter_sub {l : List Int} (h : l.Nodup) (g : Int) (c : Nat) {x : Int} (hx : x ∈ (l.filter (fun x => decide (x ≠ g))).take c) : x ∈ l.take (c + 1) := by
  have e : l.filter (fun x => decide (x ≠ g)) = (l.take (c + 1)).filter (fun x => decide (x ≠ g)) ++ (l.drop (c + 1)).filter (fun x => decide (x ≠ g)) := by rw [← List.filter_append, List.take_append_drop]
  have hn : (l.take (c + 1)).Nodup := h.sublist (List.take_sublist _ _)
  have hl := filter_ne_length hn g
  by_cases hc : c + 1 ≤ l.length
  · rw [List.length_take, Nat.min_eq_left hc] at hl
    rw [e, List.take_append_of_le_length (by omega)] at hx
    exact (List.mem_filter.1 (List.mem_of_mem_take hx)).1
  · have := List.mem_of_mem_take hx
    rw [List.take_of_length_le (by omega)]
    exact (List.mem_filter.1 this).1
theorem take_filter_same {l : List Int} (g : Int) (c : Nat) (hg : g ∉ l.take c) {x : Int} (hx : x ∈ (l.filter (fun x => decide (x ≠ g))).take c) : x ∈ l.take c := by
  have e : l.filter (fun x => decide (x ≠ g)) = (l.take c).filter (fun x => decide (x ≠ g)) ++ (l.drop c).filter (fun x => decide (x ≠ g)) := by rw [← List.filter_append, List.take_append_drop]
  have e2 : (l.take c).filter (fun x => decide (x ≠ g)) = l.take c := List.filter_eq_self.2 fun y hy => by
    rw [decide_eq_true_eq]
    rintro rfl
    exact hg hy
  rw [e2] at e
  by_cases hc : c ≤ l.length
  · rw [e, List.take_append_of_le_length (by rw [List.length_take]; omega)] at hx
    exact List.mem_of_mem_take hx
  · have := List.mem_of_mem_take hx
    rw [List.take_of_length_le (by omega)]
    exact (List.mem_filter.1 this).1
theorem mem_take_succ {l : List Int} {c : Nat} {x : Int} (h : x ∈ l.take (c + 1)) (h2 : x ∉ l.take c) : l[c]? = some x := by
  rcases Nat.lt_or_ge c l.length with hc | hc
  · rw [List.take_succ_eq_append_getElem hc, List.mem_append, List.mem_singleton] at h
    rcases h with h | h
    · exact absurd h h2
    · rw [List.getElem?_eq_getElem hc, h]
  · rw [List.take_of_length_le (by omega)] at h
    rw [List.take_of_length_le hc] at h2
    exact absurd h h2
section
variable (s rest : List Int) (gone c : Int)
def holdsG (key : ByteArray) : Bool := hasB (topN (refOrder key s) c) gone
theorem moves_gone (key : ByteArray) (hs : Ser s) (hr : ∀ x, x ∈ rest ↔ x ∈ s ∧ x ≠ gone) :
    (withoutL (topL key rest c) (topL key s c)).length ≤ (if holdsG s gone c key = true then 1 else 0) := by
  have hsr : Ser rest := fun z hz => hs z ((hr z).1 hz).1
  have hw := withoutL_ok key _ (topL key s c) (topL_sorted key hsr c)
  have e := refOrder_filter key hs hsr gone hr
  have hnd := nodup_order (refOrder_ok key s hs).1
  by_cases hg : holdsG s gone c key = true
  · rw [if_pos hg]
    cases hN : (refOrder key s)[c.toNat]? with
    | none =>
      have : withoutL (topL key rest c) (topL key s c) = [] := nil_of_none fun x hx => by
        have h := (hw.2 x).1 hx
        rw [topL_eq key _ hsr, topL_eq key _ hs] at h
        unfold topN at h
        rw [e] at h
        rw [mem_take_succ (take_filter_sub hnd gone _ h.1) h.2] at hN
        cases hN
      rw [this]; simp
    | some y =>
      refine length_le_one (y := y) hw.1 fun x hx => ?_
      have h := (hw.2 x).1 hx
      rw [topL_eq key _ hsr, topL_eq key _ hs] at h
      unfold topN at h
      rw [e] at h
      rw [mem_take_succ (take_filter_sub hnd gone _ h.1) h.2] at hN
      injection hN
  · rw [if_neg hg]
    have : withoutL (topL key rest c) (topL key s c) = [] := nil_of_none fun x hx => by
      have h := (hw.2 x).1 hx
      rw [topL_eq key _ hsr, topL_eq key _ hs] at h
      unfold topN at h
      rw [e] at h
      have hg2 : gone ∉ (refOrder key s).take c.toNat := fun hx => hg ((hasB_iff _ _).2 hx)
      exact h.2 (take_filter_same gone _ hg2 h.1)
    rw [this]; simp
theorem plan_gone (ks : List ByteArray) (hs : Ser s) (hr : ∀ x, x ∈ rest ↔ x ∈ s ∧ x ≠ gone) (h1 : 1 ≤ gone) :
    (∀ m ∈ chartPlan ks s rest c, m.2.1 ≠ gone ∧ m.2.2 ≠ gone ∧ hasB (topN (refOrder m.1 s) c) gone = true) ∧ (chartPlan ks s rest c).length ≤ (onceS ks).countP (holdsG s gone c) := by
  have hsr : Ser rest := fun z hz => hs z ((hr z).1 hz).1
  constructor
  · intro m hm
    obtain ⟨key, -, n, hn, rfl⟩ := (mem_plan _ _ _ _ _).1 hm
    dsimp only
    have hw := ((withoutL_ok key _ _ (topL_sorted key hsr c)).2 n).1 hn
    have hlen := moves_gone s rest gone c key hs hr
    refine ⟨?_, ?_, ?_⟩
    · rcases src_mem key s rest with h | ⟨-, h⟩
      · rw [h]; omega
      · exact ((hr _).1 h).2
    · have h := hw.1
      rw [topL_eq key _ hsr] at h
      exact ((hr n).1 (topN_mem hsr h)).2
    · by_cases hg : holdsG s gone c key = true
      · exact hg
      · rw [if_neg hg] at hlen
        have := List.length_pos_of_mem hn
        omega
  · unfold chartPlan planK
    rw [List.take_length]
    generalize onceS ks = l
    induction l with
    | nil => simp
    | cons key l ih =>
      rw [List.flatMap_cons, List.length_append, List.countP_cons]
      have h := moves_gone s rest gone c key hs hr
      unfold movesOf at *
      rw [List.length_map]
      omega
end
/-! what belongs to each device -/
theorem idxIn_at {ser : List Int} (hs : ser.Pairwise (· < ·)) (j : Nat) (hj : j < ser.length) : idxIn ser ser[j] = j := by
  unfold idxIn
  have e : ser.countP (· < ser[j]) = (ser.take j).countP (· < ser[j]) + (ser.drop j).countP (· < ser[j]) := by rw [← List.countP_append, List.take_append_drop]
  have h1 : (ser.take j).countP (· < ser[j]) = j := by
    have : (ser.take j).countP (· < ser[j]) = (ser.take j).length := List.countP_eq_length.2 fun x hx => by
      obtain ⟨i, hi, rfl⟩ := List.getElem_of_mem hx
      rw [List.length_take] at hi
      rw [List.getElem_take]
      simpa using List.pairwise_iff_getElem.1 hs i j (by omega) hj (by omega)
    rw [this, List.length_take]; omega
  have h2 : (ser.drop j).countP (· < ser[j]) = 0 := List.countP_eq_zero.2 fun x hx => by
    obtain ⟨i, hi, rfl⟩ := List.getElem_of_mem hx
    rw [List.length_drop] at hi
    rw [List.getElem_drop]
    rcases Nat.eq_zero_or_pos i with h0 | h0
    · subst h0; simp
    · have := List.pairwise_iff_getElem.1 hs j (j + i) hj (by omega) (by omega)
      simp; omega
  omega
theorem bumps_at {ser : List Int} (hs : ser.Pairwise (· < ·)) (ns : List Int) (hn : ns.Nodup) (hm : ∀ n ∈ ns, n ∈ ser) (f : Nat → Int) (i : Nat) (hi : i < ser.length) :
    bumps ser f ns i = f i + if hasB ns ser[i] = true then 1 else 0 := by
  induction ns generalizing f with
  | nil => simp [bumps, hasB]
  | cons n l ih =>
    rw [List.nodup_cons] at hn
    show bumps ser (bump ser f n) l i = _
    rw [ih hn.2 (fun x hx => hm x (List.mem_cons_of_mem _ hx))]
    obtain ⟨j, hj, hjn⟩ := List.getElem_of_mem (hm n List.mem_cons_self)
    have hidx : idxIn ser n = j := by rw [← hjn]; exact idxIn_at hs j hj
    unfold bump
    rw [hidx]
    by_cases hij : i = j
    · subst hij
      have h1 : ¬ hasB l ser[i] = true := by rw [hasB_iff, hjn]; exact hn.1
      have h2 : hasB (n :: l) ser[i] = true := by rw [hasB_iff, hjn]; exact List.mem_cons_self
      rw [if_pos rfl, if_neg h1, if_pos h2]; omega
    · have hne : ser[i] ≠ n := by
        intro h
        have := idxIn_at hs i hi
        rw [h, hidx] at this
        exact hij this.symm
      have e : hasB (n :: l) ser[i] = hasB l ser[i] := by
        rw [Bool.eq_iff_iff, hasB_iff, hasB_iff, List.mem_cons]
        exact ⟨fun h => h.resolve_left hne, .inr⟩
      rw [if_neg hij, e]
theorem onceI_self {ser : List Int} (hs : ser.Pairwise (· < ·)) : onceI ser = ser := onceI_ext hs fun x => Iff.rfl
theorem topL_length (key : ByteArray) {ser : List Int} (hs : ser.Pairwise (· < ·)) (c : Int) : (topL key ser c).length = min c.toNat ser.length := by
  unfold topL orderL
  rw [List.length_take, sortW_length]
  show min _ (onceI ser).length = _
  rw [onceI_self hs]
theorem hasB_count {ser ns : List Int} (hs : ser.Nodup) (hn : ns.Nodup) (hm : ∀ n ∈ ns, n ∈ ser) : ser.countP (hasB ns) = ns.length := by
  rw [List.countP_eq_length_filter]
  refine List.Perm.length_eq ((List.perm_ext_iff_of_nodup (hs.filter _) hn).2 fun x => ?_)
  rw [List.mem_filter, hasB_iff]
  exact ⟨fun h => h.2, fun h => ⟨hm x h, h⟩⟩
/-- of how many keys a device is among the first ones -/
def cntL (s0 : List Int) (ks : List ByteArray) (c x : Int) (k : Nat) : Nat := (ks.take k).countP fun key => hasB (topN (refOrder key s0) c) x
theorem cntL_succ (s0 : List Int) (ks : List ByteArray) (c x : Int) (k : Nat) (h : k < ks.length) : cntL s0 ks c x (k + 1) = cntL s0 ks c x k + if hasB (topN (refOrder ks[k] s0) c) x = true then 1 else 0 := by
  unfold cntL
  rw [List.take_succ_eq_append_getElem h, List.countP_append, List.countP_singleton]
theorem cntL_le (s0 : List Int) (ks : List ByteArray) (c x : Int) (k : Nat) : cntL s0 ks c x k ≤ k := by
  unfold cntL
  exact Nat.le_trans List.countP_le_length (by rw [List.length_take]; omega)
theorem ser_mem {s0 ser : List Int} (hs0 : Ser s0) (hser : onceI s0 = ser) (x : Int) : x ∈ ser ↔ x ∈ s0 := by rw [← hser]; exact (onceI_ok s0).2 x
theorem ser_sorted {s0 ser : List Int} (hs0 : Ser s0) (hser : onceI s0 = ser) : ser.Pairwise (· < ·) := by rw [← hser]; exact (onceI_ok s0).1
theorem ser_ser {s0 ser : List Int} (hs0 : Ser s0) (hser : onceI s0 = ser) : Ser ser := fun z hz => hs0 z ((ser_mem hs0 hser z).1 hz)
theorem top_same {s0 ser : List Int} (hs0 : Ser s0) (hser : onceI s0 = ser) (key : ByteArray) (c : Int) : topL key ser c = topN (refOrder key s0) c := by
  rw [topL_eq key ser (ser_ser hs0 hser), refOrder_ext key (ser_ser hs0 hser) hs0 (ser_mem hs0 hser)]
theorem top_nodup {s0 ser : List Int} (hs0 : Ser s0) (hser : onceI s0 = ser) (key : ByteArray) (c : Int) : (topL key ser c).Nodup := nodup_order (topL_sorted key (ser_ser hs0 hser) c)
theorem top_in {s0 ser : List Int} (hs0 : Ser s0) (hser : onceI s0 = ser) (key : ByteArray) (c : Int) : ∀ n ∈ topL key ser c, n ∈ ser := fun n h => (orderL_mem key ser n).1 (List.mem_of_mem_take h)
theorem cntK_eq {s0 ser : List Int} (hs0 : Ser s0) (hser : onceI s0 = ser) (ks : List ByteArray) (c : Int) (k : Nat) (hk : k ≤ ks.length) (i : Nat) (hi : i < ser.length) : cntK ser ks c k i = (cntL s0 ks c ser[i] k : Nat) := by
  induction k with
  | zero => simp [cntK, cntL]
  | succ k ih =>
    rw [cntK_succ _ _ _ _ (by omega), bumps_at (ser_sorted hs0 hser) _ (top_nodup hs0 hser _ c) (top_in hs0 hser _ c) _ i hi, ih (by omega), cntL_succ _ _ _ _ _ (by omega), top_same hs0 hser]
    split <;> omega
/-- the sum of the first ones -/
def sumL (s0 : List Int) (ser : List Int) (ks : List ByteArray) (c : Int) (k i : Nat) : Nat := ((ser.take i).map fun x => cntL s0 ks c x k).sum
theorem sumL_succ {s0 ser : List Int} (ks : List ByteArray) (c : Int) (k i : Nat) (h : i < ser.length) : sumL s0 ser ks c k (i + 1) = sumL s0 ser ks c k i + cntL s0 ks c ser[i] k := by
  unfold sumL
  rw [List.take_succ_eq_append_getElem h, List.map_append, List.sum_append]; simp
theorem sum_zero (l : List Int) : (l.map fun _ => (0 : Nat)).sum = 0 := by
  induction l with
  | nil => rfl
  | cons a l ih => rw [List.map_cons, List.sum_cons, ih]
theorem sum_count (l : List Int) (f : Int → Nat) (p : Int → Bool) : (l.map fun x => f x + if p x = true then 1 else 0).sum = (l.map f).sum + l.countP p := by
  induction l with
  | nil => rfl
  | cons a l ih => simp only [List.map_cons, List.sum_cons, ih, List.countP_cons]; split <;> omega
theorem sumL_all {s0 ser : List Int} (hs0 : Ser s0) (hser : onceI s0 = ser) (ks : List ByteArray) (c : Int) (k : Nat) (hk : k ≤ ks.length) : sumL s0 ser ks c k ser.length = k * min c.toNat ser.length := by
  induction k with
  | zero => unfold sumL cntL; simp only [List.take_zero, List.countP_nil, List.take_length, Nat.zero_mul]; exact sum_zero ser
  | succ k ih =>
    have ih := ih (by omega)
    unfold sumL at *
    rw [List.take_length] at *
    have e : (ser.map fun x => cntL s0 ks c x (k + 1)) = ser.map fun x => cntL s0 ks c x k + if hasB (topN (refOrder ks[k] s0) c) x = true then 1 else 0 := List.map_congr_left fun x _ => cntL_succ s0 ks c x k (by omega)
    have hnd : ser.Nodup := (ser_sorted hs0 hser).imp fun {a b} h => by omega
    rw [e, sum_count, ih, ← top_same hs0 hser, hasB_count hnd (top_nodup hs0 hser _ c) (top_in hs0 hser _ c), topL_length _ (ser_sorted hs0 hser), Nat.add_mul, Nat.one_mul]
/-- two quotients of the same numbers are one in the order -/
theorem ratio_same {a b : Int} {r t : Nat} (hr : RatioIs a b r) (ht : RatioIs a b t) : ordF r t = 0 := by
  rw [ordF_eq _ _ hr.1 ht.1]
  have h1 := hr.2
  have h2 := ht.2
  have h3 := hr.1
  have h4 := ht.1
  cases hd : FloatKind.f64.format.div (floatOfInt .f64 a) (floatOfInt .f64 b) with
  | some q =>
    rw [hd] at h1 h2
    dsimp only at h1 h2
    rw [h1, h2]
    unfold sgn3; rw [if_neg (Int.lt_irrefl _), if_neg (Int.lt_irrefl _)]
  | none =>
    rw [hd] at h1 h2
    dsimp only at h1 h2
    rw [nanB_eq _ h3] at h1
    rw [nanB_eq _ h4] at h2
    unfold sgn3 kOf
    rw [h1, h2]; rfl
end Go.Proofs.Ythapnanemkjhhaa
