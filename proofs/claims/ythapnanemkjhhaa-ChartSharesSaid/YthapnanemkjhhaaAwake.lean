/- Contract of the law file's fixed fact; plain: moves are the document's. No condition. -/
import Derived.Test.YthapnanemkjhhaaShares
import Derived.Test.YthapnanemkjhhaaFloatP
import Derived.Test.YthapnanemkjhhaaOrderP
import Derived.Test.YthapnanemkjhhaaPlan
namespace Go.Proofs.Ythapnanemkjhhaa
open Go.RowKit
set_option linter.unusedVariables false
theorem ratio_w {a b : Int} {r : Nat} (h : RatioIs a b r) : W64 r := h.1
theorem div00 : FloatKind.f64.format.div (floatOfInt .f64 0) (floatOfInt .f64 0) = none := by decide +kernel
theorem ratio00 {r : Nat} (h : RatioIs 0 0 r) : notR r = true := by
  have h1 := h.1
  have h2 := h.2
  rw [div00] at h2
  rw [← nanB_eq r h1]
  exact h2
theorem once32 : onceI [3, 2] = [2, 3] := onceI_ext (by decide) (by intro x; simp; omega)
theorem onceS_nil : onceS [] = [] := by
  have h := (onceS_ok []).2
  cases hh : onceS [] with
  | nil => rfl
  | cons x l => have := (h x).1 (by rw [hh]; simp); cases this
set_option maxRecDepth 100000 in
theorem awake_any (w : World) : Calls Try.prog 7 #[] w fun e w' => e = .returned (.bool true) ∧ Below w.heap.size w w' := by
  go_enter Try.func7, Try.ntmps7
  go_wp2_with fail
  have hsl : SlAt (w.alloc (.cells #[.int .i64 3, .int .i64 2] 3)) (.slice (some ⟨w.heap.size, 0, none⟩) 2 2) ([3, 2].map (.int .i64)) := by
    refine ⟨_, _, _, rfl, rfl, Nat.le_refl _, by decide, .inr ⟨_, _, rfl, by simp, fun i x hi => ?_⟩⟩
    have : i = 0 ∨ i = 1 := by
      have := (List.getElem?_eq_some_iff.1 hi).1
      simp at this; omega
    rcases this with rfl | rfl <;> simp at hi <;> subst hi <;> simp
  refine (shares_any _ _ [] [3, 2] 1 _ (SlAt.nil _) hsl [] onceS_nil [2, 3] once32 (by intro k hk; cases hk) (by decide) (by simp) (by simp) (by simp) (by simp)).mono ?_
  rintro e w1 ⟨v1, L, rfl, hs, hok, hb⟩
  have hb0 : Below w.heap.size w w1 := ((Below.refl _ _).alloc (Nat.le_refl _) _).trans (hb.mono (by simp))
  obtain ⟨a, cap, rfl, -, hcap, hmax, hc⟩ := hs
  have hl := hok.len
  have hl0 : 0 < L.length := by rw [hl]; simp
  have h0 := hok.at' 0 hl0 (by simp)
  have hser : L[0].serial = 2 := h0.1
  have hpart : notR L[0].part = true := ratio00 h0.2.2.2
  have hw := ratio_w h0.2.2.2
  rcases hc with hc | ⟨b, off, rfl, hlt, hcell⟩
  · simp at hc
  · obtain ⟨c1, c2, c3, c4⟩ := share_cells hcell 0 (by rw [hl]; simp)
    rw [hser] at c1
    have HP := Lib.hid hpart
    generalize L[0].part = pt at *
    simp only [Nat.zero_mul, Nat.add_zero] at c1 c4
    clear hcell hok hpart h0 hser c2 c3 hb hsl
    unfold maxLen at hmax
    go_wp2_with (go_at_call 19; refine (not04_any _ hw _).mono ?_; rintro e w2 ⟨rfl, rfl⟩)
    go_ret
    exact ⟨ret_bool (by rw [HP.out]), hb0⟩

/-! moves -/
theorem pairwise_take {α : Type} {R : α → α → Prop} {l : List α} (h : l.Pairwise R) (n : Nat) : (l.take n).Pairwise R := h.sublist (List.take_sublist n l)
theorem topN_mem {s : ByteArray} {zs : List Int} (hz : Ser zs) {c : Int} {x : Int} (h : x ∈ topN (refOrder s zs) c) : x ∈ zs := ((refOrder_ok s zs hz).2 x).1 (List.mem_of_mem_take h)
theorem topN_sorted (s : ByteArray) {zs : List Int} (hz : Ser zs) (c : Int) : (topN (refOrder s zs) c).Pairwise (ahd s) := pairwise_take (refOrder_ok s zs hz).1 _
theorem withoutL_ok (s : ByteArray) (a b : List Int) (ha : a.Pairwise (ahd s)) : (withoutL a b).Pairwise (· < ·) ∧ ∀ x, x ∈ withoutL a b ↔ x ∈ a ∧ x ∉ b := by
  unfold withoutL
  have h := sortI_ok (a.filter fun x => !hasB b x)
  have hm : ∀ x, x ∈ sortI (a.filter fun x => !hasB b x) ↔ x ∈ a ∧ x ∉ b := by
    intro x
    rw [h.2, List.mem_filter]
    constructor
    · rintro ⟨h1, h2⟩
      exact ⟨h1, fun h3 => by rw [(hasB_iff _ _).2 h3] at h2; cases h2⟩
    · rintro ⟨h1, h2⟩
      refine ⟨h1, ?_⟩
      cases hh : hasB b x with
      | false => rfl
      | true => exact absurd ((hasB_iff _ _).1 hh) h2
  refine ⟨?_, hm⟩
  have hnd : (sortI (a.filter fun x => !hasB b x)).Nodup := by
    have h1 : (a.filter fun x => !hasB b x).Nodup := (ha.imp fun {u v} h e => by subst e; exact ahd_irr s _ h).sublist List.filter_sublist
    exact (List.mergeSort_perm _ _).nodup_iff.2 h1
  refine (h.1.and hnd).imp fun {u v} h => ?_
  rcases h.1 with h1 | h1
  · exact absurd h1 h.2
  · exact h1
theorem comes_ok (a b : List Int) (j : Nat) : (comes a b j).Pairwise (· < ·) ∧ ∀ x, x ∈ comes a b j ↔ (0 ≤ x ∧ x < j) ∧ x ∈ b ∧ x ∉ a := by
  unfold comes
  refine ⟨?_, fun x => ?_⟩
  · refine List.Pairwise.sublist List.filter_sublist ?_
    rw [List.pairwise_map]
    exact List.pairwise_lt_range.imp fun h => by omega
  · rw [List.mem_filter, List.mem_map]
    simp only [List.mem_range, Bool.and_eq_true, Bool.not_eq_true']
    constructor
    · rintro ⟨⟨n, hn, rfl⟩, h1, h2⟩
      exact ⟨by omega, (hasB_iff _ _).1 h1, fun h3 => by rw [(hasB_iff _ _).2 h3] at h2; cases h2⟩
    · rintro ⟨h1, h2, h3⟩
      refine ⟨⟨x.toNat, by omega, by omega⟩, (hasB_iff _ _).2 h2, ?_⟩
      cases hh : hasB a x with
      | false => rfl
      | true => exact absurd ((hasB_iff _ _).1 hh) h3
theorem fromOf_eq (l now : List Int) (hl : ∀ x ∈ l, x ≠ 0) : fromOf l now = (l.find? (hasB now)).getD 0 := by
  have hk : ∀ (l : List Int) (f : Int), f ≠ 0 → l.foldl (fromStep now) f = f := by
    intro l
    induction l with
    | nil => intro f _; rfl
    | cons x l ih =>
      intro f hf
      rw [List.foldl_cons]
      have : fromStep now f x = f := by unfold fromStep; rw [if_neg (fun h => hf h.1)]
      rw [this]; exact ih f hf
  unfold fromOf
  induction l with
  | nil => rfl
  | cons x l ih =>
    rw [List.foldl_cons, List.find?_cons]
    cases hh : hasB now x with
    | true =>
      have : fromStep now 0 x = x := by unfold fromStep; rw [if_pos ⟨rfl, hh⟩]
      rw [this, hk _ _ (hl x (List.mem_cons_self ..))]
      rfl
    | false =>
      have : fromStep now 0 x = 0 := by unfold fromStep; rw [if_neg (fun h => by rw [hh] at h; cases h.2)]
      rw [this]
      exact ih fun y hy => hl y (List.mem_cons_of_mem _ hy)
theorem srcOf_eq (s : ByteArray) (old now : List Int) (ho : Ser old) (hp : ∀ z ∈ old, 1 ≤ z) : srcOf s old now = fromOf (refOrder s old) now := by
  unfold srcOf
  rw [orderL_eq s old ho, fromOf_eq]
  intro x hx h0
  have := hp x (((refOrder_ok s old ho).2 x).1 hx)
  omega
theorem movesOf_eq (s : ByteArray) (old now : List Int) (c : Int) (ho : Ser old) (hn : Ser now) (hp : ∀ z ∈ old, 1 ≤ z) (hq : ∀ z ∈ now, z < 1024) : movesOf s old now c = movesTo s old now c 1024 := by
  unfold movesOf movesTo
  rw [srcOf_eq s old now ho hp, topL_eq s old ho, topL_eq s now hn]
  have h1 := withoutL_ok s (topN (refOrder s now) c) (topN (refOrder s old) c) (topN_sorted s hn c)
  have h2 := comes_ok (topN (refOrder s old) c) (topN (refOrder s now) c) 1024
  have e : withoutL (topN (refOrder s now) c) (topN (refOrder s old) c) = comes (topN (refOrder s old) c) (topN (refOrder s now) c) 1024 := by
    refine strict_ext (fun x => Int.lt_irrefl x) (fun x y z => Int.lt_trans) h1.1 h2.1 fun x => ?_
    rw [h1.2, h2.2]
    constructor
    · rintro ⟨h3, h4⟩
      have := topN_mem hn h3
      exact ⟨⟨(hn x this).1, hq x this⟩, h3, h4⟩
    · rintro ⟨-, h3, h4⟩; exact ⟨h3, h4⟩
  rw [e]
theorem chartPlan_eq (ks : List ByteArray) (old now : List Int) (c : Int) (ho : Ser old) (hn : Ser now) (hp : ∀ z ∈ old, 1 ≤ z) (hq : ∀ z ∈ now, z < 1024) : chartPlan ks old now c = refPlan ks old now c := by
  unfold chartPlan refPlan planK planTo
  rw [onceS_eq, show (fun key => movesOf key old now c) = fun key => movesTo key old now c 1024 from funext fun key => movesOf_eq key old now c ho hn hp hq]
end Go.Proofs.Ythapnanemkjhhaa
