/- Plain: the program's order of devices is the document's. Condition: serials from 0 to 2^63. -/
import Derived.Test.YthapnanemkjhhaaTop
import Derived.Test.YthapnanemkjhhaaOnceP
import Derived.Test.YthapnanemkjhhaaRefChart
namespace Go.Proofs.Ythapnanemkjhhaa
open Go.Sort
set_option linter.unusedVariables false
/-- serials of which we speak -/
def Ser (zs : List Int) : Prop := ∀ z ∈ zs, 0 ≤ z ∧ z < 9223372036854775808
/-- x goes ahead of y -/
def ahd (s : ByteArray) (x y : Int) : Prop := wI (wt s y) < wI (wt s x)
theorem ahd_irr (s : ByteArray) (x : Int) : ¬ ahd s x x := Int.lt_irrefl _
theorem ahd_tr (s : ByteArray) (x y z : Int) (h : ahd s x y) (k : ahd s y z) : ahd s x z := Int.lt_trans k h
theorem wI_inj (u v : BitVec 64) (h : wI u = wI v) : u = v := by
  unfold wI at h
  exact BitVec.eq_of_toNat_eq (by exact_mod_cast h)
theorem wt_inj (s : ByteArray) {zs : List Int} (hz : Ser zs) {x y : Int} (hx : x ∈ zs) (hy : y ∈ zs) (h : wI (wt s x) = wI (wt s y)) : x = y := by
  have h1 := wI_inj _ _ h
  unfold wt at h1
  rw [pairB_inj_right] at h1
  unfold bI at h1
  have h2 := hz x hx
  have h3 := hz y hy
  have h4 := congrArg BitVec.toInt h1
  rw [BitVec.toInt_ofInt, BitVec.toInt_ofInt] at h4
  simp only [Int.bmod] at h4
  omega
theorem ahd_tri (s : ByteArray) {zs : List Int} (hz : Ser zs) {x y : Int} (hx : x ∈ zs) (hy : y ∈ zs) (hn : ¬ ahd s x y) : y = x ∨ ahd s y x := by
  unfold ahd at *
  rcases Int.lt_or_eq_of_le (Int.not_lt.1 hn) with h | h
  · exact .inr h
  · exact .inl (wt_inj s hz hy hx h.symm)
theorem ser_once {zs : List Int} (hz : Ser zs) : Ser (onceI zs) := fun z h => hz z (((onceI_ok zs).2 z).1 h)
theorem orderL_mem (s : ByteArray) (zs : List Int) (x : Int) : x ∈ orderL s zs ↔ x ∈ zs := by
  have h : (orderL s zs).Perm (onceI zs) := sortW_perm s _
  rw [h.mem_iff, (onceI_ok zs).2]
theorem orderL_sorted (s : ByteArray) (zs : List Int) (hz : Ser zs) : (orderL s zs).Pairwise (ahd s) := by
  have hperm : (orderL s zs).Perm (onceI zs) := sortW_perm s _
  have hnd : (orderL s zs).Nodup := hperm.nodup_iff.2 ((onceI_ok zs).1.imp fun {a b} h => by omega)
  have h := (insertionSort_holds (swo_cmpW s) (onceI zs).toArray 0 (onceI zs).length (Nat.zero_le _) (by simp)).2
  have hsz : (insertionSort (ltOf (cmpW s)) (onceI zs).toArray 0 (onceI zs).length).size = (onceI zs).length := by
    have := sortW_length s (onceI zs)
    unfold sortW at this
    simpa using this
  rw [List.pairwise_iff_getElem]
  intro i j hi hj hij
  have hj' : j < (onceI zs).length := by rw [← hperm.length_eq]; exact hj
  have h1 := h i j (Nat.zero_le _) hij hj'
  rw [getElem!_pos _ j (by omega), getElem!_pos _ i (by omega)] at h1
  have h2 : ltOf (cmpW s) (orderL s zs)[j] (orderL s zs)[i] = false := h1
  have h3 : ¬ ahd s (orderL s zs)[j] (orderL s zs)[i] := by
    intro h4
    unfold ahd at h4
    unfold ltOf at h2
    rw [cmpW_eq, if_pos h4] at h2
    simp at h2
  have hmi := (orderL_mem s zs _).1 (List.getElem_mem hi)
  have hmj := (orderL_mem s zs _).1 (List.getElem_mem hj)
  rcases ahd_tri s hz hmj hmi h3 with h4 | h4
  · exact absurd h4 ((List.nodup_iff_pairwise_ne.1 hnd |> List.pairwise_iff_getElem.1) i j hi hj hij)
  · exact h4

/-! the document's order -/
theorem refBest_ok (s : ByteArray) (zs out : List Int) (hz : Ser zs) (k : Nat) (hk : k ≤ zs.length) :
    (refBest s out (zs.take k) = -1 ∧ ∀ z ∈ zs.take k, z ∈ out) ∨
    (0 ≤ refBest s out (zs.take k) ∧ refBest s out (zs.take k) ∈ zs.take k ∧ refBest s out (zs.take k) ∉ out ∧ ∀ z ∈ zs.take k, z ∉ out → z = refBest s out (zs.take k) ∨ ahd s (refBest s out (zs.take k)) z) := by
  induction k with
  | zero => left; simp [refBest]
  | succ k ih =>
    have ih := ih (by omega)
    have hkz : zs[k] ∈ zs := List.getElem_mem hk
    have hzk := hz _ hkz
    rw [refBest_snoc _ _ _ _ hk, List.take_succ_eq_append_getElem hk]
    have hsub : ∀ z ∈ zs.take k, z ∈ zs := fun z h => List.mem_of_mem_take h
    generalize refBest s out (zs.take k) = b at *
    generalize zs[k] = y at *
    generalize zs.take k = pre at *
    by_cases hy : hasB out y = true
    · rw [refStep_in hy]
      have hyo := (hasB_iff _ _).1 hy
      rcases ih with ⟨h1, h2⟩ | ⟨h1, h2, h3, h4⟩
      · left
        refine ⟨h1, fun z hz => ?_⟩
        rcases List.mem_append.1 hz with h | h
        · exact h2 z h
        · simp only [List.mem_singleton] at h; subst h; exact hyo
      · right
        refine ⟨h1, List.mem_append_left _ h2, h3, fun z hz hzo => ?_⟩
        rcases List.mem_append.1 hz with h | h
        · exact h4 z h hzo
        · simp only [List.mem_singleton] at h; subst h; exact absurd hyo hzo
    · have hyo : y ∉ out := fun h => hy ((hasB_iff _ _).2 h)
      rcases ih with ⟨h1, h2⟩ | ⟨h1, h2, h3, h4⟩
      · subst h1
        rw [refStep_neg hy (by omega)]
        right
        refine ⟨hzk.1, by simp, hyo, fun z hz hzo => ?_⟩
        rcases List.mem_append.1 hz with h | h
        · exact absurd (h2 z h) hzo
        · simp only [List.mem_singleton] at h; exact .inl h
      · right
        by_cases hg : wI (wt s b) < wI (wt s y)
        · rw [refStep_gt hy h1 hg]
          refine ⟨hzk.1, by simp, hyo, fun z hz hzo => ?_⟩
          rcases List.mem_append.1 hz with h | h
          · right
            rcases h4 z h hzo with rfl | h5
            · exact hg
            · exact ahd_tr s _ _ _ hg h5
          · simp only [List.mem_singleton] at h; exact .inl h
        · have hg' : wI (wt s y) ≤ wI (wt s b) := Int.not_lt.1 hg
          have hyb : y = b ∨ ahd s b y := by
            rcases ahd_tri s hz hkz (hsub b h2) hg with h | h
            · exact .inl h.symm
            · exact .inr h
          have hno : ¬ (wI (wt s y) = wI (wt s b) ∧ y < b) := by
            rintro ⟨h5, h6⟩
            have := wt_inj s hz hkz (hsub b h2) h5
            omega
          rw [refStep_no hy h1 hg' hno]
          refine ⟨h1, List.mem_append_left _ h2, h3, fun z hz hzo => ?_⟩
          rcases List.mem_append.1 hz with h | h
          · exact h4 z h hzo
          · simp only [List.mem_singleton] at h; subst h; exact hyb
theorem countP_less {α : Type} {p q : α → Bool} {l : List α} (hpq : ∀ x ∈ l, q x = true → p x = true) {x0 : α} (h0 : x0 ∈ l) (hp : p x0 = true) (hq : q x0 = false) : l.countP q < l.countP p := by
  induction l with
  | nil => cases h0
  | cons y l ih =>
    rw [List.countP_cons, List.countP_cons]
    have hle : l.countP q ≤ l.countP p := List.countP_mono_left fun x hx => hpq x (List.mem_cons_of_mem _ hx)
    rcases List.mem_cons.1 h0 with rfl | h
    · rw [hp, hq]; simp; omega
    · have := ih (fun x hx => hpq x (List.mem_cons_of_mem _ hx)) h
      have h2 := hpq y (List.mem_cons_self ..)
      cases hqy : q y <;> cases hpy : p y <;> simp_all <;> omega
theorem refTo_ok (s : ByteArray) (zs : List Int) (hz : Ser zs) (t : Nat) :
    (refTo s zs t).Pairwise (ahd s) ∧ (∀ x ∈ refTo s zs t, x ∈ zs) ∧ (∀ x ∈ zs, x ∉ refTo s zs t → ∀ y ∈ refTo s zs t, ahd s y x) ∧ zs.countP (fun x => !hasB (refTo s zs t) x) + t ≤ zs.length ∨
    (refTo s zs t).Pairwise (ahd s) ∧ (∀ x, x ∈ refTo s zs t ↔ x ∈ zs) := by
  induction t with
  | zero =>
    left
    refine ⟨by simp [refTo], by simp [refTo], by simp [refTo], ?_⟩
    exact List.countP_le_length
  | succ t ih =>
    simp only [refTo]
    have hb := refBest_ok s zs (refTo s zs t) hz zs.length (Nat.le_refl _)
    rw [List.take_length] at hb
    rcases ih with ⟨i1, i2, i3, i4⟩ | ⟨i1, i2⟩
    · rcases hb with ⟨h1, h2⟩ | ⟨h1, h2, h3, h4⟩
      · right
        rw [h1, if_neg (by omega)]
        exact ⟨i1, fun x => ⟨i2 x, h2 x⟩⟩
      · rw [if_pos h1]
        left
        generalize refBest s (refTo s zs t) zs = b at *
        generalize refTo s zs t = out at *
        refine ⟨?_, ?_, ?_, ?_⟩
        · rw [List.pairwise_append]
          refine ⟨i1, by simp, fun y hy z hz => ?_⟩
          simp only [List.mem_singleton] at hz; subst hz; exact i3 _ h2 h3 y hy
        · intro x hx
          rcases List.mem_append.1 hx with h | h
          · exact i2 x h
          · simp only [List.mem_singleton] at h; subst h; exact h2
        · intro x hx hxo y hy
          rw [List.mem_append, not_or, List.mem_singleton] at hxo
          rcases List.mem_append.1 hy with h | h
          · exact i3 x hx hxo.1 y h
          · simp only [List.mem_singleton] at h
            subst h
            rcases h4 x hx hxo.1 with h5 | h5
            · exact absurd h5 hxo.2
            · exact h5
        · have := countP_less (p := fun x => !hasB out x) (q := fun x => !hasB (out ++ [b]) x) (l := zs) (fun x _ h => by
            simp only [Bool.not_eq_true'] at *
            cases hh : hasB out x with
            | false => rfl
            | true => rw [(hasB_iff _ _).2 (List.mem_append_left _ ((hasB_iff _ _).1 hh))] at h; cases h) h2 (by
              cases hh : hasB out b with
              | false => rfl
              | true => exact absurd ((hasB_iff _ _).1 hh) h3) (by rw [(hasB_iff _ _).2 (by simp)]; rfl)
          omega
    · right
      rcases hb with ⟨h1, h2⟩ | ⟨h1, h2, h3, h4⟩
      · rw [h1, if_neg (by omega)]; exact ⟨i1, i2⟩
      · exact absurd ((i2 _).2 h2) h3
theorem refOrder_ok (s : ByteArray) (zs : List Int) (hz : Ser zs) : (refOrder s zs).Pairwise (ahd s) ∧ ∀ x, x ∈ refOrder s zs ↔ x ∈ zs := by
  unfold refOrder
  rcases refTo_ok s zs hz zs.length with ⟨h1, h2, h3, h4⟩ | h
  · refine ⟨h1, fun x => ⟨h2 x, fun hx => ?_⟩⟩
    have h5 : zs.countP (fun x => !hasB (refTo s zs zs.length) x) = 0 := by omega
    have := List.countP_eq_zero.1 h5 x hx
    simp only [Bool.not_eq_true, Bool.not_eq_false'] at this
    exact (hasB_iff _ _).1 this
  · exact h
theorem orderL_eq (s : ByteArray) (zs : List Int) (hz : Ser zs) : orderL s zs = refOrder s zs :=
  strict_ext (ahd_irr s) (ahd_tr s) (orderL_sorted s zs hz) (refOrder_ok s zs hz).1 fun x => (orderL_mem s zs x).trans ((refOrder_ok s zs hz).2 x).symm
theorem topL_eq (s : ByteArray) (zs : List Int) (hz : Ser zs) (c : Int) : topL s zs c = topN (refOrder s zs) c := by
  unfold topL topN; rw [orderL_eq s zs hz]
end Go.Proofs.Ythapnanemkjhhaa
