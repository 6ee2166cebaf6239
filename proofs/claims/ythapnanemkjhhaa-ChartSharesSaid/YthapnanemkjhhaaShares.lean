/- The contract of chart.Shares. Condition: keys no longer than 2^47 bytes, at most 2^20 keys, fewer than 20 devices. -/
import Derived.Test.YthapnanemkjhhaaTop
import Derived.Test.YthapnanemkjhhaaOnce
import Derived.Test.YthapnanemkjhhaaSpread
import Derived.Deep.OwnRows
namespace Go.Proofs.Ythapnanemkjhhaa
open Go.RowKit
set_option linter.unusedVariables false
attribute [local go_sem] run_store_float

/-! a row of shares -/
def rowS (S : Nat → ShareD) (i : Nat) : Value :=
  if i % 4 = 0 then .int .i64 (S (i / 4)).serial else if i % 4 = 1 then .int .i64 (S (i / 4)).keys else if i % 4 = 2 then .int .i64 (S (i / 4)).sectors else .float .f64 (S (i / 4)).part
def RowS (w : World) (G n : Nat) (S : Nat → ShareD) : Prop := w.rowIs G 32 (n * 4) (rowS S)
theorem rowS0 (S : Nat → ShareD) (k : Nat) : rowS S (k * 4) = .int .i64 (S k).serial := by unfold rowS; rw [if_pos (by omega), show k * 4 / 4 = k by omega]
theorem rowS1 (S : Nat → ShareD) (k : Nat) : rowS S (k * 4 + 1) = .int .i64 (S k).keys := by unfold rowS; rw [if_neg (by omega), if_pos (by omega), show (k * 4 + 1) / 4 = k by omega]
theorem rowS2 (S : Nat → ShareD) (k : Nat) : rowS S (k * 4 + 2) = .int .i64 (S k).sectors := by unfold rowS; rw [if_neg (by omega), if_neg (by omega), if_pos (by omega), show (k * 4 + 2) / 4 = k by omega]
theorem rowS3 (S : Nat → ShareD) (k : Nat) : rowS S (k * 4 + 3) = .float .f64 (S k).part := by unfold rowS; rw [if_neg (by omega), if_neg (by omega), if_neg (by omega), show (k * 4 + 3) / 4 = k by omega]
theorem RowS.c0 {w : World} {G n : Nat} {S : Nat → ShareD} (h : RowS w G n S) {k : Nat} (hk : k < n) : w.cell? ⟨G, k * 4, none⟩ = some (.int .i64 (S k).serial) := by rw [World.rowIs.cell h (by omega), rowS0]
theorem RowS.c1 {w : World} {G n : Nat} {S : Nat → ShareD} (h : RowS w G n S) {k : Nat} (hk : k < n) : w.cell? ⟨G, k * 4 + 1, none⟩ = some (.int .i64 (S k).keys) := by rw [World.rowIs.cell h (by omega), rowS1]
theorem RowS.c3 {w : World} {G n : Nat} {S : Nat → ShareD} (h : RowS w G n S) {k : Nat} (hk : k < n) : w.cell? ⟨G, k * 4 + 3, none⟩ = some (.float .f64 (S k).part) := by rw [World.rowIs.cell h (by omega), rowS3]
theorem RowS.free {w : World} {G n : Nat} {S : Nat → ShareD} (h : RowS w G n S) (i : Nat) : w.frozen? ⟨G, i, none⟩ = false := World.rowIs.frozen h i
theorem RowS.lt {w : World} {G n : Nat} {S : Nat → ShareD} (h : RowS w G n S) : G < w.heap.size := World.rowIs.lt h
theorem RowS.below {w w' : World} {G n B : Nat} {S : Nat → ShareD} (h : RowS w G n S) (hb : Below B w w') (hB : G < B) : RowS w' G n S := World.rowIs.of_block h (hb.block G hB)
theorem RowS.drew {w : World} {G n : Nat} {S : Nat → ShareD} (h : RowS w G n S) (q : Nat) : RowS (w.drewN q) G n S := World.rowIs.of_block h rfl
def setS (S : Nat → ShareD) (k : Nat) (x : ShareD) : Nat → ShareD := fun i => if i = k then x else S i
theorem RowS.set0 {w : World} {G n : Nat} {S : Nat → ShareD} (h : RowS w G n S) (k : Nat) (a : Int) : RowS (w.setCell ⟨G, k * 4, none⟩ (.int .i64 a)) G n (setS S k { S k with serial := a }) := by
  refine (World.rowIs.set h (k * 4) _).congr fun i hi => ?_
  unfold rowS setS
  by_cases e : i / 4 = k
  · by_cases e0 : i % 4 = 0
    · rw [if_pos (by omega), if_pos e0, if_pos e]
    · rw [if_neg (by omega), if_neg e0, if_neg e0, if_pos e, e]
  · rw [if_neg (by omega), if_neg e]
theorem RowS.set1 {w : World} {G n : Nat} {S : Nat → ShareD} (h : RowS w G n S) (k : Nat) (a : Int) : RowS (w.setCell ⟨G, k * 4 + 1, none⟩ (.int .i64 a)) G n (setS S k { S k with keys := a }) := by
  refine (World.rowIs.set h (k * 4 + 1) _).congr fun i hi => ?_
  unfold rowS setS
  by_cases e : i / 4 = k
  · by_cases e0 : i % 4 = 1
    · rw [if_pos (by omega), if_neg (by omega), if_pos e0, if_pos e]
    · rw [if_neg (by omega), if_neg e0, if_neg e0, if_pos e, e]
  · rw [if_neg (by omega), if_neg e]
theorem RowS.set3 {w : World} {G n : Nat} {S : Nat → ShareD} (h : RowS w G n S) (k : Nat) (a : Nat) : RowS (w.setCell ⟨G, k * 4 + 3, none⟩ (.float .f64 a)) G n (setS S k { S k with part := a }) := by
  refine (World.rowIs.set h (k * 4 + 3) _).congr fun i hi => ?_
  unfold rowS setS
  by_cases e : i / 4 = k
  · by_cases e0 : i % 4 = 3
    · rw [if_pos (by omega), if_neg (by omega), if_neg (by omega), if_neg (by omega), if_pos e]
    · rw [if_neg (by omega), if_pos e, e]
      by_cases f0 : i % 4 = 0
      · rw [if_pos f0, if_pos f0]
      · by_cases f1 : i % 4 = 1
        · rw [if_neg f0, if_neg f0, if_pos f1, if_pos f1]
        · rw [if_neg f0, if_neg f0, if_neg f1, if_neg f1, if_pos (by omega), if_pos (by omega)]
  · rw [if_neg (by omega), if_neg e]
theorem RowS.congr {w : World} {G n : Nat} {S T : Nat → ShareD} (h : RowS w G n S) (e : ∀ i, i < n → S i = T i) : RowS w G n T := World.rowIs.congr h fun i hi => by
  unfold rowS
  rw [e (i / 4) (by omega)]
theorem share_info : (Try.prog.info? 32).map (fun i => (i.zero, i.size, i.bytes)) = some (some (.agg #[.int .i64 0, .int .i64 0, .int .i64 0, .float .f64 0]), 4, 32) := by kernel_rfl
theorem RowS.made (w : World) (n : Nat) : RowS (w.alloc (.cells (madeCells #[.int .i64 0, .int .i64 0, .int .i64 0, .float .f64 0] (n * 4)) 32)) w.heap.size n (fun _ => ⟨0, 0, 0, 0⟩) := by
  refine ⟨_, heap_alloc_new _ _, size_madeCells _ _, fun i hi => ?_⟩
  have : i % 4 = 0 ∨ i % 4 = 1 ∨ i % 4 = 2 ∨ i % 4 = 3 := by omega
  unfold rowS madeCells
  rcases this with e | e | e | e <;> simp [hi, e]

/-- 'make([]T, n)', elements of several cells -/
theorem wpList_makeN {P : Program} (w : World) {ops : Array Oper} {rest : List Oper} {o : Oper} {a : Act} {Q : Exit → Act → World → Prop}
    (hg : o.guard = none) (l c : Operand) (t : TypeId) (hop : o.op = Op.makeSlice t l c)
    (e : TypeId) (z : Value) (size bytes : Nat) (ht : P.underlying t = some (.slice e)) (hinfo : (P.info? e).map (fun i => (i.zero, i.size, i.bytes)) = some (some z, size, bytes))
    (n : Nat) (hl : a.eval l = .int .i64 (n : Int)) (hc : a.eval c = .int .i64 (n : Int)) (hbytes : bytes * n ≤ 281474976710656) (h63 : n ≤ 9223372036854775807)
    (hK : wpList P ops Q rest (a.put o.dst (.slice (some ⟨w.heap.size, 0, none⟩) n n)) (w.alloc (.cells (madeCells z.cells (n * size)) e))) :
    wpList P ops Q (o :: rest) a w := by
  refine wpList_plain hg fun K hK' => ?_
  obtain ⟨i, hi, hz, hsize, hb⟩ := info_parts hinfo
  have hb' : (i.bytes : Int) * (n : Int) ≤ 281474976710656 := by
    rw [hb]
    have h : ((bytes * n : Nat) : Int) ≤ 281474976710656 := by omega
    rwa [Int.natCast_mul] at h
  have hrun := run_make (P := P) w t e i z ht hi hz .i64 .i64 n n (by omega) (Int.le_refl _) hb' (by omega)
  simp only [Int.toNat_natCast, hsize] at hrun
  unfold Oper.wp
  simp [execOp, hop, hl, hc, hrun, Result.andThen]
  exact hK' _ _ hK

/-! what is counted -/
def idxIn (ser : List Int) (n : Int) : Nat := ser.countP (· < n)
def bump (ser : List Int) (f : Nat → Int) (n : Int) : Nat → Int := fun i => if i = idxIn ser n then f i + 1 else f i
def bumps (ser : List Int) (f : Nat → Int) (ns : List Int) : Nat → Int := ns.foldl (bump ser) f
def cntK (ser : List Int) (ks : List ByteArray) (c : Int) (k : Nat) : Nat → Int := (ks.take k).foldl (fun f key => bumps ser f (topL key ser c)) (fun _ => 0)
theorem bumps_snoc (ser : List Int) (f : Nat → Int) (ns : List Int) (k : Nat) (h : k < ns.length) : bumps ser f (ns.take (k + 1)) = bump ser (bumps ser f (ns.take k)) ns[k] := by
  unfold bumps
  rw [List.take_succ_eq_append_getElem h, List.foldl_append]; rfl
theorem cntK_succ (ser : List Int) (ks : List ByteArray) (c : Int) (k : Nat) (h : k < ks.length) : cntK ser ks c (k + 1) = bumps ser (cntK ser ks c k) (topL ks[k] ser c) := by
  unfold cntK
  rw [List.take_succ_eq_append_getElem h, List.foldl_append]; rfl

theorem countP_lt {ser : List Int} {n : Int} (h : n ∈ ser) : ser.countP (· < n) < ser.length := by
  have h1 : ser.countP (· < n) ≤ ser.length := List.countP_le_length
  rcases Nat.lt_or_ge (ser.countP (· < n)) ser.length with h2 | h2
  · exact h2
  · have h3 := List.countP_eq_length.1 (Nat.le_antisymm h1 h2) n h
    simp at h3
theorem SlIn.setOther {B C G o : Nat} {w : World} {v x : Value} {cs : List Value} (h : SlIn B C w v cs) (hG : G < B) : SlIn B C (w.setCell ⟨G, o, none⟩ x) v cs := by
  obtain ⟨a, n, cap, hv, hn, hc, hm, h⟩ := h
  refine ⟨a, n, cap, hv, hn, hc, hm, ?_⟩
  rcases h with h | ⟨b, off, ha, h1, h2, hcell⟩
  · exact .inl h
  · refine .inr ⟨b, off, ha, h1, h2, fun i x hi => ?_⟩
    rw [World.cell?_setCell_other _ _ _ _ (by intro e; simp only [Addr.mk.injEq] at e; omega)]
    exact hcell i x hi
/-- what is said of a key's first devices -/
structure TopOk (ser : List Int) (c : Int) (key : ByteArray) : Prop where
  size : key.size ≤ 140737488351232
  mem : ∀ n ∈ topL key ser c, n ∈ ser
theorem bumps_le (ser : List Int) (f : Nat → Int) (ns : List Int) (i : Nat) (b : Int) (h0 : 0 ≤ f i) (hb : f i ≤ b) : 0 ≤ bumps ser f ns i ∧ bumps ser f ns i ≤ b + ns.length := by
  induction ns generalizing f b with
  | nil => exact ⟨h0, by simpa [bumps] using hb⟩
  | cons x l ih =>
    have h1 : 0 ≤ bump ser f x i ∧ bump ser f x i ≤ b + 1 := by unfold bump; split <;> omega
    have := ih (bump ser f x) (b + 1) h1.1 h1.2
    rw [show bumps ser f (x :: l) = bumps ser (bump ser f x) l from rfl, List.length_cons]
    omega
theorem cntK_le (ser : List Int) (ks : List ByteArray) (c : Int) (k : Nat) (i : Nat) (hs : ser.length < 20) (hk : k ≤ ks.length) : 0 ≤ cntK ser ks c k i ∧ cntK ser ks c k i ≤ 20 * k := by
  induction k with
  | zero => simp [cntK]
  | succ k ih =>
    rw [cntK_succ _ _ _ _ (by omega)]
    have h := ih (by omega)
    have h2 := bumps_le ser _ (topL ks[k] ser c) i _ h.1 h.2
    have h3 := topL_le ks[k] ser c
    omega

def cellsS (L : List ShareD) : List Value := L.flatMap ShareD.cells
/-- what Shares answers -/
structure SharesOk (ser : List Int) (ks : List ByteArray) (c : Int) (L : List ShareD) : Prop where
  len : L.length = ser.length
  at' : ∀ i (h : i < L.length) (h2 : i < ser.length), L[i].serial = ser[i] ∧ L[i].keys = cntK ser ks c ks.length i ∧ L[i].sectors = 0 ∧ RatioIs (cntK ser ks c ks.length i) ks.length L[i].part
theorem cells_len (S : Nat → ShareD) (n : Nat) : (((List.range n).map S).flatMap ShareD.cells).length = n * 4 := by
  induction n with
  | zero => rfl
  | succ n ih => rw [List.range_succ, List.map_append, List.flatMap_append, List.length_append, ih]; simp [ShareD.cells]; omega
theorem RowS.slN {w : World} {G n : Nat} {S : Nat → ShareD} (h : RowS w G n S) (hn : n ≤ 1048576) : SlN 4 w (.slice (some ⟨G, 0, none⟩) n n) n (((List.range n).map S).flatMap ShareD.cells) := by
  have hl := cells_len S n
  refine ⟨_, _, rfl, hl, Nat.le_refl _, by unfold maxLen; omega, .inr ⟨G, 0, rfl, h.lt, fun i x hi => ?_⟩⟩
  have hi' : i < n * 4 := by have := (List.getElem?_eq_some_iff.1 hi).1; omega
  have hs := share_at ((List.range n).map S) (i / 4) (by simp; omega) (i % 4) (by omega)
  rw [show i / 4 * 4 + i % 4 = i by omega, hi] at hs
  simp only [List.getElem_map, List.getElem_range] at hs
  rw [Nat.zero_add, World.rowIs.cell h hi']
  have : i % 4 = 0 ∨ i % 4 = 1 ∨ i % 4 = 2 ∨ i % 4 = 3 := by omega
  unfold rowS
  rcases this with e | e | e | e <;> rw [e] at hs <;> simp [ShareD.cells] at hs <;> simp [e, hs]

theorem search_any (b off ne cape : Nat) (ser : List Int) (x : Int) (w : World) (hne : ne = ser.length) (hlt : ne < 20) (hc : ∀ i (h : i < ser.length), w.cell? ⟨b, off + i, none⟩ = some (.int .i64 ser[i])) (hs : ser.Pairwise (· ≤ ·)) :
    Calls Try.prog 25 #[.slice (some ⟨b, off, none⟩) ne cape, .int .i64 x] w fun e w' => ∃ u, e = .returned (.tuple #[.int .i64 (idxIn ser x : Nat), u]) ∧ ∃ q, w' = w.drewN q := by
  refine (Try.slices_BinarySearch_int b off ne cape ser x w (by omega) (by omega) ?_ ?_).mono ?_
  · intro j hj
    rw [hc j hj]
    simp [List.getD, hj]
  · rw [hne, List.take_length]; exact hs
  · rintro e w' ⟨rfl, hw⟩
    rw [hne, List.take_length]
    exact ⟨_, rfl, hw⟩
/-- a row's state -/
def shS (ser : List Int) (k : Nat) (f : Nat → Int) (r : Nat → Nat) : Nat → ShareD := fun x => ⟨if x < k then ser.getD x 0 else 0, f x, 0, r x⟩
theorem shS_ser (ser : List Int) (k : Nat) (f : Nat → Int) (r : Nat → Nat) (i : Nat) : setS (shS ser k f r) k { shS ser k f r k with serial := ser.getD k 0 } i = shS ser (k + 1) f r i := by
  unfold setS shS
  by_cases e : i = k
  · subst e; rw [if_pos rfl]; simp
  · rw [if_neg e]
    by_cases h : i < k
    · have h' : i < k + 1 := by omega
      simp only [if_pos h, if_pos h']
    · have h' : ¬ i < k + 1 := by omega
      simp only [if_neg h, if_neg h']
theorem shS_bump (ser : List Int) (k : Nat) (f : Nat → Int) (r : Nat → Nat) (n : Int) (i : Nat) : setS (shS ser k f r) (idxIn ser n) { shS ser k f r (idxIn ser n) with keys := f (idxIn ser n) + 1 } i = shS ser k (bump ser f n) r i := by
  unfold setS shS bump
  by_cases e : i = idxIn ser n
  · subst e; simp
  · simp [e]
theorem shS_part (ser : List Int) (k : Nat) (f : Nat → Int) (r : Nat → Nat) (j q : Nat) (i : Nat) : setS (shS ser k f r) j { shS ser k f r j with part := q } i = shS ser k f (fun x => if x = j then q else r x) i := by
  unfold setS shS
  by_cases e : i = j
  · subst e; simp
  · simp [e]

set_option maxRecDepth 100000 in
set_option maxHeartbeats 8000000 in
theorem shares_any (vk vs : Value) (ks0 : List ByteArray) (ser0 : List Int) (c : Int) (w : World) (hvk : SlAt w vk (ks0.map .string)) (hvs : SlAt w vs (ser0.map (.int .i64)))
    (ks : List ByteArray) (hks : onceS ks0 = ks) (ser : List Int) (hser : onceI ser0 = ser) (hok : ∀ key ∈ ks, TopOk ser c key) (hsorted : ser.Pairwise (· ≤ ·)) (hlk0 : ks0.length ≤ 1048576) (hls0 : ser0.length < 20) (hlk : ks.length ≤ 1048576) (hls : ser.length < 20) :
    Calls Try.prog 10 #[vk, vs, .int .i64 c] w fun e w' => ∃ v' L, e = .returned v' ∧ SlN 4 w' v' ser.length (cellsS L) ∧ SharesOk ser ks c L ∧ Below w.heap.size w w' := by
  have HOK := Lib.hid hok
  have HSO := Lib.hid hsorted
  have HVK := Lib.hid hvk
  have HVS := Lib.hid hvs
  have HK := Lib.hid hks
  have HE := Lib.hid hser
  clear hok hsorted hvk hvs hks hser
  go_enter Try.func10, Try.ntmps10
  go_wp2_with fail
  refine (once_string_any vk ks0 _ HVK.out (by omega)).mono ?_
  rintro e w1 ⟨v1, rfl, hk1, hb1⟩
  have hs1 := hb1.size
  rw [HK.out] at hk1
  have HVS1 := Lib.hid (HVS.out.below hb1)
  go_wp2_with fail
  refine (once_int_any vs ser0 _ HVS1.out (by omega)).mono ?_
  rintro e w2 ⟨v2, rfl, hk2, hb2⟩
  have hs2 := hb2.size
  rw [HE.out] at hk2
  have HK2 := Lib.hid (SlIn.owned (ownsRow_below hk1 hb2 (fun q hq => (hk1.lt q hq).2)))
  have HE2 := Lib.hid (SlIn.owned (ownsRow_base hk2 hs1))
  have HB2 : Hid (Below w.heap.size w w2) := Lib.hid (hb1.trans (hb2.mono hs1))
  obtain ⟨ak, nk, capk, rfl, HNk, hcapk, hmaxk, -⟩ := (HK2.out.at (Nat.le_refl _)).opened
  obtain ⟨ae, ne, cape, rfl, HNe, hcape, hmaxe, hce⟩ := (HE2.out.at (Nat.le_refl _)).opened
  have HCE := Lib.hid hce
  have hnk : nk ≤ 1048576 := by rw [HNk.out]; exact hlk
  have hne : ne < 20 := by rw [HNe.out]; exact hls
  clear hb1 hb2 hk1 hk2 hce
  have HMade := Lib.hid (RowS.made w2 ne)
  go_wp2_with (first | (refine wpList_makeN _ rfl _ _ 27 rfl 32 _ 4 32 Try.underlying27 share_info ne rfl rfl (by omega) (by omega) ?_))
  have HB3 : Hid (Below w2.heap.size w2 (w2.alloc (.cells (madeCells #[.int .i64 0, .int .i64 0, .int .i64 0, .float .f64 0] (ne * 4)) 32))) := Lib.hid ((Below.refl _ _).alloc (Nat.le_refl _) _)
  go_loopw [26] (fun i wr => ∃ k : Nat, k ≤ ne ∧ i = .int .i64 (k : Int) ∧ Hid (RowS wr w2.heap.size ne (shS ser k (fun _ => 0) (fun _ => 0))) ∧ Hid (Below w2.heap.size w2 wr)) (fun i _ => ne - (intOf i).toNat)
  case atStart => exact ⟨0, Nat.zero_le _, rfl, Lib.hid (HMade.out.congr fun i hi => by simp [shS]), HB3⟩
  case round =>
    obtain ⟨k, hk, rfl, HS, HB⟩ := hrel
    by_cases hlt : k < ne
    · have hk2 : k < ser.length := by rw [← HNe.out]; exact hlt
      rcases HCE.out with h0 | ⟨be, offe, rfl, hbe, hcell⟩
      · omega
      · have hcs := (HB.out.cell (p := ⟨be, offe + k, none⟩) hbe).trans (hcell k hk2)
        have hcg := HS.out.c0 hlt
        have hfr := HS.out.free
        have HY : Hid (ser.getD k 0 = ser[k]) := Lib.hid (by simp [hk2])
        generalize ser[k] = y at *
        clear hcell
        go_wp2
        go_roundw
        case rel =>
          refine ⟨k + 1, by omega, by go_num, ?_, ?_⟩
          · exact Lib.hid ((HS.out.set0 k y).congr fun i _ => by rw [← HY.out]; exact shS_ser _ _ _ _ _)
          · exact Lib.hid (HB.out.setCell (Nat.le_refl _) _)
        case measure => simp [intOf]; omega
    · obtain rfl : ne = k := by omega
      have HS0 : Hid (RowS wr w2.heap.size ne (shS ser ne (cntK ser ks c 0) (fun _ => 0))) := HS
      clear HS
      have HK3 := Lib.hid (HK2.out.below HB.out (Nat.le_refl _))
      go_wp2
      go_loopw [39] (fun i wr => ∃ k : Nat, k ≤ nk ∧ i = .int .i64 (k : Int) ∧ Hid (RowS wr w2.heap.size ne (shS ser ne (cntK ser ks c k) (fun _ => 0))) ∧ Hid (Below w2.heap.size w2 wr) ∧ Hid (SlIn w.heap.size w2.heap.size wr (.slice ak nk capk) (ks.map .string))) (fun i _ => nk - (intOf i).toNat)
      case atStart => exact ⟨0, Nat.zero_le _, rfl, HS0, HB, HK3⟩
      case round =>
        obtain ⟨k, hk, rfl, HS, HB, HK3⟩ := hrel
        obtain ⟨wo, rfl⟩ : ∃ wo : World, wo = wr := ⟨_, rfl⟩
        have hszw := HB.out.size
        have hG := HS.out.lt
        by_cases hlt : k < nk
        · have hk2 : k < ks.length := by rw [← HNk.out]; exact hlt
          obtain ⟨a', n', cap', hv', -, -, -, hcx⟩ := (HK3.out.at hszw).opened
          cases hv'
          rcases hcx with h0 | ⟨bk, offk, rfl, hbk, hcell⟩
          · omega
          · have hc := hcell k hk2
            have HSK := Lib.hid (cntK_succ ser ks c k hk2)
            have HBnd := Lib.hid (fun i => cntK_le ser ks c k i (by rw [← HNe.out]; exact hne) (Nat.le_of_lt hk2))
            have HT := HOK.out ks[k] (List.getElem_mem hk2)
            have hsz := HT.size
            have HTM := Lib.hid HT.mem
            have HTL := Lib.hid (topL_le ks[k] ser c)
            generalize ks[k] = z at *
            clear hcell HT
            have HEo : Hid (SlAt wo (.slice ae ne cape) (ser.map (.int .i64))) := Lib.hid ((HE2.out.below HB.out (Nat.le_refl _)).at hszw)
            go_wp2_with fail
            refine (top_any z hsz _ ser c _ HEo.out (by rw [← HNe.out]; exact hne)).mono ?_
            rintro e w4 ⟨vt, rfl, ht, hb4⟩
            have hs4 := hb4.size
            have HT4 := Lib.hid ht
            obtain ⟨at', nt, capt, rfl, HNt, hcapt, hmaxt, -⟩ := (ht.at (Nat.le_refl _)).opened
            have hnt : nt < 20 := by rw [HNt.out]; have := HTL.out; have := HNe.out; omega
            have HS4 := Lib.hid (HS.out.below hb4 hG)
            have HB4 : Hid (Below w2.heap.size w2 w4) := Lib.hid (HB.out.trans (hb4.mono hszw))
            have HSK' : Hid (cntK ser ks c (k + 1) = bumps ser (cntK ser ks c k) (topL z ser c)) := HSK
            generalize topL z ser c = top at *
            clear ht hb4 HSK
            go_wp2
            go_loopw [48] (fun i wr => ∃ j : Nat, j ≤ nt ∧ i = .int .i64 (j : Int) ∧ Hid (RowS wr w2.heap.size ne (shS ser ne (bumps ser (cntK ser ks c k) (top.take j)) (fun _ => 0))) ∧ Hid (Below w2.heap.size w2 wr) ∧ w4.heap.size ≤ wr.heap.size ∧ Hid (SlIn wo.heap.size w4.heap.size wr (.slice at' nt capt) (top.map (.int .i64)))) (fun i _ => nt - (intOf i).toNat)
            case atStart => exact ⟨0, Nat.zero_le _, rfl, HS4, HB4, Nat.le_refl _, HT4⟩
            case round =>
              obtain ⟨j, hj, rfl, HS5, HB5, hsz5, HT5⟩ := hrel
              by_cases hltj : j < nt
              · have hj2 : j < top.length := by rw [← HNt.out]; exact hltj
                obtain ⟨a', n', cap', hv', -, -, -, hct⟩ := (HT5.out.at hsz5).opened
                cases hv'
                rcases hct with h0 | ⟨bt, offt, rfl, hbt, hcellt⟩
                · omega
                · have hct := hcellt j hj2
                  have HSJ := Lib.hid (bumps_snoc ser (cntK ser ks c k) top j hj2)
                  have hmem := HTM.out top[j] (List.getElem_mem hj2)
                  generalize top[j] = y at *
                  clear hcellt
                  have hidx : idxIn ser y < ne := by rw [HNe.out]; exact countP_lt hmem
                  rcases HCE.out with h0 | ⟨be, offe, rfl, hbe, hcelle⟩
                  · omega
                  · have HCX : Hid (∀ i (h : i < ser.length), wr.cell? ⟨be, offe + i, none⟩ = some (.int .i64 ser[i])) := Lib.hid (fun i h => (HB5.out.cell (p := ⟨be, offe + i, none⟩) hbe).trans (hcelle i h))
                    have HBn : Hid (0 ≤ bumps ser (cntK ser ks c k) (top.take j) (idxIn ser y) ∧ bumps ser (cntK ser ks c k) (top.take j) (idxIn ser y) ≤ 20 * (k : Int) + (top.take j).length) := Lib.hid (bumps_le ser _ _ _ _ (HBnd.out _).1 (HBnd.out _).2)
                    clear hcelle
                    go_wp2_with fail
                    refine (search_any be offe ne cape ser y _ HNe.out hne HCX.out HSO.out).mono ?_
                    rintro e w6 ⟨u, rfl, q, rfl⟩
                    have hbn := HBn.out
                    have hlen : (top.take j).length ≤ 20 := by rw [List.length_take]; omega
                    have hc1 := (HS5.out.drew q).c1 hidx
                    have hfr := (HS5.out.drew q).free
                    have HSB := Lib.hid (fun i => shS_bump ser ne (bumps ser (cntK ser ks c k) (top.take j)) (fun _ => 0) y i)
                    have HSET := Lib.hid (fun a => (HS5.out.drew q).set1 (idxIn ser y) a)
                    rw [show (shS ser ne (bumps ser (cntK ser ks c k) (top.take j)) (fun _ => 0) (idxIn ser y)).keys = bumps ser (cntK ser ks c k) (top.take j) (idxIn ser y) from rfl] at hc1
                    generalize hval : bumps ser (cntK ser ks c k) (top.take j) (idxIn ser y) = val at *
                    have HV := Lib.hid hval
                    clear hval
                    generalize hix : idxIn ser y = ix at *
                    have HIX := Lib.hid hix
                    clear hix
                    go_wp2
                    go_roundw
                    case rel =>
                      refine ⟨j + 1, by omega, by go_num, ?_, Lib.hid ((below_drewN HB5.out q).setCell (Nat.le_refl _) _), by simpa [World.drewN] using hsz5, Lib.hid ?_⟩
                      · refine Lib.hid ((HSET.out _).congr fun i _ => ?_)
                        rw [HSJ.out]
                        exact HSB.out i
                      · exact (HT5.out.below (below_drewN (Below.refl wr.heap.size wr) q) hsz5).setOther (by omega)
                    case measure => simp [intOf]; omega
              · obtain rfl : nt = j := by omega
                have HF : Hid (bumps ser (cntK ser ks c k) (top.take nt) = cntK ser ks c (k + 1)) := by rw [HNt.out, List.take_length, HSK'.out]; exact Lib.hid rfl
                have hw5 : w2.heap.size ≤ wr.heap.size := HB5.out.size
                go_wp2
                go_roundw
                case rel =>
                  refine ⟨k + 1, by omega, by go_num, ?_, HB5, Lib.hid (HK2.out.below HB5.out (Nat.le_refl _))⟩
                  rw [← HF.out]; exact HS5
                case measure => simp [intOf]; omega
        · obtain rfl : nk = k := by omega
          have HBnd := Lib.hid (fun i => cntK_le ser ks c nk i (by rw [← HNe.out]; exact hne) (Nat.le_of_eq HNk.out))
          have HRK : Hid (cntK ser ks c nk = cntK ser ks c ks.length) := by rw [← HNk.out]; exact Lib.hid rfl
          go_wp2
          go_loopw [70] (fun i wr => ∃ (k : Nat) (r : Nat → Nat), k ≤ ne ∧ i = .int .i64 (k : Int) ∧ Hid (RowS wr w2.heap.size ne (shS ser ne (cntK ser ks c nk) r)) ∧ Hid (Below w2.heap.size w2 wr) ∧ Hid (∀ i, i < k → RatioIs (cntK ser ks c nk i) nk (r i))) (fun i _ => ne - (intOf i).toNat)
          case atStart => exact ⟨0, fun _ => 0, Nat.zero_le _, rfl, HS, HB, Lib.hid (fun i h => absurd h (Nat.not_lt_zero _))⟩
          case round =>
            obtain ⟨k, r, hk, rfl, HS, HB, HR⟩ := hrel
            by_cases hlt : k < ne
            · have hc1 := HS.out.c1 hlt
              have hbn := HBnd.out k
              rw [show (shS ser ne (cntK ser ks c nk) r k).keys = cntK ser ks c nk k from rfl] at hc1
              generalize hval : cntK ser ks c nk k = val at *
              have HV := Lib.hid hval
              clear hval
              go_wp2_with fail
              refine (ratio_any val nk _).mono ?_
              rintro e w6 ⟨rr, q, rfl, hr, rfl⟩
              have HRR := Lib.hid hr
              have hc3 := (HS.out.drew q).c3 hlt
              have hfr := (HS.out.drew q).free
              have HSET := Lib.hid (fun a => (HS.out.drew q).set3 k a)
              clear hr
              go_wp2
              go_roundw
              case rel =>
                refine ⟨k + 1, fun x => if x = k then rr else r x, by omega, by go_num, ?_, Lib.hid ((below_drewN HB.out q).setCell (Nat.le_refl _) _), Lib.hid ?_⟩
                · exact Lib.hid ((HSET.out _).congr fun i _ => shS_part _ _ _ _ _ _ _)
                · intro i hi
                  by_cases e : i = k
                  · subst e; simp only [if_pos]; rw [HV.out]; exact HRR.out
                  · simp only [if_neg e]; exact HR.out i (by omega)
              case measure => simp [intOf]; omega
            · obtain rfl : ne = k := by omega
              go_wp2
              go_ret
              refine ⟨_, (List.range ne).map (shS ser ne (cntK ser ks c nk) r), rfl, ?_, ⟨by simp [HNe.out], fun i h h2 => ?_⟩, HB2.out.trans (HB.out.mono (by omega))⟩
              · rw [← HNe.out]; exact HS.out.slN (by omega)
              · have hi : i < ne := by simpa using h
                simp only [List.getElem_map, List.getElem_range]
                rw [← HNk.out]
                refine ⟨by simp [shS, hi, h2], rfl, rfl, HR.out i hi⟩
end Go.Proofs.Ythapnanemkjhhaa
