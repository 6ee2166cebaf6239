/- The walk of the law ChartShares. Condition: texts no longer than 2^47 bytes. -/
import Derived.Test.YthapnanemkjhhaaStaysW
import Derived.Maps.OwnOps
import Derived.Maps.OwnSet
import Derived.Maps.Views
import Derived.Deep.RegionHeld3
import Derived.Deep.RegionWith
namespace Go.Proofs.Ythapnanemkjhhaa
open Go.RowKit Go.Maps
set_option linter.unusedVariables false
set_option linter.unusedSimpArgs false
attribute [local go_sem] run_store_float
section
variable {P : Program} {ops : Array Oper} {Q : Exit → Act → World → Prop} {md : Region.Mode}
theorem any_one {i fuel : Nat} {listed : Array Bool} {a : Act} {w : World} (hr : Region.ready md ops listed = [i]) (h : wpOp P ops Q i (wpAny P md ops Q fuel (listed.setIfInBounds i true)) a w) : wpAny P md ops Q (fuel + 1) listed a w :=
  wpAny_all hr (by simp) fun j hj => by rw [List.mem_singleton] at hj; subst hj; exact h
theorem any_two {i j fuel : Nat} {listed : Array Bool} {a : Act} {w : World} (hr : Region.ready md ops listed = [i, j]) (h : wpOp P ops Q i (wpAny P md ops Q fuel (listed.setIfInBounds i true)) a w) (h' : wpOp P ops Q j (wpAny P md ops Q fuel (listed.setIfInBounds j true)) a w) : wpAny P md ops Q (fuel + 1) listed a w :=
  wpAny_all hr (by simp) fun x hx => by
    rcases List.mem_cons.1 hx with rfl | hx
    · exact h
    · rw [List.mem_singleton] at hx; subst hx; exact h'
theorem op_value {i : Nat} {o : Oper} {v : Value} {K : Act → World → Prop} {a : Act} {w : World} (ho : ops[i]? = some o) (hw : Region.wanted o (yielded ops a.tmps) = true) (hrun : (execOp a.eval o).run P w = .ok (.value v) w) (h : K (a.put o.dst v) w) : wpOp P ops Q i K a w :=
  wpOp_step ho fun K' hK => by rw [if_pos hw]; unfold Oper.wp; rw [hrun]; exact hK _ _ h
theorem op_call {i : Nat} {o : Oper} {f : FuncId} {args : Array Value} {K : Act → World → Prop} {a : Act} {w : World} (ho : ops[i]? = some o) (hw : Region.wanted o (yielded ops a.tmps) = true) (hrun : (execOp a.eval o).run P w = .ok (.enter f args) w) (h : Calls P f args w fun e w' => ∃ v, e = .returned v ∧ K (a.put o.dst v) w') : wpOp P ops Q i K a w :=
  wpOp_step ho fun K' hK => by
    rw [if_pos hw]
    unfold Oper.wp
    rw [hrun]
    exact h.mono fun e w'' ⟨v, he, hk⟩ => by subst he; exact hK _ _ hk
end
theorem eval_same {a : Act} {d : Nat} {v : Value} (h : d < a.tmps.size) : (a.put (some d) v).eval (.tmp d) = v := by
  simp [Act.eval, Act.put, Array.getD, h]
theorem eval_other {a : Act} {d t : Nat} {v : Value} (h : d ≠ t) : (a.put (some d) v).eval (.tmp t) = a.eval (.tmp t) := by
  simp [Act.eval, Act.put, Array.getElem?_setIfInBounds_ne h]
theorem size_put' {a : Act} {d : Nat} {v : Value} : (a.put (some d) v).tmps.size = a.tmps.size := by simp [Act.put]
theorem wanted_at {ops : Array Oper} {o oj : Oper} {j d : Nat} {b c : Bool} {a : Act} (hg : o.guard = some (j, b)) (hj : ops[j]? = some oj) (hd : oj.dst = some d) (hv : a.eval (.tmp d) = .bool c) (hs : d < a.tmps.size) : Region.wanted o (yielded ops a.tmps) = (c == b) := by
  have h1 : a.tmps[d]? = some (.bool c) := by
    rw [Array.getElem?_eq_getElem hs]
    simp only [Act.eval, Array.getD, hs, dif_pos] at hv
    exact congrArg some hv
  have h2 : yielded ops a.tmps j = some c := by simp [yielded, hj, hd, h1]
  simp [Region.wanted, hg, h2]
theorem yields_of {P : Program} {ops : Array Oper} {o : Oper} {v : Value} {a : Act} (F : (Operand → Value) → Prop) (hF : F a.eval) (hrun : ∀ ρ, F ρ → ∀ w, (execOp ρ o).run P w = .ok (.value v) w) (hw : Region.wanted o (yielded ops a.tmps) = true) : Yields P ops o v a :=
  Or.inl ⟨hw, hrun _ hF⟩
theorem run_of {P : Program} {o : Oper} {w : World} {r : Result Next} {a : Act} (F : (Operand → Value) → Prop) (hF : F a.eval) (hrun : ∀ ρ, F ρ → (execOp ρ o).run P w = r) : (execOp a.eval o).run P w = r := hrun _ hF
theorem take' {P : Program} {ops : Array Oper} {Q : Exit → Act → World → Prop} {md : Region.Mode} {i d : Nat} {oi : Oper} {v : Value} {fuel : Nat} {listed : Array Bool} {a : Act} {w : World} (hi : ops[i]? = some oi) (hd : oi.dst = some d)
    (hs : Region.noSelect ops = true) (hf : Region.free md ops listed i = true) (hr : (Region.ready md ops listed).contains i = true)
    (hQ : ∀ c a w, Q (.panic c) (a.put (some d) v) w → Q (.panic c) a w) (hy : Yields P ops oi v a)
    (h : wpAny P md ops Q fuel (listed.setIfInBounds i true) (a.put (some d) v) w) : wpAny P md ops Q (fuel + 1) listed a w :=
  wpAny_take hi hs hf hr (by rw [hd]; exact hQ) hy (by rw [hd]; exact h)
theorem op_value' {P : Program} {ops : Array Oper} {Q : Exit → Act → World → Prop} {i d : Nat} {o : Oper} {v : Value} {K : Act → World → Prop} {a : Act} {w : World} (ho : ops[i]? = some o) (hd : o.dst = some d) (hw : Region.wanted o (yielded ops a.tmps) = true) (hrun : (execOp a.eval o).run P w = .ok (.value v) w) (h : K (a.put (some d) v) w) : wpOp P ops Q i K a w :=
  op_value ho hw hrun (by rw [hd]; exact h)
theorem op_call' {P : Program} {ops : Array Oper} {Q : Exit → Act → World → Prop} {i d : Nat} {o : Oper} {f : FuncId} {args : Array Value} {K : Act → World → Prop} {a : Act} {w : World} (ho : ops[i]? = some o) (hd : o.dst = some d) (hw : Region.wanted o (yielded ops a.tmps) = true) (hrun : (execOp a.eval o).run P w = .ok (.enter f args) w) (h : Calls P f args w fun e w' => ∃ v, e = .returned v ∧ K (a.put (some d) v) w') : wpOp P ops Q i K a w :=
  op_call ho hw hrun (by rw [hd]; exact h)
theorem op_valueE {P : Program} {ops : Array Oper} {Q : Exit → Act → World → Prop} {md : Region.Mode} {i n d fuel : Nat} {listed : Array Bool} {o : Oper} {v : Value} {a : Act} {w : World} (hin : i = n) (ho : ops[n]? = some o) (hd : o.dst = some d) (hw : Region.wanted o (yielded ops a.tmps) = true) (hrun : (execOp a.eval o).run P w = .ok (.value v) w)
    (h : wpAny P md ops Q fuel (listed.setIfInBounds n true) (a.put (some d) v) w) : wpOp P ops Q i (wpAny P md ops Q fuel (listed.setIfInBounds i true)) a w := by
  subst hin; exact op_value' ho hd hw hrun h
theorem op_callE {P : Program} {ops : Array Oper} {Q : Exit → Act → World → Prop} {md : Region.Mode} {i n d fuel : Nat} {listed : Array Bool} {o : Oper} {f : FuncId} {args : Array Value} {a : Act} {w : World} (hin : i = n) (ho : ops[n]? = some o) (hd : o.dst = some d) (hw : Region.wanted o (yielded ops a.tmps) = true) (hrun : (execOp a.eval o).run P w = .ok (.enter f args) w)
    (h : Calls P f args w fun e w' => ∃ v, e = .returned v ∧ wpAny P md ops Q fuel (listed.setIfInBounds n true) (a.put (some d) v) w') : wpOp P ops Q i (wpAny P md ops Q fuel (listed.setIfInBounds i true)) a w := by
  subst hin; exact op_call' ho hd hw hrun h
theorem lawInt : Keyed Try.prog 3 := int_keyed Try.underlying3
theorem zeroInt (w : World) : (zeroValue 3).run Try.prog w = .ok (.int .i64 0) w := by kernel_rfl
theorem map_below {H : Type} {P : Program} {k : TypeId} {R : Value → Option (DataW H × List MemPlace)} {b n B : Nat} {D : DataW H} {w w' : World} (h : w.ownsMap P k R b n D) (hb : Below B w w') (hB : b < B) : w'.ownsMap P k R b n D := by
  obtain ⟨es, clock, hh, r⟩ := h
  exact ⟨es, clock, (hb.block b hB).trans hh, r⟩
/-- how often a device was seen -/
def seenTo (L : List ShareD) (k : Nat) (z : Int) : Int := if (L.take k).any (fun x => x.serial == z) = true then 1 else 0
theorem seenTo_new {L : List ShareD} {k : Nat} (h : k < L.length) (hn : ∀ j (hj : j < L.length), j < k → L[j].serial ≠ L[k].serial) : seenTo L k L[k].serial = 0 := by
  unfold seenTo
  rw [if_neg]
  rw [List.any_eq_true]
  rintro ⟨x, hx, he⟩
  obtain ⟨j, hj, rfl⟩ := List.getElem_of_mem hx
  rw [List.length_take] at hj
  rw [List.getElem_take, beq_iff_eq] at he
  exact hn j (by omega) (by omega) he
theorem seenTo_succ (L : List ShareD) (k : Nat) (h : k < L.length) (z : Int) : seenTo L (k + 1) z = if z = L[k].serial then 1 else seenTo L k z := by
  unfold seenTo
  rw [List.take_succ_eq_append_getElem h, List.any_append]
  by_cases he : z = L[k].serial
  · subst he; simp
  · have : (L[k].serial == z) = false := beq_eq_false_iff_ne.2 fun h => he h.symm
    rw [if_neg he]; simp [this]
theorem seenTo_all {L : List ShareD} {z : Int} (h : ∃ j, ∃ hj : j < L.length, L[j].serial = z) : seenTo L L.length z = 1 := by
  unfold seenTo
  rw [List.take_length, if_pos]
  obtain ⟨j, hj, he⟩ := h
  exact List.any_eq_true.2 ⟨_, List.getElem_mem hj, by rw [beq_iff_eq]; exact he⟩
theorem sumL_le (s0 ser : List Int) (ks : List ByteArray) (c : Int) (k i : Nat) (h : i ≤ ser.length) : sumL s0 ser ks c k i ≤ i * k := by
  induction i with
  | zero => simp [sumL]
  | succ i ih =>
    rw [sumL_succ ks c k i (by omega), Nat.add_mul, Nat.one_mul]
    have := ih (by omega)
    have := cntL_le s0 ks c ser[i] k
    omega
theorem small_mul {a b : Nat} (ha : a ≤ 8) (hb : b ≤ 30) : a * b ≤ 240 := Nat.mul_le_mul ha hb
def litI (n : Int) : DataW Unit := .lit (.int .i64 n)
theorem litI_inj {a b : Int} (h : litI a = litI b) : a = b := by unfold litI at h; injection h with h; injection h
theorem key_inj {a b : Int} (h : Lit.int .i64 a = Lit.int .i64 b) : a = b := by injection h
set_option maxRecDepth 100000 in
set_option maxHeartbeats 4000000 in
theorem sharesLaw_walk (vk vs : Value) (ks0 : List ByteArray) (ser0 : List Int) (c : Int) (w : World) (hk : SlAt w vk (ks0.map .string)) (hs : SlAt w vs (ser0.map (.int .i64))) (hks : ∀ s ∈ ks0, s.size ≤ 140737488351232) :
    Calls Try.prog 3 #[vk, vs, .int .i64 c] w fun e w' => e = .returned (.bool true) ∧ Below w.heap.size w w' := by
  obtain ⟨ak, nk, capk, rfl, -⟩ := hk.opened
  obtain ⟨asr, ns, caps, rfl, -⟩ := hs.opened
  have HK := Lib.hid hk
  have HS := Lib.hid hs
  have HKS := Lib.hid hks
  clear hk hs hks
  have hmm := @run_makeMap Try.prog
  go_enter Try.func3, Try.ntmps3
  go_wp2_with fail
  refine (awake_any _).mono ?_
  rintro e w1 ⟨rfl, hb1⟩
  go_wp2_with fail
  refine (keysOf_any _ ks0 _ (HK.out.below hb1) HKS.out).mono ?_
  rintro e w2 ⟨v2, rfl, ho2, hb2⟩
  have hb12 := hb1.trans (hb2.mono hb1.size)
  go_wp2_with fail
  refine (few_any _ ser0 _ (HS.out.below hb12)).mono ?_
  rintro e w3 ⟨v3, rfl, ho3, hb3⟩
  have HB3 := Lib.hid (hb12.trans (hb3.mono hb12.size))
  have HA3 := Lib.hid ((SlAt.owned ho2).below hb3)
  have HS3 := Lib.hid (SlAt.owned ho3)
  clear hb1 hb2 hb3 hb12 ho2 ho3 HK HS HKS
  obtain ⟨a3, n3, cap3, rfl, HN3, hcap3, hmax3, hcell3⟩ := HS3.out.opened
  have HC3 := Lib.hid hcell3
  clear hcell3
  have hn3 : n3 ≤ 8 := by rw [HN3.out]; exact few_le ser0
  have hsz3 := HB3.out.size
  go_wp2_with fail
  refine (shares_any v2 _ (keysL ks0) (fewL ser0) c _ HA3.out HS3.out (onceS (keysL ks0)) rfl (onceI (fewL ser0)) rfl (top_ok ks0 ser0 c) (le_of_lt_pw (onceI_ok _).1) (by have := keys_le ks0; omega) (by have := few_le ser0; omega) (by have := onceS_le (keysL ks0); have := keys_le ks0; omega) (by have := once_few_le ser0; omega)).mono ?_
  rintro e w4 ⟨v4, L, rfl, hL4, hLok, hb4⟩
  have HA4 := Lib.hid (HA3.out.below hb4)
  have HS4 := Lib.hid (HS3.out.below hb4)
  have HB4 := Lib.hid (HB3.out.trans (hb4.mono hsz3))
  have hsz4 := HB4.out.size
  clear hb4 HA3 HB3
  go_wp2_with fail
  refine (keys29_any v2 (keysL ks0) _ HA4.out (by have := keys_le ks0; omega)).mono ?_
  rintro e w5 ⟨v5, rfl, hK5, hb5⟩
  have HS5 := Lib.hid (HS4.out.below hb5)
  have HL5 := Lib.hid (hL4.below hb5)
  have HB5 := Lib.hid (HB4.out.trans (hb5.mono hsz4))
  have hsz5 := HB5.out.size
  obtain ⟨a5, K, cap5, rfl, HK5, hcap5, hmax5, hcell5⟩ := (hK5.at (Nat.le_refl _)).opened
  have HC5 := Lib.hid hcell5
  have hKb : K ≤ 30 := by rw [HK5.out]; exact Nat.le_trans (keysTo_length _ _ (Nat.le_refl _)) (keys_le ks0)
  have hks : onceS (keysL ks0) = refKeys (keysL ks0) := onceS_eq _
  rw [hks] at hLok
  have hkey : ∀ s ∈ refKeys (keysL ks0), s.size ≤ 140737488351232 := fun s h => refKeys_size h
  have HKEY := Lib.hid hkey
  have hser := onceI_ok (fewL ser0)
  have hson : onceI (fewL ser0) = onceI (fewL ser0) := rfl
  have hsn := few_le ser0
  have hLlen := hLok.len
  have hLb : L.length ≤ 8 := by rw [hLlen]; exact once_few_le ser0
  have hsum : ∀ i, i ≤ L.length → sumL (fewL ser0) (onceI (fewL ser0)) (refKeys (keysL ks0)) c K i ≤ 240 := fun i hi => Nat.le_trans (sumL_le _ _ _ _ _ _ (by rw [← hLlen]; exact hi)) (small_mul (by omega) hKb)
  have hall := sumL_all (ser_few ser0) rfl (refKeys (keysL ks0)) c (refKeys (keysL ks0)).length (Nat.le_refl _)
  rw [← hLlen, ← HK5.out] at hall
  have hat : ∀ i (h : i < L.length), L[i].serial ∈ fewL ser0 ∧ L[i].keys = (cntL (fewL ser0) (refKeys (keysL ks0)) c L[i].serial K : Nat) ∧ L[i].sectors = 0 ∧ RatioIs (cntL (fewL ser0) (refKeys (keysL ks0)) c L[i].serial K : Nat) (K : Nat) L[i].part ∧
      sumL (fewL ser0) (onceI (fewL ser0)) (refKeys (keysL ks0)) c K (i + 1) = sumL (fewL ser0) (onceI (fewL ser0)) (refKeys (keysL ks0)) c K i + cntL (fewL ser0) (refKeys (keysL ks0)) c L[i].serial K := by
    intro i h
    have h2 : i < (onceI (fewL ser0)).length := by rw [← hLlen]; exact h
    obtain ⟨e1, e2, e3, e4⟩ := hLok.at' i h h2
    rw [cntK_eq (ser_few ser0) rfl _ _ _ (Nat.le_refl _) i h2, ← e1, ← HK5.out] at e2 e4
    refine ⟨?_, e2, e3, e4, ?_⟩
    · rw [e1]; exact (hser.2 _).1 (List.getElem_mem h2)
    · rw [e1]; exact sumL_succ _ _ _ _ h2
  have hlt' : ∀ i j (hi : i < L.length) (hj : j < L.length), i < j → L[i].serial < L[j].serial := fun i j hi hj hij => by
    have hi2 : i < (onceI (fewL ser0)).length := by rw [← hLlen]; exact hi
    have hj2 : j < (onceI (fewL ser0)).length := by rw [← hLlen]; exact hj
    rw [(hLok.at' i hi hi2).1, (hLok.at' j hj hj2).1]
    exact List.pairwise_iff_getElem.1 hser.1 i j hi2 hj2 hij
  have hfound : ∀ z ∈ fewL ser0, ∃ j, ∃ hj : j < L.length, L[j].serial = z := fun z hz => by
    obtain ⟨j, hj, he⟩ := List.getElem_of_mem ((hser.2 z).2 hz)
    have hj' : j < L.length := by rw [hLlen]; exact hj
    exact ⟨j, hj', by rw [(hLok.at' j hj' hj).1, he]⟩
  have HAT := Lib.hid hat
  have HLT := Lib.hid hlt'
  have HFO := Lib.hid hfound
  have HSUM := Lib.hid hsum
  have HALL := Lib.hid hall
  have HSM0 : Hid (sumL (fewL ser0) (onceI (fewL ser0)) (refKeys (keysL ks0)) c K 0 = 0) := Lib.hid rfl
  obtain ⟨a4, cap4, rfl, -, hc4, hm4, hcell4⟩ := HL5.out
  rw [← hLlen] at hc4 hcell4 ⊢
  have HC4 := Lib.hid hcell4
  unfold maxLen at hm4
  clear hcell4 hcell5 hK5 hb5 HA4 HS4 HB4 hL4 hLok hat hlt' hfound hsum hall hser hson hks hkey hLlen HL5 HS3
  generalize sumL (fewL ser0) (onceI (fewL ser0)) (refKeys (keysL ks0)) c K = SM at *
  generalize refKeys (keysL ks0) = KS at *
  have HSB := Lib.hid (fun z (h : z ∈ fewL ser0) => few_bd h)
  have hsl := few_le ser0
  generalize fewL ser0 = s at *
  obtain ⟨a3', n3', cap3', he3, -, -, -, hcell3⟩ := HS5.out.opened
  cases he3
  have HC35 := Lib.hid hcell3
  clear hcell3 HC3
  go_wp2
  go_loopw [9, 33] (fun sm i wr => ∃ (k : Nat) (D : DataW Unit), k ≤ L.length ∧ i = .int .i64 (k : Int) ∧ sm = .int .i64 (SM k : Int) ∧ Hid (wr.ownsMap Try.prog 3 (plainElem Try.prog 3) w5.heap.size k D) ∧ Hid (∀ z, D.atKey (.int .i64 z) (litI 0) = litI (seenTo L k z)) ∧ Hid (Below w5.heap.size w5 wr) ∧ w5.heap.size < wr.heap.size) (fun _ i _ => L.length - (intOf i).toNat)
  case atStart =>
    refine ⟨0, _, Nat.zero_le _, rfl, by rw [HSM0.out]; rfl, Lib.hid (World.ownsMap_made _ _ _ _), Lib.hid (fun z => rfl), Lib.hid ((Below.refl _ _).alloc (Nat.le_refl _) _), by simp⟩
  case round =>
    obtain ⟨k, D, hk, rfl, rfl, HD, HDA, HB, hszB⟩ := hrel
    obtain ⟨wq, rfl⟩ : ∃ wq : World, wq = wr := ⟨_, rfl⟩
    have hszr := HB.out.size
    by_cases hlt : k < L.length
    · rcases HC4.out with hz | ⟨b4, off4, rfl, hb4, hcell⟩
      · omega
      · have hcs := share_cells hcell k hlt
        have hprev : ∀ k', k = k' + 1 → w5.cell? ⟨b4, off4 + k' * 4, none⟩ = some (.int .i64 (if h : k' < L.length then L[k'].serial else 0)) := fun k' hk' => by
          have h : k' < L.length := by omega
          rw [dif_pos h]; exact (share_cells hcell k' h).1
        obtain ⟨c1, c2, c3, c4⟩ := hcs
        rw [← HB.out.cell (p := ⟨b4, off4 + k * 4, none⟩) hb4] at c1
        rw [← HB.out.cell (p := ⟨b4, off4 + k * 4 + 1, none⟩) hb4] at c2
        rw [← HB.out.cell (p := ⟨b4, off4 + k * 4 + 2, none⟩) hb4] at c3
        rw [← HB.out.cell (p := ⟨b4, off4 + k * 4 + 3, none⟩) hb4] at c4
        obtain ⟨x0, x1, x2, x3, x5⟩ := HAT.out k hlt
        have HNEW := Lib.hid (seenTo_new hlt (fun j hj hjk => by have := HLT.out j k hj hlt hjk; omega))
        have HSUC := Lib.hid (seenTo_succ L k hlt)
        have HPL := Lib.hid (fun k' (hk' : k = k' + 1) => show (if h : k' < L.length then L[k'].serial else 0) < L[k].serial by rw [dif_pos (by omega)]; exact HLT.out k' k (by omega) hlt (by omega))
        have HPV := Lib.hid hprev
        have hsb := HSUM.out (k + 1) (by omega)
        rw [x5] at hsb
        rw [x1] at c2
        rw [x2] at c3
        generalize L[k].serial = sr at *
        generalize L[k].part = pt at *
        have hN : ∀ j, cntL s KS c sr j ≤ j := cntL_le s KS c sr
        have HNK : Hid (∀ j (h : j < KS.length), cntL s KS c sr (j + 1) = cntL s KS c sr j + if hasB (topN (refOrder KS[j] s) c) sr = true then 1 else 0) := Lib.hid (cntL_succ s KS c sr)
        have HN0 : Hid (cntL s KS c sr 0 = 0) := Lib.hid rfl
        generalize cntL s KS c sr = N at *
        have HX3 := Lib.hid x3
        have HX0 := Lib.hid x0
        have HX5 := Lib.hid x5
        have HN := Lib.hid hN
        have hNK := hN K
        clear hcell hprev x1 x2 x3 x0 x5 hN
        go_wp2
        obtain ⟨wo, hwo⟩ : ∃ wo, wo = wq.alloc (.cells #[.int .i64 sr, .int .i64 (N K : Int), .int .i64 0, .float .f64 pt] 32) := ⟨_, rfl⟩
        rw [← hwo]
        have hox : Below wq.heap.size wq wo := by rw [hwo]; exact (Below.refl _ _).alloc (Nat.le_refl _) _
        have hob : wo.heap[wq.heap.size]? = some (.cells #[.int .i64 sr, .int .i64 (N K : Int), .int .i64 0, .float .f64 pt] 32) := by rw [hwo]; exact heap_alloc_new _ _
        have hos : wq.heap.size < wo.heap.size := by rw [hwo]; simp
        have HBo := Lib.hid (HB.out.trans (hox.mono hszr))
        have HDo := Lib.hid (map_below HD.out hox hszB)
        have hszo := HBo.out.size
        have hkeep : ∀ W, Below wo.heap.size wo W → W.cell? ⟨wq.heap.size, 0, none⟩ = some (.int .i64 sr) ∧ W.cell? ⟨wq.heap.size, 1, none⟩ = some (.int .i64 (N K : Int)) ∧ W.cell? ⟨wq.heap.size, 2, none⟩ = some (.int .i64 0) ∧ W.cell? ⟨wq.heap.size, 3, none⟩ = some (.float .f64 pt) := fun W hW =>
          block4 ((hW.block _ hos).trans hob)
        have HKP := Lib.hid hkeep
        clear hwo hox hob hkeep
        generalize hXX : wq.heap.size = X at *
        have HXX := Lib.hid hXX
        clear hXX
        go_loopw [13, 40] (fun nn i w7 => ∃ j : Nat, j ≤ K ∧ i = .int .i64 (j : Int) ∧ nn = .int .i64 (N j : Int) ∧ Hid (Below wo.heap.size wo w7)) (fun _ i _ => K - (intOf i).toNat)
        case atStart => exact ⟨0, Nat.zero_le _, rfl, by rw [HN0.out]; rfl, Lib.hid (Below.refl _ _)⟩
        case round =>
          obtain ⟨j, hj, rfl, rfl, HB7⟩ := hrel
          have hNj := HN.out j
          have hb7d : Below wo.heap.size wo wr.drew := HB7.out.drew
          have hs7 := HB7.out.size
          by_cases hjl : j < K
          · rcases HC5.out with hz | ⟨b5, off5, rfl, hb5, hcell⟩
            · omega
            · have hj2 : j < KS.length := by rw [← HK5.out]; exact hjl
              have hc5 := (HB7.out.cell (p := ⟨b5, off5 + j, none⟩) (Nat.lt_of_lt_of_le hb5 hszo)).trans ((HBo.out.cell (p := ⟨b5, off5 + j, none⟩) hb5).trans (hcell j hj2))
              have hky := HKEY.out KS[j] (List.getElem_mem hj2)
              have HST := Lib.hid (HNK.out j hj2)
              have HS7 := Lib.hid (HS5.out.below (HBo.out.trans (hb7d.mono hszo)))
              generalize KS[j] = key at *
              clear hcell
              cases hh : hasB (topN (refOrder key s) c) sr
              all_goals
                have HH := Lib.hid hh
                clear hh
                go_wp2_with fail
                go_region_held3 (fun W => W.cell? ⟨X, 0, none⟩ = some (.int .i64 sr)) (exact (HKP.out _ (by assumption)).1) (first
                  | (go_at_call 13
                     refine (top29_any key hky _ s c _ HS7.out (fun z hz => by have := HSB.out z hz; omega) (by omega)).mono ?_
                     rintro e w8 ⟨v8, rfl, hs8, hb8⟩
                     have hb78 : Below wo.heap.size wo w8 := hb7d.trans (hb8.mono hb7d.size))
                  | (go_at_call 12
                     refine (has29_any v8 (topN (refOrder key s) c) sr _ (hs8.at (Nat.le_refl _))).mono ?_
                     rintro e w9 ⟨rfl, rfl⟩
                     rw [HH.out]))
                go_wp2
                go_roundw
                case rel =>
                  refine ⟨j + 1, by omega, by go_num, ?_, Lib.hid hb78⟩
                  rw [HST.out, HH.out]
                  first | rfl | go_num
                case measure => simp [intOf]; omega
          · obtain rfl : K = j := by omega
            have t1 : ((N K : Int) != (N K : Int)) = false := by simp
            have u1 : IntKind.u64.wrap (N K : Int) = N K := IntWalk.u64_in _ (by omega)
            have u2 : IntKind.u64.wrap (K : Int) = K := IntWalk.u64_in _ (by omega)
            have hbn : ∀ n, Below wo.heap.size wo (wr.drewN n) := fun n => below_drewN HB7.out n
            have hhas : hasB s sr = true := (hasB_iff _ _).2 HX0.out
            have HHAS := Lib.hid hhas
            have HS7 := Lib.hid (HS5.out.below (HBo.out.trans (hb7d.mono hszo)))
            clear hhas
            have HM : Hid (∀ n, (wr.drewN n).ownsMap Try.prog 3 (plainElem Try.prog 3) w5.heap.size k D) := Lib.hid (fun n => map_below HDo.out (hbn n) (by omega))
            have hsrb := HSB.out sr HX0.out
            have HKY : Hid (keyOf Try.prog 3 (.int .i64 sr) = some (.int .i64 sr)) := Lib.hid (keyOf_int_mk Try.underlying3 (by simp [Lit.wf, IntKind.min, IntKind.max, IntKind.signed, IntKind.bits]; omega))
            have HZ : Hid (D.atKey (.int .i64 sr) (litI 0) = litI 0) := Lib.hid (by rw [HDA.out, HNEW.out])
            have HRELM : Hid (∀ w12 : World, w12.ownsMap Try.prog 3 (plainElem Try.prog 3) w5.heap.size (k + 1) (D.put (.int .i64 sr) (litI 1)) → (∃ n, (wr.drewN n).grownBy w12 (some w5.heap.size)) → (∀ z, (D.put (.int .i64 sr) (litI 1)).atKey (.int .i64 z) (litI 0) = litI (seenTo L (k + 1) z)) ∧ Below w5.heap.size w5 w12 ∧ w5.heap.size < w12.heap.size) := Lib.hid (fun w12 ho hg => by
              obtain ⟨n, hg⟩ := hg
              have hB5 : Below w5.heap.size w5 (wr.drewN n) := HBo.out.trans ((hbn n).mono hszo)
              refine ⟨fun z => ?_, hB5.grown hg hB5.size (fun q hq => by cases hq; exact Nat.le_refl _), Nat.lt_of_lt_of_le (by have := (hbn n).size; omega) hg.size⟩
              rw [HSUC.out z]
              by_cases hz : z = sr
              · rw [if_pos hz, hz]
                exact atKey_put_same HD.out.isMap (by trivial) _ _
              · rw [if_neg hz, atKey_put_other (fun h => hz (key_inj h))]
                exact HDA.out z)
            clear hsrb
            rcases Nat.eq_zero_or_pos k with hk0 | hk0
            · have hd0 : decide ((0 : Int) < (k : Int)) = false := decide_eq_false (by omega)
              have hd1 : decide (0 < k) = false := decide_eq_false (by omega)
              have HK0 := Lib.hid hk0
              clear hk0
              obtain ⟨e0, e1, e2, e3⟩ := HKP.out wr HB7.out
              go_wp2_with fail
              refine wp_region_any (by kernel_rfl) ?_
              change wpAny _ _ _ _ _ _ _ wr.drew
              generalize hA : ({ tmps := _, defers := [] } : Act) = a
              have hsz : a.tmps.size = 127 := by rw [← hA]; rfl
              have g12 : a.eval (.tmp 12) = .pointer (some ⟨X, 0, none⟩) := by rw [← hA]; rfl
              have g13 : a.eval (.tmp 13) = .int .i64 (N K : Int) := by rw [← hA]; rfl
              have g11 : a.eval (.tmp 11) = .int .i64 (k : Int) := by rw [← hA]; rfl
              have g1 : a.eval (.tmp 1) = .slice a3 n3 cap3 := by rw [← hA]; rfl
              have g8 : a.eval (.tmp 8) = .slice a5 K cap5 := by rw [← hA]; rfl
              refine take' (i := 0) (v := .pointer (some ⟨X, 1, none⟩)) rfl rfl (by kernel_rfl) (by kernel_rfl) (by kernel_rfl) (fun _ _ _ h => h) (yields_of (fun ρ => ρ (.tmp 12) = .pointer (some ⟨X, 0, none⟩)) (by simp only [eval_same, eval_other, size_put', hsz, g12, g13, g11, g1, g8, ne_eq, Nat.reduceEqDiff, Nat.reduceLT, not_false_eq_true]) (fun ρ h0 w0 => by simp [execOp, go_sem, h0, t1, hd0, hd1, u1, u2]) rfl) ?_
              refine take' (i := 2) (v := .int .i64 (N K : Int)) rfl rfl (by kernel_rfl) (by kernel_rfl) (by kernel_rfl) (fun _ _ _ h => h) (yields_of (fun ρ => ρ (.tmp 13) = .int .i64 (N K : Int)) (by simp only [eval_same, eval_other, size_put', hsz, g12, g13, g11, g1, g8, ne_eq, Nat.reduceEqDiff, Nat.reduceLT, not_false_eq_true]) (fun ρ h0 w0 => by simp [execOp, go_sem, h0, t1, hd0, hd1, u1, u2]) rfl) ?_
              refine wpAny_all (rs := [1]) (by kernel_rfl) (by simp) (fun j hj => ?_)
              have HJ := List.mem_singleton.1 hj
              refine op_valueE (n := 1) (v := .int .i64 (N K : Int)) HJ rfl rfl rfl (run_of (fun ρ => ρ (.tmp 54) = .pointer (some ⟨X, 1, none⟩)) (by simp only [eval_same, eval_other, size_put', hsz, g12, g13, g11, g1, g8, ne_eq, Nat.reduceEqDiff, Nat.reduceLT, not_false_eq_true]) (fun ρ h0 => by simp [execOp, go_sem, h0, e1])) ?_
              refine take' (i := 3) (v := .bool false) rfl rfl (by kernel_rfl) (by kernel_rfl) (by kernel_rfl) (fun _ _ _ h => h) (yields_of (fun ρ => ρ (.tmp 55) = .int .i64 (N K : Int) ∧ ρ (.tmp 56) = .int .i64 (N K : Int)) ⟨by simp only [eval_same, eval_other, size_put', hsz, g12, g13, g11, g1, g8, ne_eq, Nat.reduceEqDiff, Nat.reduceLT, not_false_eq_true], by simp only [eval_same, eval_other, size_put', hsz, g12, g13, g11, g1, g8, ne_eq, Nat.reduceEqDiff, Nat.reduceLT, not_false_eq_true]⟩ (fun ρ ⟨h0, h1⟩ w0 => by simp [execOp, go_sem, h0, h1, t1, hd0, hd1, u1, u2]) rfl) ?_
              refine take' (i := 4) (v := .bool false) rfl rfl (by kernel_rfl) (by kernel_rfl) (by kernel_rfl) (fun _ _ _ h => h) (yields_of (fun ρ => ρ (.tmp 57) = .bool false) (by simp only [eval_same, eval_other, size_put', hsz, g12, g13, g11, g1, g8, ne_eq, Nat.reduceEqDiff, Nat.reduceLT, not_false_eq_true]) (fun ρ h0 w0 => by simp [execOp, go_sem, h0, t1, hd0, hd1, u1, u2]) rfl) ?_
              refine take' (i := 5) (v := .pointer (some ⟨X, 2, none⟩)) rfl rfl (by kernel_rfl) (by kernel_rfl) (by kernel_rfl) (fun _ _ _ h => h) (yields_of (fun ρ => ρ (.tmp 12) = .pointer (some ⟨X, 0, none⟩)) (by simp only [eval_same, eval_other, size_put', hsz, g12, g13, g11, g1, g8, ne_eq, Nat.reduceEqDiff, Nat.reduceLT, not_false_eq_true]) (fun ρ h0 w0 => by simp [execOp, go_sem, h0, t1, hd0, hd1, u1, u2]) (wanted_at (d := 58) (c := false) (b := false) rfl rfl rfl (by simp only [eval_same, eval_other, size_put', hsz, g12, g13, g11, g1, g8, ne_eq, Nat.reduceEqDiff, Nat.reduceLT, not_false_eq_true]) (by simp only [size_put', hsz, Nat.reduceLT]))) ?_
              refine wpAny_all (rs := [6]) (by kernel_rfl) (by simp) (fun j hj => ?_)
              have HJ := List.mem_singleton.1 hj
              refine op_valueE (n := 6) (v := .int .i64 0) HJ rfl rfl (wanted_at (d := 58) (c := false) (b := false) rfl rfl rfl (by simp only [eval_same, eval_other, size_put', hsz, g12, g13, g11, g1, g8, ne_eq, Nat.reduceEqDiff, Nat.reduceLT, not_false_eq_true]) (by simp only [size_put', hsz, Nat.reduceLT])) (run_of (fun ρ => ρ (.tmp 59) = .pointer (some ⟨X, 2, none⟩)) (by simp only [eval_same, eval_other, size_put', hsz, g12, g13, g11, g1, g8, ne_eq, Nat.reduceEqDiff, Nat.reduceLT, not_false_eq_true]) (fun ρ h0 => by simp [execOp, go_sem, h0, e2])) ?_
              refine take' (i := 7) (v := .bool false) rfl rfl (by kernel_rfl) (by kernel_rfl) (by kernel_rfl) (fun _ _ _ h => h) (yields_of (fun ρ => ρ (.tmp 60) = .int .i64 0 ∧ ρ (.const (.int .i64 0)) = .int .i64 0) ⟨by simp only [eval_same, eval_other, size_put', hsz, g12, g13, g11, g1, g8, ne_eq, Nat.reduceEqDiff, Nat.reduceLT, not_false_eq_true], rfl⟩ (fun ρ ⟨h0, h1⟩ w0 => by simp [execOp, go_sem, h0, h1, t1, hd0, hd1, u1, u2]) (wanted_at (d := 58) (c := false) (b := false) rfl rfl rfl (by simp only [eval_same, eval_other, size_put', hsz, g12, g13, g11, g1, g8, ne_eq, Nat.reduceEqDiff, Nat.reduceLT, not_false_eq_true]) (by simp only [size_put', hsz, Nat.reduceLT]))) ?_
              refine take' (i := 8) (v := .bool false) rfl rfl (by kernel_rfl) (by kernel_rfl) (by kernel_rfl) (fun _ _ _ h => h) (yields_of (fun ρ => ρ (.tmp 58) = .bool false ∧ ρ (.tmp 61) = .bool false ∧ ρ (.const (.bool true)) = .bool true) ⟨by simp only [eval_same, eval_other, size_put', hsz, g12, g13, g11, g1, g8, ne_eq, Nat.reduceEqDiff, Nat.reduceLT, not_false_eq_true], by simp only [eval_same, eval_other, size_put', hsz, g12, g13, g11, g1, g8, ne_eq, Nat.reduceEqDiff, Nat.reduceLT, not_false_eq_true], rfl⟩ (fun ρ ⟨h0, h1, h2⟩ w0 => by simp [execOp, go_sem, h0, h1, h2, t1, hd0, hd1, u1, u2]) rfl) ?_
              refine take' (i := 9) (v := .bool false) rfl rfl (by kernel_rfl) (by kernel_rfl) (by kernel_rfl) (fun _ _ _ h => h) (yields_of (fun ρ => ρ (.tmp 62) = .bool false) (by simp only [eval_same, eval_other, size_put', hsz, g12, g13, g11, g1, g8, ne_eq, Nat.reduceEqDiff, Nat.reduceLT, not_false_eq_true]) (fun ρ h0 w0 => by simp [execOp, go_sem, h0, t1, hd0, hd1, u1, u2]) rfl) ?_
              refine take' (i := 10) (v := .int .i64 (k : Int)) rfl rfl (by kernel_rfl) (by kernel_rfl) (by kernel_rfl) (fun _ _ _ h => h) (yields_of (fun ρ => ρ (.tmp 11) = .int .i64 (k : Int)) (by simp only [eval_same, eval_other, size_put', hsz, g12, g13, g11, g1, g8, ne_eq, Nat.reduceEqDiff, Nat.reduceLT, not_false_eq_true]) (fun ρ h0 w0 => by simp [execOp, go_sem, h0, t1, hd0, hd1, u1, u2]) (wanted_at (d := 63) (c := false) (b := false) rfl rfl rfl (by simp only [eval_same, eval_other, size_put', hsz, g12, g13, g11, g1, g8, ne_eq, Nat.reduceEqDiff, Nat.reduceLT, not_false_eq_true]) (by simp only [size_put', hsz, Nat.reduceLT]))) ?_
              refine take' (i := 11) (v := .bool false) rfl rfl (by kernel_rfl) (by kernel_rfl) (by kernel_rfl) (fun _ _ _ h => h) (yields_of (fun ρ => ρ (.tmp 64) = .int .i64 (k : Int) ∧ ρ (.const (.int .i64 0)) = .int .i64 0) ⟨by simp only [eval_same, eval_other, size_put', hsz, g12, g13, g11, g1, g8, ne_eq, Nat.reduceEqDiff, Nat.reduceLT, not_false_eq_true], rfl⟩ (fun ρ ⟨h0, h1⟩ w0 => by simp [execOp, go_sem, h0, h1, t1, hd0, hd1, u1, u2]) (wanted_at (d := 63) (c := false) (b := false) rfl rfl rfl (by simp only [eval_same, eval_other, size_put', hsz, g12, g13, g11, g1, g8, ne_eq, Nat.reduceEqDiff, Nat.reduceLT, not_false_eq_true]) (by simp only [size_put', hsz, Nat.reduceLT]))) ?_
              refine take' (i := 12) (v := .bool false) rfl rfl (by kernel_rfl) (by kernel_rfl) (by kernel_rfl) (fun _ _ _ h => h) (yields_of (fun ρ => ρ (.tmp 65) = .bool false) (by simp only [eval_same, eval_other, size_put', hsz, g12, g13, g11, g1, g8, ne_eq, Nat.reduceEqDiff, Nat.reduceLT, not_false_eq_true]) (fun ρ h0 w0 => by simp [execOp, go_sem, h0, t1, hd0, hd1, u1, u2]) (wanted_at (d := 63) (c := false) (b := false) rfl rfl rfl (by simp only [eval_same, eval_other, size_put', hsz, g12, g13, g11, g1, g8, ne_eq, Nat.reduceEqDiff, Nat.reduceLT, not_false_eq_true]) (by simp only [size_put', hsz, Nat.reduceLT]))) ?_
              refine take' (i := 13) (v := undef) rfl rfl (by kernel_rfl) (by kernel_rfl) (by kernel_rfl) (fun _ _ _ h => h) (Or.inr ⟨(wanted_at (d := 66) (c := false) (b := true) rfl rfl rfl (by simp only [eval_same, eval_other, size_put', hsz, g12, g13, g11, g1, g8, ne_eq, Nat.reduceEqDiff, Nat.reduceLT, not_false_eq_true]) (by simp only [size_put', hsz, Nat.reduceLT])), rfl⟩) ?_
              refine take' (i := 14) (v := undef) rfl rfl (by kernel_rfl) (by kernel_rfl) (by kernel_rfl) (fun _ _ _ h => h) (Or.inr ⟨(wanted_at (d := 66) (c := false) (b := true) rfl rfl rfl (by simp only [eval_same, eval_other, size_put', hsz, g12, g13, g11, g1, g8, ne_eq, Nat.reduceEqDiff, Nat.reduceLT, not_false_eq_true]) (by simp only [size_put', hsz, Nat.reduceLT])), rfl⟩) ?_
              refine take' (i := 15) (v := undef) rfl rfl (by kernel_rfl) (by kernel_rfl) (by kernel_rfl) (fun _ _ _ h => h) (Or.inr ⟨(wanted_at (d := 66) (c := false) (b := true) rfl rfl rfl (by simp only [eval_same, eval_other, size_put', hsz, g12, g13, g11, g1, g8, ne_eq, Nat.reduceEqDiff, Nat.reduceLT, not_false_eq_true]) (by simp only [size_put', hsz, Nat.reduceLT])), rfl⟩) ?_
              refine take' (i := 16) (v := undef) rfl rfl (by kernel_rfl) (by kernel_rfl) (by kernel_rfl) (fun _ _ _ h => h) (Or.inr ⟨(wanted_at (d := 66) (c := false) (b := true) rfl rfl rfl (by simp only [eval_same, eval_other, size_put', hsz, g12, g13, g11, g1, g8, ne_eq, Nat.reduceEqDiff, Nat.reduceLT, not_false_eq_true]) (by simp only [size_put', hsz, Nat.reduceLT])), rfl⟩) ?_
              refine take' (i := 17) (v := undef) rfl rfl (by kernel_rfl) (by kernel_rfl) (by kernel_rfl) (fun _ _ _ h => h) (Or.inr ⟨(wanted_at (d := 66) (c := false) (b := true) rfl rfl rfl (by simp only [eval_same, eval_other, size_put', hsz, g12, g13, g11, g1, g8, ne_eq, Nat.reduceEqDiff, Nat.reduceLT, not_false_eq_true]) (by simp only [size_put', hsz, Nat.reduceLT])), rfl⟩) ?_
              refine take' (i := 18) (v := undef) rfl rfl (by kernel_rfl) (by kernel_rfl) (by kernel_rfl) (fun _ _ _ h => h) (Or.inr ⟨(wanted_at (d := 66) (c := false) (b := true) rfl rfl rfl (by simp only [eval_same, eval_other, size_put', hsz, g12, g13, g11, g1, g8, ne_eq, Nat.reduceEqDiff, Nat.reduceLT, not_false_eq_true]) (by simp only [size_put', hsz, Nat.reduceLT])), rfl⟩) ?_
              refine take' (i := 19) (v := undef) rfl rfl (by kernel_rfl) (by kernel_rfl) (by kernel_rfl) (fun _ _ _ h => h) (Or.inr ⟨(wanted_at (d := 66) (c := false) (b := true) rfl rfl rfl (by simp only [eval_same, eval_other, size_put', hsz, g12, g13, g11, g1, g8, ne_eq, Nat.reduceEqDiff, Nat.reduceLT, not_false_eq_true]) (by simp only [size_put', hsz, Nat.reduceLT])), rfl⟩) ?_
              refine take' (i := 20) (v := undef) rfl rfl (by kernel_rfl) (by kernel_rfl) (by kernel_rfl) (fun _ _ _ h => h) (Or.inr ⟨(wanted_at (d := 66) (c := false) (b := true) rfl rfl rfl (by simp only [eval_same, eval_other, size_put', hsz, g12, g13, g11, g1, g8, ne_eq, Nat.reduceEqDiff, Nat.reduceLT, not_false_eq_true]) (by simp only [size_put', hsz, Nat.reduceLT])), rfl⟩) ?_
              refine take' (i := 21) (v := undef) rfl rfl (by kernel_rfl) (by kernel_rfl) (by kernel_rfl) (fun _ _ _ h => h) (Or.inr ⟨(wanted_at (d := 66) (c := false) (b := true) rfl rfl rfl (by simp only [eval_same, eval_other, size_put', hsz, g12, g13, g11, g1, g8, ne_eq, Nat.reduceEqDiff, Nat.reduceLT, not_false_eq_true]) (by simp only [size_put', hsz, Nat.reduceLT])), rfl⟩) ?_
              refine take' (i := 22) (v := .bool false) rfl rfl (by kernel_rfl) (by kernel_rfl) (by kernel_rfl) (fun _ _ _ h => h) (yields_of (fun ρ => ρ (.tmp 66) = .bool false ∧ ρ (.tmp 75) = undef ∧ ρ (.const (.bool false)) = .bool false) ⟨by simp only [eval_same, eval_other, size_put', hsz, g12, g13, g11, g1, g8, ne_eq, Nat.reduceEqDiff, Nat.reduceLT, not_false_eq_true], by simp only [eval_same, eval_other, size_put', hsz, g12, g13, g11, g1, g8, ne_eq, Nat.reduceEqDiff, Nat.reduceLT, not_false_eq_true], rfl⟩ (fun ρ ⟨h0, h1, h2⟩ w0 => by simp [execOp, go_sem, h0, h1, h2, t1, hd0, hd1, u1, u2]) (wanted_at (d := 63) (c := false) (b := false) rfl rfl rfl (by simp only [eval_same, eval_other, size_put', hsz, g12, g13, g11, g1, g8, ne_eq, Nat.reduceEqDiff, Nat.reduceLT, not_false_eq_true]) (by simp only [size_put', hsz, Nat.reduceLT]))) ?_
              refine take' (i := 23) (v := .bool false) rfl rfl (by kernel_rfl) (by kernel_rfl) (by kernel_rfl) (fun _ _ _ h => h) (yields_of (fun ρ => ρ (.tmp 63) = .bool false ∧ ρ (.tmp 76) = .bool false ∧ ρ (.const (.bool true)) = .bool true) ⟨by simp only [eval_same, eval_other, size_put', hsz, g12, g13, g11, g1, g8, ne_eq, Nat.reduceEqDiff, Nat.reduceLT, not_false_eq_true], by simp only [eval_same, eval_other, size_put', hsz, g12, g13, g11, g1, g8, ne_eq, Nat.reduceEqDiff, Nat.reduceLT, not_false_eq_true], rfl⟩ (fun ρ ⟨h0, h1, h2⟩ w0 => by simp [execOp, go_sem, h0, h1, h2, t1, hd0, hd1, u1, u2]) rfl) ?_
              refine take' (i := 24) (v := .bool false) rfl rfl (by kernel_rfl) (by kernel_rfl) (by kernel_rfl) (fun _ _ _ h => h) (yields_of (fun ρ => ρ (.tmp 77) = .bool false) (by simp only [eval_same, eval_other, size_put', hsz, g12, g13, g11, g1, g8, ne_eq, Nat.reduceEqDiff, Nat.reduceLT, not_false_eq_true]) (fun ρ h0 w0 => by simp [execOp, go_sem, h0, t1, hd0, hd1, u1, u2]) rfl) ?_
              refine take' (i := 25) (v := .slice a3 n3 cap3) rfl rfl (by kernel_rfl) (by kernel_rfl) (by kernel_rfl) (fun _ _ _ h => h) (yields_of (fun ρ => ρ (.tmp 1) = .slice a3 n3 cap3) (by simp only [eval_same, eval_other, size_put', hsz, g12, g13, g11, g1, g8, ne_eq, Nat.reduceEqDiff, Nat.reduceLT, not_false_eq_true]) (fun ρ h0 w0 => by simp [execOp, go_sem, h0, t1, hd0, hd1, u1, u2]) (wanted_at (d := 78) (c := false) (b := false) rfl rfl rfl (by simp only [eval_same, eval_other, size_put', hsz, g12, g13, g11, g1, g8, ne_eq, Nat.reduceEqDiff, Nat.reduceLT, not_false_eq_true]) (by simp only [size_put', hsz, Nat.reduceLT]))) ?_
              refine take' (i := 26) (v := .pointer (some ⟨X, 0, none⟩)) rfl rfl (by kernel_rfl) (by kernel_rfl) (by kernel_rfl) (fun _ _ _ h => h) (yields_of (fun ρ => ρ (.tmp 12) = .pointer (some ⟨X, 0, none⟩)) (by simp only [eval_same, eval_other, size_put', hsz, g12, g13, g11, g1, g8, ne_eq, Nat.reduceEqDiff, Nat.reduceLT, not_false_eq_true]) (fun ρ h0 w0 => by simp [execOp, go_sem, h0, t1, hd0, hd1, u1, u2]) (wanted_at (d := 78) (c := false) (b := false) rfl rfl rfl (by simp only [eval_same, eval_other, size_put', hsz, g12, g13, g11, g1, g8, ne_eq, Nat.reduceEqDiff, Nat.reduceLT, not_false_eq_true]) (by simp only [size_put', hsz, Nat.reduceLT]))) ?_
              refine wpAny_all (rs := [27]) (by kernel_rfl) (by simp) (fun j hj => ?_)
              have HJ := List.mem_singleton.1 hj
              refine op_valueE (n := 27) (v := .int .i64 sr) HJ rfl rfl (wanted_at (d := 78) (c := false) (b := false) rfl rfl rfl (by simp only [eval_same, eval_other, size_put', hsz, g12, g13, g11, g1, g8, ne_eq, Nat.reduceEqDiff, Nat.reduceLT, not_false_eq_true]) (by simp only [size_put', hsz, Nat.reduceLT])) (run_of (fun ρ => ρ (.tmp 80) = .pointer (some ⟨X, 0, none⟩)) (by simp only [eval_same, eval_other, size_put', hsz, g12, g13, g11, g1, g8, ne_eq, Nat.reduceEqDiff, Nat.reduceLT, not_false_eq_true]) (fun ρ h0 => by simp [execOp, go_sem, h0, e0])) ?_
              refine wpAny_all (rs := [28]) (by kernel_rfl) (by simp) (fun j hj => ?_)
              have HJ := List.mem_singleton.1 hj
              refine op_callE (n := 28) (f := 12) (args := #[.slice a3 n3 cap3, .int .i64 sr]) HJ rfl rfl (wanted_at (d := 78) (c := false) (b := false) rfl rfl rfl (by simp only [eval_same, eval_other, size_put', hsz, g12, g13, g11, g1, g8, ne_eq, Nat.reduceEqDiff, Nat.reduceLT, not_false_eq_true]) (by simp only [size_put', hsz, Nat.reduceLT])) (run_of (fun ρ => ρ (.func 12) = .func (.func 12) #[] #[] ∧ ρ (.tmp 79) = .slice a3 n3 cap3 ∧ ρ (.tmp 81) = .int .i64 sr) ⟨rfl, by simp only [eval_same, eval_other, size_put', hsz, g12, g13, g11, g1, g8, ne_eq, Nat.reduceEqDiff, Nat.reduceLT, not_false_eq_true], by simp only [eval_same, eval_other, size_put', hsz, g12, g13, g11, g1, g8, ne_eq, Nat.reduceEqDiff, Nat.reduceLT, not_false_eq_true]⟩ (fun ρ ⟨h0, h1, h2⟩ => by simp [execOp, go_sem, h0, h1, h2])) ?_
              refine (has29_any _ s sr _ HS7.out).mono ?_
              rintro e w9 ⟨rfl, rfl⟩
              refine ⟨_, rfl, ?_⟩
              rw [HHAS.out]
              refine take' (i := 29) (v := .bool false) rfl rfl (by kernel_rfl) (by kernel_rfl) (by kernel_rfl) (fun _ _ _ h => h) (yields_of (fun ρ => ρ (.tmp 82) = .bool true) (by simp only [eval_same, eval_other, size_put', hsz, g12, g13, g11, g1, g8, ne_eq, Nat.reduceEqDiff, Nat.reduceLT, not_false_eq_true]) (fun ρ h0 w0 => by simp [execOp, go_sem, h0, t1, hd0, hd1, u1, u2]) (wanted_at (d := 78) (c := false) (b := false) rfl rfl rfl (by simp only [eval_same, eval_other, size_put', hsz, g12, g13, g11, g1, g8, ne_eq, Nat.reduceEqDiff, Nat.reduceLT, not_false_eq_true]) (by simp only [size_put', hsz, Nat.reduceLT]))) ?_
              refine take' (i := 30) (v := .bool false) rfl rfl (by kernel_rfl) (by kernel_rfl) (by kernel_rfl) (fun _ _ _ h => h) (yields_of (fun ρ => ρ (.tmp 78) = .bool false ∧ ρ (.tmp 83) = .bool false ∧ ρ (.const (.bool true)) = .bool true) ⟨by simp only [eval_same, eval_other, size_put', hsz, g12, g13, g11, g1, g8, ne_eq, Nat.reduceEqDiff, Nat.reduceLT, not_false_eq_true], by simp only [eval_same, eval_other, size_put', hsz, g12, g13, g11, g1, g8, ne_eq, Nat.reduceEqDiff, Nat.reduceLT, not_false_eq_true], rfl⟩ (fun ρ ⟨h0, h1, h2⟩ w0 => by simp [execOp, go_sem, h0, h1, h2, t1, hd0, hd1, u1, u2]) rfl) ?_
              refine take' (i := 31) (v := .bool false) rfl rfl (by kernel_rfl) (by kernel_rfl) (by kernel_rfl) (fun _ _ _ h => h) (yields_of (fun ρ => ρ (.tmp 84) = .bool false) (by simp only [eval_same, eval_other, size_put', hsz, g12, g13, g11, g1, g8, ne_eq, Nat.reduceEqDiff, Nat.reduceLT, not_false_eq_true]) (fun ρ h0 w0 => by simp [execOp, go_sem, h0, t1, hd0, hd1, u1, u2]) rfl) ?_
              refine take' (i := 32) (v := .pointer (some ⟨X, 3, none⟩)) rfl rfl (by kernel_rfl) (by kernel_rfl) (by kernel_rfl) (fun _ _ _ h => h) (yields_of (fun ρ => ρ (.tmp 12) = .pointer (some ⟨X, 0, none⟩)) (by simp only [eval_same, eval_other, size_put', hsz, g12, g13, g11, g1, g8, ne_eq, Nat.reduceEqDiff, Nat.reduceLT, not_false_eq_true]) (fun ρ h0 w0 => by simp [execOp, go_sem, h0, t1, hd0, hd1, u1, u2]) (wanted_at (d := 85) (c := false) (b := false) rfl rfl rfl (by simp only [eval_same, eval_other, size_put', hsz, g12, g13, g11, g1, g8, ne_eq, Nat.reduceEqDiff, Nat.reduceLT, not_false_eq_true]) (by simp only [size_put', hsz, Nat.reduceLT]))) ?_
              refine take' (i := 34) (v := .int .i64 (N K : Int)) rfl rfl (by kernel_rfl) (by kernel_rfl) (by kernel_rfl) (fun _ _ _ h => h) (yields_of (fun ρ => ρ (.tmp 13) = .int .i64 (N K : Int)) (by simp only [eval_same, eval_other, size_put', hsz, g12, g13, g11, g1, g8, ne_eq, Nat.reduceEqDiff, Nat.reduceLT, not_false_eq_true]) (fun ρ h0 w0 => by simp [execOp, go_sem, h0, t1, hd0, hd1, u1, u2]) (wanted_at (d := 85) (c := false) (b := false) rfl rfl rfl (by simp only [eval_same, eval_other, size_put', hsz, g12, g13, g11, g1, g8, ne_eq, Nat.reduceEqDiff, Nat.reduceLT, not_false_eq_true]) (by simp only [size_put', hsz, Nat.reduceLT]))) ?_
              refine take' (i := 35) (v := .int .u64 (N K : Int)) rfl rfl (by kernel_rfl) (by kernel_rfl) (by kernel_rfl) (fun _ _ _ h => h) (yields_of (fun ρ => ρ (.tmp 88) = .int .i64 (N K : Int)) (by simp only [eval_same, eval_other, size_put', hsz, g12, g13, g11, g1, g8, ne_eq, Nat.reduceEqDiff, Nat.reduceLT, not_false_eq_true]) (fun ρ h0 w0 => by simp [execOp, go_sem, h0, t1, hd0, hd1, u1, u2]) (wanted_at (d := 85) (c := false) (b := false) rfl rfl rfl (by simp only [eval_same, eval_other, size_put', hsz, g12, g13, g11, g1, g8, ne_eq, Nat.reduceEqDiff, Nat.reduceLT, not_false_eq_true]) (by simp only [size_put', hsz, Nat.reduceLT]))) ?_
              refine take' (i := 36) (v := .slice a5 K cap5) rfl rfl (by kernel_rfl) (by kernel_rfl) (by kernel_rfl) (fun _ _ _ h => h) (yields_of (fun ρ => ρ (.tmp 8) = .slice a5 K cap5) (by simp only [eval_same, eval_other, size_put', hsz, g12, g13, g11, g1, g8, ne_eq, Nat.reduceEqDiff, Nat.reduceLT, not_false_eq_true]) (fun ρ h0 w0 => by simp [execOp, go_sem, h0, t1, hd0, hd1, u1, u2]) (wanted_at (d := 85) (c := false) (b := false) rfl rfl rfl (by simp only [eval_same, eval_other, size_put', hsz, g12, g13, g11, g1, g8, ne_eq, Nat.reduceEqDiff, Nat.reduceLT, not_false_eq_true]) (by simp only [size_put', hsz, Nat.reduceLT]))) ?_
              refine take' (i := 37) (v := .int .i64 (K : Int)) rfl rfl (by kernel_rfl) (by kernel_rfl) (by kernel_rfl) (fun _ _ _ h => h) (yields_of (fun ρ => ρ (.tmp 90) = .slice a5 K cap5) (by simp only [eval_same, eval_other, size_put', hsz, g12, g13, g11, g1, g8, ne_eq, Nat.reduceEqDiff, Nat.reduceLT, not_false_eq_true]) (fun ρ h0 w0 => by simp [execOp, go_sem, h0, t1, hd0, hd1, u1, u2]) (wanted_at (d := 85) (c := false) (b := false) rfl rfl rfl (by simp only [eval_same, eval_other, size_put', hsz, g12, g13, g11, g1, g8, ne_eq, Nat.reduceEqDiff, Nat.reduceLT, not_false_eq_true]) (by simp only [size_put', hsz, Nat.reduceLT]))) ?_
              refine take' (i := 38) (v := .int .u64 (K : Int)) rfl rfl (by kernel_rfl) (by kernel_rfl) (by kernel_rfl) (fun _ _ _ h => h) (yields_of (fun ρ => ρ (.tmp 91) = .int .i64 (K : Int)) (by simp only [eval_same, eval_other, size_put', hsz, g12, g13, g11, g1, g8, ne_eq, Nat.reduceEqDiff, Nat.reduceLT, not_false_eq_true]) (fun ρ h0 w0 => by simp [execOp, go_sem, h0, t1, hd0, hd1, u1, u2]) (wanted_at (d := 85) (c := false) (b := false) rfl rfl rfl (by simp only [eval_same, eval_other, size_put', hsz, g12, g13, g11, g1, g8, ne_eq, Nat.reduceEqDiff, Nat.reduceLT, not_false_eq_true]) (by simp only [size_put', hsz, Nat.reduceLT]))) ?_
              refine wpAny_all (rs := [33, 39]) (by kernel_rfl) (by simp) (fun j hj => ?_)
              rcases List.mem_cons.1 hj with HJ | hj
              · skip
                refine op_valueE (n := 33) (v := .float .f64 pt) HJ rfl rfl (wanted_at (d := 85) (c := false) (b := false) rfl rfl rfl (by simp only [eval_same, eval_other, size_put', hsz, g12, g13, g11, g1, g8, ne_eq, Nat.reduceEqDiff, Nat.reduceLT, not_false_eq_true]) (by simp only [size_put', hsz, Nat.reduceLT])) (run_of (fun ρ => ρ (.tmp 86) = .pointer (some ⟨X, 3, none⟩)) (by simp only [eval_same, eval_other, size_put', hsz, g12, g13, g11, g1, g8, ne_eq, Nat.reduceEqDiff, Nat.reduceLT, not_false_eq_true]) (fun ρ h0 => by simp [execOp, go_sem, h0, e3])) ?_
                refine wpAny_all (rs := [39]) (by kernel_rfl) (by simp) (fun j hj => ?_)
                have HJ := List.mem_singleton.1 hj
                refine op_callE (n := 39) (f := 15) (args := #[.int .u64 (N K : Int), .int .u64 (K : Int)]) HJ rfl rfl (wanted_at (d := 85) (c := false) (b := false) rfl rfl rfl (by simp only [eval_same, eval_other, size_put', hsz, g12, g13, g11, g1, g8, ne_eq, Nat.reduceEqDiff, Nat.reduceLT, not_false_eq_true]) (by simp only [size_put', hsz, Nat.reduceLT])) (run_of (fun ρ => ρ (.func 15) = .func (.func 15) #[] #[] ∧ ρ (.tmp 89) = .int .u64 (N K : Int) ∧ ρ (.tmp 92) = .int .u64 (K : Int)) ⟨rfl, by simp only [eval_same, eval_other, size_put', hsz, g12, g13, g11, g1, g8, ne_eq, Nat.reduceEqDiff, Nat.reduceLT, not_false_eq_true], by simp only [eval_same, eval_other, size_put', hsz, g12, g13, g11, g1, g8, ne_eq, Nat.reduceEqDiff, Nat.reduceLT, not_false_eq_true]⟩ (fun ρ ⟨h0, h1, h2⟩ => by simp [execOp, go_sem, h0, h1, h2])) ?_
                refine (ratio_any (N K) K _).mono ?_
                rintro e w10 ⟨rr, q, rfl, hr, hw10⟩
                obtain rfl : w10 = wr.drewN (1 + q) := hw10.trans (World.drewN_drewN wr 1 q)
                clear hw10
                refine ⟨_, rfl, ?_⟩
                have HO := Lib.hid (ratio_same HX3.out hr)
                have hrw := ratio_w hr
                refine wpAny_all (rs := [40]) (by kernel_rfl) (by simp) (fun j hj => ?_)
                have HJ := List.mem_singleton.1 hj
                refine op_callE (n := 40) (f := 14) (args := #[.float .f64 pt, .float .f64 rr]) HJ rfl rfl (wanted_at (d := 85) (c := false) (b := false) rfl rfl rfl (by simp only [eval_same, eval_other, size_put', hsz, g12, g13, g11, g1, g8, ne_eq, Nat.reduceEqDiff, Nat.reduceLT, not_false_eq_true]) (by simp only [size_put', hsz, Nat.reduceLT])) (run_of (fun ρ => ρ (.func 14) = .func (.func 14) #[] #[] ∧ ρ (.tmp 87) = .float .f64 pt ∧ ρ (.tmp 93) = .float .f64 rr) ⟨rfl, by simp only [eval_same, eval_other, size_put', hsz, g12, g13, g11, g1, g8, ne_eq, Nat.reduceEqDiff, Nat.reduceLT, not_false_eq_true], by simp only [eval_same, eval_other, size_put', hsz, g12, g13, g11, g1, g8, ne_eq, Nat.reduceEqDiff, Nat.reduceLT, not_false_eq_true]⟩ (fun ρ ⟨h0, h1, h2⟩ => by simp [execOp, go_sem, h0, h1, h2])) ?_
                refine (order_any pt rr (ratio_w HX3.out) hrw _).mono ?_
                rintro e w11 ⟨rfl, rfl⟩
                refine ⟨_, rfl, ?_⟩
                rw [HO.out]
                refine take' (i := 41) (v := .bool false) rfl rfl (by kernel_rfl) (by kernel_rfl) (by kernel_rfl) (fun _ _ _ h => h) (yields_of (fun ρ => ρ (.tmp 94) = .int .i64 0 ∧ ρ (.const (.int .i64 0)) = .int .i64 0) ⟨by simp only [eval_same, eval_other, size_put', hsz, g12, g13, g11, g1, g8, ne_eq, Nat.reduceEqDiff, Nat.reduceLT, not_false_eq_true], rfl⟩ (fun ρ ⟨h0, h1⟩ w0 => by simp [execOp, go_sem, h0, h1, t1, hd0, hd1, u1, u2]) (wanted_at (d := 85) (c := false) (b := false) rfl rfl rfl (by simp only [eval_same, eval_other, size_put', hsz, g12, g13, g11, g1, g8, ne_eq, Nat.reduceEqDiff, Nat.reduceLT, not_false_eq_true]) (by simp only [size_put', hsz, Nat.reduceLT]))) ?_
                refine take' (i := 42) (v := .bool false) rfl rfl (by kernel_rfl) (by kernel_rfl) (by kernel_rfl) (fun _ _ _ h => h) (yields_of (fun ρ => ρ (.tmp 85) = .bool false ∧ ρ (.tmp 95) = .bool false ∧ ρ (.const (.bool true)) = .bool true) ⟨by simp only [eval_same, eval_other, size_put', hsz, g12, g13, g11, g1, g8, ne_eq, Nat.reduceEqDiff, Nat.reduceLT, not_false_eq_true], by simp only [eval_same, eval_other, size_put', hsz, g12, g13, g11, g1, g8, ne_eq, Nat.reduceEqDiff, Nat.reduceLT, not_false_eq_true], rfl⟩ (fun ρ ⟨h0, h1, h2⟩ w0 => by simp [execOp, go_sem, h0, h1, h2, t1, hd0, hd1, u1, u2]) rfl) ?_
                refine wpAny_done (by kernel_rfl) ?_ _
                rw [← hA]
                simp only [Act.put, List.setIfInBounds_toArray, List.set_cons_succ, List.set_cons_zero]
                clear hA hsz g12 g13 g11 g1 g8
                have hw1 : IntKind.i64.wrap ((SM k : Int) + (N K : Int)) = (SM k : Int) + (N K : Int) := IntWalk.i64_in _ (by omega)
                clear hw1
                go_wp2_with (first
                  | (at_lookup; refine wpList_lookup_own_int _ rfl _ _ 29 rfl 3 3 .i64 lawInt Try.underlying29 Try.underlying3 (zeroInt _) w5.heap.size k D rfl (HM.out _) _ _ rfl HKY.out ?_; intro cnt hat hwc; obtain rfl : cnt = 0 := litI_inj (hat.symm.trans HZ.out); clear hat hwc)
                  | (at_mapUpdate; refine wpList_mapUpdate_own _ rfl _ _ _ 29 rfl 3 3 lawInt Try.underlying29 _ w5.heap.size k D rfl (HM.out _) (by unfold maxLen; omega) _ _ _ rfl rfl HKY.out (litI 1) [] (plainElem_int Try.underlying3 (by decide)) ?_; intro w12 hown12 hgrow12))
                go_roundw
                case rel =>
                  have hrest := HRELM.out w12 hown12 ⟨_, hgrow12⟩
                  refine ⟨k + 1, _, by omega, by go_num, ?_, Lib.hid hown12, Lib.hid hrest.1, Lib.hid hrest.2.1, hrest.2.2⟩
                  rw [HX5.out]; go_num
                case measure => simp [intOf]; omega
              · have HJ := List.mem_singleton.1 hj
                refine op_callE (n := 39) (f := 15) (args := #[.int .u64 (N K : Int), .int .u64 (K : Int)]) HJ rfl rfl (wanted_at (d := 85) (c := false) (b := false) rfl rfl rfl (by simp only [eval_same, eval_other, size_put', hsz, g12, g13, g11, g1, g8, ne_eq, Nat.reduceEqDiff, Nat.reduceLT, not_false_eq_true]) (by simp only [size_put', hsz, Nat.reduceLT])) (run_of (fun ρ => ρ (.func 15) = .func (.func 15) #[] #[] ∧ ρ (.tmp 89) = .int .u64 (N K : Int) ∧ ρ (.tmp 92) = .int .u64 (K : Int)) ⟨rfl, by simp only [eval_same, eval_other, size_put', hsz, g12, g13, g11, g1, g8, ne_eq, Nat.reduceEqDiff, Nat.reduceLT, not_false_eq_true], by simp only [eval_same, eval_other, size_put', hsz, g12, g13, g11, g1, g8, ne_eq, Nat.reduceEqDiff, Nat.reduceLT, not_false_eq_true]⟩ (fun ρ ⟨h0, h1, h2⟩ => by simp [execOp, go_sem, h0, h1, h2])) ?_
                refine (ratio_any (N K) K _).mono ?_
                rintro e w10 ⟨rr, q, rfl, hr, hw10⟩
                obtain rfl : w10 = wr.drewN (1 + q) := hw10.trans (World.drewN_drewN wr 1 q)
                clear hw10
                refine ⟨_, rfl, ?_⟩
                have HO := Lib.hid (ratio_same HX3.out hr)
                have hrw := ratio_w hr
                refine wpAny_all (rs := [33]) (by kernel_rfl) (by simp) (fun j hj => ?_)
                have HJ := List.mem_singleton.1 hj
                refine op_valueE (n := 33) (v := .float .f64 pt) HJ rfl rfl (wanted_at (d := 85) (c := false) (b := false) rfl rfl rfl (by simp only [eval_same, eval_other, size_put', hsz, g12, g13, g11, g1, g8, ne_eq, Nat.reduceEqDiff, Nat.reduceLT, not_false_eq_true]) (by simp only [size_put', hsz, Nat.reduceLT])) (run_of (fun ρ => ρ (.tmp 86) = .pointer (some ⟨X, 3, none⟩)) (by simp only [eval_same, eval_other, size_put', hsz, g12, g13, g11, g1, g8, ne_eq, Nat.reduceEqDiff, Nat.reduceLT, not_false_eq_true]) (fun ρ h0 => by simp [execOp, go_sem, h0, e3])) ?_
                refine wpAny_all (rs := [40]) (by kernel_rfl) (by simp) (fun j hj => ?_)
                have HJ := List.mem_singleton.1 hj
                refine op_callE (n := 40) (f := 14) (args := #[.float .f64 pt, .float .f64 rr]) HJ rfl rfl (wanted_at (d := 85) (c := false) (b := false) rfl rfl rfl (by simp only [eval_same, eval_other, size_put', hsz, g12, g13, g11, g1, g8, ne_eq, Nat.reduceEqDiff, Nat.reduceLT, not_false_eq_true]) (by simp only [size_put', hsz, Nat.reduceLT])) (run_of (fun ρ => ρ (.func 14) = .func (.func 14) #[] #[] ∧ ρ (.tmp 87) = .float .f64 pt ∧ ρ (.tmp 93) = .float .f64 rr) ⟨rfl, by simp only [eval_same, eval_other, size_put', hsz, g12, g13, g11, g1, g8, ne_eq, Nat.reduceEqDiff, Nat.reduceLT, not_false_eq_true], by simp only [eval_same, eval_other, size_put', hsz, g12, g13, g11, g1, g8, ne_eq, Nat.reduceEqDiff, Nat.reduceLT, not_false_eq_true]⟩ (fun ρ ⟨h0, h1, h2⟩ => by simp [execOp, go_sem, h0, h1, h2])) ?_
                refine (order_any pt rr (ratio_w HX3.out) hrw _).mono ?_
                rintro e w11 ⟨rfl, rfl⟩
                refine ⟨_, rfl, ?_⟩
                rw [HO.out]
                refine take' (i := 41) (v := .bool false) rfl rfl (by kernel_rfl) (by kernel_rfl) (by kernel_rfl) (fun _ _ _ h => h) (yields_of (fun ρ => ρ (.tmp 94) = .int .i64 0 ∧ ρ (.const (.int .i64 0)) = .int .i64 0) ⟨by simp only [eval_same, eval_other, size_put', hsz, g12, g13, g11, g1, g8, ne_eq, Nat.reduceEqDiff, Nat.reduceLT, not_false_eq_true], rfl⟩ (fun ρ ⟨h0, h1⟩ w0 => by simp [execOp, go_sem, h0, h1, t1, hd0, hd1, u1, u2]) (wanted_at (d := 85) (c := false) (b := false) rfl rfl rfl (by simp only [eval_same, eval_other, size_put', hsz, g12, g13, g11, g1, g8, ne_eq, Nat.reduceEqDiff, Nat.reduceLT, not_false_eq_true]) (by simp only [size_put', hsz, Nat.reduceLT]))) ?_
                refine take' (i := 42) (v := .bool false) rfl rfl (by kernel_rfl) (by kernel_rfl) (by kernel_rfl) (fun _ _ _ h => h) (yields_of (fun ρ => ρ (.tmp 85) = .bool false ∧ ρ (.tmp 95) = .bool false ∧ ρ (.const (.bool true)) = .bool true) ⟨by simp only [eval_same, eval_other, size_put', hsz, g12, g13, g11, g1, g8, ne_eq, Nat.reduceEqDiff, Nat.reduceLT, not_false_eq_true], by simp only [eval_same, eval_other, size_put', hsz, g12, g13, g11, g1, g8, ne_eq, Nat.reduceEqDiff, Nat.reduceLT, not_false_eq_true], rfl⟩ (fun ρ ⟨h0, h1, h2⟩ w0 => by simp [execOp, go_sem, h0, h1, h2, t1, hd0, hd1, u1, u2]) rfl) ?_
                refine wpAny_done (by kernel_rfl) ?_ _
                rw [← hA]
                simp only [Act.put, List.setIfInBounds_toArray, List.set_cons_succ, List.set_cons_zero]
                clear hA hsz g12 g13 g11 g1 g8
                have hw1 : IntKind.i64.wrap ((SM k : Int) + (N K : Int)) = (SM k : Int) + (N K : Int) := IntWalk.i64_in _ (by omega)
                clear hw1
                go_wp2_with (first
                  | (at_lookup; refine wpList_lookup_own_int _ rfl _ _ 29 rfl 3 3 .i64 lawInt Try.underlying29 Try.underlying3 (zeroInt _) w5.heap.size k D rfl (HM.out _) _ _ rfl HKY.out ?_; intro cnt hat hwc; obtain rfl : cnt = 0 := litI_inj (hat.symm.trans HZ.out); clear hat hwc)
                  | (at_mapUpdate; refine wpList_mapUpdate_own _ rfl _ _ _ 29 rfl 3 3 lawInt Try.underlying29 _ w5.heap.size k D rfl (HM.out _) (by unfold maxLen; omega) _ _ _ rfl rfl HKY.out (litI 1) [] (plainElem_int Try.underlying3 (by decide)) ?_; intro w12 hown12 hgrow12))
                go_roundw
                case rel =>
                  have hrest := HRELM.out w12 hown12 ⟨_, hgrow12⟩
                  refine ⟨k + 1, _, by omega, by go_num, ?_, Lib.hid hown12, Lib.hid hrest.1, Lib.hid hrest.2.1, hrest.2.2⟩
                  rw [HX5.out]; go_num
                case measure => simp [intOf]; omega
            · obtain ⟨k', hk'⟩ : ∃ k', k = k' + 1 := ⟨k - 1, by omega⟩
              have hpv := HPV.out k' hk'
              have hpl := HPL.out k' hk'
              generalize (if h : k' < L.length then L[k'].serial else 0) = pr at *
              obtain rfl : k' = k - 1 := by omega
              have hpc : ∀ W, Below wo.heap.size wo W → W.cell? ⟨b4, off4 + (k - 1) * 4, none⟩ = some (.int .i64 pr) := fun W hW =>
                (hW.cell (p := ⟨b4, off4 + (k - 1) * 4, none⟩) (Nat.lt_of_lt_of_le hb4 hszo)).trans ((HBo.out.cell (p := ⟨b4, off4 + (k - 1) * 4, none⟩) hb4).trans hpv)
              have HPC := Lib.hid hpc
              have hd0 : decide ((0 : Int) < (k : Int)) = true := decide_eq_true (by omega)
              have hd1 : decide (0 < k) = true := decide_eq_true (by omega)
              have hd2 : decide (sr ≤ pr) = false := decide_eq_false (by omega)
              have hk1 : (1 : Int) ≤ (k : Int) := by omega
              have hk2 : 1 ≤ k := by omega
              have hk3 : (0 : Int) ≤ (k : Int) - 1 := by omega
              have hk4 : (k : Int) - 1 < (L.length : Int) := by omega
              have s1 : IntKind.i64.wrap ((k : Int) - 1) = (k : Int) - 1 := IntWalk.i64_in _ (by omega)
              have s2 : ((k : Int) - 1).toNat = k - 1 := by omega
              clear hpv hpc hpl hk'
              go_wp2_with fail
              go_region_held3 (fun W => W.cell? ⟨b4, off4 + (k - 1) * 4, none⟩ = some (.int .i64 pr) ∧ W.cell? ⟨X, 0, none⟩ = some (.int .i64 sr) ∧ W.cell? ⟨X, 1, none⟩ = some (.int .i64 (N K : Int)) ∧ W.cell? ⟨X, 2, none⟩ = some (.int .i64 0) ∧ W.cell? ⟨X, 3, none⟩ = some (.float .f64 pt)) (first | exact ⟨HPC.out _ hb7d, HKP.out _ hb7d⟩ | exact ⟨HPC.out _ (hbn _), HKP.out _ (hbn _)⟩) (first
                | (go_at_call 12
                   refine (has29_any _ s sr _ HS7.out).mono ?_
                   rintro e w9 ⟨rfl, rfl⟩
                   rw [HHAS.out])
                | (go_at_call 15
                   refine (ratio_any (N K) K _).mono ?_
                   rintro e w10 ⟨rr, q, rfl, hr, hw10⟩
                   have HO := Lib.hid (ratio_same HX3.out hr)
                   have hrw := ratio_w hr)
                | (go_at_call 14
                   refine (order_any pt rr (ratio_w HX3.out) hrw _).mono ?_
                   rintro e w11 ⟨rfl, rfl⟩
                   rw [HO.out]))
              go_wp2_with (first
                | (at_lookup; refine wpList_lookup_own_int _ rfl _ _ 29 rfl 3 3 .i64 lawInt Try.underlying29 Try.underlying3 (zeroInt _) w5.heap.size k D rfl (HM.out _) _ _ rfl HKY.out ?_; intro cnt hat hwc; obtain rfl : cnt = 0 := litI_inj (hat.symm.trans HZ.out); clear hat hwc)
                | (at_mapUpdate; refine wpList_mapUpdate_own _ rfl _ _ _ 29 rfl 3 3 lawInt Try.underlying29 _ w5.heap.size k D rfl (HM.out _) (by unfold maxLen; omega) _ _ _ rfl rfl HKY.out (litI 1) [] (plainElem_int Try.underlying3 (by decide)) ?_; intro w12 hown12 hgrow12))
              go_roundw
              case rel =>
                have hrest := HRELM.out w12 hown12 ⟨_, hgrow12⟩
                refine ⟨k + 1, _, by omega, by go_num, ?_, Lib.hid hown12, Lib.hid hrest.1, Lib.hid hrest.2.1, hrest.2.2⟩
                rw [HX5.out]; go_num
              case measure => simp [intOf]; omega
    · obtain rfl : k = L.length := by omega
      have HS9 := Lib.hid (HS5.out.below HB.out)
      go_wp2
      go_loop [108] (fun i => ∃ j : Nat, j ≤ n3 ∧ i = .int .i64 (j : Int)) (fun i => n3 - (intOf i).toNat)
      case atStart => exact ⟨0, Nat.zero_le _, rfl⟩
      case round =>
        obtain ⟨j, hj, rfl⟩ := hrel
        by_cases hjl : j < n3
        · rcases HC35.out with hz | ⟨b3, off3, rfl, hb3, hcell⟩
          · omega
          · have hj2 : j < s.length := by rw [← HN3.out]; exact hjl
            have hc3 := (HB.out.cell (p := ⟨b3, off3 + j, none⟩) hb3).trans (hcell j hj2)
            have hsj := HSB.out s[j] (List.getElem_mem hj2)
            have HONE : Hid (D.atKey (.int .i64 s[j]) (litI 0) = litI 1) := Lib.hid (by rw [HDA.out, seenTo_all (HFO.out s[j] (List.getElem_mem hj2))])
            generalize s[j] = z at *
            have HKY : Hid (keyOf Try.prog 3 (.int .i64 z) = some (.int .i64 z)) := Lib.hid (keyOf_int_mk Try.underlying3 (by simp [Lit.wf, IntKind.min, IntKind.max, IntKind.signed, IntKind.bits]; omega))
            clear hcell hsj
            go_wp2_with (at_lookup; refine wpList_lookup_own_int _ rfl _ _ 29 rfl 3 3 .i64 lawInt Try.underlying29 Try.underlying3 (zeroInt _) w5.heap.size L.length D rfl HD.out _ _ rfl HKY.out ?_; intro cnt hat hwc; obtain rfl : cnt = 1 := litI_inj (hat.symm.trans HONE.out); clear hat hwc)
            go_round
            case rel => exact ⟨j + 1, by omega, by go_num⟩
            case measure => simp [intOf]; omega
        · obtain rfl : n3 = j := by omega
          have HFIN := Lib.hid (HB5.out.trans (HB.out.mono hsz5))
          have hA := HALL.out
          have hS := HSUM.out L.length (Nat.le_refl _)
          have hM : max (0 : Int) (min c (L.length : Int)) = ((min c.toNat L.length : Nat) : Int) := by omega
          have hfin : ((SM L.length : Int) == wrap64 ((K : Int) * max 0 (min c (L.length : Int)))) = true := by
            rw [beq_iff_eq, hM, ← Int.natCast_mul, ← hA]
            unfold wrap64
            omega
          have HF := Lib.hid hfin
          clear hA hS hM hfin
          go_wp2
          go_ret
          exact ⟨ret_bool HF.out, HFIN.out⟩
end Go.Proofs.Ythapnanemkjhhaa
