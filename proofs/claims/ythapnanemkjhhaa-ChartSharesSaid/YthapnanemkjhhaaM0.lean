/- The mixing of 64-bit words, without any program: what is mixed comes back, and the product by adding is the product. No condition. -/
import Derived.Laws.Bits64
namespace Go.Proofs.Ythapnanemkjhhaa

/-! Plain: mixing on words of 64 bits. -/
def stepB (x : BitVec 64) (s : Nat) (c : BitVec 64) : BitVec 64 := (x ^^^ x >>> s) * c
def mixB (x : BitVec 64) : BitVec 64 := stepB (stepB (stepB x 30 0xbf58476d1ce4e5b9#64) 27 0x94d049bb133111eb#64) 31 1#64

theorem wrap_u64B (n : Int) : IntKind.u64.wrap n = ((BitVec.ofInt 64 n).toNat : Int) := by
  rw [IntKind.wrap_u64, BitVec.toNat_ofInt]
  exact (Int.toNat_of_nonneg (Int.emod_nonneg n (by decide : ((2 ^ 64 : Nat) : Int) ≠ 0))).symm

theorem ofInt_toNatB (v : BitVec 64) : BitVec.ofInt 64 (v.toNat : Int) = v := by
  rw [BitVec.ofInt_natCast]; simp

theorem xorB (v u : BitVec 64) : bits .xor .u64 (v.toNat : Int) (u.toNat : Int) = ((v ^^^ u).toNat : Int) := by
  rw [bits_xor_u64_nat _ _ v.isLt u.isLt, BitVec.toNat_xor]

theorem shrB (v : BitVec 64) (k : Nat) : ((v.toNat : Int) / ((2 ^ k : Nat) : Int)) = ((v >>> k).toNat : Int) := by
  rw [BitVec.toNat_ushiftRight, Nat.shiftRight_eq_div_pow]; exact (Int.natCast_ediv _ _).symm

theorem mulB (v u : BitVec 64) : IntKind.u64.wrap ((v.toNat : Int) * (u.toNat : Int)) = ((v * u).toNat : Int) := by
  rw [wrap_u64B, ← Int.natCast_mul, BitVec.ofInt_natCast]; simp [BitVec.toNat_mul]

theorem addB (v u : BitVec 64) : IntKind.u64.wrap ((v.toNat : Int) + (u.toNat : Int)) = ((v + u).toNat : Int) := by
  rw [wrap_u64B, ← Int.natCast_add, BitVec.ofInt_natCast]; simp [BitVec.toNat_add]

theorem subB (v u : BitVec 64) : IntKind.u64.wrap ((v.toNat : Int) - (u.toNat : Int)) = ((v - u).toNat : Int) := by
  rw [IntKind.wrap_u64, BitVec.toNat_sub]
  have := v.isLt; have := u.isLt
  omega

theorem stepI (v : BitVec 64) (s : Nat) (c : BitVec 64) : IntKind.u64.wrap (bits .xor .u64 (v.toNat : Int) ((v.toNat : Int) / ((2 ^ s : Nat) : Int)) * (c.toNat : Int)) = ((stepB v s c).toNat : Int) := by
  rw [shrB, xorB, mulB]; rfl

/-- the chain that the walk leaves -/
theorem mixI (v : BitVec 64) :
    IntKind.u64.wrap (bits .xor .u64 (IntKind.u64.wrap (bits .xor .u64 (IntKind.u64.wrap (bits .xor .u64 (v.toNat : Int) ((v.toNat : Int) / 1073741824) * 13787848793156543929)) (IntKind.u64.wrap (bits .xor .u64 (v.toNat : Int) ((v.toNat : Int) / 1073741824) * 13787848793156543929) / 134217728) * 10723151780598845931)) (IntKind.u64.wrap (bits .xor .u64 (IntKind.u64.wrap (bits .xor .u64 (v.toNat : Int) ((v.toNat : Int) / 1073741824) * 13787848793156543929)) (IntKind.u64.wrap (bits .xor .u64 (v.toNat : Int) ((v.toNat : Int) / 1073741824) * 13787848793156543929) / 134217728) * 10723151780598845931) / 2147483648)) = ((mixB v).toNat : Int) := by
  have h1 := stepI v 30 0xbf58476d1ce4e5b9#64
  have h2 := stepI (stepB v 30 0xbf58476d1ce4e5b9#64) 27 0x94d049bb133111eb#64
  have h3 := stepI (stepB (stepB v 30 0xbf58476d1ce4e5b9#64) 27 0x94d049bb133111eb#64) 31 1#64
  simp only [show ((2 ^ 30 : Nat) : Int) = 1073741824 from rfl, show ((2 ^ 27 : Nat) : Int) = 134217728 from rfl, show ((2 ^ 31 : Nat) : Int) = 2147483648 from rfl,
    show ((0xbf58476d1ce4e5b9#64).toNat : Int) = 13787848793156543929 from rfl, show ((0x94d049bb133111eb#64).toNat : Int) = 10723151780598845931 from rfl, show ((1#64).toNat : Int) = 1 from rfl, Int.mul_one] at h1 h2 h3
  rw [h1, h2, h3]; rfl

/-! the reference's product and its halving -/
def timesTo : Nat → Nat × Nat × Nat → Nat × Nat × Nat
  | 0, s => s
  | k + 1, s => let t := timesTo k s; (if t.2.2 % 2 = 1 then (t.1 + t.2.1) % 2 ^ 64 else t.1, (t.2.1 + t.2.1) % 2 ^ 64, t.2.2 / 2)

theorem timesTo_inv (k A B : Nat) (hA : A < 2 ^ 64) : ((timesTo k (0, A, B)).1 + (timesTo k (0, A, B)).2.1 * (timesTo k (0, A, B)).2.2) % 2 ^ 64 = A * B % 2 ^ 64 ∧ (timesTo k (0, A, B)).2.2 = B / 2 ^ k ∧ (timesTo k (0, A, B)).1 < 2 ^ 64 ∧ (timesTo k (0, A, B)).2.1 < 2 ^ 64 := by
  induction k with
  | zero => simp [timesTo]; exact hA
  | succ k ih =>
    obtain ⟨h1, h2, h3, h4⟩ := ih
    simp only [timesTo]
    generalize timesTo k (0, A, B) = t at *
    obtain ⟨s, a, b⟩ := t
    dsimp only at *
    refine ⟨?_, ?_, ?_, ?_⟩
    · rw [← h1]
      have hb : b = 2 * (b / 2) + b % 2 := (Nat.div_add_mod b 2).symm
      have e : a * b = (a + a) * (b / 2) + a * (b % 2) := by
        conv => lhs; rw [hb, Nat.mul_add]
        rw [Nat.two_mul, Nat.mul_add, Nat.add_mul]
      rw [e]
      by_cases h : b % 2 = 1
      · rw [if_pos h, h, Nat.mul_one]
        rw [show s + ((a + a) * (b / 2) + a) = (s + a) + (a + a) * (b / 2) by omega]
        rw [Nat.add_mod ((s + a) % _), Nat.mul_mod ((a + a) % _), Nat.mod_mod, Nat.mod_mod, ← Nat.mul_mod, ← Nat.add_mod]
      · rw [if_neg h, show b % 2 = 0 by omega, Nat.mul_zero, Nat.add_zero]
        rw [Nat.add_mod s, Nat.mul_mod ((a + a) % _), Nat.mod_mod, ← Nat.mul_mod, ← Nat.add_mod]
    · rw [h2, Nat.div_div_eq_div_mul, Nat.pow_succ]
    · split
      · exact Nat.mod_lt _ (by decide)
      · exact h3
    · exact Nat.mod_lt _ (by decide)

theorem timesTo_64 (v u : BitVec 64) : (timesTo 64 (0, v.toNat, u.toNat)).1 = (v * u).toNat := by
  obtain ⟨h1, h2, h3, -⟩ := timesTo_inv 64 v.toNat u.toNat v.isLt
  rw [Nat.div_eq_of_lt u.isLt] at h2
  rw [h2, Nat.mul_zero, Nat.add_zero, Nat.mod_eq_of_lt h3] at h1
  rw [h1, BitVec.toNat_mul]

/-! back again -/
def upB (y : BitVec 64) (d : Nat) : BitVec 64 :=
  if d = 30 then y ^^^ y >>> 30 ^^^ y >>> 60 else if d = 27 then y ^^^ y >>> 27 ^^^ y >>> 54 else y ^^^ y >>> 31 ^^^ y >>> 62
def i1 : BitVec 64 := 0x96de1b173f119089#64
def i2 : BitVec 64 := 0x319642b2d24d8ec3#64
def backB (x : BitVec 64) : BitVec 64 := upB (upB (upB (x * 1#64) 31 * i2) 27 * i1) 30

theorem up_down (x : BitVec 64) (d : Nat) (h : d = 30 ∨ d = 27 ∨ d = 31) : upB (x ^^^ x >>> d) d = x := by
  rcases h with rfl | rfl | rfl
  all_goals
    simp only [upB]
    simp only [BitVec.ushiftRight_xor_distrib, ← BitVec.shiftRight_add]
    ext i hi
    simp
  all_goals
    rw [BitVec.getLsbD_of_ge _ _ (by omega)]
    simp

theorem down_up (x : BitVec 64) (d : Nat) (h : d = 30 ∨ d = 27 ∨ d = 31) : upB x d ^^^ upB x d >>> d = x := by
  rcases h with rfl | rfl | rfl
  all_goals
    simp only [upB]
    simp only [reduceIte, Nat.reduceEqDiff]
    simp only [BitVec.ushiftRight_xor_distrib, ← BitVec.shiftRight_add]
    ext i hi
    simp
  all_goals
    simp [BitVec.getLsbD_of_ge x (90 + i) (by omega), BitVec.getLsbD_of_ge x (81 + i) (by omega), BitVec.getLsbD_of_ge x (93 + i) (by omega)]
  · cases x.getLsbD (30 + i) <;> cases x.getLsbD (60 + i) <;> simp
  · cases x.getLsbD (27 + i) <;> cases x.getLsbD (54 + i) <;> simp
  · cases x.getLsbD (31 + i) <;> cases x.getLsbD (62 + i) <;> simp

theorem back_mix (x : BitVec 64) : backB (mixB x) = x := by
  unfold backB mixB stepB
  rw [BitVec.mul_one, BitVec.mul_one, up_down _ 31 (by simp), BitVec.mul_assoc, show (0x94d049bb133111eb#64 * i2) = 1#64 from by decide, BitVec.mul_one, up_down _ 27 (by simp),
    BitVec.mul_assoc, show (0xbf58476d1ce4e5b9#64 * i1) = 1#64 from by decide, BitVec.mul_one, up_down _ 30 (by simp)]

theorem mix_back (x : BitVec 64) : mixB (backB x) = x := by
  unfold backB mixB stepB
  rw [down_up _ 30 (by simp), BitVec.mul_assoc, show (i1 * 0xbf58476d1ce4e5b9#64) = 1#64 from by decide, BitVec.mul_one (upB (upB (x * 1#64) 31 * i2) 27), down_up _ 27 (by simp),
    BitVec.mul_assoc, show (i2 * 0x94d049bb133111eb#64) = 1#64 from by decide, BitVec.mul_one, BitVec.mul_one, down_up _ 31 (by simp), BitVec.mul_one]

theorem mixB_inj (x y : BitVec 64) : mixB x = mixB y ↔ x = y :=
  ⟨fun h => by rw [← back_mix x, h, back_mix], fun h => by rw [h]⟩

/-- of a text -/
def textB (l : List UInt8) (seed : BitVec 64) : BitVec 64 :=
  l.foldl (fun x b => mixB (x ^^^ BitVec.ofNat 64 b.toNat)) (mixB (seed + BitVec.ofNat 64 l.length))

def textTo (l : List UInt8) (seed : BitVec 64) (k : Nat) : BitVec 64 :=
  (l.take k).foldl (fun x b => mixB (x ^^^ BitVec.ofNat 64 b.toNat)) (mixB (seed + BitVec.ofNat 64 l.length))
theorem textTo_zero (l : List UInt8) (seed : BitVec 64) : textTo l seed 0 = mixB (seed + BitVec.ofNat 64 l.length) := rfl
theorem textTo_succ (l : List UInt8) (seed : BitVec 64) (k : Nat) (h : k < l.length) : textTo l seed (k + 1) = mixB (textTo l seed k ^^^ BitVec.ofNat 64 l[k].toNat) := by
  unfold textTo
  rw [List.take_succ_eq_append_getElem h, List.foldl_append]; rfl
theorem textTo_all (l : List UInt8) (seed : BitVec 64) : textTo l seed l.length = textB l seed := by
  unfold textTo textB; rw [List.take_length]
def pairB (a b : BitVec 64) : BitVec 64 := mixB (a ^^^ mixB b)

theorem pairB_inj_left (a c b : BitVec 64) : pairB a b = pairB c b ↔ a = c := by
  unfold pairB; rw [mixB_inj, BitVec.xor_left_inj]
theorem pairB_inj_right (a b c : BitVec 64) : pairB a b = pairB a c ↔ b = c := by
  unfold pairB; rw [mixB_inj, BitVec.xor_right_inj, mixB_inj]
theorem pair_back1 (a b : BitVec 64) : backB (pairB a b) ^^^ mixB b = a := by
  unfold pairB; rw [back_mix, BitVec.xor_assoc, BitVec.xor_self, BitVec.xor_zero]
theorem pair_back2 (a b : BitVec 64) : backB (backB (pairB a b) ^^^ a) = b := by
  unfold pairB; rw [back_mix, BitVec.xor_comm a, BitVec.xor_assoc, BitVec.xor_self, BitVec.xor_zero, back_mix]

theorem textB_snoc (l : List UInt8) (a b : UInt8) (seed : BitVec 64) : textB (l ++ [a]) seed = textB (l ++ [b]) seed ↔ a = b := by
  unfold textB
  rw [List.foldl_append, List.foldl_append]
  simp only [List.length_append, List.length_singleton, List.foldl_cons, List.foldl_nil]
  rw [mixB_inj, BitVec.xor_right_inj]
  constructor
  · intro h
    have := congrArg BitVec.toNat h
    simp only [BitVec.toNat_ofNat] at this
    have h1 := a.toNat_lt; have h2 := b.toNat_lt
    exact UInt8.toNat_inj.1 (by omega)
  · rintro rfl; rfl

def newtB (c v : BitVec 64) : BitVec 64 := v * (2#64 - c * v)
def invB (c : BitVec 64) : BitVec 64 := newtB c (newtB c (newtB c (newtB c (newtB c c))))
theorem newtI (c v : BitVec 64) : IntKind.u64.wrap ((v.toNat : Int) * IntKind.u64.wrap (2 - IntKind.u64.wrap ((c.toNat : Int) * (v.toNat : Int)))) = ((newtB c v).toNat : Int) := by
  rw [mulB]
  have h := subB 2#64 (c * v)
  rw [show (((2#64).toNat : Nat) : Int) = 2 from rfl] at h
  rw [h, mulB]; rfl
theorem inv_second : invB 0x94d049bb133111eb#64 = i2 := by decide
theorem inv_first : invB 0xbf58476d1ce4e5b9#64 = i1 := by decide
theorem inv_one : invB 1#64 = 1#64 := by decide
theorem upI (v : BitVec 64) (a b : Nat) : bits .xor .u64 (bits .xor .u64 (v.toNat : Int) ((v.toNat : Int) / ((2 ^ a : Nat) : Int))) ((v.toNat : Int) / ((2 ^ b : Nat) : Int)) = ((v ^^^ v >>> a ^^^ v >>> b).toNat : Int) := by
  rw [shrB, shrB, xorB, xorB]
/-- a word of 64 bits -/
def U64 (x : Int) : Prop := ∃ v : BitVec 64, x = (v.toNat : Int)
theorem U64.wrap (n : Int) : U64 (IntKind.u64.wrap n) := ⟨_, wrap_u64B n⟩
theorem U64.of (v : BitVec 64) : U64 (v.toNat : Int) := ⟨v, rfl⟩
theorem U64.back {x : Int} (h : U64 x) : ((BitVec.ofInt 64 x).toNat : Int) = x := by obtain ⟨v, rfl⟩ := h; rw [ofInt_toNatB]
theorem U64.nonneg {x : Int} (h : U64 x) : 0 ≤ x := by obtain ⟨v, rfl⟩ := h; exact Int.natCast_nonneg _
theorem ofInt_wrap (n : Int) : BitVec.ofInt 64 (IntKind.u64.wrap n) = BitVec.ofInt 64 n := by rw [wrap_u64B, ofInt_toNatB]
theorem wrap_id {x : Int} (h : U64 x) : IntKind.u64.wrap x = x := by rw [wrap_u64B, h.back]
theorem ofInt_mulB (v u : BitVec 64) : BitVec.ofInt 64 ((v.toNat : Int) * (u.toNat : Int)) = v * u := by
  have h := mulB v u
  rw [wrap_u64B] at h
  exact BitVec.eq_of_toNat_eq (by omega)
/-- a word as the walk holds it: closed to simp -/
def wI (v : BitVec 64) : Int := (v.toNat : Int)
def bI (x : Int) : BitVec 64 := BitVec.ofInt 64 x
theorem bI_wI (v : BitVec 64) : bI (wI v) = v := ofInt_toNatB v
theorem U64.of' (v : BitVec 64) : U64 (wI v) := ⟨v, rfl⟩
theorem U64.bits (op : BinOp) (x y : Int) : U64 (bits op .u64 x y) := U64.wrap _
theorem U64.wI {x : Int} (h : U64 x) : wI (bI x) = x := h.back
theorem bI_xor (x y : Int) : bI (Go.bits .xor .u64 x y) = bI x ^^^ bI y := by
  show BitVec.ofInt 64 (IntKind.u64.wrap ((BitVec.ofInt 64 x ^^^ BitVec.ofInt 64 y).toNat : Int)) = _
  rw [ofInt_wrap, ofInt_toNatB]; rfl
theorem bI_wrap (n : Int) : bI (IntKind.u64.wrap n) = bI n := ofInt_wrap n
theorem bI_add (x y : Int) : bI (x + y) = bI x + bI y := BitVec.ofInt_add x y
theorem bI_nat (n : Nat) : bI (n : Int) = BitVec.ofNat 64 n := BitVec.ofInt_natCast 64 n
theorem wI_bounds (v : BitVec 64) : 0 ≤ wI v ∧ wI v < 18446744073709551616 := by unfold wI; have := v.isLt; omega
theorem wI_beq (v u : BitVec 64) : (wI v == wI u) = (v == u) := by
  rw [Bool.eq_iff_iff, beq_iff_eq, beq_iff_eq]
  exact ⟨fun h => by rw [← bI_wI v, h, bI_wI], fun h => by rw [h]⟩
theorem U64.beq {x y : Int} (h : U64 x) (h' : U64 y) : (x == y) = (bI x == bI y) := by
  rw [← wI_beq, h.wI, h'.wI]
theorem mix_eqb {x y : Int} (h : U64 x) (h' : U64 y) : (wI (mixB (bI x)) == wI (mixB (bI y))) = (x == y) := by
  rw [wI_beq, h.beq h', Bool.eq_iff_iff, beq_iff_eq, beq_iff_eq, mixB_inj]
theorem pair_eqb1 {x y : Int} (h : U64 x) (h' : U64 y) {c : BitVec 64} : (wI (pairB (bI x) c) == wI (pairB (bI y) c)) = (x == y) := by
  rw [wI_beq, h.beq h', Bool.eq_iff_iff, beq_iff_eq, beq_iff_eq, pairB_inj_left]
theorem pair_eqb2 {x y : Int} (h : U64 x) (h' : U64 y) {c : BitVec 64} : (wI (pairB c (bI x)) == wI (pairB c (bI y))) = (x == y) := by
  rw [wI_beq, h.beq h', Bool.eq_iff_iff, beq_iff_eq, beq_iff_eq, pairB_inj_right]
theorem mixB_one : mixB 1#64 = 6238072747940578789#64 := by decide
theorem mixB_zero : mixB 0#64 = 0#64 := by decide
end Go.Proofs.Ythapnanemkjhhaa
