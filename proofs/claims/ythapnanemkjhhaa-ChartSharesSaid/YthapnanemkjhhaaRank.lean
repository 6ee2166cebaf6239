/- Plain: the order of devices by weight. No condition. -/
import Derived.Test.YthapnanemkjhhaaM0
namespace Go.Proofs.Ythapnanemkjhhaa

/-- a key's weight on a device -/
def wt (key : ByteArray) (n : Int) : BitVec 64 := pairB (textB key.data.toList (bI 0)) (bI n)
def hasB (zs : List Int) (x : Int) : Bool := zs.contains x
theorem hasB_iff (zs : List Int) (x : Int) : hasB zs x = true ↔ x ∈ zs := by unfold hasB; simp

def refStep (key : ByteArray) (out : List Int) (best s : Int) : Int :=
  if hasB out s = true then best else
  if best < 0 then s else if wI (wt key best) < wI (wt key s) then s else
  if wI (wt key s) = wI (wt key best) ∧ s < best then s else best
def refBest (key : ByteArray) (out zs : List Int) : Int := zs.foldl (refStep key out) (-1)
def refTo (key : ByteArray) (zs : List Int) : Nat → List Int
  | 0 => []
  | t + 1 => let out := refTo key zs t; let b := refBest key out zs; if 0 ≤ b then out ++ [b] else out
def refOrder (key : ByteArray) (zs : List Int) : List Int := refTo key zs zs.length
theorem refTo_length (key : ByteArray) (zs : List Int) (t : Nat) : (refTo key zs t).length ≤ t := by
  induction t with
  | zero => simp [refTo]
  | succ t ih =>
    simp only [refTo]
    split
    · simp; exact ih
    · omega
theorem refBest_snoc (key : ByteArray) (out zs : List Int) (k : Nat) (h : k < zs.length) : refBest key out (zs.take (k + 1)) = refStep key out (refBest key out (zs.take k)) zs[k] := by
  unfold refBest
  rw [List.take_succ_eq_append_getElem h, List.foldl_append]; rfl
theorem refStep_in {key : ByteArray} {out : List Int} {b z : Int} (h : hasB out z = true) : refStep key out b z = b := by unfold refStep; rw [if_pos h]
theorem refStep_neg {key : ByteArray} {out : List Int} {b z : Int} (h : ¬ hasB out z = true) (h2 : b < 0) : refStep key out b z = z := by unfold refStep; rw [if_neg h, if_pos h2]
theorem refStep_gt {key : ByteArray} {out : List Int} {b z : Int} (h : ¬ hasB out z = true) (h2 : 0 ≤ b) (h3 : wI (wt key b) < wI (wt key z)) : refStep key out b z = z := by unfold refStep; rw [if_neg h, if_neg (Int.not_lt.2 h2), if_pos h3]
theorem refStep_tie {key : ByteArray} {out : List Int} {b z : Int} (h : ¬ hasB out z = true) (h2 : 0 ≤ b) (h3 : wI (wt key z) ≤ wI (wt key b)) (h4 : wI (wt key z) = wI (wt key b)) (h5 : z < b) : refStep key out b z = z := by unfold refStep; rw [if_neg h, if_neg (Int.not_lt.2 h2), if_neg (Int.not_lt.2 h3), if_pos ⟨h4, h5⟩]
theorem refStep_no {key : ByteArray} {out : List Int} {b z : Int} (h : ¬ hasB out z = true) (h2 : 0 ≤ b) (h3 : wI (wt key z) ≤ wI (wt key b)) (h4 : ¬ (wI (wt key z) = wI (wt key b) ∧ z < b)) : refStep key out b z = b := by unfold refStep; rw [if_neg h, if_neg (Int.not_lt.2 h2), if_neg (Int.not_lt.2 h3), if_neg h4]
end Go.Proofs.Ythapnanemkjhhaa
