/- Plain: texts put in order one by one, each once. No condition. -/
import Derived.Laws.Strings
namespace Go.Proofs.Ythapnanemkjhhaa
def ltS (s t : ByteArray) : Bool := Op.bytesLess s.toList t.toList
def eqS (s t : ByteArray) : Bool := s.toList == t.toList
def insStep (s : ByteArray) (st : List ByteArray × Bool) (t : ByteArray) : List ByteArray × Bool :=
  (if !st.2 && ltS s t then st.1 ++ [s] ++ [t] else st.1 ++ [t], st.2 || (ltS s t || eqS s t))
def insTo (s : ByteArray) (out : List ByteArray) (k : Nat) : List ByteArray × Bool := (out.take k).foldl (insStep s) ([], false)
def refIns (s : ByteArray) (out : List ByteArray) : List ByteArray :=
  if (insTo s out out.length).2 then (insTo s out out.length).1 else (insTo s out out.length).1 ++ [s]
def keysTo (l : List ByteArray) (k : Nat) : List ByteArray := (l.take k).foldl (fun out s => refIns s out) []
def refKeys (l : List ByteArray) : List ByteArray := keysTo l l.length
theorem insTo_succ (s : ByteArray) (out : List ByteArray) (k : Nat) (h : k < out.length) : insTo s out (k + 1) = insStep s (insTo s out k) out[k] := by
  unfold insTo
  rw [List.take_succ_eq_append_getElem h, List.foldl_append]; rfl
theorem keysTo_succ (l : List ByteArray) (k : Nat) (h : k < l.length) : keysTo l (k + 1) = refIns l[k] (keysTo l k) := by
  unfold keysTo
  rw [List.take_succ_eq_append_getElem h, List.foldl_append]; rfl
theorem insTo_length (s : ByteArray) (out : List ByteArray) (k : Nat) (h : k ≤ out.length) : (insTo s out k).1.length ≤ k + (if (insTo s out k).2 then 1 else 0) := by
  induction k with
  | zero => simp [insTo]
  | succ k ih =>
    have ih := ih (by omega)
    rw [insTo_succ s out k h]
    generalize insTo s out k = st at *
    obtain ⟨L, d⟩ := st
    unfold insStep
    cases d with
    | true => simp at *; omega
    | false =>
      simp at *
      by_cases h1 : ltS s out[k] = true
      · simp [h1]; omega
      · simp [h1]; split <;> omega
theorem refIns_length (s : ByteArray) (out : List ByteArray) : (refIns s out).length ≤ out.length + 1 := by
  have h := insTo_length s out out.length (Nat.le_refl _)
  unfold refIns
  split
  · rename_i h2; rw [h2] at h; simpa using h
  · rename_i h2
    simp only [Bool.not_eq_true] at h2
    rw [h2] at h
    simpa using h
theorem keysTo_length (l : List ByteArray) (k : Nat) (h : k ≤ l.length) : (keysTo l k).length ≤ k := by
  induction k with
  | zero => simp [keysTo]
  | succ k ih =>
    rw [keysTo_succ l k h]
    have := refIns_length l[k] (keysTo l k)
    have := ih (by omega)
    omega
end Go.Proofs.Ythapnanemkjhhaa
