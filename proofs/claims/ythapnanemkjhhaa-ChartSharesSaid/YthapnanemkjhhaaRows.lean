/-
  No cell of these rows narrows 'for every input' (looked for: loops, veiled, ifaces, maps, wideKeys, modest, calm, conditions, laid).
  DERIVED. THE GIVEN ROWS OF THIS SEAT. 4 by the template 'for every input the law returns true; each argument reads behind the call as it read before'; 0 by the template 'total and deterministic' (their statements: YthapnanemkjhhaaTotals.lean).
  GIVEN WITH THE SEED: the statements are not yours to turn. If you find one false, say at which input.
  Laid BY PROGRAM, IN A SANDBOX (cutbox-rows.mjs): the forced cells as the released guide's own fill.sh prints them over the translation cdbe1b8d0cb1e9e3… (all of the seat's roots in one cut). By AI agents, Wed Nov 11 2026. No macro, syntax, notation, axiom, sorry.
-/
import Derived.Test.YthapnanemkjhhaaChecked
import GoSem.Claim
import GoSem.ClaimJoined
import GoSem.ClaimMapViews
import Derived.JoinedTies
import Derived.KernelRfl
namespace Go.Proofs.Ythapnanemkjhhaa
/- THE CELL 'sum', in the pinned program and in every row, IS THE sha256 OF THE DUMP (.gsa) THAT YthapnanemkjhhaaProg.lean LOADS. Nothing in Lean hashes anything: it is a label: what it is worth is what the hold of that sum in a sandbox is worth. -/
noncomputable def Try.pinned : Pinned := { name := "ythapnanemkjhhaa", sum := "cdbe1b8d0cb1e9e383bb2bcdeb561a2b0355169d979f8316658e62ed791d8a90", checked := Try.checked }
namespace Rows
def none {H : Type} : Left H := { results := [], args := [] }

/-- 'bandolierlaw29.ChartShares': WHATEVER THE INPUT: true; the input reads as it did. -/
def chartSharesSpec : ChangeSpec := { name := "chartShares", fn := fun _ => fun
  | [d1, d2, d3] => { results := [.lit (.bool true)], args := [d1, d2, d3] }
  | _ => none }
def chartSharesRow : OpenClaim := { program := "ythapnanemkjhhaa", sum := "cdbe1b8d0cb1e9e383bb2bcdeb561a2b0355169d979f8316658e62ed791d8a90", func := "bandolier/bandolierlaw29.ChartShares", spec := "chartShares", inPlace := ["math.Float64bits"], unfollowed := true, recurses := true, apart := false }
def ChartSharesSaid : Prop := chartSharesRow.holds Try.pinned (OpenSpec.ofChange chartSharesSpec)

/-- ITS FALSE NEIGHBOUR: 'it returns false'. Refute it at one input. -/
def chartSharesWrong : ChangeSpec := { name := "chartShares", fn := fun _ => fun
  | [d1, d2, d3] => { results := [.lit (.bool false)], args := [d1, d2, d3] }
  | _ => none }
def ChartSharesWrongFalsely : Prop := chartSharesRow.holds Try.pinned (OpenSpec.ofChange chartSharesWrong)

/-- 'bandolierlaw29.ChartPlans': WHATEVER THE INPUT: true; the input reads as it did. -/
def chartPlansSpec : ChangeSpec := { name := "chartPlans", fn := fun _ => fun
  | [d] => { results := [.lit (.bool true)], args := [d] }
  | _ => none }
def chartPlansRow : OpenClaim := { program := "ythapnanemkjhhaa", sum := "cdbe1b8d0cb1e9e383bb2bcdeb561a2b0355169d979f8316658e62ed791d8a90", func := "bandolier/bandolierlaw29.ChartPlans", spec := "chartPlans", inPlace := ["math.Float64bits"], unfollowed := true, recurses := true, apart := false }
def ChartPlansSaid : Prop := chartPlansRow.holds Try.pinned (OpenSpec.ofChange chartPlansSpec)

/-- ITS FALSE NEIGHBOUR: 'it returns false'. Refute it at one input. -/
def chartPlansWrong : ChangeSpec := { name := "chartPlans", fn := fun _ => fun
  | [d] => { results := [.lit (.bool false)], args := [d] }
  | _ => none }
def ChartPlansWrongFalsely : Prop := chartPlansRow.holds Try.pinned (OpenSpec.ofChange chartPlansWrong)

/-- 'bandolierlaw29.ChartStays': WHATEVER THE INPUT: true; the input reads as it did. -/
def chartStaysSpec : ChangeSpec := { name := "chartStays", fn := fun _ => fun
  | [d1, d2, d3] => { results := [.lit (.bool true)], args := [d1, d2, d3] }
  | _ => none }
def chartStaysRow : OpenClaim := { program := "ythapnanemkjhhaa", sum := "cdbe1b8d0cb1e9e383bb2bcdeb561a2b0355169d979f8316658e62ed791d8a90", func := "bandolier/bandolierlaw29.ChartStays", spec := "chartStays", inPlace := ["math.Float64bits"], unfollowed := true, recurses := true, apart := false }
def ChartStaysSaid : Prop := chartStaysRow.holds Try.pinned (OpenSpec.ofChange chartStaysSpec)

/-- ITS FALSE NEIGHBOUR: 'it returns false'. Refute it at one input. -/
def chartStaysWrong : ChangeSpec := { name := "chartStays", fn := fun _ => fun
  | [d1, d2, d3] => { results := [.lit (.bool false)], args := [d1, d2, d3] }
  | _ => none }
def ChartStaysWrongFalsely : Prop := chartStaysRow.holds Try.pinned (OpenSpec.ofChange chartStaysWrong)

/-- 'bandolierlaw29.ChartSpreads': WHATEVER THE INPUT: true; the input reads as it did. -/
def chartSpreadsSpec : ChangeSpec := { name := "chartSpreads", fn := fun _ => fun
  | [d1, d2] => { results := [.lit (.bool true)], args := [d1, d2] }
  | _ => none }
def chartSpreadsRow : OpenClaim := { program := "ythapnanemkjhhaa", sum := "cdbe1b8d0cb1e9e383bb2bcdeb561a2b0355169d979f8316658e62ed791d8a90", func := "bandolier/bandolierlaw29.ChartSpreads", spec := "chartSpreads", inPlace := ["math.Float64bits", "math.Float64frombits"], unfollowed := true, recurses := true, apart := false }
def ChartSpreadsSaid : Prop := chartSpreadsRow.holds Try.pinned (OpenSpec.ofChange chartSpreadsSpec)

/-- ITS FALSE NEIGHBOUR: 'it returns false'. Refute it at one input. -/
def chartSpreadsWrong : ChangeSpec := { name := "chartSpreads", fn := fun _ => fun
  | [d1, d2] => { results := [.lit (.bool false)], args := [d1, d2] }
  | _ => none }
def ChartSpreadsWrongFalsely : Prop := chartSpreadsRow.holds Try.pinned (OpenSpec.ofChange chartSpreadsWrong)

/- THE SECOND FORM. 'bulk': how many values and letters a reading holds, each counted each time it is reached (what is shared counts as often as it is met; a slice's spare places count too). A statement '..UptoSaid' is the law's where the arguments, and the package variables that the reading takes, are together of bulk at most 1048576: NARROWER than '..Said'. Prove '..Said' where nothing that the law and all that it calls make is longer than what came in: it says more and counts as full. Else prove '..UptoSaid'. A law counts once. -/
mutual
def uptoBulk {H : Type} : DataW H → Nat
  | .lit (.string bytes) => bytes.length + 1
  | .lit _ => 1
  | .nil => 1
  | .ptr d => uptoBulk d + 1
  | .slice elems spare => uptoBulkAll elems + uptoBulkAll spare + 1
  | .agg parts => uptoBulkAll parts + 1
  | .iface _ d => uptoBulk d + 1
  | .map entries => uptoBulkEntries entries + 1
  | .held _ => 1
def uptoBulkAll {H : Type} : List (DataW H) → Nat
  | [] => 0
  | d :: r => uptoBulk d + uptoBulkAll r
def uptoBulkEntries {H : Type} : List (Lit × DataW H) → Nat
  | [] => 0
  | x :: r => uptoBulkEntry x + uptoBulkEntries r
def uptoBulkEntry {H : Type} : Lit × DataW H → Nat
  | (.string bytes, d) => bytes.length + uptoBulk d + 1
  | (_, d) => uptoBulk d + 1
 end
def uptoSmall : (H : Type) → List (DataW H) → Bool := fun _ ds => decide (uptoBulkAll ds ≤ 1048576)
def OpenSpec.upto (s : _root_.Go.ChangeSpec) : _root_.Go.OpenSpec := { _root_.Go.OpenSpec.ofChange s with cond := some uptoSmall }

/-- 'bandolierlaw29.ChartShares', WHERE WHAT IT READS IS OF BULK AT MOST 1048576: true; the input reads as it did. -/
def chartSharesUptoRow : OpenClaim := { program := "ythapnanemkjhhaa", sum := "cdbe1b8d0cb1e9e383bb2bcdeb561a2b0355169d979f8316658e62ed791d8a90", func := "bandolier/bandolierlaw29.ChartShares", spec := "chartShares", inPlace := ["math.Float64bits"], unfollowed := true, recurses := true, apart := false, narrowed := true }
def ChartSharesUptoSaid : Prop := chartSharesUptoRow.holds Try.pinned (OpenSpec.upto chartSharesSpec)

/-- 'bandolierlaw29.ChartPlans', WHERE WHAT IT READS IS OF BULK AT MOST 1048576: true; the input reads as it did. -/
def chartPlansUptoRow : OpenClaim := { program := "ythapnanemkjhhaa", sum := "cdbe1b8d0cb1e9e383bb2bcdeb561a2b0355169d979f8316658e62ed791d8a90", func := "bandolier/bandolierlaw29.ChartPlans", spec := "chartPlans", inPlace := ["math.Float64bits"], unfollowed := true, recurses := true, apart := false, narrowed := true }
def ChartPlansUptoSaid : Prop := chartPlansUptoRow.holds Try.pinned (OpenSpec.upto chartPlansSpec)

/-- 'bandolierlaw29.ChartStays', WHERE WHAT IT READS IS OF BULK AT MOST 1048576: true; the input reads as it did. -/
def chartStaysUptoRow : OpenClaim := { program := "ythapnanemkjhhaa", sum := "cdbe1b8d0cb1e9e383bb2bcdeb561a2b0355169d979f8316658e62ed791d8a90", func := "bandolier/bandolierlaw29.ChartStays", spec := "chartStays", inPlace := ["math.Float64bits"], unfollowed := true, recurses := true, apart := false, narrowed := true }
def ChartStaysUptoSaid : Prop := chartStaysUptoRow.holds Try.pinned (OpenSpec.upto chartStaysSpec)

/-- 'bandolierlaw29.ChartSpreads', WHERE WHAT IT READS IS OF BULK AT MOST 1048576: true; the input reads as it did. -/
def chartSpreadsUptoRow : OpenClaim := { program := "ythapnanemkjhhaa", sum := "cdbe1b8d0cb1e9e383bb2bcdeb561a2b0355169d979f8316658e62ed791d8a90", func := "bandolier/bandolierlaw29.ChartSpreads", spec := "chartSpreads", inPlace := ["math.Float64bits", "math.Float64frombits"], unfollowed := true, recurses := true, apart := false, narrowed := true }
def ChartSpreadsUptoSaid : Prop := chartSpreadsUptoRow.holds Try.pinned (OpenSpec.upto chartSpreadsSpec)

end Rows
end Go.Proofs.Ythapnanemkjhhaa
