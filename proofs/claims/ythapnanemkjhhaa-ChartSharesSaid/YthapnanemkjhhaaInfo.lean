/- Facts on the element types, off the program's table. No condition. -/
import Derived.Test.YthapnanemkjhhaaProg
import Derived.KernelRfl
namespace Go.Proofs.Ythapnanemkjhhaa
theorem info_int : (Try.prog.info? 3).map (fun i => (i.zero, i.size, i.bytes)) = some (some (.int .i64 0), 1, 8) := by kernel_rfl
theorem info_string : (Try.prog.info? 9).map (fun i => (i.zero, i.size, i.bytes)) = some (some (.string ByteArray.empty), 1, 16) := by kernel_rfl
end Go.Proofs.Ythapnanemkjhhaa
