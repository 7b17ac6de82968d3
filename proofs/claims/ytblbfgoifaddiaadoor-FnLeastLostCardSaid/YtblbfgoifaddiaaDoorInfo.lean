/- The sizes and zero values of the element types. -/
import Derived.Test.YtblbfgoifaddiaaDoorProg
import Derived.KernelRfl
namespace Go.Proofs.YtblbfgoifaddiaaDoor
theorem info_int : (Tryd.prog.info? 3).map (fun i => (i.zero, i.size, i.bytes)) = some (some (.int .i64 0), 1, 8) := by kernel_rfl
end Go.Proofs.YtblbfgoifaddiaaDoor
