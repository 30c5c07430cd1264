/- The laws of chapter 05: small walks, FramePuts. -/
import Derived.Test.YtgkadhogfejheaaFrmR
namespace Go.Proofs.Ytgkadhogfejheaa
open Go.RowKit

namespace Frm
theorem zero_frame : (Try.prog.info? 84).bind (·.zero) = some (.agg #[.int .i64 0, .int .i64 0, .int .i64 0, .int .i64 0, .string ⟨#[]⟩]) := by kernel_rfl
theorem zero_refframe : (Try.prog.info? 54).bind (·.zero) = some (.agg #[.int .i64 0, .int .i64 0, .int .i64 0, .int .i64 0, .string ⟨#[]⟩]) := by kernel_rfl
theorem size_frame : (Try.prog.info? 84).map (·.size) = some 5 := by kernel_rfl
theorem size_refframe : (Try.prog.info? 54).map (·.size) = some 5 := by kernel_rfl
theorem one_cells (k s q a : Int) (b : ByteArray) : (#[Value.int .i64 k, .int .i64 s, .int .i64 q, .int .i64 a, .string b]).all (·.oneCell') = true := by simp [Value.oneCell']
end Frm

end Go.Proofs.Ytgkadhogfejheaa
