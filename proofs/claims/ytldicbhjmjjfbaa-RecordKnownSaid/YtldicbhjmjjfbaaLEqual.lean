/- bytes.Equal tells whether two slices of bytes read alike. -/
import Derived.Test.YtldicbhjmjjfbaaJLib
namespace Go.Proofs.Ytldicbhjmjjfbaa
open Go.RowKit

theorem info_u8 : (Try.prog.info? 5).map (fun i => (i.zero, i.size, i.bytes)) = some (some (.int .u8 0), 1, 1) := by kernel_rfl
end Go.Proofs.Ytldicbhjmjjfbaa
