/- bytes.Equal tells whether two slices of bytes read alike. -/
import Derived.Test.YtnnkgjaahmflmaaJLib
namespace Go.Proofs.Ytnnkgjaahmflmaa
open Go.RowKit

theorem info_u8 : (Try.prog.info? 5).map (fun i => (i.zero, i.size, i.bytes)) = some (some (.int .u8 0), 1, 1) := by kernel_rfl
theorem equal_calls {J : Jm} {w : World} (hI : Inv J w) {v u : Value} {l k : List UInt8} (hb : Bs J v l) (hc : Bs J u k) :
    Calls Try.prog 19 #[v, u] w fun e w' => e = .returned (.bool (l == k)) ∧ w = w' := by
  have h1 := hb.string hI 30 9 5 Try.underlying30 Try.underlying5 Try.underlying9
  have h2 := hc.string hI 30 9 5 Try.underlying30 Try.underlying5 Try.underlying9
  go_enter Try.func19, Try.ntmps19
  go_wp2
  go_ret
  refine ⟨?_, rfl⟩
  have : ((strB l).toList == (strB k).toList) = (l == k) := by rw [strB_toList, strB_toList]
  rw [← this]; rfl
end Go.Proofs.Ytnnkgjaahmflmaa
