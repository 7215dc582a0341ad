/- Lines of a text that is longer than a text may be, of any length. -/
import Derived.Test.YthfjeijhnikabaaLexWorks
namespace Go.Proofs.Ythfjeijhnikabaa
open Go.RowKit

set_option maxHeartbeats 2000000 in
set_option maxRecDepth 100000 in
theorem Lines_long {J : Jm} {w : World} (hI : Inv J w) (s : ByteArray) (hs : 32768 < s.size) (hm : s.size ≤ 140737488351232) :
    Calls Try.prog 14 #[.string s] w fun e w' => e = .returned (.tuple #[.slice none 0 0, spot 3 32768]) ∧ Ext J w J w' := by
  have hl' : (32768 : Int) < s.size := by omega
  go_enter_defers Try.func14, Try.ntmps14
  go_wp2
  simp [bodyPostD, Leaves, results, Try.results14, go_sem]
  exact ⟨rfl, ((Ext.refl hI).alloc _).alloc _⟩
end Go.Proofs.Ythfjeijhnikabaa
