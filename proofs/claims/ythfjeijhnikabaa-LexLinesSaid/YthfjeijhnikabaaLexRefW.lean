/- The walk of the document's word. -/
import Derived.Test.YthfjeijhnikabaaLexPlace
import Derived.Test.YthfjeijhnikabaaLexSt
import Derived.Defers
namespace Go.Proofs.Ythfjeijhnikabaa
open Go.RowKit

theorem cutAt_self {n k : Nat} (h : k ≤ n) : cutAt n (k : Int) = k := by unfold cutAt; rw [if_neg (by omega), if_pos (by omega)]; omega
set_option maxRecDepth 100000 in
set_option maxHeartbeats 4000000 in
theorem word_calls (s txt : List UInt8) (k : Nat) (q m : Bool) (w : World) (hs : s.length ≤ 1048576) (hk : k ≤ s.length) :
    Calls Try.prog 34 #[.string (strB s), .int .i64 (k : Int), .string (strB txt), .bool q, .bool m] w fun e w' => e = .returned (.agg #[.string (strB txt), .int .i64 (ln s k : Int), .int .i64 (cl s k : Int), .bool q, .bool m]) ∧ Below w.heap.size w w' := by
  go_enter Try.func34, Try.ntmps34
  go_wp2_with (go_at_call 30; go_must (refine (refPlace_calls s k _ (by omega) (by omega) (by omega)).mono ?_; rw [cutAt_self hk]; unfold placeV; rintro e w2 ⟨rfl, hw⟩; rw [hw]))
  simp [bodyPost, results, Try.results34, go_sem]
  exact (Below.refl _ w).alloc (Nat.le_refl _) _
end Go.Proofs.Ythfjeijhnikabaa
