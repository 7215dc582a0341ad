/- The statement LexPlaces. -/
import Derived.Test.YthfjeijhnikabaaLexWorks
import Derived.Test.YthfjeijhnikabaaLexPlace
namespace Go.Proofs.Ythfjeijhnikabaa
open Go.RowKit

set_option maxHeartbeats 4000000 in
set_option maxRecDepth 100000 in
theorem lexPlaces_walk {J : Jm} {w : World} (hI : Inv J w) (b : ByteArray) (hs : b.size ≤ 140737488351232) (a : Int) (ha : -9223372036854775808 ≤ a ∧ a ≤ 9223372036854775807) :
    Calls Try.prog 10 #[.string b, .int .i64 a] w fun e w' => e = .returned (.bool true) ∧ Below w.heap.size w w' := by
  obtain ⟨s, rfl⟩ : ∃ s, b = strB s := ⟨b.data.toList, (strB_of b).symm⟩
  rw [strB_size] at hs
  have HSZ := strB_size s
  go_enter Try.func10, Try.ntmps10
  go_wp2_with fail
  refine (works_calls hI).mono ?_
  rintro e w1 ⟨J1, rfl, hE⟩
  have HE := Lib.hid hE.below
  clear hE
  by_cases hl : 262144 < s.length
  · have hl' : (262144 : Int) < s.length := by omega
    go_wp2_with go_in
    go_ret
    exact ⟨rfl, HE.out⟩
  · have hl' : ¬ (262144 : Int) < s.length := by omega
    go_wp2_with (first | (go_at_call 29; go_must (refine (place_calls s a _ hs ha.1 ha.2).mono ?_; unfold placeV; rintro e w2 ⟨rfl, rfl⟩)) | (go_at_call 30; go_must (refine (refPlace_calls s a _ hs ha.1 ha.2).mono ?_; unfold placeV; rintro e w2 ⟨rfl, rfl⟩)) | (go_in))
    go_ret
    exact ⟨rfl, HE.out⟩
end Go.Proofs.Ythfjeijhnikabaa
