/- The walks of wire's cursor, further. -/
import Derived.Test.YtnnkgjaahmflmaaWireC
import Derived.Recover
namespace Go.Proofs.Ytnnkgjaahmflmaa
open Go.RowKit

def CntP (r : Except Nat (Nat × Nat)) (k : Nat) (e : Ending) (k' : Nat) : Prop :=
  match r with
  | .error x => e = .returned (.tuple #[.int .i64 0, .int .i64 x])
  | .ok (n, c) => e = .returned (.tuple #[.int .i64 n, .int .i64 0]) ∧ k' = k + c
theorem CntP.err {r : Except Nat (Nat × Nat)} {x k k' : Nat} {e : Ending} (h : r = .error x) (he : e = .returned (.tuple #[.int .i64 0, .int .i64 x])) : CntP r k e k' := by subst h; exact he
theorem CntP.ok {r : Except Nat (Nat × Nat)} {n c k k' : Nat} {e : Ending} (h : r = .ok (n, c)) (he : e = .returned (.tuple #[.int .i64 n, .int .i64 0])) (hk : k' = k + c) : CntP r k e k' := by subst h; exact ⟨he, hk⟩
end Go.Proofs.Ytnnkgjaahmflmaa
