/- A part of a slice. -/
import Derived.Test.YtnnkgjaahmflmaaJLib
namespace Go.Proofs.Ytnnkgjaahmflmaa
open Go.RowKit

theorem bcs_drop (l : List UInt8) (k : Nat) : bcs (l.drop k) = (bcs l).drop k := by simp [bcs]
theorem bcs_take (l : List UInt8) (k : Nat) : bcs (l.take k) = (bcs l).take k := by simp [bcs]
theorem Addr.add_parts (a : Addr) (n : Nat) : (a.add n).block = a.block ∧ (a.add n).off = a.off + n ∧ (a.spot = none → (a.add n).spot = none) := by
  unfold Addr.add
  split
  · rename_i h; subst h; exact ⟨rfl, rfl, id⟩
  · exact ⟨rfl, rfl, fun _ => rfl⟩
theorem Bs.sub {J : Jm} {A : Option Addr} {c m : Nat} {l : List UInt8} (h : Bs J (.slice A m c) l) (lo hi : Nat) (h1 : lo ≤ hi) (h2 : hi ≤ l.length) :
    Bs J (.slice (if c = lo then A else A.map (·.add lo)) (hi - lo) (c - lo)) ((l.drop lo).take (hi - lo)) := by
  obtain ⟨hl, A', c', hv, hn, hm, h0, ha⟩ := h
  cases hv
  have hlen : ((l.drop lo).take (hi - lo)).length = hi - lo := by simp; omega
  unfold Bs
  rw [hlen]
  refine ⟨by rw [bcs_length, hlen, Nat.mul_one], _, _, rfl, by omega, by omega, ?_, ?_⟩
  · intro e
    have : A = none := by
      split at e
      · exact e
      · cases A with
        | none => rfl
        | some a => cases e
    have := h0 this
    omega
  · intro a e
    by_cases hz : hi - lo = 0
    · exact .inl hz
    · right
      rw [if_neg (by omega)] at e
      cases A with
      | none => cases e
      | some a0 =>
        cases e
        obtain ⟨p1, p2, p3⟩ := Addr.add_parts a0 lo
        obtain ⟨q1, q2⟩ := (ha a0 rfl).resolve_left (by omega)
        refine ⟨p3 q1, ?_⟩
        rw [p1, p2, bcs_take, bcs_drop, ← q2, Nat.mul_one, Nat.mul_one, List.drop_take, List.take_take, List.drop_drop]
        congr 1
        omega
theorem Bs.from' {J : Jm} {A : Option Addr} {c m : Nat} {l : List UInt8} (h : Bs J (.slice A m c) l) (lo : Nat) (h1 : lo ≤ l.length) :
    Bs J (.slice (if c = lo then A else A.map (·.add lo)) (l.length - lo) (c - lo)) (l.drop lo) := by
  have := h.sub lo l.length h1 (Nat.le_refl _)
  rw [List.take_of_length_le (by simp)] at this
  exact this
end Go.Proofs.Ytnnkgjaahmflmaa
