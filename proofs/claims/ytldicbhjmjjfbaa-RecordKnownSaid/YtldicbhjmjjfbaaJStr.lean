/- Strings and rows of strings. -/
import Derived.Test.YtldicbhjmjjfbaaJLib
namespace Go.Proofs.Ytldicbhjmjjfbaa
open Go.RowKit

/-- strings as cells -/
def scs (ls : List (List UInt8)) : List Value := ls.map (fun l => .string (strB l))
@[simp] theorem scs_length (ls : List (List UInt8)) : (scs ls).length = ls.length := by simp [scs]
@[simp] theorem scs_append (a b : List (List UInt8)) : scs (a ++ b) = scs a ++ scs b := by simp [scs]
theorem scs_get (ls : List (List UInt8)) (j : Nat) : (scs ls)[j]? = ls[j]?.map (fun l => .string (strB l)) := by simp [scs]
theorem scs_one (ls : List (List UInt8)) : ∀ u ∈ scs ls, u.oneCell' = true := by
  intro u hu
  simp only [scs, List.mem_map] at hu
  obtain ⟨b, _, rfl⟩ := hu
  rfl
theorem strB_inj {a b : List UInt8} (h : strB a = strB b) : a = b := by
  have := congrArg (fun x => x.data.toList) h
  simpa using this
theorem scs_inj : ∀ {l k : List (List UInt8)}, scs l = scs k → l = k
  | [], [], _ => rfl
  | [], y :: k, h => by simp [scs] at h
  | x :: l, [], h => by simp [scs] at h
  | x :: l, y :: k, h => by
    simp only [scs, List.map_cons, List.cons.injEq, Value.string.injEq] at h
    rw [strB_inj h.1, scs_inj h.2]
def Ss (J : Jm) (v : Value) (ls : List (List UInt8)) : Prop := Sl J 1 v ls.length (scs ls)
theorem Ss.mono {J J' : Jm} {v : Value} {l : List (List UInt8)} (h : Ss J v l) (hle : J.le J') : Ss J' v l := Sl.mono h hle
theorem Ss.form {J : Jm} {v : Value} {l : List (List UInt8)} (h : Ss J v l) : ∃ A c, v = .slice A l.length c ∧ l.length ≤ c ∧ c ≤ maxLen := Sl.form h
theorem Ss.cell {J : Jm} {A : Option Addr} {c m : Nat} {l : List (List UInt8)} (h : Ss J (.slice A m c) l) {w : World} (hI : Inv J w) {j : Nat} (hj : j < l.length) :
    ∃ b o, A = some ⟨b, o, none⟩ ∧ w.cell? ⟨b, o + j, none⟩ = some (.string (strB l[j])) :=
  Sl.cell h hI (by rw [scs_get, List.getElem?_eq_getElem hj]; rfl)
theorem info_str : (Try.prog.info? 9).map (fun i => (i.zero, i.size, i.bytes)) = some (some (.string (strB [])), 1, 16) := by kernel_rfl
end Go.Proofs.Ytldicbhjmjjfbaa
