/- What is inside an argument weighs no more than the argument may. -/
import Derived.Test.YtldicbhjmjjfbaaJRow
namespace Go.Proofs.Ytldicbhjmjjfbaa
open Go.RowKit Go.ChangeShapes Go.WideShapes Go.ChangeAt
set_option linter.unusedVariables false

section
variable {H : Type} {P : Program} {t e : TypeId} {x : Nat}
theorem weights_all {d : DataW H} : ∀ {l : List (DataW H)}, d ∈ l → x ∈ DataW.weights P e d → x ∈ DataW.weightsAll P e l
  | [], h, _ => by cases h
  | y :: r, h, hx => by
    rw [DataW.weightsAll]
    rcases List.mem_cons.1 h with rfl | h
    · exact List.mem_append_left _ hx
    · exact List.mem_append_right _ (weights_all h hx)
theorem weights_each {d : DataW H} : ∀ {ts : List TypeId} {ds : List (DataW H)} {j : Nat}, ts[j]? = some t → ds[j]? = some d → x ∈ DataW.weights P t d → x ∈ DataW.weightsEach P ts ds
  | [], _, _, h, _, _ => by simp at h
  | _ :: _, [], _, _, h, _ => by simp at h
  | t' :: ts, d' :: ds, 0, h1, h2, hx => by
    simp at h1 h2
    subst h1 h2
    rw [DataW.weightsEach]
    exact List.mem_append_left _ hx
  | t' :: ts, d' :: ds, j + 1, h1, h2, hx => by
    rw [DataW.weightsEach]
    exact List.mem_append_right _ (weights_each (j := j) (by simpa using h1) (by simpa using h2) hx)
theorem weights_slice (ht : P.underlying t = some (.slice e)) {elems spare : List (DataW H)} {d : DataW H} (hd : d ∈ elems) (hx : x ∈ DataW.weights P e d) : x ∈ DataW.weights P t (.slice elems spare) := by
  rw [DataW.weights, ht]
  exact List.mem_cons_of_mem _ (List.mem_append_left _ (weights_all hd hx))
theorem weights_len (ht : P.underlying t = some (.slice e)) {elems spare : List (DataW H)} : (elems.length + spare.length) * P.bytesOf e ∈ DataW.weights P t (.slice elems spare) := by
  rw [DataW.weights, ht]
  exact List.mem_cons_self
theorem weights_agg {fs : Array Field} (ht : P.underlying t = some (.struct fs)) {parts : List (DataW H)} {j : Nat} {f : Field} {d : DataW H} (hf : fs[j]? = some f) (hd : parts[j]? = some d) (hx : x ∈ DataW.weights P f.type d) : x ∈ DataW.weights P t (.agg parts) := by
  rw [DataW.weights, ht]
  refine weights_each (j := j) ?_ hd hx
  simp [hf]
theorem weights_str (l : List UInt8) : l.length ∈ DataW.weights (H := H) P t (.lit (.string l)) := by
  rw [DataW.weights]; exact List.mem_cons_self
end
/-- an argument's weights -/
def Small {H : Type} (t : TypeId) (d : DataW H) : Prop := ∀ x ∈ DataW.weights Try.prog t d, x ≤ 140737488351232
theorem small_of {H : Type} {ts : List TypeId} {ds : List (DataW H)} (hsz : (DataW.weightsEach Try.prog ts ds).all (· ≤ reachBytes) = true) {j : Nat} {t : TypeId} {d : DataW H} (ht : ts[j]? = some t) (hd : ds[j]? = some d) : Small t d := by
  intro x hx
  have := List.all_eq_true.1 hsz x (weights_each ht hd hx)
  exact of_decide_eq_true this
end Go.Proofs.Ytldicbhjmjjfbaa
