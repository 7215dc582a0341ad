/- A drawn region of reads and one store, then the rest in order. -/
import Derived.Test.YtnnkgjaahmflmaaCellCut
namespace Go.Proofs.Ytnnkgjaahmflmaa
open Go.RowKit
set_option linter.unusedVariables false

/-- reads that yield alike in whatever order, and one store -/
structure RS (cst : Nat → Option Value) (s : Nat) (w0 w1 : World) (L : Nat → Bool) (v : Nat → Value) (X : World) : Prop where
  rd : ∀ j x, cst j = some x → L j = true → v j = x
  wd : X = if L s = true then w1 else w0
theorem RS.start {cst : Nat → Option Value} {s : Nat} {w0 w1 : World} {v : Nat → Value} : RS cst s w0 w1 (fun _ => false) v w0 := ⟨fun _ _ _ h => (by cases h), rfl⟩
theorem RS.read {cst : Nat → Option Value} {s : Nat} {w0 w1 X : World} {L : Nat → Bool} {v : Nat → Value} (h : RS cst s w0 w1 L v X) {q : Nat} {x : Value} (hk : cst q = some x) (hs : q ≠ s) : RS cst s w0 w1 (updB L q) (updV v q x) X := by
  refine ⟨fun j y hy hL => ?_, by rw [updB_ne hs.symm]; exact h.wd⟩
  by_cases hj : j = q
  · subst hj
    rw [hk] at hy
    cases hy
    exact updV_at
  · rw [updB_ne hj] at hL
    rw [updV_ne hj]
    exact h.rd j y hy hL
theorem RS.before {cst : Nat → Option Value} {s : Nat} {w0 w1 X : World} {L : Nat → Bool} {v : Nat → Value} (h : RS cst s w0 w1 L v X) (hL : L s = false) : X = w0 := by
  rw [h.wd, if_neg (by rw [hL]; decide)]
theorem RS.behind {cst : Nat → Option Value} {s : Nat} {w0 w1 X : World} {L : Nat → Bool} {v : Nat → Value} (h : RS cst s w0 w1 L v X) (hL : L s = true) : X = w1 := by
  rw [h.wd, if_pos hL]
theorem RS.store {cst : Nat → Option Value} {s : Nat} {w0 w1 X : World} {L : Nat → Bool} {v : Nat → Value} (h : RS cst s w0 w1 L v X) (hc : cst s = none) (x : Value) : RS cst s w0 w1 (updB L s) (updV v s x) w1 := by
  refine ⟨fun j y hy hL => ?_, by rw [if_pos updB_at]⟩
  have hj : j ≠ s := fun e => by rw [e, hc] at hy; cases hy
  rw [updB_ne hj] at hL
  rw [updV_ne hj]
  exact h.rd j y hy hL
theorem RS.all {P : World → Prop} {cst : Nat → Option Value} {s : Nat} {w0 w1 X : World} {L : Nat → Bool} {v : Nat → Value} (h : RS cst s w0 w1 L v X) (h0 : P w0) (h1 : P w1) : P X := by
  rw [h.wd]; split <;> assumption
/-- reads, and calls that make memory, each of whose yields is told by a predicate -/
structure RC (J : Jm) (W : World) (P : Nat → Value → Prop) (L : Nat → Bool) (v : Nat → Value) (X : World) : Prop where
  rd : ∀ j, L j = true → P j (v j)
  ext : ∃ J', Ext J W J' X
theorem RC.start {J : Jm} {W : World} {P : Nat → Value → Prop} {v : Nat → Value} (hI : Inv J W) : RC J W P (fun _ => false) v W.drew := ⟨fun _ h => (by cases h), J, (Ext.refl hI).drew⟩
theorem RC.put {J : Jm} {W X X5 : World} {P : Nat → Value → Prop} {L : Nat → Bool} {v : Nat → Value} (h : RC J W P L v X) {q : Nat} {x : Value} (hx : P q x) (hE : ∃ J5, Ext J W J5 X5) : RC J W P (updB L q) (updV v q x) X5 := by
  refine ⟨fun j hL => ?_, hE⟩
  by_cases hj : j = q
  · subst hj
    rw [updV_at]; exact hx
  · rw [updB_ne hj] at hL
    rw [updV_ne hj]
    exact h.rd j hL
theorem wpList_value {P : Program} {Q : Exit → Act → World → Prop} {ops : Array Oper} {rest : List Oper} {o : Oper} {a : Act} {w w' : World} {x : Value} (hgd : o.guard = none) (hrun : (execOp a.eval o).run P w = .ok (.value x) w') (h : wpList P ops Q rest (a.put o.dst x) w') : wpList P ops Q (o :: rest) a w :=
  wpList_plain hgd fun K hK => by unfold Oper.wp; rw [hrun]; exact hK _ _ h
theorem putD_same {F : Act} {d : Nat} {x : Value} (h : d < F.tmps.size) : (F.put (some d) x).tmps.getD d undef = x := by
  simp [Act.put, Array.getD_eq_getD_getElem?, h]
theorem putD_ne {F : Act} {d e : Nat} {x : Value} (h : e ≠ d) : (F.put (some d) x).tmps.getD e undef = F.tmps.getD e undef := by
  simp [Act.put, Array.getD_eq_getD_getElem?, Array.getElem?_setIfInBounds_ne (Ne.symm h)]
theorem put_size {F : Act} {d : Nat} {x : Value} : (F.put (some d) x).tmps.size = F.tmps.size := by simp [Act.put]
theorem put_defers {F : Act} {d : Nat} {x : Value} : (F.put (some d) x).defers = F.defers := rfl
end Go.Proofs.Ytnnkgjaahmflmaa
