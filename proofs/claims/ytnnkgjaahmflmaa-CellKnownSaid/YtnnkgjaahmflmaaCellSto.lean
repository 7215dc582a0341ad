/- A node stored in a box, in a region that draws its order. -/
import Derived.Test.YtnnkgjaahmflmaaCellCutM
namespace Go.Proofs.Ytnnkgjaahmflmaa
open Go.RowKit
set_option linter.unusedVariables false

abbrev put3 (w : World) (b : Nat) (x y z : Value) : World := ((w.setCell ⟨b, 0, none⟩ x).setCell ⟨b, 1, none⟩ y).setCell ⟨b, 2, none⟩ z
theorem run_store3 {o : Oper} {a : Act} {w : World} {p x : Operand} {b : Nat} {l l' : Bool} {vi vk : Value} {A A' : Option Addr} {m c m' c' : Nat} (ho : o.op = .store 25 p x) (hp : a.eval p = .pointer (some ⟨b, 0, none⟩)) (hx : a.eval x = .agg #[.bool l', .slice A m c, .slice A' m' c']) (h : NBox w b l vi vk) :
    (execOp a.eval o).run Try.prog w = .ok .skip (put3 w b (.bool l') (.slice A m c) (.slice A' m' c')) := by
  have n0 := blk_cell_J h 0 rfl
  have n1 := blk_cell_J h 1 rfl
  have n2 := blk_cell_J h 2 rfl
  have f0 := frozen_of_row _ b 0 _ _ h
  have f1 := frozen_of_row _ b 1 _ _ h
  have f2 := frozen_of_row _ b 2 _ _ h
  clear h
  unfold execOp put3
  simp only [ho, hp, hx]
  go_simp
theorem step_store3 {ops : Array Oper} {o : Oper} {a : Act} {K : Act → World → Prop} {Q : Exit → Act → World → Prop} {E : Prop} {w : World} {p x : Operand} {b : Nat} {l l' : Bool} {vi vk : Value} {A A' : Option Addr} {m c m' c' : Nat}
    (h : NBox w b l vi vk) (hgd : o.guard = none) (ho : o.op = .store 25 p x) (hp : a.eval p = .pointer (some ⟨b, 0, none⟩)) (hx : a.eval x = .agg #[.bool l', .slice A m c, .slice A' m' c'])
    (hK : K (a.put o.dst undef) (put3 w b (.bool l') (.slice A m c) (.slice A' m' c'))) : if Region.wanted o (yielded ops a.tmps) = true then o.wp Try.prog a w K Q else E := by
  rw [if_pos (by simp [Region.wanted, hgd])]
  unfold Oper.wp
  rw [run_store3 ho hp hx h]
  exact hK
theorem put3_at {w : World} {b : Nat} {l l' : Bool} {vi vk vi' vk' : Value} (h : NBox w b l vi vk) : NBox (put3 w b (.bool l') vi' vk') b l' vi' vk' := put3_box h _ _ _
theorem put3_far {w : World} {b k : Nat} (x y z : Value) (hk : k ≠ b) : (put3 w b x y z).heap[k]? = w.heap[k]? :=
  (Below.heap_setCell _ ⟨b, 2, none⟩ z k hk).trans ((Below.heap_setCell _ ⟨b, 1, none⟩ y k hk).trans (Below.heap_setCell _ ⟨b, 0, none⟩ x k hk))
theorem put3_nb {w : World} {b k : Nat} {l : Bool} {vi vk : Value} (x y z : Value) (h : NBox w k l vi vk) (hk : k ≠ b) : NBox (put3 w b x y z) k l vi vk := (put3_far x y z hk).trans h
theorem put3_size {w : World} {b : Nat} {x y z : Value} : (put3 w b x y z).heap.size = w.heap.size := by simp [put3]
theorem put3_keep {w : World} {b : Nat} {x y z v : Value} {a : Addr} (h : w.cell? a = some v) (hk : a.block ≠ b) : (put3 w b x y z).cell? a = some v := (World.cell?_of_block (put3_far x y z hk)).trans h
theorem put3_own {J : Jm} {w : World} {b : Nat} {x y z : Value} {B : Nat} {T : TypeId} {size n : Nat} {v : Value} {cs : List Value} (h : Own J w B T size v n cs) (hb : v.ownBlock ≠ some b) : Own J (put3 w b x y z) B T size v n cs :=
  h.kept fun q e => ⟨put3_far x y z (fun e2 => hb (by rw [e, e2])), rfl⟩
theorem put3_e {J J9 : Jm} {w w9 : World} (h : Ext J w J9 w9) {b : Nat} (hb : w.heap.size ≤ b) (hJ : J9 b = []) (x y z : Value) : Ext J w J9 (put3 w9 b x y z) := put3_ext h hb hJ x y z
end Go.Proofs.Ytnnkgjaahmflmaa
