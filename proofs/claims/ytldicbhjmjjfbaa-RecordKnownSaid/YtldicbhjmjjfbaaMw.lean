/- Calls that may write the blocks S, whose leading cells may grow in them. -/
import Derived.Test.YtldicbhjmjjfbaaMv
namespace Go.Proofs.Ytldicbhjmjjfbaa
open Go.RowKit

structure Mw (S : Nat → Prop) (J : Jm) (w : World) (J' : Jm) (w' : World) : Prop where
  os : w'.os = w.os
  tape : w'.tape = w.tape
  output : w'.output = w.output
  size : w.heap.size ≤ w'.heap.size
  block : ∀ k, k < w.heap.size → ¬ S k → w'.heap[k]? = w.heap[k]?
  inv : Inv J' w'
  le : J.le J'
  old : ∀ b, b < w.heap.size → ¬ S b → J' b = J b
section
variable {S S' : Nat → Prop} {J J1 J2 : Jm} {w w1 w2 : World}
theorem Mw.refl (S : Nat → Prop) (h : Inv J w) : Mw S J w J w := ⟨rfl, rfl, rfl, Nat.le_refl _, fun _ _ _ => rfl, h, Jm.le_refl _, fun _ _ _ => rfl⟩
theorem Mv.mw (hI : Inv J w) (h : Mv S J w J1 w1) : Mw S J w J1 w1 := ⟨h.os, h.tape, h.output, h.size, h.block, h.inv, h.le hI, fun b hb _ => h.old b hb⟩
theorem Ext.mw (hI : Inv J w) (h : Ext J w J1 w1) (S : Nat → Prop) : Mw S J w J1 w1 := (h.mv S).mw hI
theorem Mw.trans (h : Mw S J w J1 w1) (k : Mw S' J1 w1 J2 w2) (hs : ∀ b, b < w.heap.size → S' b → S b) : Mw S J w J2 w2 :=
  ⟨k.os.trans h.os, k.tape.trans h.tape, k.output.trans h.output, Nat.le_trans h.size k.size,
    fun b hb hn => (k.block b (Nat.lt_of_lt_of_le hb h.size) (fun e => hn (hs b hb e))).trans (h.block b hb hn), k.inv, h.le.trans k.le,
    fun b hb hn => (k.old b (Nat.lt_of_lt_of_le hb h.size) (fun e => hn (hs b hb e))).trans (h.old b hb hn)⟩
theorem Mw.then (h : Mw S J w J1 w1) (k : Mw S J1 w1 J2 w2) : Mw S J w J2 w2 := h.trans k fun _ _ e => e
theorem Mv.thenMw (h : Mv S J w J1 w1) (k : Mw S' J1 w1 J2 w2) (hs : ∀ b, b < w.heap.size → ¬ S' b) : Mv S J w J2 w2 :=
  ⟨k.os.trans h.os, k.tape.trans h.tape, k.output.trans h.output, Nat.le_trans h.size k.size,
    fun b hb hn => (k.block b (Nat.lt_of_lt_of_le hb h.size) (hs b hb)).trans (h.block b hb hn), k.inv,
    fun b hb => (k.old b (Nat.lt_of_lt_of_le hb h.size) (hs b hb)).trans (h.old b hb)⟩
theorem Mw.drewN (h : Mw S J w J1 w1) (n : Nat) : Mw S J w J1 (w1.drewN n) := ⟨h.os, h.tape, h.output, h.size, h.block, h.inv.drewN n, h.le, h.old⟩
theorem Mw.drew (h : Mw S J w J1 w1) : Mw S J w J1 w1.drew := ⟨h.os, h.tape, h.output, h.size, h.block, h.inv.drew, h.le, h.old⟩
theorem Mw.alloc (h : Mw S J w J1 w1) (o : Obj) : Mw S J w J1 (w1.alloc o) := h.trans (((Ext.refl h.inv).alloc o).mw h.inv (fun _ => False)) fun _ _ e => e.elim
theorem Mw.setCell (h : Mw S J w J1 w1) {p : Addr} (hp : p.block < w.heap.size → S p.block) (hJ : J1 p.block = []) (u : Value) : Mw S J w J1 (w1.setCell p u) :=
  ⟨h.os, h.tape, h.output, by simpa using h.size, fun k hk hn => (Below.heap_setCell w1 p u k (fun e => hn (by subst e; exact hp hk))).trans (h.block k hk hn), h.inv.setCell hJ u, h.le, h.old⟩
theorem Grew.mw {v v' : Value} (g : Grew J w v J1 w1 v') : Mw (fun b => some b = v.ownBlock) J w J1 w1 :=
  ⟨g.grown.os, g.grown.tape, g.grown.output, g.grown.size, fun k hk hn => g.grown.block k hk hn, g.inv, g.le, fun b hb hn => g.other b hb hn⟩
theorem Mw.own (h : Mw S J w J1 w1) {base : Nat} {T : TypeId} {size : Nat} {v : Value} {n : Nat} {cs : List Value} (ho : Own J w base T size v n cs) (hs : ∀ b, v.ownBlock = some b → ¬ S b) : Own J1 w1 base T size v n cs :=
  ho.kept fun b hb => ⟨h.block b (ho.lt b hb).2 (hs b hb), h.old b (ho.lt b hb).2 (hs b hb)⟩
theorem Mw.blk (h : Mw S J w J1 w1) {b : Nat} {o : Obj} (hb : w.heap[b]? = some o) (hs : ¬ S b) : w1.heap[b]? = some o := (h.block b (Array.getElem?_eq_some_iff.1 hb).1 hs).trans hb
theorem Mv.blk (h : Mv S J w J1 w1) {b : Nat} {o : Obj} (hb : w.heap[b]? = some o) (hs : ¬ S b) : w1.heap[b]? = some o := (h.block b (Array.getElem?_eq_some_iff.1 hb).1 hs).trans hb
theorem Mw.nilAt (h : Mw S J w J1 w1) {b : Nat} (hb : b < w.heap.size) (hs : ¬ S b) (hJ : J b = []) : J1 b = [] := (h.old b hb hs).trans hJ
end
end Go.Proofs.Ytldicbhjmjjfbaa
