/- Blocks that may change, beside memory that does not: structs behind pointers. -/
import Derived.Test.YtldicbhjmjjfbaaJLib
import Derived.Defers
namespace Go.Proofs.Ytldicbhjmjjfbaa
open Go.RowKit

/-- What a call leaves that may write the blocks S: all others are as they were, new ones may be laid down. -/
structure Mv (S : Nat → Prop) (J : Jm) (w : World) (J' : Jm) (w' : World) : Prop where
  os : w'.os = w.os
  tape : w'.tape = w.tape
  output : w'.output = w.output
  size : w.heap.size ≤ w'.heap.size
  block : ∀ k, k < w.heap.size → ¬ S k → w'.heap[k]? = w.heap[k]?
  inv : Inv J' w'
  old : ∀ b, b < w.heap.size → J' b = J b
section
variable {S S' : Nat → Prop} {J J1 J2 : Jm} {w w1 w2 : World}
theorem Mv.refl (S : Nat → Prop) (h : Inv J w) : Mv S J w J w := ⟨rfl, rfl, rfl, Nat.le_refl _, fun _ _ _ => rfl, h, fun _ _ => rfl⟩
theorem Ext.mv (h : Ext J w J1 w1) (S : Nat → Prop) : Mv S J w J1 w1 := ⟨h.below.os, h.below.tape, h.below.output, h.below.size, fun k hk _ => h.below.block k hk, h.inv, h.old⟩
theorem Mv.trans (h : Mv S J w J1 w1) (k : Mv S' J1 w1 J2 w2) (hs : ∀ b, b < w.heap.size → S' b → S b) : Mv S J w J2 w2 :=
  ⟨k.os.trans h.os, k.tape.trans h.tape, k.output.trans h.output, Nat.le_trans h.size k.size,
    fun b hb hn => (k.block b (Nat.lt_of_lt_of_le hb h.size) (fun e => hn (hs b hb e))).trans (h.block b hb hn), k.inv,
    fun b hb => (k.old b (Nat.lt_of_lt_of_le hb h.size)).trans (h.old b hb)⟩
theorem Mv.then (h : Mv S J w J1 w1) (k : Mv S J1 w1 J2 w2) : Mv S J w J2 w2 := h.trans k fun _ _ e => e
theorem Mv.ext (h : Mv S J w J1 w1) (k : Ext J1 w1 J2 w2) : Mv S J w J2 w2 := h.then (k.mv S)
theorem Mv.le (hI : Inv J w) (h : Mv S J w J1 w1) : J.le J1 := by
  intro b
  by_cases hb : b < w.heap.size
  · rw [h.old b hb]; exact List.prefix_refl _
  · rw [hI.nil (by omega)]; exact List.nil_prefix
theorem Ext.moved (h : Ext J w J1 w1) (k : Mv S J1 w1 J2 w2) (hs : ∀ b, b < w.heap.size → ¬ S b) : Ext J w J2 w2 :=
  ⟨⟨k.os.trans h.below.os, k.tape.trans h.below.tape, k.output.trans h.below.output, Nat.le_trans h.below.size k.size,
    fun b hb => (k.block b (Nat.lt_of_lt_of_le hb h.below.size) (hs b hb)).trans (h.below.block b hb)⟩, k.inv,
    fun b hb => (k.old b (Nat.lt_of_lt_of_le hb h.below.size)).trans (h.old b hb)⟩
theorem Mv.drew (h : Mv S J w J1 w1) : Mv S J w J1 w1.drew := ⟨h.os, h.tape, h.output, h.size, h.block, h.inv.drew, h.old⟩
theorem Mv.drewN (h : Mv S J w J1 w1) (n : Nat) : Mv S J w J1 (w1.drewN n) := ⟨h.os, h.tape, h.output, h.size, h.block, h.inv.drewN n, h.old⟩
theorem Mv.alloc (h : Mv S J w J1 w1) (o : Obj) : Mv S J w J1 (w1.alloc o) := h.ext ((Ext.refl h.inv).alloc o)
theorem Mv.step (h : Mv S J w J1 w1) (hb : Below w1.heap.size w1 w2) : Mv S J w J1 w2 := h.ext (Ext.of_below h.inv hb)
theorem Mv.setCell (h : Mv S J w J1 w1) {p : Addr} (hp : p.block < w.heap.size → S p.block) (hJ : J1 p.block = []) (u : Value) : Mv S J w J1 (w1.setCell p u) :=
  ⟨h.os, h.tape, h.output, by simpa using h.size, fun k hk hn => (Below.heap_setCell w1 p u k (fun e => hn (by subst e; exact hp hk))).trans (h.block k hk hn), h.inv.setCell hJ u, h.old⟩
/-- the block of the call's own is laid down -/
theorem Mv.put (h : Mv S J w J1 w1) {b : Nat} {c : Array Value} {T : TypeId} {fz : Nat × Nat} {cs : List Value} (hw : w.heap.size ≤ b)
    (hb : w1.heap[b]? = some (.cells c T fz)) (hp : cs <+: c.toList) : Mv S J w (J1.put b cs) w1 :=
  ⟨h.os, h.tape, h.output, h.size, h.block, h.inv.put hb hp, fun k hk => (Jm.put_other _ _ _ (by omega)).trans (h.old k hk)⟩
theorem Mv.own (h : Mv S J w J1 w1) {base : Nat} {T : TypeId} {size : Nat} {v : Value} {n : Nat} {cs : List Value} (ho : Own J w base T size v n cs) (hs : ∀ b, v.ownBlock = some b → ¬ S b) : Own J1 w1 base T size v n cs :=
  ho.kept fun b hb => ⟨h.block b (ho.lt b hb).2 (hs b hb), h.old b (ho.lt b hb).2⟩
theorem Mv.ownBase (h : Mv S J w J1 w1) {base : Nat} {T : TypeId} {size : Nat} {v : Value} {n : Nat} {cs : List Value} (ho : Own J w base T size v n cs) (hs : ∀ b, base ≤ b → b < w.heap.size → ¬ S b) : Own J1 w1 base T size v n cs :=
  h.own ho fun b hb => hs b (ho.lt b hb).1 (ho.lt b hb).2
theorem Mv.cell (h : Mv S J w J1 w1) {a : Addr} {v : Option Value} (hv : w.cell? a = v) (ha : a.block < w.heap.size) (hs : ¬ S a.block) : w1.cell? a = v :=
  (World.cell?_of_block (h.block _ ha hs)).trans hv
theorem Mv.frozen (h : Mv S J w J1 w1) {a : Addr} {v : Bool} (hv : w.frozen? a = v) (ha : a.block < w.heap.size) (hs : ¬ S a.block) : w1.frozen? a = v :=
  (World.frozen?_of_block (h.block _ ha hs)).trans hv
theorem Own.ne {J : Jm} {w : World} {base : Nat} {T : TypeId} {size : Nat} {v : Value} {n : Nat} {cs : List Value} (ho : Own J w base T size v n cs) {b : Nat} (hb : b < base) : some b ≠ v.ownBlock := fun e => by
  have := (ho.lt b e.symm).1; omega
theorem Mv.grew (h : Mv S J w J1 w1) {base : Nat} {T : TypeId} {size : Nat} {v v' : Value} {n : Nat} {xs : List Value} (ho : Own J1 w1 base T size v n xs) (hb : w.heap.size ≤ base) (g : Grew J1 w1 v J2 w2 v') : Mv S J w J2 w2 :=
  ⟨g.grown.os.trans h.os, g.grown.tape.trans h.tape, g.grown.output.trans h.output, Nat.le_trans h.size g.grown.size,
    fun b hlt hn => (g.grown.block b (Nat.lt_of_lt_of_le hlt h.size) (ho.ne (by omega))).trans (h.block b hlt hn), g.inv,
    fun b hlt => (g.other b (Nat.lt_of_lt_of_le hlt h.size) (ho.ne (by omega))).trans (h.old b hlt)⟩
/-- blocks below a mark are as they were -/
def Kept (B : Nat) (J : Jm) (w : World) (J' : Jm) (w' : World) : Prop := w.heap.size ≤ w'.heap.size ∧ ∀ b, b < B → w'.heap[b]? = w.heap[b]? ∧ J' b = J b
theorem Grew.keptBelow {v v' : Value} (g : Grew J w v J1 w1 v') {base : Nat} {T : TypeId} {size n : Nat} {xs : List Value} (ho : Own J w base T size v n xs) (hb : base ≤ w.heap.size) : Kept base J w J1 w1 :=
  ⟨g.grown.size, fun b hlt => ⟨g.grown.block b (by omega) (ho.ne hlt), g.other b (by omega) (ho.ne hlt)⟩⟩
theorem Ext.keptBelow (h : Ext J w J1 w1) {B : Nat} (hB : B ≤ w.heap.size) : Kept B J w J1 w1 := ⟨h.below.size, fun b hlt => ⟨h.below.block b (by omega), h.old b (by omega)⟩⟩
theorem Kept.trans {B : Nat} (h : Kept B J w J1 w1) (k : Kept B J1 w1 J2 w2) : Kept B J w J2 w2 :=
  ⟨Nat.le_trans h.1 k.1, fun b hb => ⟨(k.2 b hb).1.trans (h.2 b hb).1, (k.2 b hb).2.trans (h.2 b hb).2⟩⟩
theorem Kept.cell {B : Nat} (h : Kept B J w J1 w1) {a : Addr} {v : Option Value} (hv : w.cell? a = v) (ha : a.block < B) : w1.cell? a = v := (World.cell?_of_block (h.2 _ ha).1).trans hv
theorem Kept.frozen {B : Nat} (h : Kept B J w J1 w1) {a : Addr} {v : Bool} (hv : w.frozen? a = v) (ha : a.block < B) : w1.frozen? a = v := (World.frozen?_of_block (h.2 _ ha).1).trans hv
end
end Go.Proofs.Ytldicbhjmjjfbaa
