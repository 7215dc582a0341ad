/- A set of texts: map[string]bool of the call's own. -/
import Derived.Test.YtldicbhjmjjfbaaJStr
import Derived.Test.YtldicbhjmjjfbaaMv
import Derived.MapKept
namespace Go.Proofs.Ytldicbhjmjjfbaa
open Go.RowKit
set_option linter.unusedVariables false

/-- block b holds a set of these texts, each told true -/
def Ms (w : World) (b : Nat) (ks : List (List UInt8)) : Prop :=
  ∃ es clock, w.heap[b]? = some (.map es clock) ∧ es.toList.map (fun e => (e.key, e.val)) = ks.map (fun k => (Value.string (strB k), Value.bool true))
theorem Ms.new (w : World) : Ms (w.alloc (.map #[] 0)) w.heap.size [] := ⟨#[], 0, heap_alloc_new _ _, rfl⟩
theorem Ms.lt {w : World} {b : Nat} {ks : List (List UInt8)} (h : Ms w b ks) : b < w.heap.size := by
  obtain ⟨es, c, h, _⟩ := h
  exact (Array.getElem?_eq_some_iff.1 h).1
theorem Ms.kept {w w' : World} {b : Nat} {ks : List (List UInt8)} (h : Ms w b ks) (hk : w'.heap[b]? = w.heap[b]?) : Ms w' b ks := by
  obtain ⟨es, c, h, g⟩ := h
  exact ⟨es, c, hk.trans h, g⟩
theorem Ms.ext {J J' : Jm} {w w' : World} {b : Nat} {ks : List (List UInt8)} (h : Ms w b ks) (e : Ext J w J' w') : Ms w' b ks := h.kept (e.below.block b h.lt)
theorem Ms.below {w w' : World} {b : Nat} {ks : List (List UInt8)} (h : Ms w b ks) (e : Below w.heap.size w w') : Ms w' b ks := h.kept (e.block b h.lt)
theorem same_str (a b : List UInt8) : Instr.sameNow .string (.string (strB a)) (.string (strB b)) = some (decide (a = b)) := by
  obtain ⟨r, hr, hi⟩ := MapKept.sameNow_of_keys (d := .string) (a := .string (strB a)) (b := .string (strB b)) (by simp [MapKept.IsKey]) (by simp [MapKept.IsKey])
  rw [hr]
  congr 1
  rw [Bool.eq_iff_iff, hi]
  simp only [Value.string.injEq, decide_eq_true_eq]
  exact ⟨strB_inj, congrArg strB⟩
theorem find_set (k : List UInt8) : ∀ (l : List MapEntry) (ks : List (List UInt8)) (i : Nat), l.map (fun e => (e.key, e.val)) = ks.map (fun k => (Value.string (strB k), Value.bool true)) →
    (ks.contains k = true ∧ ∃ j, Instr.findNow .string (.string (strB k)) l i = some (some (j, .bool true))) ∨ (ks.contains k = false ∧ Instr.findNow .string (.string (strB k)) l i = some none)
  | [], [], i, _ => .inr ⟨rfl, rfl⟩
  | [], _ :: _, i, h => by simp at h
  | _ :: _, [], i, h => by simp at h
  | e :: l, x :: ks, i, h => by
    simp only [List.map_cons, List.cons.injEq, Prod.mk.injEq] at h
    obtain ⟨⟨h1, h2⟩, h3⟩ := h
    unfold Instr.findNow
    rw [h1, h2]
    by_cases hx : k = x
    · subst hx
      exact .inl ⟨by simp, i, by rw [same_str, decide_eq_true rfl]⟩
    · rw [same_str, decide_eq_false hx]
      rcases find_set k l ks (i + 1) h3 with ⟨a1, j, a2⟩ | ⟨a1, a2⟩
      · exact .inl ⟨by simp only [List.contains_cons, a1, Bool.or_true], j, a2⟩
      · exact .inr ⟨by simp only [List.contains_cons, a1, Bool.or_false, beq_eq_false_iff_ne]; exact hx, a2⟩
theorem run_look_set {P : Program} {w : World} {b : Nat} {ks : List (List UInt8)} (h : Ms w b ks) {t kt et : TypeId} (ht : P.underlying t = some (.map kt et)) (hk : P.underlying kt = some .string) (hz : ∀ w, (zeroValue et).run P w = .ok (.bool false) w) (k : List UInt8) :
    (Instr.lookup t (.map (some b)) (.string (strB k)) false).run P w = .ok (.bool (ks.contains k)) w := by
  obtain ⟨es, clock, hb, he⟩ := h
  have hc : ∀ q, (Instr.checkKey q 10000 kt (.string (strB k))).run P w = .ok () w := fun q => MapKept.run_checkKey (k := .string (strB k)) hk (by simp [MapKept.IsKey]) q 9999
  rcases find_set k es.toList ks 0 he with ⟨a1, j, a2⟩ | ⟨a1, a2⟩
  · rw [a1]
    simp [Instr.lookup, run_underlying ht, MapKept.run_getObj_map hb, hc, MapKept.run_findKey hk a2, Result.andThen]
  · rw [a1]
    simp [Instr.lookup, run_underlying ht, MapKept.run_getObj_map hb, hc, MapKept.run_findKey hk a2, hz, Result.andThen]
/-- a world but for one block -/
def setBlk (w : World) (b : Nat) (o : Obj) : World := { w with heap := w.heap.setIfInBounds b o }
theorem run_put_set {P : Program} {w : World} {b : Nat} {ks : List (List UInt8)} (h : Ms w b ks) {t kt et : TypeId} (ht : P.underlying t = some (.map kt et)) (hk : P.underlying kt = some .string) {k : List UInt8} (hn : ks.contains k = false) :
    ∃ o, (Instr.mapUpdate t (.map (some b)) (.string (strB k)) (.bool true)).run P w = .ok () (setBlk w b o) ∧ Ms (setBlk w b o) b (ks ++ [k]) := by
  have hlt := h.lt
  obtain ⟨es, clock, hb, he⟩ := h
  have hc : ∀ q, (Instr.checkKey q 10000 kt (.string (strB k))).run P w = .ok () w := fun q => MapKept.run_checkKey (k := .string (strB k)) hk (by simp [MapKept.IsKey]) q 9999
  rcases find_set k es.toList ks 0 he with ⟨a1, j, a2⟩ | ⟨a1, a2⟩
  · rw [hn] at a1; cases a1
  · refine ⟨.map (es.push { key := .string (strB k), val := .bool true, born := clock }) (clock + 1), ?_, es.push { key := .string (strB k), val := .bool true, born := clock }, clock + 1, ?_, ?_⟩
    · simp [Instr.mapUpdate, run_underlying ht, MapKept.run_getObj_map hb, hc, MapKept.run_findKey hk a2, MapKept.run_setObj_map _ hb, Result.andThen, setBlk]
    · simp [setBlk, hlt]
    · simp [he]
theorem setBlk_other (w : World) (b : Nat) (o : Obj) (k : Nat) (h : k ≠ b) : (setBlk w b o).heap[k]? = w.heap[k]? := by
  simp [setBlk, Ne.symm h]
theorem setBlk_size (w : World) (b : Nat) (o : Obj) : (setBlk w b o).heap.size = w.heap.size := by simp [setBlk]
theorem Mv.setBlk {S : Nat → Prop} {J J1 : Jm} {w w1 : World} (h : Mv S J w J1 w1) {b : Nat} (o : Obj) (hb : b < w.heap.size → S b) (hJ : J1 b = []) : Mv S J w J1 (setBlk w1 b o) := by
  refine ⟨h.os, h.tape, h.output, by rw [setBlk_size]; exact h.size, fun k hk hn => (setBlk_other w1 b o k (fun e => hn (by subst e; exact hb hk))).trans (h.block k hk hn), ?_, h.old⟩
  exact h.inv.of_heap fun k hk => setBlk_other w1 b o k (fun e => hk (by subst e; exact hJ))
/-- nothing is laid down in a set's block -/
theorem Inv.ms {J : Jm} {w : World} (h : Inv J w) {b : Nat} {ks : List (List UInt8)} (hm : Ms w b ks) : J b = [] := by
  by_cases e : J b = []
  · exact e
  · obtain ⟨c, T, fz, hc, _⟩ := h.cells b e
    obtain ⟨es, cl, hm, _⟩ := hm
    rw [hm] at hc; cases hc
end Go.Proofs.Ytldicbhjmjjfbaa
