/- What stands in memory while LexBlanks writes a text. -/
import Derived.Test.YthfjeijhnikabaaLexBl
import Derived.Test.YthfjeijhnikabaaLexWr2
import Derived.Test.YthfjeijhnikabaaJCut
namespace Go.Proofs.Ythfjeijhnikabaa
open Go.RowKit
set_option linter.unusedVariables false

structure Bst (J : Jm) (w : World) (nb hb : Nat) (hv : Value) (n : Nat) (J' : Jm) (wr : World) (bv : Value) (B : List UInt8) : Prop where
  ext : Ext J w J' wr
  low : w.heap.size ≤ nb
  n0 : wr.heap[nb]? = some (.cells [.int .i64 (n : Int)].toArray 3 (0, 0))
  jn : J' nb = []
  h0 : wr.heap[hb]? = some (.cells [hv].toArray 38 (0, 0))
  row : Rw J' wr w.heap.size bv B
section
variable {J : Jm} {w : World} {nb hb : Nat} {hv : Value} {n : Nat} {J' : Jm} {wr : World} {bv : Value} {B : List UInt8}
theorem lt_of_heap {w : World} {k : Nat} {o : Obj} (h : w.heap[k]? = some o) : k < w.heap.size := (Array.getElem?_eq_some_iff.1 h).1
theorem Bst.more (h : Bst J w nb hb hv n J' wr bv B) {J2 : Jm} {w2 : World} (X : Ext J' wr J2 w2) : Bst J w nb hb hv n J2 w2 bv B :=
  ⟨h.ext.trans X, h.low, (X.below.block nb (lt_of_heap h.n0)).trans h.n0, (X.old nb (lt_of_heap h.n0)).trans h.jn, (X.below.block hb (lt_of_heap h.h0)).trans h.h0, h.row.ext X⟩
theorem Bst.below (h : Bst J w nb hb hv n J' wr bv B) {w2 : World} (X : Below wr.heap.size wr w2) : Bst J w nb hb hv n J' w2 bv B := h.more (Ext.of_below h.ext.inv X)
theorem own_ne {T T' : TypeId} {size m k : Nat} {cs : List Value} {c : Array Value} {fz : Nat × Nat} {v : Value} {base : Nat} (h : Own J' wr base T size v m cs) (hk : wr.heap[k]? = some (.cells c T' fz)) (hne : T ≠ T') : some k ≠ v.ownBlock := by
  intro e
  rcases h.1.2 with ⟨h', _⟩ | ⟨g, cap, cur, h', _, hg, _⟩
  · rw [h'] at e; simp [Value.ownBlock] at e
  · rw [h'] at e
    simp [Value.ownBlock] at e
    subst e
    rw [hg] at hk
    simp at hk
    exact hne hk.2.1
theorem Bst.app (h : Bst J w nb hb hv n J' wr bv B) {J5 : Jm} {w5 : World} {v5 : Value} {B2 : List UInt8} (ho : Rw J5 w5 w.heap.size v5 B2) (hg : Grew J' wr bv J5 w5 v5) : Bst J w nb hb hv n J5 w5 v5 B2 :=
  ⟨h.ext.grew h.row hg, h.low, (hg.grown.block nb (lt_of_heap h.n0) (own_ne h.row h.n0 (by decide))).trans h.n0, (hg.other nb (lt_of_heap h.n0) (own_ne h.row h.n0 (by decide))).trans h.jn,
    (hg.grown.block hb (lt_of_heap h.h0) (own_ne h.row h.h0 (by decide))).trans h.h0, ho⟩
theorem Bst.pick (h : Bst J w nb hb hv n J' wr bv B) : Bst J w nb hb hv (n + 1) J' (wr.setCell ⟨nb, 0, none⟩ (.int .i64 ((n : Int) + 1))) bv B := by
  have hnh : hb ≠ nb := by
    rintro rfl
    have h1 := h.h0
    rw [h.n0] at h1
    simp at h1
  refine ⟨h.ext.setCell (p := ⟨nb, 0, none⟩) h.low h.jn _, h.low, (blk_set_J h.n0 0 (.int .i64 ((n : Int) + 1))).trans (by rw [Int.natCast_add]; rfl), h.jn, (Below.heap_setCell _ _ _ _ hnh).trans h.h0, h.row.kept fun b e => ⟨Below.heap_setCell _ _ _ _ ?_, rfl⟩⟩
  rintro rfl
  exact own_ne h.row h.n0 (by decide) e.symm
theorem Bst.cut (h : Bst J w nb hb hv n J' wr bv B) {P x : List UInt8} (hB : B = P ++ x) (hx : 0 < x.length) :
    ∃ g cap J2, bv = .slice (some ⟨g, 0, none⟩) B.length cap ∧ P.length ≤ cap ∧ Bst J w nb hb hv n J2 wr (.slice (some ⟨g, 0, none⟩) P.length cap) P := by
  subst hB
  have hl : (P ++ x).length = P.length + x.length := List.length_append
  have hr := h.row
  unfold Rw at hr
  obtain ⟨g, cap, rfl, hbg, hnc, hm, ho, hJ, hlk, cur, hg, hpre⟩ := Own.cut hr P.length (by omega) (by omega)
  rw [bcs_append, bcs_cut] at ho hlk hpre
  have hne : nb ≠ g := by
    rintro rfl
    exact own_ne h.row h.n0 (by decide) rfl
  exact ⟨g, cap, J'.put g (bcs P), rfl, by omega, ⟨h.ext.put hbg hg hpre, h.low, h.n0, (Jm.put_other _ _ _ hne).trans h.jn, h.h0, ho⟩⟩
end
def pkv (hw : List UInt8) (n : Nat) : Nat := (hw[n]?.getD 0).toNat
theorem pkv_lt (hw : List UInt8) (n : Nat) : pkv hw n < 256 := by unfold pkv; have := (hw[n]?.getD 0).toNat_lt; omega
set_option maxRecDepth 100000 in
set_option maxHeartbeats 2000000 in
theorem pick_calls {J : Jm} {w : World} (hI : Inv J w) {nb hb : Nat} {hv : Value} {hw : List UInt8} {n : Nat} (hn : n ≤ 1048576) (h1 : w.heap[nb]? = some (.cells [.int .i64 (n : Int)].toArray 3 (0, 0))) (hj : J nb = [])
    (h2 : w.heap[hb]? = some (.cells [hv].toArray 38 (0, 0))) (hB : Bs J hv hw) (hl : hw.length ≤ 9223372036854775807) :
    Calls Try.prog 26 #[.pointer (some ⟨nb, 0, none⟩), .pointer (some ⟨hb, 0, none⟩)] w fun e w' => e = .returned (.int .i64 (pkv hw n : Nat)) ∧ w' = w.setCell ⟨nb, 0, none⟩ (.int .i64 ((n : Int) + 1)) := by
  have hnh : hb ≠ nb := by
    rintro rfl
    rw [h1] at h2
    simp at h2
  have c0 := blk_cell_J h1 0 rfl
  have f0 := frozen_of_row w nb 0 _ _ h1
  obtain ⟨A, c, rfl, -, -⟩ := hB.form
  have H1 := Lib.hid (blk_set_J h1 0 (.int .i64 ((n : Int) + 1)))
  have H2 := Lib.hid ((Below.heap_setCell w ⟨nb, 0, none⟩ (.int .i64 ((n : Int) + 1)) hb hnh).trans h2)
  have HI := Lib.hid (hI.setCell (a := ⟨nb, 0, none⟩) hj (.int .i64 ((n : Int) + 1)))
  have HB := Lib.hid hB
  clear h1 h2 hI hB hnh hj
  go_enter Try.func26, Try.ntmps26
  go_upto_region 2 with fail
  generalize hWd : World.setCell _ _ _ = W at *
  have HWD := Lib.hid hWd
  clear c0 f0 hWd
  have c0 := blk_cell_J H1.out 0 rfl
  have c1 := blk_cell_J H2.out 0 rfl
  have wr2 : IntKind.i64.wrap ((n : Int) + 1 - 1) = (n : Int) := by rw [IntKind.wrap_i64]; omega
  have i0 : (0 : Int) ≤ n := by omega
  by_cases hlt : n < hw.length
  · have i1 : (n : Int) + 1 ≤ hw.length := by omega
    have i2 : (n : Int) < hw.length := by omega
    obtain ⟨b, o, rfl, d0⟩ := HB.out.cell HI.out hlt
    have HP : Hid (pkv hw n = (hw[n]).toNat) := by rw [Hid, pkv, List.getElem?_eq_getElem hlt]; rfl
    have hb2 := (hw[n]).toNat_lt
    generalize hw[n] = x at *
    have wr3 : IntKind.i64.wrap (x.toNat : Int) = (x.toNat : Int) := by rw [IntKind.wrap_i64]; omega
    clear hb2
    go_wp2_with fail
    go_ret
    exact ⟨by rw [HP.out]; rfl, HWD.out.symm⟩
  · have i1 : ¬ (n : Int) + 1 ≤ hw.length := by omega
    have HP : Hid (pkv hw n = 0) := by rw [Hid, pkv, List.getElem?_eq_none (by omega)]; rfl
    go_wp2_with fail
    go_ret
    exact ⟨by rw [HP.out]; rfl, HWD.out.symm⟩
end Go.Proofs.Ythfjeijhnikabaa
