/- The walk of cut. -/
import Derived.Test.YtnnkgjaahmflmaaCellSto
import Derived.Test.YtnnkgjaahmflmaaPool
namespace Go.Proofs.Ytnnkgjaahmflmaa
open Go.RowKit
set_option linter.unusedVariables false

/-- what the reads of the first region of cut yield -/
def cstC (nb : Nat) (lf : Bool) (Ai : Option Addr) (len ci i : Nat) : Nat → Option Value
  | 0 => some (.pointer (some ⟨nb, 0, none⟩))
  | 1 => some (.bool lf)
  | 2 => some (.pointer (some ⟨nb, 1, none⟩))
  | 3 => some (.slice Ai len ci)
  | 4 => some (.int .i64 i)
  | 5 => some (.slice Ai i ci)
  | 8 => some (.pointer (some ⟨nb, 0, none⟩))
  | 9 => some (.bool lf)
  | 10 => some (.agg #[.bool lf, .slice none 0 0, .slice none 0 0])
  | _ => none
/-- what stands while it is walked, in whatever order -/
structure CI (J : Jm) (W : World) (cst : Nat → Option Value) (lf : Bool) (i : Nat) (it : List Cl) (L : Nat → Bool) (v : Nat → Value) (J' : Jm) (w : World) : Prop where
  rd : ∀ j x, cst j = some x → L j = true → v j = x
  r7 : L 7 = true → v 7 = .agg #[.bool lf, v 6, .slice none 0 0]
  ext : Ext J W J' w
  c6 : L 6 = true → (∃ A c, v 6 = .slice A i c) ∧ Own J' w W.heap.size 55 4 (v 6) i (clC it)
  c11 : L 11 = true → ∃ b, v 11 = .pointer (some ⟨b, 0, none⟩) ∧ (L 13 = false → Fr J W.heap.size J' w b false (.slice none 0 0) (.slice none 0 0)) ∧ (L 13 = true → Fr J W.heap.size J' w b lf (v 6) (.slice none 0 0))
  c12 : L 12 = true → ∃ b, v 12 = .pointer (some ⟨b, 0, none⟩) ∧ Fr J W.heap.size J' w b false (.slice none 0 0) (.slice none 0 0)
  d1 : L 11 = true → L 12 = true → v 11 ≠ v 12
  d2 : L 6 = true → L 11 = true → ∀ b, v 11 = .pointer (some ⟨b, 0, none⟩) → (v 6).ownBlock ≠ some b
  d3 : L 6 = true → L 12 = true → ∀ b, v 12 = .pointer (some ⟨b, 0, none⟩) → (v 6).ownBlock ≠ some b
  d4 : L 13 = true → L 6 = true ∧ L 11 = true
  d5 : L 7 = true → L 6 = true
section
variable {J J' : Jm} {W w : World} {cst : Nat → Option Value} {lf : Bool} {i : Nat} {it : List Cl} {L : Nat → Bool} {v : Nat → Value}
theorem updB_ne {L : Nat → Bool} {k j : Nat} (h : j ≠ k) : updB L k j = L j := if_neg h
theorem updV_ne {v : Nat → Value} {k j : Nat} {x : Value} (h : j ≠ k) : updV v k x j = v j := if_neg h
theorem updB_at {L : Nat → Bool} {k : Nat} : updB L k k = true := if_pos rfl
theorem updV_at {v : Nat → Value} {k : Nat} {x : Value} : updV v k x k = x := if_pos rfl
theorem CI.read (h : CI J W cst lf i it L v J' w) {k : Nat} {x : Value} (hk : cst k = some x) (h6 : k ≠ 6) (h7 : k ≠ 7) (h11 : k ≠ 11) (h12 : k ≠ 12) (h13 : k ≠ 13) : CI J W cst lf i it (updB L k) (updV v k x) J' w := by
  have e6 : updB L k 6 = L 6 := updB_ne h6.symm
  have e7 : updB L k 7 = L 7 := updB_ne h7.symm
  have e11 : updB L k 11 = L 11 := updB_ne h11.symm
  have e12 : updB L k 12 = L 12 := updB_ne h12.symm
  have e13 : updB L k 13 = L 13 := updB_ne h13.symm
  have f6 : updV v k x 6 = v 6 := updV_ne h6.symm
  have f7 : updV v k x 7 = v 7 := updV_ne h7.symm
  have f11 : updV v k x 11 = v 11 := updV_ne h11.symm
  have f12 : updV v k x 12 = v 12 := updV_ne h12.symm
  refine ⟨fun j y hy hL => ?_, ?_, h.ext, ?_, ?_, ?_, ?_, ?_, ?_, ?_, ?_⟩
  · by_cases hj : j = k
    · subst hj
      rw [hk] at hy
      cases hy
      exact updV_at
    · rw [updB_ne hj] at hL
      rw [updV_ne hj]
      exact h.rd j y hy hL
  · rw [e7, f7, f6]; exact h.r7
  · rw [e6, f6]; exact h.c6
  · rw [e11, e13, f11, f6]; exact h.c11
  · rw [e12, f12]; exact h.c12
  · rw [e11, e12, f11, f12]; exact h.d1
  · rw [e6, e11, f6, f11]; exact h.d2
  · rw [e6, e12, f6, f12]; exact h.d3
  · rw [e6, e11, e13]; exact h.d4
  · rw [e6, e7]; exact h.d5
theorem CI.build (h : CI J W cst lf i it L v J' w) (hc : cst 7 = none) (h6 : L 6 = true) : CI J W cst lf i it (updB L 7) (updV v 7 (.agg #[.bool lf, v 6, .slice none 0 0])) J' w := by
  refine ⟨fun j y hy hL => ?_, fun _ => rfl, h.ext, h.c6, h.c11, h.c12, h.d1, h.d2, h.d3, h.d4, fun _ => h6⟩
  have hj : j ≠ 7 := fun e => by rw [e, hc] at hy; cases hy
  rw [updB_ne hj] at hL
  rw [updV_ne hj]
  exact h.rd j y hy hL
theorem CI.call {J5 : Jm} {w5 : World} {A : Option Addr} {c : Nat} (h : CI J W cst lf i it L v J' w) (hc : cst 6 = none) (hL6 : L 6 = false) (hL7 : L 7 = false) (hE : Ext J' w J5 w5) (ho : Own J5 w5 w.heap.size 55 4 (.slice A i c) i (clC it)) :
    CI J W cst lf i it (updB L 6) (updV v 6 (.slice A i c)) J5 w5 := by
  have hn13 : L 13 = true → False := fun e => by have := (h.d4 e).1; rw [hL6] at this; cases this
  have key : ∀ b l vi vk, Fr J W.heap.size J' w b l vi vk → (Value.slice A i c).ownBlock ≠ some b := fun b l vi vk hf e => by
    have h1 := (ho.lt b e).1
    have h2 := hf.lt
    omega
  refine ⟨fun j y hy hL => ?_, fun hL => ?_, h.ext.trans hE, fun _ => ⟨⟨A, c, rfl⟩, ho.lower h.ext.below.size⟩, fun hL => ?_, fun hL => ?_, h.d1, fun _ hL b hb => ?_, fun _ hL b hb => ?_, fun hL => (hn13 hL).elim, fun _ => rfl⟩
  · have hj : j ≠ 6 := fun e => by rw [e, hc] at hy; cases hy
    rw [updB_ne hj] at hL
    rw [updV_ne hj]
    exact h.rd j y hy hL
  · have : L 7 = true := hL
    rw [hL7] at this; cases this
  · obtain ⟨b, e, h1, h2⟩ := h.c11 hL
    exact ⟨b, e, fun hl => (h1 hl).ext hE, fun hl => (hn13 hl).elim⟩
  · obtain ⟨b, e, h1⟩ := h.c12 hL
    exact ⟨b, e, h1.ext hE⟩
  · obtain ⟨b', e, h1, h2⟩ := h.c11 hL
    have hb' : v 11 = .pointer (some ⟨b, 0, none⟩) := hb
    rw [e] at hb'
    cases hb'
    by_cases hl : L 13 = true
    · exact (hn13 hl).elim
    · exact key b _ _ _ (h1 (by simpa using hl))
  · obtain ⟨b', e, h1⟩ := h.c12 hL
    have hb' : v 12 = .pointer (some ⟨b, 0, none⟩) := hb
    rw [e] at hb'
    cases hb'
    exact key b _ _ _ h1
theorem CI.fresh (h : CI J W cst lf i it L v J' w) : (L 6 = true → (v 6).ownBlock ≠ some w.heap.size) ∧ (L 11 = true → v 11 ≠ .pointer (some ⟨w.heap.size, 0, none⟩)) ∧ (L 12 = true → v 12 ≠ .pointer (some ⟨w.heap.size, 0, none⟩)) := by
  refine ⟨fun hL e => ?_, fun hL e => ?_, fun hL e => ?_⟩
  · have := ((h.c6 hL).2.lt _ e).2; omega
  · obtain ⟨b, hb, h1, h2⟩ := h.c11 hL
    rw [e] at hb
    cases hb
    by_cases hl : L 13 = true
    · have := (h2 hl).lt; omega
    · have := (h1 (by simpa using hl)).lt; omega
  · obtain ⟨b, hb, h1⟩ := h.c12 hL
    rw [e] at hb
    cases hb
    have := h1.lt; omega
theorem CI.allocA (h : CI J W cst lf i it L v J' w) (hc : cst 11 = none) (hL : L 11 = false) : CI J W cst lf i it (updB L 11) (updV v 11 (.pointer (some ⟨w.heap.size, 0, none⟩))) J' (w.alloc (.cells #[.bool false, .slice none 0 0, .slice none 0 0] 25)) := by
  have hX := (Ext.refl h.ext.inv).alloc (.cells #[.bool false, .slice none 0 0, .slice none 0 0] 25)
  have hn13 : L 13 = true → False := fun e => by have := (h.d4 e).2; rw [hL] at this; cases this
  obtain ⟨q6, -, q12⟩ := h.fresh
  refine ⟨fun j y hy hj => ?_, h.r7, h.ext.trans hX, fun hj => ⟨(h.c6 hj).1, (h.c6 hj).2.ext hX⟩, fun _ => ⟨_, rfl, fun _ => Fr.new h.ext.inv h.ext.below.size _ _ _, fun hj => (hn13 hj).elim⟩, fun hj => ?_, fun _ hj e => q12 hj e.symm, fun h6 _ b hb => ?_, h.d3, fun hj => (hn13 hj).elim, h.d5⟩
  · have hne : j ≠ 11 := fun e => by rw [e, hc] at hy; cases hy
    rw [updB_ne hne] at hj
    rw [updV_ne hne]
    exact h.rd j y hy hj
  · obtain ⟨b, e, h1⟩ := h.c12 hj
    exact ⟨b, e, h1.ext hX⟩
  · have hb' : Value.pointer (some ⟨w.heap.size, 0, none⟩) = .pointer (some ⟨b, 0, none⟩) := hb
    cases hb'
    exact q6 h6
theorem CI.allocB (h : CI J W cst lf i it L v J' w) (hc : cst 12 = none) (hL : L 12 = false) : CI J W cst lf i it (updB L 12) (updV v 12 (.pointer (some ⟨w.heap.size, 0, none⟩))) J' (w.alloc (.cells #[.bool false, .slice none 0 0, .slice none 0 0] 25)) := by
  have hX := (Ext.refl h.ext.inv).alloc (.cells #[.bool false, .slice none 0 0, .slice none 0 0] 25)
  obtain ⟨q6, q11, -⟩ := h.fresh
  refine ⟨fun j y hy hj => ?_, h.r7, h.ext.trans hX, fun hj => ⟨(h.c6 hj).1, (h.c6 hj).2.ext hX⟩, fun hj => ?_, fun _ => ⟨_, rfl, Fr.new h.ext.inv h.ext.below.size _ _ _⟩, fun hj _ e => q11 hj e, h.d2, fun h6 _ b hb => ?_, h.d4, h.d5⟩
  · have hne : j ≠ 12 := fun e => by rw [e, hc] at hy; cases hy
    rw [updB_ne hne] at hj
    rw [updV_ne hne]
    exact h.rd j y hy hj
  · obtain ⟨b, e, h1, h2⟩ := h.c11 hj
    exact ⟨b, e, fun hl => (h1 hl).ext hX, fun hl => (h2 hl).ext hX⟩
  · have hb' : Value.pointer (some ⟨w.heap.size, 0, none⟩) = .pointer (some ⟨b, 0, none⟩) := hb
    cases hb'
    exact q6 h6
theorem CI.store (h : CI J W cst lf i it L v J' w) (hc : cst 13 = none) (h6 : L 6 = true) (h11 : L 11 = true) (h13 : L 13 = false) {b : Nat} (hb : v 11 = .pointer (some ⟨b, 0, none⟩)) (x : Value) :
    CI J W cst lf i it (updB L 13) (updV v 13 x) J' (put3 w b (.bool lf) (v 6) (.slice none 0 0)) := by
  obtain ⟨b', e, h1, -⟩ := h.c11 h11
  rw [hb] at e
  cases e
  have hf := h1 h13
  refine ⟨fun j y hy hj => ?_, h.r7, put3_e h.ext hf.lo hf.jb _ _ _, fun _ => ⟨(h.c6 h6).1, put3_own (h.c6 h6).2 (h.d2 h6 h11 b hb)⟩, fun _ => ⟨b, hb, fun hj => (by cases hj), fun _ => ⟨put3_at hf.bx, hf.lo, hf.jb⟩⟩, fun hj => ?_, h.d1, h.d2, h.d3, fun _ => ⟨h6, h11⟩, h.d5⟩
  · have hne : j ≠ 13 := fun e => by rw [e, hc] at hy; cases hy
    rw [updB_ne hne] at hj
    rw [updV_ne hne]
    exact h.rd j y hy hj
  · obtain ⟨b2, e2, h2⟩ := h.c12 hj
    have hne : b2 ≠ b := fun e => h.d1 h11 hj (by rw [hb]; show _ = v 12; rw [e2, e])
    exact ⟨b2, e2, put3_nb _ _ _ h2.bx hne, h2.lo, h2.jb⟩
end
theorem put3_keepD {w : World} {b : Nat} {x y z v : Value} {a : Addr} (h : w.cell? a = some v) (hk : a.block ≠ b) : (put3 w b x y z).drew.cell? a = some v := put3_keep h hk
theorem NdO.drew {J : Jm} {w : World} {B : Nat} {v : Value} {n : Nd} (h : NdO J w B v n) : NdO J w.drew B v n := by
  obtain ⟨vi, vk, h0, h1, h2⟩ := h
  exact ⟨vi, vk, h0, h1.drew, h2.drew⟩
theorem bodyPost_cut {R : Ending → World → Prop} {F : Act} {w : World} {b4 b5 : Nat} {l l' : Bool} {vi vk vi' vk' : Value} (hd : F.defers = []) (h : NBox w b4 l vi vk) (h' : NBox w b5 l' vi' vk')
    (h4 : F.tmps.getD 4 undef = .pointer (some ⟨b4, 0, none⟩)) (h5 : F.tmps.getD 5 undef = .pointer (some ⟨b5, 0, none⟩)) (hR : R (.returned (.tuple #[.agg #[.bool l, vi, vk], .agg #[.bool l', vi', vk']])) w) : bodyPost Try.prog Try.f51 R .ret F w := by
  have n0 := blk_cell_J h 0 rfl
  have n1 := blk_cell_J h 1 rfl
  have n2 := blk_cell_J h 2 rfl
  have m0 := blk_cell_J h' 0 rfl
  have m1 := blk_cell_J h' 1 rfl
  have m2 := blk_cell_J h' 2 rfl
  rw [Array.getD_eq_getD_getElem?] at h4 h5
  obtain ⟨tmps, defers⟩ := F
  simp only at hd h4 h5
  subst hd
  refine ⟨rfl, _, ?_, hR⟩
  simp [results, Try.results51, go_sem, n0, n1, n2, m0, m1, m2, h4, h5]
/-- what stands beside the two halves while kids are cloned -/
structure DX (J : Jm) (w : World) (B nb b4 b5 bb : Nat) (N1 N2 A5 A6 : Value) (n5 n6 : Nat) (cs5 cs6 : List Value) (J' : Jm) (X : World) : Prop where
  ext : Ext J w J' X
  hB : B ≤ X.heap.size
  o5 : Own J' X B 55 4 A5 n5 cs5
  o6 : Own J' X B 55 4 A6 n6 cs6
  f4 : Fr J w.heap.size J' X b4 false (.slice none 0 0) (.slice none 0 0)
  f5 : Fr J w.heap.size J' X b5 false (.slice none 0 0) (.slice none 0 0)
  fb : Fr J B J' X bb false A6 (.slice none 0 0)
  fn : NBox X nb false N1 N2
section
variable {J J' : Jm} {w X : World} {B nb b4 b5 bb : Nat} {N1 N2 A5 A6 : Value} {n5 n6 : Nat} {cs5 cs6 : List Value}
theorem DX.step {J5 : Jm} {X5 : World} (h : DX J w B nb b4 b5 bb N1 N2 A5 A6 n5 n6 cs5 cs6 J' X) (hE : Ext J' X J5 X5) : DX J w B nb b4 b5 bb N1 N2 A5 A6 n5 n6 cs5 cs6 J5 X5 :=
  ⟨h.ext.trans hE, Nat.le_trans h.hB hE.below.size, h.o5.ext hE, h.o6.ext hE, h.f4.ext hE, h.f5.ext hE, h.fb.ext hE, h.fn.ext hE⟩
theorem Fr.set {J0 : Jm} {b c : Nat} {l : Bool} {vi vk : Value} (h : Fr J0 B J' X b l vi vk) (i : Nat) (v : Value) (hne : b ≠ c) : Fr J0 B J' (X.setCell ⟨c, i, none⟩ v) b l vi vk :=
  ⟨(Below.heap_setCell X ⟨c, i, none⟩ v b hne).trans h.bx, h.lo, h.jb⟩
theorem DX.set (h : DX J w B nb b4 b5 bb N1 N2 A5 A6 n5 n6 cs5 cs6 J' X) {c : Nat} (i : Nat) (v : Value) (hc : w.heap.size ≤ c) (hj : J' c = []) (h5 : A5.ownBlock ≠ some c) (h6 : A6.ownBlock ≠ some c) (h45 : b4 ≠ c ∧ b5 ≠ c ∧ bb ≠ c) (hn : nb ≠ c) : DX J w B nb b4 b5 bb N1 N2 A5 A6 n5 n6 cs5 cs6 J' (X.setCell ⟨c, i, none⟩ v) :=
  ⟨h.ext.setCell (p := ⟨c, i, none⟩) hc hj v, by simpa using h.hB, own_set h.o5 h5 v, own_set h.o6 h6 v, h.f4.set i v h45.1, h.f5.set i v h45.2.1, h.fb.set i v h45.2.2, (Below.heap_setCell X ⟨c, i, none⟩ v nb hn).trans h.fn⟩
end
/-- the seventh region of cut, in whatever order -/
structure DI (J : Jm) (w : World) (B nb b4 b5 ab bb : Nat) (N1 N2 A5 A6 : Value) (n5 n6 : Nat) (cs5 cs6 : List Value) (cst : Nat → Option Value) (k m : Nat) (k5 k6 : List Value) (L : Nat → Bool) (v : Nat → Value) (J' : Jm) (X : World) : Prop where
  rd : ∀ j x, cst j = some x → L j = true → v j = x
  x : DX J w B nb b4 b5 bb N1 N2 A5 A6 n5 n6 cs5 cs6 J' X
  fa : ∃ z, Fr J B J' X ab false A5 z ∧ (L 13 = false → z = .slice none 0 0) ∧ (L 13 = true → z = v 5)
  c5 : L 5 = true → (∃ A c, v 5 = .slice A k c) ∧ Own J' X B 3 1 (v 5) k k5 ∧ (v 5).ownBlock ≠ some ab ∧ (v 5).ownBlock ≠ some bb
  c11 : L 11 = true → (∃ A c, v 11 = .slice A m c) ∧ Own J' X B 3 1 (v 11) m k6 ∧ (v 11).ownBlock ≠ some ab ∧ (v 11).ownBlock ≠ some bb
  d13 : L 13 = true → L 5 = true
section
variable {J J' : Jm} {w X : World} {B nb b4 b5 ab bb : Nat} {N1 N2 A5 A6 : Value} {n5 n6 : Nat} {cs5 cs6 : List Value} {cst : Nat → Option Value} {k m : Nat} {k5 k6 : List Value} {L : Nat → Bool} {v : Nat → Value}
theorem DI.read (h : DI J w B nb b4 b5 ab bb N1 N2 A5 A6 n5 n6 cs5 cs6 cst k m k5 k6 L v J' X) {q : Nat} {x : Value} (hk : cst q = some x) (h5 : q ≠ 5) (h11 : q ≠ 11) (h13 : q ≠ 13) : DI J w B nb b4 b5 ab bb N1 N2 A5 A6 n5 n6 cs5 cs6 cst k m k5 k6 (updB L q) (updV v q x) J' X := by
  have e5 : updB L q 5 = L 5 := updB_ne h5.symm
  have e11 : updB L q 11 = L 11 := updB_ne h11.symm
  have e13 : updB L q 13 = L 13 := updB_ne h13.symm
  have f5 : updV v q x 5 = v 5 := updV_ne h5.symm
  have f11 : updV v q x 11 = v 11 := updV_ne h11.symm
  refine ⟨fun j y hy hL => ?_, h.x, ?_, ?_, ?_, ?_⟩
  · by_cases hj : j = q
    · subst hj
      rw [hk] at hy
      cases hy
      exact updV_at
    · rw [updB_ne hj] at hL
      rw [updV_ne hj]
      exact h.rd j y hy hL
  · rw [e13, f5]; exact h.fa
  · rw [e5, f5]; exact h.c5
  · rw [e11, f11]; exact h.c11
  · rw [e5, e13]; exact h.d13
theorem DI.rdo (h : DI J w B nb b4 b5 ab bb N1 N2 A5 A6 n5 n6 cs5 cs6 cst k m k5 k6 L v J' X) {q : Nat} (hc : cst q = none) (x : Value) (j : Nat) (y : Value) (hy : cst j = some y) (hL : updB L q j = true) : updV v q x j = y := by
  have hj : j ≠ q := fun e => by rw [e, hc] at hy; cases hy
  rw [updB_ne hj] at hL
  rw [updV_ne hj]
  exact h.rd j y hy hL
theorem Own.apart {T T' : TypeId} {size size' n n' b : Nat} {l : Bool} {vi vk : Value} {J0 J5 : Jm} {X5 : World} {y : Value} {cs : List Value} (ho : Own J5 X5 X.heap.size T size y n cs) (hf : Fr J0 B J' X b l vi vk) : y.ownBlock ≠ some b := fun e => by
  have h1 := (ho.lt b e).1
  have h2 := hf.lt
  omega
theorem DI.call5 (h : DI J w B nb b4 b5 ab bb N1 N2 A5 A6 n5 n6 cs5 cs6 cst k m k5 k6 L v J' X) (hc : cst 5 = none) (hL : L 5 = false) {J5 : Jm} {X5 : World} {A : Option Addr} {c : Nat} (hE : Ext J' X J5 X5) (ho : Own J5 X5 X.heap.size 3 1 (.slice A k c) k k5) :
    DI J w B nb b4 b5 ab bb N1 N2 A5 A6 n5 n6 cs5 cs6 cst k m k5 k6 (updB L 5) (updV v 5 (.slice A k c)) J5 X5 := by
  have hn13 : L 13 = true → False := fun e => by have := h.d13 e; rw [hL] at this; cases this
  obtain ⟨z, hz, hz0, hz1⟩ := h.fa
  refine ⟨fun j y hy hL => h.rdo hc _ j y hy hL, h.x.step hE, ⟨z, hz.ext hE, hz0, fun e => (hn13 e).elim⟩, fun _ => ⟨⟨A, c, rfl⟩, ho.lower h.x.hB, Own.apart (T' := 0) (size' := 0) (n' := 0) ho hz, Own.apart (T' := 0) (size' := 0) (n' := 0) ho h.x.fb⟩, fun e => ?_, fun e => (hn13 e).elim⟩
  obtain ⟨h1, h2, h3, h4⟩ := h.c11 e
  exact ⟨h1, h2.ext hE, h3, h4⟩
theorem DI.call11 (h : DI J w B nb b4 b5 ab bb N1 N2 A5 A6 n5 n6 cs5 cs6 cst k m k5 k6 L v J' X) (hc : cst 11 = none) {J5 : Jm} {X5 : World} {A : Option Addr} {c : Nat} (hE : Ext J' X J5 X5) (ho : Own J5 X5 X.heap.size 3 1 (.slice A m c) m k6) :
    DI J w B nb b4 b5 ab bb N1 N2 A5 A6 n5 n6 cs5 cs6 cst k m k5 k6 (updB L 11) (updV v 11 (.slice A m c)) J5 X5 := by
  obtain ⟨z, hz, hz0, hz1⟩ := h.fa
  refine ⟨fun j y hy hL => h.rdo hc _ j y hy hL, h.x.step hE, ⟨z, hz.ext hE, hz0, hz1⟩, fun e => ?_, fun _ => ⟨⟨A, c, rfl⟩, ho.lower h.x.hB, Own.apart (T' := 0) (size' := 0) (n' := 0) ho hz, Own.apart (T' := 0) (size' := 0) (n' := 0) ho h.x.fb⟩, h.d13⟩
  obtain ⟨h1, h2, h3, h4⟩ := h.c5 e
  exact ⟨h1, h2.ext hE, h3, h4⟩
theorem DI.store (h : DI J w B nb b4 b5 ab bb N1 N2 A5 A6 n5 n6 cs5 cs6 cst k m k5 k6 L v J' X) (hc : cst 13 = none) (h5 : L 5 = true) (x : Value) (hw : w.heap.size ≤ B) (o5 : A5.ownBlock ≠ some ab) (o6 : A6.ownBlock ≠ some ab) (h45 : b4 ≠ ab ∧ b5 ≠ ab ∧ bb ≠ ab) (hn : nb ≠ ab) :
    DI J w B nb b4 b5 ab bb N1 N2 A5 A6 n5 n6 cs5 cs6 cst k m k5 k6 (updB L 13) (updV v 13 x) J' (X.setCell ⟨ab, 2, none⟩ (v 5)) := by
  obtain ⟨z, hz, hz0, hz1⟩ := h.fa
  refine ⟨fun j y hy hL => h.rdo hc _ j y hy hL, h.x.set 2 (v 5) (Nat.le_trans hw hz.lo) hz.jb o5 o6 h45 hn, ⟨v 5, ⟨blk_set_J hz.bx 2 (v 5), hz.lo, hz.jb⟩, fun e => (by cases e), fun _ => rfl⟩, fun e => ?_, fun e => ?_, fun _ => h5⟩
  · obtain ⟨h1, h2, h3, h4⟩ := h.c5 e
    exact ⟨h1, own_set h2 h3 _, h3, h4⟩
  · obtain ⟨h1, h2, h3, h4⟩ := h.c11 e
    exact ⟨h1, own_set h2 h3 _, h3, h4⟩
end
def cstD (nb ab bb : Nat) (Ak : Option Addr) (len ck i k : Nat) : Nat → Option Value
  | 0 => some (.pointer (some ⟨nb, 2, none⟩))
  | 1 => some (.slice Ak len ck)
  | 2 => some (.int .i64 i)
  | 3 => some (.int .i64 k)
  | 4 => some (.slice Ak k ck)
  | 6 => some (.pointer (some ⟨nb, 2, none⟩))
  | 7 => some (.slice Ak len ck)
  | 8 => some (.int .i64 i)
  | 9 => some (.int .i64 k)
  | 10 => some (.slice (Ak.map (·.add k)) (len - k) (ck - k))
  | 12 => some (.pointer (some ⟨ab, 2, none⟩))
  | 14 => some (.pointer (some ⟨bb, 2, none⟩))
  | _ => none
/-- both halves handed over: two loads, two stores, in an order that is drawn -/
def EI (w3 : World) (b4 : Nat) (la : Bool) (ia ka : Value) (lb : Bool) (ib kb : Value) (L : Nat → Bool) (v : Nat → Value) (w : World) : Prop :=
  (L 0 = true → v 0 = .agg #[.bool la, ia, ka]) ∧ (L 1 = true → v 1 = .agg #[.bool lb, ib, kb]) ∧ w = if L 2 = true then put3 w3 b4 (.bool la) ia ka else w3
set_option maxRecDepth 100000 in
set_option maxHeartbeats 8000000 in
theorem cutR_calls {J : Jm} {w : World} (hI : Inv J w) {v : Value} {n : Nd} (hn : NdV J v n) (i : Nat) (hi : i ≤ n.items.length) (hl : n.items.length ≤ 1048576) (hik : n.leaf = false → i + 1 ≤ n.items.length ∧ n.kids.length = n.items.length + 1) :
    Calls Try.prog 51 #[v, .int .i64 i] w fun e w' => ∃ va vb J', e = .returned (.tuple #[va, vb]) ∧ Ext J w J' w' ∧ NdO J' w' w.heap.size va (cutA n i) ∧ NdO J' w' w.heap.size vb (cutB n i) := by
  obtain ⟨vi, vk, rfl, hci, hck⟩ := hn
  obtain ⟨Ai, ci, rfl, hni, hmi⟩ := hci.form
  obtain ⟨Ak, ck, rfl, hnk, hmk⟩ := hck.form
  unfold maxLen at hmi hmk
  have HTO := Lib.hid (show Sl J 4 (.slice Ai i ci) (n.items.take i).length (clC (n.items.take i)) from by
    have h := Sl.to hci hi
    rw [← clC_take] at h
    rw [show (n.items.take i).length = i by rw [List.length_take]; omega]; exact h)
  have HLT := Lib.hid (show (n.items.take i).length = i ∧ (n.items.take i).length ≤ 1048576 from by rw [List.length_take]; omega)
  have HBH := Lib.hid (Sl.behind hci hi)
  have i0 : (0 : Int) ≤ (i : Int) := by omega
  have i1 : (i : Int) ≤ n.items.length := by omega
  have i2 : (i : Int) ≤ ci := by omega
  have HCI := Lib.hid hci
  have HCK := Lib.hid hck
  have HIK := Lib.hid hik
  clear hci hck hik
  go_enter Try.func51, Try.ntmps51
  go_upto_region 1 with fail
  have HEa := Lib.hid (((Ext.refl hI).alloc (.cells #[.bool n.leaf, .slice Ai n.items.length ci, .slice Ak n.kids.length ck] 25)))
  have HNa := Lib.hid (show NBox (w.alloc (.cells #[.bool n.leaf, .slice Ai n.items.length ci, .slice Ak n.kids.length ck] 25)) w.heap.size n.leaf (.slice Ai n.items.length ci) (.slice Ak n.kids.length ck) from heap_alloc_new w _)
  have hs1 : (w.alloc (.cells #[.bool n.leaf, .slice Ai n.items.length ci, .slice Ak n.kids.length ck] 25)).heap.size = w.heap.size + 1 := by simp
  have hs2 : ((w.alloc (.cells #[.bool n.leaf, .slice Ai n.items.length ci, .slice Ak n.kids.length ck] 25)).alloc (.cells #[.bool false, .slice none 0 0, .slice none 0 0] 25)).heap.size = w.heap.size + 1 + 1 := by simp
  have HX1 := (Ext.refl HEa.out.inv).alloc (.cells #[.bool false, .slice none 0 0, .slice none 0 0] 25)
  have HX2 := (Ext.refl HX1.inv).alloc (.cells #[.bool false, .slice none 0 0, .slice none 0 0] 25)
  have F4 := Lib.hid ((Fr.new (J0 := J) (B := w.heap.size) HEa.out.inv HEa.out.below.size false (.slice none 0 0) (.slice none 0 0)).ext HX2)
  have F5 := Lib.hid (Fr.new (J0 := J) (B := w.heap.size) HX1.inv (Nat.le_trans HEa.out.below.size HX1.below.size) false (.slice none 0 0) (.slice none 0 0))
  rw [hs1] at F4
  rw [hs2] at F5
  have HN := Lib.hid ((HNa.out.ext HX1).ext HX2)
  have HE := Lib.hid ((HEa.out.trans HX1).trans HX2)
  have hlt := F5.out.lt
  clear hs1 hs2 HX1 HX2 HEa HNa
  generalize World.alloc (World.alloc (World.alloc w _) _) _ = W at *
  generalize h5 : w.heap.size + 1 + 1 = b5 at *
  generalize h4 : w.heap.size + 1 = b4 at *
  generalize h0 : w.heap.size = nb at HN F4 F5 ⊢
  have HNE := Lib.hid (show nb < b4 ∧ b4 < b5 ∧ b5 < W.heap.size from by omega)
  have HNB0 := Lib.hid (show w.heap.size = nb from h0)
  clear h0 h4 h5 hlt
  have hEd := (Ext.refl HE.out.inv).drew
  refine wp_region_pool2 14 (fun L v w' => ∃ J', CI J W (cstC nb n.leaf Ai n.items.length ci i) n.leaf i (n.items.take i) L v J' w') (by kernel_rfl) (by kernel_rfl) (fun _ => undef) ?_ ?_ ?_
  · exact ⟨J, fun _ _ _ h => (by cases h), fun h => (by cases h), hEd, fun h => (by cases h), fun h => (by cases h), fun h => (by cases h), fun h => (by cases h), fun h => (by cases h), fun h => (by cases h), fun h => (by cases h), fun h => (by cases h)⟩
  · intro k o hk ho L v w' F hIc hL hw hout hdp
    obtain ⟨J', hc⟩ := hIc
    have q1 : F.tmps.getD 1 undef = .int .i64 i := hout 1 (by kernel_rfl)
    have q2 : F.tmps.getD 2 undef = .pointer (some ⟨nb, 0, none⟩) := hout 2 (by kernel_rfl)
    have hk13 : k = 0 ∨ k = 1 ∨ k = 2 ∨ k = 3 ∨ k = 4 ∨ k = 5 ∨ k = 6 ∨ k = 7 ∨ k = 8 ∨ k = 9 ∨ k = 10 ∨ k = 11 ∨ k = 12 ∨ k = 13 := by omega
    rcases hk13 with rfl | rfl | rfl | rfl | rfl | rfl | rfl | rfl | rfl | rfl | rfl | rfl | rfl | rfl
    · cases ho
      refine wp_value (x := .pointer (some ⟨nb, 0, none⟩)) (w' := w') ?_ ⟨_, rfl, J', hc.read rfl (by decide) (by decide) (by decide) (by decide) (by decide)⟩
      clear hw hout hdp hc
      unfold execOp
      simp only [Act.eval, q2]
      go_simp
    · cases ho
      have e8 := (hdp 0 8 (by kernel_rfl) (hw 0 (by kernel_rfl))).trans (hc.rd 0 _ rfl (hw 0 (by kernel_rfl)))
      have HNw := HN.out.ext hc.ext
      have n0 := blk_cell_J HNw 0 rfl
      refine wp_value (x := .bool n.leaf) (w' := w') ?_ ⟨_, rfl, J', hc.read rfl (by decide) (by decide) (by decide) (by decide) (by decide)⟩
      clear hw hout hdp hc
      unfold execOp
      simp only [Act.eval, e8]
      go_simp
    · cases ho
      refine wp_value (x := .pointer (some ⟨nb, 1, none⟩)) (w' := w') ?_ ⟨_, rfl, J', hc.read rfl (by decide) (by decide) (by decide) (by decide) (by decide)⟩
      clear hw hout hdp hc
      unfold execOp
      simp only [Act.eval, q2]
      go_simp
    · cases ho
      have e10 := (hdp 2 10 (by kernel_rfl) (hw 2 (by kernel_rfl))).trans (hc.rd 2 _ rfl (hw 2 (by kernel_rfl)))
      have HNw := HN.out.ext hc.ext
      have n1 := blk_cell_J HNw 1 rfl
      refine wp_value (x := .slice Ai n.items.length ci) (w' := w') ?_ ⟨_, rfl, J', hc.read rfl (by decide) (by decide) (by decide) (by decide) (by decide)⟩
      clear hw hout hdp hc
      unfold execOp
      simp only [Act.eval, e10]
      go_simp
    · cases ho
      refine wp_value (x := .int .i64 i) (w' := w') ?_ ⟨_, rfl, J', hc.read rfl (by decide) (by decide) (by decide) (by decide) (by decide)⟩
      clear hw hout hdp hc
      unfold execOp
      simp only [Act.eval, q1]
      go_simp
    · cases ho
      have e11 := (hdp 3 11 (by kernel_rfl) (hw 3 (by kernel_rfl))).trans (hc.rd 3 _ rfl (hw 3 (by kernel_rfl)))
      have e12 := (hdp 4 12 (by kernel_rfl) (hw 4 (by kernel_rfl))).trans (hc.rd 4 _ rfl (hw 4 (by kernel_rfl)))
      refine wp_value (x := .slice Ai i ci) (w' := w') ?_ ⟨_, rfl, J', hc.read rfl (by decide) (by decide) (by decide) (by decide) (by decide)⟩
      clear hw hout hdp hc
      unfold execOp
      simp only [Act.eval, e11]
      go_simp
    · cases ho
      have hL7 : L 7 = false := by
        cases h : L 7 with
        | false => rfl
        | true => exact absurd (hc.d5 h) (by rw [hL]; decide)
      have e13 := (hdp 5 13 (by kernel_rfl) (hw 5 (by kernel_rfl))).trans (hc.rd 5 _ rfl (hw 5 (by kernel_rfl)))
      have hcl := cloneC_calls hc.ext.inv ((HTO.out.mono (HE.out.le hI)).mono (hc.ext.le HE.out.inv)) HLT.out.2
      rw [HLT.out.1] at hcl
      have HCC := Lib.hid hc
      clear hw hout hdp hc
      unfold Oper.wp execOp
      go_simp
      refine hcl.mono ?_
      rintro e5 w5 ⟨v5, J5, rfl, hE5, hO5, -⟩
      obtain ⟨A5, c5, rfl, -, -⟩ := hO5.sl.form
      exact ⟨_, rfl, J5, HCC.out.call rfl hL hL7 hE5 hO5⟩
    · cases ho
      have h6 := hw 6 (by kernel_rfl)
      have e9 := (hdp 1 9 (by kernel_rfl) (hw 1 (by kernel_rfl))).trans (hc.rd 1 _ rfl (hw 1 (by kernel_rfl)))
      have e14 := hdp 6 14 (by kernel_rfl) h6
      obtain ⟨⟨A5, c5, h5⟩, -⟩ := hc.c6 h6
      rw [h5] at e14
      refine wp_value (x := .agg #[.bool n.leaf, .slice A5 i c5, .slice none 0 0]) (w' := w') ?_ ⟨_, rfl, J', by have := hc.build rfl h6; rw [h5] at this; exact this⟩
      clear hw hout hdp hc
      unfold execOp
      rw [Array.getD_eq_getD_getElem?] at e9 e14
      go_simp
    · cases ho
      refine wp_value (x := .pointer (some ⟨nb, 0, none⟩)) (w' := w') ?_ ⟨_, rfl, J', hc.read rfl (by decide) (by decide) (by decide) (by decide) (by decide)⟩
      clear hw hout hdp hc
      unfold execOp
      simp only [Act.eval, q2]
      go_simp
    · cases ho
      have e16 := (hdp 8 16 (by kernel_rfl) (hw 8 (by kernel_rfl))).trans (hc.rd 8 _ rfl (hw 8 (by kernel_rfl)))
      have HNw := HN.out.ext hc.ext
      have n0 := blk_cell_J HNw 0 rfl
      refine wp_value (x := .bool n.leaf) (w' := w') ?_ ⟨_, rfl, J', hc.read rfl (by decide) (by decide) (by decide) (by decide) (by decide)⟩
      clear hw hout hdp hc
      unfold execOp
      simp only [Act.eval, e16]
      go_simp
    · cases ho
      have e17 := (hdp 9 17 (by kernel_rfl) (hw 9 (by kernel_rfl))).trans (hc.rd 9 _ rfl (hw 9 (by kernel_rfl)))
      refine wp_value (x := .agg #[.bool n.leaf, .slice none 0 0, .slice none 0 0]) (w' := w') ?_ ⟨_, rfl, J', hc.read rfl (by decide) (by decide) (by decide) (by decide) (by decide)⟩
      clear hw hout hdp hc
      unfold execOp
      rw [Array.getD_eq_getD_getElem?] at e17
      go_simp
    · cases ho
      refine wp_value (x := .pointer (some ⟨w'.heap.size, 0, none⟩)) (w' := w'.alloc (.cells #[.bool false, .slice none 0 0, .slice none 0 0] 25)) ?_ ⟨_, rfl, J', hc.allocA rfl hL⟩
      clear hw hout hdp hc
      unfold execOp
      go_simp
    · cases ho
      refine wp_value (x := .pointer (some ⟨w'.heap.size, 0, none⟩)) (w' := w'.alloc (.cells #[.bool false, .slice none 0 0, .slice none 0 0] 25)) ?_ ⟨_, rfl, J', hc.allocB rfl hL⟩
      clear hw hout hdp hc
      unfold execOp
      go_simp
    · cases ho
      have h6 := hw 6 (by kernel_rfl)
      have h7 := hw 7 (by kernel_rfl)
      have h11 := hw 11 (by kernel_rfl)
      obtain ⟨b, hb, hf, -⟩ := hc.c11 h11
      have e6 := (hdp 11 6 (by kernel_rfl) h11).trans hb
      have e15 := (hdp 7 15 (by kernel_rfl) h7).trans (hc.r7 h7)
      obtain ⟨⟨A5, c5, h5⟩, -⟩ := hc.c6 h6
      rw [h5] at e15
      refine wp_skip (run_store3 rfl e6 e15 (hf hL).bx) ⟨undef, rfl, J', ?_⟩
      have := hc.store rfl h6 h11 hL hb undef
      rw [h5] at this
      exact this
  · intro L v w' F hall hIc hF _ _ _
    obtain ⟨J1, hc⟩ := hIc
    have g0 := hc.rd 0 _ rfl (hall 0 (by omega))
    have g1 := hc.rd 1 _ rfl (hall 1 (by omega))
    have g2 := hc.rd 2 _ rfl (hall 2 (by omega))
    have g3 := hc.rd 3 _ rfl (hall 3 (by omega))
    have g4 := hc.rd 4 _ rfl (hall 4 (by omega))
    have g5 := hc.rd 5 _ rfl (hall 5 (by omega))
    have g8 := hc.rd 8 _ rfl (hall 8 (by omega))
    have g9 := hc.rd 9 _ rfl (hall 9 (by omega))
    have g10 := hc.rd 10 _ rfl (hall 10 (by omega))
    have g7 := hc.r7 (hall 7 (by omega))
    obtain ⟨⟨A5, c5, g6⟩, HO⟩ := hc.c6 (hall 6 (by omega))
    obtain ⟨ab, g11, -, hfa⟩ := hc.c11 (hall 11 (by omega))
    obtain ⟨bb, g12, hfb⟩ := hc.c12 (hall 12 (by omega))
    have hfa := hfa (hall 13 (by omega))
    have hab : ab ≠ bb := fun q => hc.d1 (hall 11 (by omega)) (hall 12 (by omega)) (by rw [g11, g12, q])
    have hoa := hc.d2 (hall 6 (by omega)) (hall 11 (by omega)) ab g11
    have hob := hc.d3 (hall 6 (by omega)) (hall 12 (by omega)) bb g12
    have hE1 := hc.ext
    rw [g6] at HO hfa hoa hob g7
    have hF' : F = ⟨#[.agg #[.bool n.leaf, .slice Ai n.items.length ci, .slice Ak n.kids.length ck], .int .i64 i, .pointer (some ⟨nb, 0, none⟩), undef, .pointer (some ⟨b4, 0, none⟩), .pointer (some ⟨b5, 0, none⟩), .pointer (some ⟨ab, 0, none⟩), .pointer (some ⟨bb, 0, none⟩), .pointer (some ⟨nb, 0, none⟩), .bool n.leaf, .pointer (some ⟨nb, 1, none⟩), .slice Ai n.items.length ci, .int .i64 i, .slice Ai i ci, .slice A5 i c5, .agg #[.bool n.leaf, .slice A5 i c5, .slice none 0 0], .pointer (some ⟨nb, 0, none⟩), .bool n.leaf, .agg #[.bool n.leaf, .slice none 0 0, .slice none 0 0], undef, undef, undef, undef, undef, undef, undef, undef, undef, undef, undef, undef, undef, undef, undef, undef, undef, undef, undef, undef, undef, undef, undef, undef, undef, undef, undef, undef, undef, undef, undef, undef, undef], []⟩ := by
      rw [hF, fill_congr (L' := fun _ => true) 14 (fun j hj => hall j hj)]
      refine Eq.trans (b := (⟨#[.agg #[.bool n.leaf, .slice Ai n.items.length ci, .slice Ak n.kids.length ck], .int .i64 i, .pointer (some ⟨nb, 0, none⟩), undef, .pointer (some ⟨b4, 0, none⟩), .pointer (some ⟨b5, 0, none⟩), v 11, v 12, v 0, v 1, v 2, v 3, v 4, v 5, v 6, v 7, v 8, v 9, v 10, undef, undef, undef, undef, undef, undef, undef, undef, undef, undef, undef, undef, undef, undef, undef, undef, undef, undef, undef, undef, undef, undef, undef, undef, undef, undef, undef, undef, undef, undef, undef, undef, undef], []⟩ : Act)) (by kernel_rfl) ?_
      rw [g0, g1, g2, g3, g4, g5, g8, g9, g10, g6, g7, g11, g12]
    clear hF hall hc g0 g1 g2 g3 g4 g5 g8 g9 g10 g6 g7 g11 g12
    subst hF'
    simp only [List.drop_succ_cons, List.drop_zero]
    refine wpList_skip rfl (run_store3 rfl rfl rfl hfb.bx) ?_
    have hne2 : ab ≠ bb := hab
    have FA := Lib.hid (show Fr J W.heap.size J1 (put3 w' bb (.bool n.leaf) (.slice none 0 0) (.slice none 0 0)) ab n.leaf (.slice A5 i c5) (.slice none 0 0) from ⟨put3_nb _ _ _ hfa.bx hab, hfa.lo, hfa.jb⟩)
    have FB := Lib.hid (show Fr J W.heap.size J1 (put3 w' bb (.bool n.leaf) (.slice none 0 0) (.slice none 0 0)) bb n.leaf (.slice none 0 0) (.slice none 0 0) from ⟨put3_at hfb.bx, hfb.lo, hfb.jb⟩)
    have HO1 := Lib.hid (put3_own (b := bb) (x := .bool n.leaf) (y := .slice none 0 0) (z := .slice none 0 0) HO hob)
    have HE1 := Lib.hid (put3_e hE1 hfb.lo hfb.jb (.bool n.leaf) (.slice none 0 0) (.slice none 0 0))
    have HOA := Lib.hid hoa
    have HOB := Lib.hid hob
    clear hfa hfb hoa hob HO hE1 hEd
    generalize put3 w' bb _ _ _ = w1 at *
    have HN1 := Lib.hid (HN.out.ext HE1.out)
    have F41 := Lib.hid (F4.out.ext HE1.out)
    have F51 := Lib.hid (F5.out.ext HE1.out)
    have n0 := blk_cell_J HN1.out 0 rfl
    have n1 := blk_cell_J HN1.out 1 rfl
    have n2 := blk_cell_J HN1.out 2 rfl
    simp only [Act.put]
    cases hlf : n.leaf with
    | true =>
      rw [hlf] at n0 FA FB HN1
      have HBL := Lib.hid (show (n.items.drop i).length = n.items.length - i ∧ (n.items.drop i).length ≤ 1048576 from by rw [List.length_drop]; omega)
      have hbh := HBH.out
      rw [← clC_drop] at hbh
      by_cases hcn : ci = i
      · rw [if_pos hcn] at hbh
        have HBS := Lib.hid (show Sl J 4 (.slice Ai (n.items.length - i) 0) (n.items.drop i).length (clC (n.items.drop i)) from by rw [HBL.out.1]; rw [show ci - i = 0 by omega] at hbh; exact hbh)
        clear hbh
        go_wp2_with fail
        refine (cloneC_calls HE1.out.inv (HBS.out.mono ((HE.out.trans HE1.out).le hI)) HBL.out.2).mono ?_
        rintro e w2 ⟨v2, J2, rfl, hE2, hO2, -⟩
        obtain ⟨A6, c6, rfl, -, -⟩ := hO2.sl.form
        have hO2 : Own J2 w2 w1.heap.size 55 4 (.slice A6 (n.items.length - i) c6) (n.items.length - i) (clC (n.items.drop i)) := by have h := hO2; rw [HBL.out.1] at h; exact h
        have FA2 := FA.out.ext hE2
        have FB2 := FB.out.ext hE2
        have F42 := F41.out.ext hE2
        have F52 := F51.out.ext hE2
        have HOa := HO1.out.ext hE2
        have HE2 := HE1.out.trans hE2
        have hbw : bb < w1.heap.size := FB.out.lt
        have hob2 : (Value.slice A6 (n.items.length - i) c6).ownBlock ≠ some bb := fun e => by have := (hO2.lt _ e).1; omega
        have bc0 := blk_cell_J FB2.bx 0 rfl
        have bc1 := blk_cell_J FB2.bx 1 rfl
        have bc2 := blk_cell_J FB2.bx 2 rfl
        have bf1 := frozen_of_row _ bb 1 _ _ FB2.bx
        have GA := Lib.hid (show NBox (w2.setCell ⟨bb, 1, none⟩ (.slice A6 (n.items.length - i) c6)) ab true (.slice A5 i c5) (.slice none 0 0) from (Below.heap_setCell w2 ⟨bb, 1, none⟩ _ ab hab).trans FA2.bx)
        have GB := Lib.hid (show NBox (w2.setCell ⟨bb, 1, none⟩ (.slice A6 (n.items.length - i) c6)) bb true (.slice A6 (n.items.length - i) c6) (.slice none 0 0) from blk_set_J FB2.bx 1 _)
        have hne4 : b4 ≠ bb := by have := HNE.out; have := FB.out.lo; omega
        have hne5 : b5 ≠ bb := by have := HNE.out; have := FB.out.lo; omega
        have hne4a : b4 ≠ ab := by have := HNE.out; have := FA.out.lo; omega
        have hne5a : b5 ≠ ab := by have := HNE.out; have := FA.out.lo; omega
        have G4 := Lib.hid (show NBox (w2.setCell ⟨bb, 1, none⟩ (.slice A6 (n.items.length - i) c6)) b4 false (.slice none 0 0) (.slice none 0 0) from (Below.heap_setCell w2 ⟨bb, 1, none⟩ _ b4 hne4).trans F42.bx)
        have G5 := Lib.hid (show NBox (w2.setCell ⟨bb, 1, none⟩ (.slice A6 (n.items.length - i) c6)) b5 false (.slice none 0 0) (.slice none 0 0) from (Below.heap_setCell w2 ⟨bb, 1, none⟩ _ b5 hne5).trans F52.bx)
        have GE := Lib.hid (HE.out.trans (HE2.setCell (p := ⟨bb, 1, none⟩) FB2.lo FB2.jb (.slice A6 (n.items.length - i) c6)))
        have GNA := Lib.hid (show NdO J2 (w2.setCell ⟨bb, 1, none⟩ (.slice A6 (n.items.length - i) c6)) W.heap.size (.agg #[.bool true, .slice A5 i c5, .slice none 0 0]) (cutA n i) from ⟨_, _, by unfold cutA; rw [hlf], by unfold cutA; simp only []; rw [HLT.out.1]; exact own_set HOa HOB.out _, by unfold cutA; rw [hlf]; exact Own.nil _ _ _ _ _⟩)
        have GNB := Lib.hid (show NdO J2 (w2.setCell ⟨bb, 1, none⟩ (.slice A6 (n.items.length - i) c6)) W.heap.size (.agg #[.bool true, .slice A6 (n.items.length - i) c6, .slice none 0 0]) (cutB n i) from ⟨_, _, by unfold cutB; rw [hlf]; rfl, by unfold cutB; rw [hlf]; show Own _ _ _ _ _ _ (n.items.drop i).length _; rw [HBL.out.1]; exact own_set (hO2.lower HE1.out.below.size) hob2 _, by unfold cutB; rw [hlf]; exact Own.nil _ _ _ _ _⟩)
        have HJ45 := Lib.hid (show J2 b4 = [] ∧ J2 b5 = [] from ⟨F42.jb, F52.jb⟩)
        have HL45 := Lib.hid (show w.heap.size ≤ b4 ∧ w.heap.size ≤ b5 from by rw [HNB0.out]; exact ⟨F42.lo, F52.lo⟩)
        clear FA2 FB2 F42 F52 HOa HE2 hE2 hO2 hob2 n0 n1 n2
        go_upto_region 4 with fail
        generalize World.setCell w2 _ _ = w3 at *
        clear bc0 bc1 bc2 bf1
        have hu4 : ab ≠ b4 := fun e => hne4a e.symm
        have hu5 : ab ≠ b5 := fun e => hne5a e.symm
        have hv4 : bb ≠ b4 := fun e => hne4 e.symm
        have hv5 : bb ≠ b5 := fun e => hne5 e.symm
        have h45 : b5 ≠ b4 := by have := HNE.out; omega
        refine wp_region_pool2 3 (EI w3.drew b4 true (.slice A5 i c5) (.slice none 0 0) true (.slice A6 (n.items.length - i) c6) (.slice none 0 0)) (by kernel_rfl) (by kernel_rfl) (fun _ => undef) ⟨fun h => (by cases h), fun h => (by cases h), rfl⟩ ?_ ?_
        · intro k o hk ho L v w' F hIe hL hw hout hdp
          obtain ⟨he0, he1, he2⟩ := hIe
          have q4 : F.tmps.getD 4 undef = .pointer (some ⟨b4, 0, none⟩) := (hout 4 (by kernel_rfl)).trans rfl
          have q6 : F.tmps.getD 6 undef = .pointer (some ⟨ab, 0, none⟩) := (hout 6 (by kernel_rfl)).trans rfl
          have q7 : F.tmps.getD 7 undef = .pointer (some ⟨bb, 0, none⟩) := (hout 7 (by kernel_rfl)).trans rfl
          have hA : NBox w' ab true (.slice A5 i c5) (.slice none 0 0) := by rw [he2]; split; exact put3_nb _ _ _ GA.out hu4; exact GA.out
          have hB : NBox w' bb true (.slice A6 (n.items.length - i) c6) (.slice none 0 0) := by rw [he2]; split; exact put3_nb _ _ _ GB.out hv4; exact GB.out
          have hk3 : k = 0 ∨ k = 1 ∨ k = 2 := by omega
          rcases hk3 with rfl | rfl | rfl
          · cases ho
            have n0 := blk_cell_J hA 0 rfl
            have n1 := blk_cell_J hA 1 rfl
            have n2 := blk_cell_J hA 2 rfl
            refine wp_value (x := .agg #[.bool true, .slice A5 i c5, .slice none 0 0]) (w' := w') ?_ ⟨_, rfl, fun _ => rfl, he1, he2⟩
            clear hw hout hdp he0 he1 he2 hA hB
            unfold execOp
            simp only [Act.eval, q6]
            go_simp
          · cases ho
            have n0 := blk_cell_J hB 0 rfl
            have n1 := blk_cell_J hB 1 rfl
            have n2 := blk_cell_J hB 2 rfl
            refine wp_value (x := .agg #[.bool true, .slice A6 (n.items.length - i) c6, .slice none 0 0]) (w' := w') ?_ ⟨_, rfl, he0, fun _ => rfl, he2⟩
            clear hw hout hdp he0 he1 he2 hA hB
            unfold execOp
            simp only [Act.eval, q7]
            go_simp
          · cases ho
            have e27 := (hdp 0 27 (by skip; kernel_rfl) (hw 0 (by kernel_rfl))).trans (he0 (hw 0 (by kernel_rfl)))
            have h4 : NBox w' b4 false (.slice none 0 0) (.slice none 0 0) := by rw [he2, if_neg (by rw [hL]; decide)]; exact G4.out
            refine wp_skip (run_store3 rfl q4 e27 h4) ⟨undef, rfl, he0, he1, ?_⟩
            rw [he2, if_neg (by rw [hL]; decide)]
            rfl
        · intro L v w' F hall hIe hF hFd hout hdp
          obtain ⟨he0, he1, he2⟩ := hIe
          rw [if_pos (hall 2 (by omega))] at he2
          have q4 : F.tmps.getD 4 undef = .pointer (some ⟨b4, 0, none⟩) := (hout 4 (by kernel_rfl)).trans rfl
          have q5 : F.tmps.getD 5 undef = .pointer (some ⟨b5, 0, none⟩) := (hout 5 (by kernel_rfl)).trans rfl
          have e28 := (hdp 1 28 (by skip; kernel_rfl)).trans (he1 (hall 1 (by omega)))
          have hFd0 : F.defers = [] := hFd.trans rfl
          have h5 : NBox w' b5 false (.slice none 0 0) (.slice none 0 0) := by rw [he2]; exact put3_nb _ _ _ G5.out h45
          simp only [List.drop_succ_cons, List.drop_zero]
          refine wpList_skip rfl (run_store3 rfl q5 e28 h5) ?_
          clear hF hout hdp
          have hFA : NBox (put3 w' b5 (.bool true) (.slice A6 (n.items.length - i) c6) (.slice none 0 0)) b4 true (.slice A5 i c5) (.slice none 0 0) := by rw [he2]; exact put3_nb _ _ _ (put3_at G4.out) (fun e => h45 e.symm)
          have hFB : NBox (put3 w' b5 (.bool true) (.slice A6 (n.items.length - i) c6) (.slice none 0 0)) b5 true (.slice A6 (n.items.length - i) c6) (.slice none 0 0) := put3_at h5
          have hFE : Ext J w J2 (put3 w' b5 (.bool true) (.slice A6 (n.items.length - i) c6) (.slice none 0 0)) := by rw [he2]; exact put3_e (put3_e GE.out.drew HL45.out.1 HJ45.out.1 _ _ _) HL45.out.2 HJ45.out.2 _ _ _
          have hFNA : NdO J2 (put3 w' b5 (.bool true) (.slice A6 (n.items.length - i) c6) (.slice none 0 0)) w.heap.size (.agg #[.bool true, .slice A5 i c5, .slice none 0 0]) (cutA n i) := by rw [he2]; exact put3_node (put3_node GNA.out.drew (by have := HNE.out; omega) (Nat.le_refl _) _ _ _) (by have := HNE.out; omega) HE.out.below.size _ _ _
          have hFNB : NdO J2 (put3 w' b5 (.bool true) (.slice A6 (n.items.length - i) c6) (.slice none 0 0)) w.heap.size (.agg #[.bool true, .slice A6 (n.items.length - i) c6, .slice none 0 0]) (cutB n i) := by rw [he2]; exact put3_node (put3_node GNB.out.drew (by have := HNE.out; omega) (Nat.le_refl _) _ _ _) (by have := HNE.out; omega) HE.out.below.size _ _ _
          refine wpList_nil ?_
          change Exit.then _ _ .normal F _
          go_step
          go_step
          go_step
          go_step
          exact bodyPost_cut hFd0 hFA hFB q4 q5 ⟨_, _, J2, rfl, hFE, hFNA, hFNB⟩
      · rw [if_neg hcn] at hbh
        have HBS := Lib.hid (show Sl J 4 (.slice (Ai.map (·.add (i * 4))) (n.items.length - i) (ci - i)) (n.items.drop i).length (clC (n.items.drop i)) from by rw [HBL.out.1]; exact hbh)
        clear hbh
        go_wp2_with fail
        refine (cloneC_calls HE1.out.inv (HBS.out.mono ((HE.out.trans HE1.out).le hI)) HBL.out.2).mono ?_
        rintro e w2 ⟨v2, J2, rfl, hE2, hO2, -⟩
        obtain ⟨A6, c6, rfl, -, -⟩ := hO2.sl.form
        have hO2 : Own J2 w2 w1.heap.size 55 4 (.slice A6 (n.items.length - i) c6) (n.items.length - i) (clC (n.items.drop i)) := by have h := hO2; rw [HBL.out.1] at h; exact h
        have FA2 := FA.out.ext hE2
        have FB2 := FB.out.ext hE2
        have F42 := F41.out.ext hE2
        have F52 := F51.out.ext hE2
        have HOa := HO1.out.ext hE2
        have HE2 := HE1.out.trans hE2
        have hbw : bb < w1.heap.size := FB.out.lt
        have hob2 : (Value.slice A6 (n.items.length - i) c6).ownBlock ≠ some bb := fun e => by have := (hO2.lt _ e).1; omega
        have bc0 := blk_cell_J FB2.bx 0 rfl
        have bc1 := blk_cell_J FB2.bx 1 rfl
        have bc2 := blk_cell_J FB2.bx 2 rfl
        have bf1 := frozen_of_row _ bb 1 _ _ FB2.bx
        have GA := Lib.hid (show NBox (w2.setCell ⟨bb, 1, none⟩ (.slice A6 (n.items.length - i) c6)) ab true (.slice A5 i c5) (.slice none 0 0) from (Below.heap_setCell w2 ⟨bb, 1, none⟩ _ ab hab).trans FA2.bx)
        have GB := Lib.hid (show NBox (w2.setCell ⟨bb, 1, none⟩ (.slice A6 (n.items.length - i) c6)) bb true (.slice A6 (n.items.length - i) c6) (.slice none 0 0) from blk_set_J FB2.bx 1 _)
        have hne4 : b4 ≠ bb := by have := HNE.out; have := FB.out.lo; omega
        have hne5 : b5 ≠ bb := by have := HNE.out; have := FB.out.lo; omega
        have hne4a : b4 ≠ ab := by have := HNE.out; have := FA.out.lo; omega
        have hne5a : b5 ≠ ab := by have := HNE.out; have := FA.out.lo; omega
        have G4 := Lib.hid (show NBox (w2.setCell ⟨bb, 1, none⟩ (.slice A6 (n.items.length - i) c6)) b4 false (.slice none 0 0) (.slice none 0 0) from (Below.heap_setCell w2 ⟨bb, 1, none⟩ _ b4 hne4).trans F42.bx)
        have G5 := Lib.hid (show NBox (w2.setCell ⟨bb, 1, none⟩ (.slice A6 (n.items.length - i) c6)) b5 false (.slice none 0 0) (.slice none 0 0) from (Below.heap_setCell w2 ⟨bb, 1, none⟩ _ b5 hne5).trans F52.bx)
        have GE := Lib.hid (HE.out.trans (HE2.setCell (p := ⟨bb, 1, none⟩) FB2.lo FB2.jb (.slice A6 (n.items.length - i) c6)))
        have GNA := Lib.hid (show NdO J2 (w2.setCell ⟨bb, 1, none⟩ (.slice A6 (n.items.length - i) c6)) W.heap.size (.agg #[.bool true, .slice A5 i c5, .slice none 0 0]) (cutA n i) from ⟨_, _, by unfold cutA; rw [hlf], by unfold cutA; simp only []; rw [HLT.out.1]; exact own_set HOa HOB.out _, by unfold cutA; rw [hlf]; exact Own.nil _ _ _ _ _⟩)
        have GNB := Lib.hid (show NdO J2 (w2.setCell ⟨bb, 1, none⟩ (.slice A6 (n.items.length - i) c6)) W.heap.size (.agg #[.bool true, .slice A6 (n.items.length - i) c6, .slice none 0 0]) (cutB n i) from ⟨_, _, by unfold cutB; rw [hlf]; rfl, by unfold cutB; rw [hlf]; show Own _ _ _ _ _ _ (n.items.drop i).length _; rw [HBL.out.1]; exact own_set (hO2.lower HE1.out.below.size) hob2 _, by unfold cutB; rw [hlf]; exact Own.nil _ _ _ _ _⟩)
        have HJ45 := Lib.hid (show J2 b4 = [] ∧ J2 b5 = [] from ⟨F42.jb, F52.jb⟩)
        have HL45 := Lib.hid (show w.heap.size ≤ b4 ∧ w.heap.size ≤ b5 from by rw [HNB0.out]; exact ⟨F42.lo, F52.lo⟩)
        clear FA2 FB2 F42 F52 HOa HE2 hE2 hO2 hob2 n0 n1 n2
        go_upto_region 4 with fail
        generalize World.setCell w2 _ _ = w3 at *
        clear bc0 bc1 bc2 bf1
        have hu4 : ab ≠ b4 := fun e => hne4a e.symm
        have hu5 : ab ≠ b5 := fun e => hne5a e.symm
        have hv4 : bb ≠ b4 := fun e => hne4 e.symm
        have hv5 : bb ≠ b5 := fun e => hne5 e.symm
        have h45 : b5 ≠ b4 := by have := HNE.out; omega
        refine wp_region_pool2 3 (EI w3.drew b4 true (.slice A5 i c5) (.slice none 0 0) true (.slice A6 (n.items.length - i) c6) (.slice none 0 0)) (by kernel_rfl) (by kernel_rfl) (fun _ => undef) ⟨fun h => (by cases h), fun h => (by cases h), rfl⟩ ?_ ?_
        · intro k o hk ho L v w' F hIe hL hw hout hdp
          obtain ⟨he0, he1, he2⟩ := hIe
          have q4 : F.tmps.getD 4 undef = .pointer (some ⟨b4, 0, none⟩) := (hout 4 (by kernel_rfl)).trans rfl
          have q6 : F.tmps.getD 6 undef = .pointer (some ⟨ab, 0, none⟩) := (hout 6 (by kernel_rfl)).trans rfl
          have q7 : F.tmps.getD 7 undef = .pointer (some ⟨bb, 0, none⟩) := (hout 7 (by kernel_rfl)).trans rfl
          have hA : NBox w' ab true (.slice A5 i c5) (.slice none 0 0) := by rw [he2]; split; exact put3_nb _ _ _ GA.out hu4; exact GA.out
          have hB : NBox w' bb true (.slice A6 (n.items.length - i) c6) (.slice none 0 0) := by rw [he2]; split; exact put3_nb _ _ _ GB.out hv4; exact GB.out
          have hk3 : k = 0 ∨ k = 1 ∨ k = 2 := by omega
          rcases hk3 with rfl | rfl | rfl
          · cases ho
            have n0 := blk_cell_J hA 0 rfl
            have n1 := blk_cell_J hA 1 rfl
            have n2 := blk_cell_J hA 2 rfl
            refine wp_value (x := .agg #[.bool true, .slice A5 i c5, .slice none 0 0]) (w' := w') ?_ ⟨_, rfl, fun _ => rfl, he1, he2⟩
            clear hw hout hdp he0 he1 he2 hA hB
            unfold execOp
            simp only [Act.eval, q6]
            go_simp
          · cases ho
            have n0 := blk_cell_J hB 0 rfl
            have n1 := blk_cell_J hB 1 rfl
            have n2 := blk_cell_J hB 2 rfl
            refine wp_value (x := .agg #[.bool true, .slice A6 (n.items.length - i) c6, .slice none 0 0]) (w' := w') ?_ ⟨_, rfl, he0, fun _ => rfl, he2⟩
            clear hw hout hdp he0 he1 he2 hA hB
            unfold execOp
            simp only [Act.eval, q7]
            go_simp
          · cases ho
            have e27 := (hdp 0 27 (by skip; kernel_rfl) (hw 0 (by kernel_rfl))).trans (he0 (hw 0 (by kernel_rfl)))
            have h4 : NBox w' b4 false (.slice none 0 0) (.slice none 0 0) := by rw [he2, if_neg (by rw [hL]; decide)]; exact G4.out
            refine wp_skip (run_store3 rfl q4 e27 h4) ⟨undef, rfl, he0, he1, ?_⟩
            rw [he2, if_neg (by rw [hL]; decide)]
            rfl
        · intro L v w' F hall hIe hF hFd hout hdp
          obtain ⟨he0, he1, he2⟩ := hIe
          rw [if_pos (hall 2 (by omega))] at he2
          have q4 : F.tmps.getD 4 undef = .pointer (some ⟨b4, 0, none⟩) := (hout 4 (by kernel_rfl)).trans rfl
          have q5 : F.tmps.getD 5 undef = .pointer (some ⟨b5, 0, none⟩) := (hout 5 (by kernel_rfl)).trans rfl
          have e28 := (hdp 1 28 (by skip; kernel_rfl)).trans (he1 (hall 1 (by omega)))
          have hFd0 : F.defers = [] := hFd.trans rfl
          have h5 : NBox w' b5 false (.slice none 0 0) (.slice none 0 0) := by rw [he2]; exact put3_nb _ _ _ G5.out h45
          simp only [List.drop_succ_cons, List.drop_zero]
          refine wpList_skip rfl (run_store3 rfl q5 e28 h5) ?_
          clear hF hout hdp
          have hFA : NBox (put3 w' b5 (.bool true) (.slice A6 (n.items.length - i) c6) (.slice none 0 0)) b4 true (.slice A5 i c5) (.slice none 0 0) := by rw [he2]; exact put3_nb _ _ _ (put3_at G4.out) (fun e => h45 e.symm)
          have hFB : NBox (put3 w' b5 (.bool true) (.slice A6 (n.items.length - i) c6) (.slice none 0 0)) b5 true (.slice A6 (n.items.length - i) c6) (.slice none 0 0) := put3_at h5
          have hFE : Ext J w J2 (put3 w' b5 (.bool true) (.slice A6 (n.items.length - i) c6) (.slice none 0 0)) := by rw [he2]; exact put3_e (put3_e GE.out.drew HL45.out.1 HJ45.out.1 _ _ _) HL45.out.2 HJ45.out.2 _ _ _
          have hFNA : NdO J2 (put3 w' b5 (.bool true) (.slice A6 (n.items.length - i) c6) (.slice none 0 0)) w.heap.size (.agg #[.bool true, .slice A5 i c5, .slice none 0 0]) (cutA n i) := by rw [he2]; exact put3_node (put3_node GNA.out.drew (by have := HNE.out; omega) (Nat.le_refl _) _ _ _) (by have := HNE.out; omega) HE.out.below.size _ _ _
          have hFNB : NdO J2 (put3 w' b5 (.bool true) (.slice A6 (n.items.length - i) c6) (.slice none 0 0)) w.heap.size (.agg #[.bool true, .slice A6 (n.items.length - i) c6, .slice none 0 0]) (cutB n i) := by rw [he2]; exact put3_node (put3_node GNB.out.drew (by have := HNE.out; omega) (Nat.le_refl _) _ _ _) (by have := HNE.out; omega) HE.out.below.size _ _ _
          refine wpList_nil ?_
          change Exit.then _ _ .normal F _
          go_step
          go_step
          go_step
          go_step
          exact bodyPost_cut hFd0 hFA hFB q4 q5 ⟨_, _, J2, rfl, hFE, hFNA, hFNB⟩
    | false =>
      rw [hlf] at n0 FA FB HN1
      obtain ⟨hk1, hk2⟩ := HIK.out hlf
      obtain ⟨k0, hk0⟩ : ∃ k0, k0 = i + 1 := ⟨_, rfl⟩
      rw [← hk0] at hk1
      have hbh := Sl.behind HCI.out hk1
      have HKT := Lib.hid (show Sl J 1 (.slice Ak k0 ck) (n.kids.take k0).length (kcs (n.kids.take k0)) ∧ (n.kids.take k0).length = k0 ∧ (n.kids.take k0).length ≤ 1048576 from by
        have h := Sl.to HCK.out (show k0 ≤ n.kids.length by omega)
        rw [Nat.mul_one, ← kcs_take] at h
        have hl : (n.kids.take k0).length = k0 := by rw [List.length_take]; omega
        rw [hl]
        exact ⟨h, rfl, by omega⟩)
      have HKB := Lib.hid (show Sl J 1 (.slice (Ak.map (·.add k0)) (n.kids.length - k0) (ck - k0)) (n.kids.drop k0).length (kcs (n.kids.drop k0)) ∧ (n.kids.drop k0).length = n.kids.length - k0 ∧ (n.kids.drop k0).length ≤ 1048576 from by
        have h := Sl.behind HCK.out (show k0 ≤ n.kids.length by omega)
        rw [Nat.mul_one, ← kcs_drop, if_neg (by omega)] at h
        have hl : (n.kids.drop k0).length = n.kids.length - k0 := by rw [List.length_drop]
        rw [hl]
        exact ⟨h, rfl, by omega⟩)
      have HBL := Lib.hid (show (n.items.drop k0).length = n.items.length - k0 ∧ (n.items.drop k0).length ≤ 1048576 from by rw [List.length_drop]; omega)
      have HK0 := Lib.hid hk0
      have kw : IntKind.i64.wrap ((i : Int) + 1) = k0 := by rw [IntKind.wrap_i64]; omega
      have k1 : (0 : Int) ≤ (k0 : Int) := by omega
      have k2 : (k0 : Int) ≤ n.items.length := by omega
      have k3 : (k0 : Int) ≤ ci := by omega
      have k4 : (k0 : Int) ≤ n.kids.length := by omega
      have k5 : (k0 : Int) ≤ ck := by omega
      have k6 : ck ≠ k0 := by omega
      clear hk0 hk1 hk2
      rw [← clC_drop] at hbh
      by_cases hcn : k0 = ci
      · rw [if_pos hcn.symm] at hbh
        have hz : n.items.length - k0 = 0 := by omega
        have HBS := Lib.hid (show Sl J 4 (.slice Ai 0 0) (n.items.drop k0).length (clC (n.items.drop k0)) from by rw [HBL.out.1, hz]; rw [show ci - k0 = 0 by omega, hz] at hbh; exact hbh)
        have HBL := Lib.hid (show (n.items.drop k0).length = 0 ∧ (n.items.drop k0).length ≤ 1048576 from ⟨HBL.out.1.trans hz, HBL.out.2⟩)
        clear hz
        subst hcn
        clear hbh
        go_wp2_with fail
        refine (cloneC_calls HE1.out.inv (HBS.out.mono ((HE.out.trans HE1.out).le hI)) HBL.out.2).mono ?_
        rintro e w2 ⟨v2, J2, rfl, hE2, hO2, -⟩
        obtain ⟨A6, c6, rfl, -, -⟩ := hO2.sl.form
        have hO2 : Own J2 w2 w1.heap.size 55 4 (.slice A6 (0) c6) (0) (clC (n.items.drop k0)) := by have h := hO2; rw [HBL.out.1] at h; exact h
        have FA2 := FA.out.ext hE2
        have FB2 := FB.out.ext hE2
        have F42 := F41.out.ext hE2
        have F52 := F51.out.ext hE2
        have HOa := HO1.out.ext hE2
        have HE2 := HE1.out.trans hE2
        have hbw : bb < w1.heap.size := FB.out.lt
        have hob2 : (Value.slice A6 (0) c6).ownBlock ≠ some bb := fun e => by have := (hO2.lt _ e).1; omega
        have hoa2 : (Value.slice A6 (0) c6).ownBlock ≠ some ab := fun e => by have := (hO2.lt _ e).1; have := FA.out.lt; omega
        have bc0 := blk_cell_J FB2.bx 0 rfl
        have bc1 := blk_cell_J FB2.bx 1 rfl
        have bc2 := blk_cell_J FB2.bx 2 rfl
        have bf1 := frozen_of_row _ bb 1 _ _ FB2.bx
        have hne4 : b4 ≠ bb := by have := HNE.out; have := FB.out.lo; omega
        have hne5 : b5 ≠ bb := by have := HNE.out; have := FB.out.lo; omega
        have hne4a : b4 ≠ ab := by have := HNE.out; have := FA.out.lo; omega
        have hne5a : b5 ≠ ab := by have := HNE.out; have := FA.out.lo; omega
        have HNE4 := Lib.hid (show b4 ≠ ab ∧ b5 ≠ ab ∧ b4 ≠ bb ∧ b5 ≠ bb ∧ bb ≠ ab from ⟨hne4a, hne5a, hne4, hne5, fun e => hab e.symm⟩)
        have HNN := Lib.hid (show nb ≠ ab from by have := HNE.out; have := FA.out.lo; omega)
        have HOB2 := Lib.hid hoa2
        have HOB3 := Lib.hid hob2
        have HWB := Lib.hid (show w.heap.size ≤ W.heap.size from HE.out.below.size)
        have HN1b : NBox (w2.setCell ⟨bb, 1, none⟩ (.slice A6 (0) c6)) nb false (.slice Ai n.items.length k0) (.slice Ak n.kids.length ck) := (Below.heap_setCell w2 ⟨bb, 1, none⟩ _ nb (show nb ≠ bb by have := HNE.out; have := FB2.lo; omega)).trans (HN1.out.ext hE2)
        have HD := Lib.hid (show DX J w W.heap.size nb b4 b5 bb (.slice Ai n.items.length k0) (.slice Ak n.kids.length ck) (.slice A5 i c5) (.slice A6 (0) c6) i (0) (clC (n.items.take i)) (clC (n.items.drop k0)) J2 (w2.setCell ⟨bb, 1, none⟩ (.slice A6 (0) c6)) from ⟨HE.out.trans (HE2.setCell (p := ⟨bb, 1, none⟩) FB2.lo FB2.jb (.slice A6 (0) c6)), by simpa using HE2.below.size, own_set HOa HOB.out _, own_set (hO2.lower HE1.out.below.size) hob2 _, ⟨(F42.set (c := bb) 1 _ hne4).bx, by rw [HNB0.out]; exact F42.lo, F42.jb⟩, ⟨(F52.set (c := bb) 1 _ hne5).bx, by rw [HNB0.out]; exact F52.lo, F52.jb⟩, ⟨blk_set_J FB2.bx 1 _, FB2.lo, FB2.jb⟩, HN1b⟩)
        have HFA := Lib.hid (FA2.set (c := bb) 1 (.slice A6 (0) c6) hab)
        clear HN1b FA2 FB2 F42 F52 HOa HE2 hE2 hO2 hob2 hoa2 n0 n1 n2
        go_upto_region 6 with fail
        generalize World.setCell w2 _ _ = w3 at *
        clear bc0 bc1 bc2 bf1
        refine wp_region_pool2 15 (fun L v w' => ∃ J', DI J w W.heap.size nb b4 b5 ab bb (.slice Ai n.items.length k0) (.slice Ak n.kids.length ck) (.slice A5 i c5) (.slice A6 (0) c6) i (0) (clC (n.items.take i)) (clC (n.items.drop k0)) (cstD nb ab bb Ak n.kids.length ck i k0) k0 (n.kids.length - k0) (kcs (n.kids.take k0)) (kcs (n.kids.drop k0)) L v J' w') (by kernel_rfl) (by kernel_rfl) (fun _ => undef) ?_ ?_ ?_
        · exact ⟨J2, fun _ _ _ h => (by cases h), HD.out.step (Ext.refl HD.out.ext.inv).drew, ⟨_, HFA.out.ext (Ext.refl HD.out.ext.inv).drew, fun _ => rfl, fun h => (by cases h)⟩, fun h => (by cases h), fun h => (by cases h), fun h => (by cases h)⟩
        · intro q o hk ho L v w' F hIc hL hw hout hdp
          obtain ⟨J', hc⟩ := hIc
          have q1 : F.tmps.getD 1 undef = .int .i64 i := hout 1 (by kernel_rfl)
          have q2 : F.tmps.getD 2 undef = .pointer (some ⟨nb, 0, none⟩) := hout 2 (by kernel_rfl)
          have q6 : F.tmps.getD 6 undef = .pointer (some ⟨ab, 0, none⟩) := hout 6 (by kernel_rfl)
          have q7 : F.tmps.getD 7 undef = .pointer (some ⟨bb, 0, none⟩) := hout 7 (by kernel_rfl)
          have hk14 : q = 0 ∨ q = 1 ∨ q = 2 ∨ q = 3 ∨ q = 4 ∨ q = 5 ∨ q = 6 ∨ q = 7 ∨ q = 8 ∨ q = 9 ∨ q = 10 ∨ q = 11 ∨ q = 12 ∨ q = 13 ∨ q = 14 := by omega
          rcases hk14 with rfl | rfl | rfl | rfl | rfl | rfl | rfl | rfl | rfl | rfl | rfl | rfl | rfl | rfl | rfl
          · cases ho
            refine wp_value (x := .pointer (some ⟨nb, 2, none⟩)) (w' := w') ?_ ⟨_, rfl, J', hc.read rfl (by decide) (by decide) (by decide)⟩
            clear hw hout hdp hc
            unfold execOp
            simp only [Act.eval, q2]
            go_simp
          · cases ho
            have e36 := (hdp 0 36 (by kernel_rfl) (hw 0 (by kernel_rfl))).trans (hc.rd 0 _ rfl (hw 0 (by kernel_rfl)))
            have n2 := blk_cell_J hc.x.fn 2 rfl
            refine wp_value (x := .slice Ak n.kids.length ck) (w' := w') ?_ ⟨_, rfl, J', hc.read rfl (by decide) (by decide) (by decide)⟩
            clear hw hout hdp hc
            unfold execOp
            simp only [Act.eval, e36]
            go_simp
          · cases ho
            refine wp_value (x := .int .i64 i) (w' := w') ?_ ⟨_, rfl, J', hc.read rfl (by decide) (by decide) (by decide)⟩
            clear hw hout hdp hc
            unfold execOp
            simp only [Act.eval, q1]
            go_simp
          · cases ho
            have e38 := (hdp 2 38 (by kernel_rfl) (hw 2 (by kernel_rfl))).trans (hc.rd 2 _ rfl (hw 2 (by kernel_rfl)))
            refine wp_value (x := .int .i64 k0) (w' := w') ?_ ⟨_, rfl, J', hc.read rfl (by decide) (by decide) (by decide)⟩
            clear hw hout hdp hc
            unfold execOp
            simp only [Act.eval, e38]
            go_simp
          · cases ho
            have e37 := (hdp 1 37 (by kernel_rfl) (hw 1 (by kernel_rfl))).trans (hc.rd 1 _ rfl (hw 1 (by kernel_rfl)))
            have e39 := (hdp 3 39 (by kernel_rfl) (hw 3 (by kernel_rfl))).trans (hc.rd 3 _ rfl (hw 3 (by kernel_rfl)))
            refine wp_value (x := .slice Ak k0 ck) (w' := w') ?_ ⟨_, rfl, J', hc.read rfl (by decide) (by decide) (by decide)⟩
            clear hw hout hdp hc
            unfold execOp
            simp only [Act.eval, e37]
            go_simp
          · cases ho
            have e40 := (hdp 4 40 (by kernel_rfl) (hw 4 (by kernel_rfl))).trans (hc.rd 4 _ rfl (hw 4 (by kernel_rfl)))
            have hcl := cloneK_calls hc.x.ext.inv (HKT.out.1.mono (hc.x.ext.le hI)) HKT.out.2.2
            rw [HKT.out.2.1] at hcl
            have HCC := Lib.hid hc
            clear hw hout hdp hc
            unfold Oper.wp execOp
            go_simp
            refine hcl.mono ?_
            rintro e9 w9 ⟨v9, J9, rfl, hE9, hO9, -⟩
            obtain ⟨A9, c9, rfl, -, -⟩ := hO9.sl.form
            exact ⟨_, rfl, J9, HCC.out.call5 rfl hL hE9 hO9⟩
          · cases ho
            refine wp_value (x := .pointer (some ⟨nb, 2, none⟩)) (w' := w') ?_ ⟨_, rfl, J', hc.read rfl (by decide) (by decide) (by decide)⟩
            clear hw hout hdp hc
            unfold execOp
            simp only [Act.eval, q2]
            go_simp
          · cases ho
            have e42 := (hdp 6 42 (by kernel_rfl) (hw 6 (by kernel_rfl))).trans (hc.rd 6 _ rfl (hw 6 (by kernel_rfl)))
            have n2 := blk_cell_J hc.x.fn 2 rfl
            refine wp_value (x := .slice Ak n.kids.length ck) (w' := w') ?_ ⟨_, rfl, J', hc.read rfl (by decide) (by decide) (by decide)⟩
            clear hw hout hdp hc
            unfold execOp
            simp only [Act.eval, e42]
            go_simp
          · cases ho
            refine wp_value (x := .int .i64 i) (w' := w') ?_ ⟨_, rfl, J', hc.read rfl (by decide) (by decide) (by decide)⟩
            clear hw hout hdp hc
            unfold execOp
            simp only [Act.eval, q1]
            go_simp
          · cases ho
            have e44 := (hdp 8 44 (by kernel_rfl) (hw 8 (by kernel_rfl))).trans (hc.rd 8 _ rfl (hw 8 (by kernel_rfl)))
            refine wp_value (x := .int .i64 k0) (w' := w') ?_ ⟨_, rfl, J', hc.read rfl (by decide) (by decide) (by decide)⟩
            clear hw hout hdp hc
            unfold execOp
            simp only [Act.eval, e44]
            go_simp
          · cases ho
            have e43 := (hdp 7 43 (by kernel_rfl) (hw 7 (by kernel_rfl))).trans (hc.rd 7 _ rfl (hw 7 (by kernel_rfl)))
            have e45 := (hdp 9 45 (by kernel_rfl) (hw 9 (by kernel_rfl))).trans (hc.rd 9 _ rfl (hw 9 (by kernel_rfl)))
            refine wp_value (x := .slice (Ak.map (·.add k0)) (n.kids.length - k0) (ck - k0)) (w' := w') ?_ ⟨_, rfl, J', hc.read rfl (by decide) (by decide) (by decide)⟩
            clear hw hout hdp hc
            unfold execOp
            simp only [Act.eval, e43]
            go_simp
          · cases ho
            have e46 := (hdp 10 46 (by kernel_rfl) (hw 10 (by kernel_rfl))).trans (hc.rd 10 _ rfl (hw 10 (by kernel_rfl)))
            have hcl := cloneK_calls hc.x.ext.inv (HKB.out.1.mono (hc.x.ext.le hI)) HKB.out.2.2
            rw [HKB.out.2.1] at hcl
            have HCC := Lib.hid hc
            clear hw hout hdp hc
            unfold Oper.wp execOp
            go_simp
            refine hcl.mono ?_
            rintro e9 w9 ⟨v9, J9, rfl, hE9, hO9, -⟩
            obtain ⟨A9, c9, rfl, -, -⟩ := hO9.sl.form
            exact ⟨_, rfl, J9, HCC.out.call11 rfl hE9 hO9⟩
          · cases ho
            refine wp_value (x := .pointer (some ⟨ab, 2, none⟩)) (w' := w') ?_ ⟨_, rfl, J', hc.read rfl (by decide) (by decide) (by decide)⟩
            clear hw hout hdp hc
            unfold execOp
            simp only [Act.eval, q6]
            go_simp
          · cases ho
            have h5 := hw 5 (by kernel_rfl)
            have e48 := (hdp 12 48 (by kernel_rfl) (hw 12 (by kernel_rfl))).trans (hc.rd 12 _ rfl (hw 12 (by kernel_rfl)))
            have e41 := hdp 5 41 (by kernel_rfl) h5
            obtain ⟨⟨A9, c9, hv5⟩, -⟩ := hc.c5 h5
            obtain ⟨z, hz, -⟩ := hc.fa
            have a0 := blk_cell_J hz.bx 0 rfl
            have a1 := blk_cell_J hz.bx 1 rfl
            have a2 := blk_cell_J hz.bx 2 rfl
            have a2f := frozen_of_row _ ab 2 _ _ hz.bx
            have hst := hc.store rfl h5 undef HWB.out HOA.out HOB2.out ⟨HNE4.out.1, HNE4.out.2.1, HNE4.out.2.2.2.2⟩ HNN.out
            rw [hv5] at e41 hst
            refine wp_skip (w' := w'.setCell ⟨ab, 2, none⟩ (.slice A9 k0 c9)) ?_ ⟨undef, rfl, J', hst⟩
            clear hw hout hdp hc hst hz
            unfold execOp
            simp only [Act.eval, e48, e41]
            go_simp
          · cases ho
            refine wp_value (x := .pointer (some ⟨bb, 2, none⟩)) (w' := w') ?_ ⟨_, rfl, J', hc.read rfl (by decide) (by decide) (by decide)⟩
            clear hw hout hdp hc
            unfold execOp
            simp only [Act.eval, q7]
            go_simp
        · intro L v w' F hall hIc hF hFd hout hdp
          obtain ⟨J3, hc⟩ := hIc
          have p4 : F.tmps.getD 4 undef = .pointer (some ⟨b4, 0, none⟩) := hout 4 (by kernel_rfl)
          have p5 : F.tmps.getD 5 undef = .pointer (some ⟨b5, 0, none⟩) := hout 5 (by kernel_rfl)
          have p6 : F.tmps.getD 6 undef = .pointer (some ⟨ab, 0, none⟩) := hout 6 (by kernel_rfl)
          have p7 : F.tmps.getD 7 undef = .pointer (some ⟨bb, 0, none⟩) := hout 7 (by kernel_rfl)
          have e49 := (hdp 14 49 (by kernel_rfl)).trans (hc.rd 14 _ rfl (hall 14 (by omega)))
          have e47 := hdp 11 47 (by kernel_rfl)
          have pd : F.defers = [] := hFd
          have psz : F.tmps.size = 52 := by rw [hF, fill_size]; rfl
          obtain ⟨⟨A8, c8, hv5⟩, ho8, hx8, hy8⟩ := hc.c5 (hall 5 (by omega))
          obtain ⟨⟨A9, c9, hv11⟩, ho9, hx9, hy9⟩ := hc.c11 (hall 11 (by omega))
          obtain ⟨z, hz, -, hz1⟩ := hc.fa
          have hz1 := hz1 (hall 13 (by omega))
          subst hz1
          have hcx := hc.x
          have jab : J3 ab = [] := hz.jb
          clear hF hFd hout hdp hc hall
          rw [hv5] at ho8 hx8 hy8 hz
          rw [hv11] at ho9 hx9 hy9 e47
          simp only [List.drop_succ_cons, List.drop_zero]
          have b0 := blk_cell_J hcx.fb.bx 0 rfl
          have b1 := blk_cell_J hcx.fb.bx 1 rfl
          have b2 := blk_cell_J hcx.fb.bx 2 rfl
          have b2f := frozen_of_row _ bb 2 _ _ hcx.fb.bx
          refine wpList_skip (w' := w'.setCell ⟨bb, 2, none⟩ (.slice A9 (n.kids.length - k0) c9)) rfl ?_ ?_
          · clear hcx ho8 ho9 hz
            unfold execOp
            simp only [Act.eval, e49, e47]
            go_simp
          have hne4 := HNE4.out.2.2.1
          have hne5 := HNE4.out.2.2.2.1
          have hne4a := HNE4.out.1
          have hne5a := HNE4.out.2.1
          have jbb := hcx.fb.jb
          have GA := Lib.hid ((hz.set (c := bb) 2 (.slice A9 (n.kids.length - k0) c9) hab).bx)
          have GB := Lib.hid (show NBox (w'.setCell ⟨bb, 2, none⟩ (.slice A9 (n.kids.length - k0) c9)) bb false (.slice A6 (0) c6) (.slice A9 (n.kids.length - k0) c9) from blk_set_J hcx.fb.bx 2 _)
          have G4 := Lib.hid ((hcx.f4.set (c := bb) 2 (.slice A9 (n.kids.length - k0) c9) hne4).bx)
          have G5 := Lib.hid ((hcx.f5.set (c := bb) 2 (.slice A9 (n.kids.length - k0) c9) hne5).bx)
          have GE := Lib.hid (hcx.ext.setCell (p := ⟨bb, 2, none⟩) (Nat.le_trans HWB.out hcx.fb.lo) jbb (.slice A9 (n.kids.length - k0) c9))
          have GNA := Lib.hid (show NdO J3 (w'.setCell ⟨bb, 2, none⟩ (.slice A9 (n.kids.length - k0) c9)) W.heap.size (.agg #[.bool false, .slice A5 i c5, .slice A8 k0 c8]) (cutA n i) from ⟨_, _, by unfold cutA; rw [hlf], by unfold cutA; simp only []; rw [HLT.out.1]; exact own_set hcx.o5 HOB.out _, by unfold cutA; rw [hlf]; simp only [Bool.false_eq_true, if_false]; rw [← HK0.out, HKT.out.2.1]; exact own_set ho8 hy8 _⟩)
          have GNB := Lib.hid (show NdO J3 (w'.setCell ⟨bb, 2, none⟩ (.slice A9 (n.kids.length - k0) c9)) W.heap.size (.agg #[.bool false, .slice A6 (0) c6, .slice A9 (n.kids.length - k0) c9]) (cutB n i) from ⟨_, _, by unfold cutB; rw [hlf]; rfl, by unfold cutB; rw [hlf]; simp only [Bool.false_eq_true, if_false]; rw [← HK0.out, HBL.out.1]; exact own_set hcx.o6 HOB3.out _, by unfold cutB; rw [hlf]; simp only [Bool.false_eq_true, if_false]; rw [← HK0.out, HKB.out.2.1]; exact own_set ho9 hy9 _⟩)
          have HJ45 := Lib.hid (show J3 b4 = [] ∧ J3 b5 = [] from ⟨hcx.f4.jb, hcx.f5.jb⟩)
          have HL45 := Lib.hid (show w.heap.size ≤ b4 ∧ w.heap.size ≤ b5 from ⟨hcx.f4.lo, hcx.f5.lo⟩)
          clear hcx ho8 ho9 hz b0 b1 b2 b2f hx8 hy8 hx9 hy9 e47 e49
          generalize World.setCell w' _ _ = w4 at *
          generalize J3 = J2 at *
          refine wpList_nil ?_
          change Exit.then _ _ .normal F _
          go_step
          go_step
          go_step
          have hu4 : ab ≠ b4 := fun e => hne4a e.symm
          have hu5 : ab ≠ b5 := fun e => hne5a e.symm
          have hv4 : bb ≠ b4 := fun e => hne4 e.symm
          have hv5 : bb ≠ b5 := fun e => hne5 e.symm
          have h45 : b5 ≠ b4 := by have := HNE.out; omega
          refine wp_region_pool2 3 (EI w4.drew b4 false (.slice A5 i c5) (.slice A8 k0 c8) false (.slice A6 (0) c6) (.slice A9 (n.kids.length - k0) c9)) (by kernel_rfl) (by kernel_rfl) (fun _ => undef) ⟨fun h => (by cases h), fun h => (by cases h), rfl⟩ ?_ ?_
          · intro k o hk ho L v w' F hIe hL hw hout hdp
            obtain ⟨he0, he1, he2⟩ := hIe
            have q4 : F.tmps.getD 4 undef = .pointer (some ⟨b4, 0, none⟩) := (hout 4 (by kernel_rfl)).trans p4
            have q6 : F.tmps.getD 6 undef = .pointer (some ⟨ab, 0, none⟩) := (hout 6 (by kernel_rfl)).trans p6
            have q7 : F.tmps.getD 7 undef = .pointer (some ⟨bb, 0, none⟩) := (hout 7 (by kernel_rfl)).trans p7
            have hA : NBox w' ab false (.slice A5 i c5) (.slice A8 k0 c8) := by rw [he2]; split; exact put3_nb _ _ _ GA.out hu4; exact GA.out
            have hB : NBox w' bb false (.slice A6 (0) c6) (.slice A9 (n.kids.length - k0) c9) := by rw [he2]; split; exact put3_nb _ _ _ GB.out hv4; exact GB.out
            have hk3 : k = 0 ∨ k = 1 ∨ k = 2 := by omega
            rcases hk3 with rfl | rfl | rfl
            · cases ho
              have n0 := blk_cell_J hA 0 rfl
              have n1 := blk_cell_J hA 1 rfl
              have n2 := blk_cell_J hA 2 rfl
              refine wp_value (x := .agg #[.bool false, .slice A5 i c5, .slice A8 k0 c8]) (w' := w') ?_ ⟨_, rfl, fun _ => rfl, he1, he2⟩
              clear hw hout hdp he0 he1 he2 hA hB
              unfold execOp
              simp only [Act.eval, q6]
              go_simp
            · cases ho
              have n0 := blk_cell_J hB 0 rfl
              have n1 := blk_cell_J hB 1 rfl
              have n2 := blk_cell_J hB 2 rfl
              refine wp_value (x := .agg #[.bool false, .slice A6 (0) c6, .slice A9 (n.kids.length - k0) c9]) (w' := w') ?_ ⟨_, rfl, he0, fun _ => rfl, he2⟩
              clear hw hout hdp he0 he1 he2 hA hB
              unfold execOp
              simp only [Act.eval, q7]
              go_simp
            · cases ho
              have e27 := (hdp 0 50 (by rw [psz]; kernel_rfl) (hw 0 (by kernel_rfl))).trans (he0 (hw 0 (by kernel_rfl)))
              have h4 : NBox w' b4 false (.slice none 0 0) (.slice none 0 0) := by rw [he2, if_neg (by rw [hL]; decide)]; exact G4.out
              refine wp_skip (run_store3 rfl q4 e27 h4) ⟨undef, rfl, he0, he1, ?_⟩
              rw [he2, if_neg (by rw [hL]; decide)]
              rfl
          · intro L v w' F hall hIe hF hFd hout hdp
            obtain ⟨he0, he1, he2⟩ := hIe
            rw [if_pos (hall 2 (by omega))] at he2
            have q4 : F.tmps.getD 4 undef = .pointer (some ⟨b4, 0, none⟩) := (hout 4 (by kernel_rfl)).trans p4
            have q5 : F.tmps.getD 5 undef = .pointer (some ⟨b5, 0, none⟩) := (hout 5 (by kernel_rfl)).trans p5
            have e28 := (hdp 1 51 (by rw [psz]; kernel_rfl)).trans (he1 (hall 1 (by omega)))
            have hFd0 : F.defers = [] := hFd.trans pd
            have h5 : NBox w' b5 false (.slice none 0 0) (.slice none 0 0) := by rw [he2]; exact put3_nb _ _ _ G5.out h45
            simp only [List.drop_succ_cons, List.drop_zero]
            refine wpList_skip rfl (run_store3 rfl q5 e28 h5) ?_
            clear hF hout hdp
            have hFA : NBox (put3 w' b5 (.bool false) (.slice A6 (0) c6) (.slice A9 (n.kids.length - k0) c9)) b4 false (.slice A5 i c5) (.slice A8 k0 c8) := by rw [he2]; exact put3_nb _ _ _ (put3_at G4.out) (fun e => h45 e.symm)
            have hFB : NBox (put3 w' b5 (.bool false) (.slice A6 (0) c6) (.slice A9 (n.kids.length - k0) c9)) b5 false (.slice A6 (0) c6) (.slice A9 (n.kids.length - k0) c9) := put3_at h5
            have hFE : Ext J w J2 (put3 w' b5 (.bool false) (.slice A6 (0) c6) (.slice A9 (n.kids.length - k0) c9)) := by rw [he2]; exact put3_e (put3_e GE.out.drew HL45.out.1 HJ45.out.1 _ _ _) HL45.out.2 HJ45.out.2 _ _ _
            have hFNA : NdO J2 (put3 w' b5 (.bool false) (.slice A6 (0) c6) (.slice A9 (n.kids.length - k0) c9)) w.heap.size (.agg #[.bool false, .slice A5 i c5, .slice A8 k0 c8]) (cutA n i) := by rw [he2]; exact put3_node (put3_node GNA.out.drew (by have := HNE.out; omega) (Nat.le_refl _) _ _ _) (by have := HNE.out; omega) HE.out.below.size _ _ _
            have hFNB : NdO J2 (put3 w' b5 (.bool false) (.slice A6 (0) c6) (.slice A9 (n.kids.length - k0) c9)) w.heap.size (.agg #[.bool false, .slice A6 (0) c6, .slice A9 (n.kids.length - k0) c9]) (cutB n i) := by rw [he2]; exact put3_node (put3_node GNB.out.drew (by have := HNE.out; omega) (Nat.le_refl _) _ _ _) (by have := HNE.out; omega) HE.out.below.size _ _ _
            refine wpList_nil ?_
            change Exit.then _ _ .normal F _
            go_step
            go_step
            go_step
            go_step
            exact bodyPost_cut hFd0 hFA hFB q4 q5 ⟨_, _, J2, rfl, hFE, hFNA, hFNB⟩
      · rw [if_neg (fun e => hcn e.symm)] at hbh
        have hcn2 : ¬ ci = k0 := fun e => hcn e.symm
        have HBS := Lib.hid (show Sl J 4 (.slice (Ai.map (·.add (k0 * 4))) (n.items.length - k0) (ci - k0)) (n.items.drop k0).length (clC (n.items.drop k0)) from by rw [HBL.out.1]; exact hbh)
        clear hbh
        go_wp2_with fail
        refine (cloneC_calls HE1.out.inv (HBS.out.mono ((HE.out.trans HE1.out).le hI)) HBL.out.2).mono ?_
        rintro e w2 ⟨v2, J2, rfl, hE2, hO2, -⟩
        obtain ⟨A6, c6, rfl, -, -⟩ := hO2.sl.form
        have hO2 : Own J2 w2 w1.heap.size 55 4 (.slice A6 (n.items.length - k0) c6) (n.items.length - k0) (clC (n.items.drop k0)) := by have h := hO2; rw [HBL.out.1] at h; exact h
        have FA2 := FA.out.ext hE2
        have FB2 := FB.out.ext hE2
        have F42 := F41.out.ext hE2
        have F52 := F51.out.ext hE2
        have HOa := HO1.out.ext hE2
        have HE2 := HE1.out.trans hE2
        have hbw : bb < w1.heap.size := FB.out.lt
        have hob2 : (Value.slice A6 (n.items.length - k0) c6).ownBlock ≠ some bb := fun e => by have := (hO2.lt _ e).1; omega
        have hoa2 : (Value.slice A6 (n.items.length - k0) c6).ownBlock ≠ some ab := fun e => by have := (hO2.lt _ e).1; have := FA.out.lt; omega
        have bc0 := blk_cell_J FB2.bx 0 rfl
        have bc1 := blk_cell_J FB2.bx 1 rfl
        have bc2 := blk_cell_J FB2.bx 2 rfl
        have bf1 := frozen_of_row _ bb 1 _ _ FB2.bx
        have hne4 : b4 ≠ bb := by have := HNE.out; have := FB.out.lo; omega
        have hne5 : b5 ≠ bb := by have := HNE.out; have := FB.out.lo; omega
        have hne4a : b4 ≠ ab := by have := HNE.out; have := FA.out.lo; omega
        have hne5a : b5 ≠ ab := by have := HNE.out; have := FA.out.lo; omega
        have HNE4 := Lib.hid (show b4 ≠ ab ∧ b5 ≠ ab ∧ b4 ≠ bb ∧ b5 ≠ bb ∧ bb ≠ ab from ⟨hne4a, hne5a, hne4, hne5, fun e => hab e.symm⟩)
        have HNN := Lib.hid (show nb ≠ ab from by have := HNE.out; have := FA.out.lo; omega)
        have HOB2 := Lib.hid hoa2
        have HOB3 := Lib.hid hob2
        have HWB := Lib.hid (show w.heap.size ≤ W.heap.size from HE.out.below.size)
        have HN1b : NBox (w2.setCell ⟨bb, 1, none⟩ (.slice A6 (n.items.length - k0) c6)) nb false (.slice Ai n.items.length ci) (.slice Ak n.kids.length ck) := (Below.heap_setCell w2 ⟨bb, 1, none⟩ _ nb (show nb ≠ bb by have := HNE.out; have := FB2.lo; omega)).trans (HN1.out.ext hE2)
        have HD := Lib.hid (show DX J w W.heap.size nb b4 b5 bb (.slice Ai n.items.length ci) (.slice Ak n.kids.length ck) (.slice A5 i c5) (.slice A6 (n.items.length - k0) c6) i (n.items.length - k0) (clC (n.items.take i)) (clC (n.items.drop k0)) J2 (w2.setCell ⟨bb, 1, none⟩ (.slice A6 (n.items.length - k0) c6)) from ⟨HE.out.trans (HE2.setCell (p := ⟨bb, 1, none⟩) FB2.lo FB2.jb (.slice A6 (n.items.length - k0) c6)), by simpa using HE2.below.size, own_set HOa HOB.out _, own_set (hO2.lower HE1.out.below.size) hob2 _, ⟨(F42.set (c := bb) 1 _ hne4).bx, by rw [HNB0.out]; exact F42.lo, F42.jb⟩, ⟨(F52.set (c := bb) 1 _ hne5).bx, by rw [HNB0.out]; exact F52.lo, F52.jb⟩, ⟨blk_set_J FB2.bx 1 _, FB2.lo, FB2.jb⟩, HN1b⟩)
        have HFA := Lib.hid (FA2.set (c := bb) 1 (.slice A6 (n.items.length - k0) c6) hab)
        clear HN1b FA2 FB2 F42 F52 HOa HE2 hE2 hO2 hob2 hoa2 n0 n1 n2
        go_upto_region 6 with fail
        generalize World.setCell w2 _ _ = w3 at *
        clear bc0 bc1 bc2 bf1
        refine wp_region_pool2 15 (fun L v w' => ∃ J', DI J w W.heap.size nb b4 b5 ab bb (.slice Ai n.items.length ci) (.slice Ak n.kids.length ck) (.slice A5 i c5) (.slice A6 (n.items.length - k0) c6) i (n.items.length - k0) (clC (n.items.take i)) (clC (n.items.drop k0)) (cstD nb ab bb Ak n.kids.length ck i k0) k0 (n.kids.length - k0) (kcs (n.kids.take k0)) (kcs (n.kids.drop k0)) L v J' w') (by kernel_rfl) (by kernel_rfl) (fun _ => undef) ?_ ?_ ?_
        · exact ⟨J2, fun _ _ _ h => (by cases h), HD.out.step (Ext.refl HD.out.ext.inv).drew, ⟨_, HFA.out.ext (Ext.refl HD.out.ext.inv).drew, fun _ => rfl, fun h => (by cases h)⟩, fun h => (by cases h), fun h => (by cases h), fun h => (by cases h)⟩
        · intro q o hk ho L v w' F hIc hL hw hout hdp
          obtain ⟨J', hc⟩ := hIc
          have q1 : F.tmps.getD 1 undef = .int .i64 i := hout 1 (by kernel_rfl)
          have q2 : F.tmps.getD 2 undef = .pointer (some ⟨nb, 0, none⟩) := hout 2 (by kernel_rfl)
          have q6 : F.tmps.getD 6 undef = .pointer (some ⟨ab, 0, none⟩) := hout 6 (by kernel_rfl)
          have q7 : F.tmps.getD 7 undef = .pointer (some ⟨bb, 0, none⟩) := hout 7 (by kernel_rfl)
          have hk14 : q = 0 ∨ q = 1 ∨ q = 2 ∨ q = 3 ∨ q = 4 ∨ q = 5 ∨ q = 6 ∨ q = 7 ∨ q = 8 ∨ q = 9 ∨ q = 10 ∨ q = 11 ∨ q = 12 ∨ q = 13 ∨ q = 14 := by omega
          rcases hk14 with rfl | rfl | rfl | rfl | rfl | rfl | rfl | rfl | rfl | rfl | rfl | rfl | rfl | rfl | rfl
          · cases ho
            refine wp_value (x := .pointer (some ⟨nb, 2, none⟩)) (w' := w') ?_ ⟨_, rfl, J', hc.read rfl (by decide) (by decide) (by decide)⟩
            clear hw hout hdp hc
            unfold execOp
            simp only [Act.eval, q2]
            go_simp
          · cases ho
            have e36 := (hdp 0 36 (by kernel_rfl) (hw 0 (by kernel_rfl))).trans (hc.rd 0 _ rfl (hw 0 (by kernel_rfl)))
            have n2 := blk_cell_J hc.x.fn 2 rfl
            refine wp_value (x := .slice Ak n.kids.length ck) (w' := w') ?_ ⟨_, rfl, J', hc.read rfl (by decide) (by decide) (by decide)⟩
            clear hw hout hdp hc
            unfold execOp
            simp only [Act.eval, e36]
            go_simp
          · cases ho
            refine wp_value (x := .int .i64 i) (w' := w') ?_ ⟨_, rfl, J', hc.read rfl (by decide) (by decide) (by decide)⟩
            clear hw hout hdp hc
            unfold execOp
            simp only [Act.eval, q1]
            go_simp
          · cases ho
            have e38 := (hdp 2 38 (by kernel_rfl) (hw 2 (by kernel_rfl))).trans (hc.rd 2 _ rfl (hw 2 (by kernel_rfl)))
            refine wp_value (x := .int .i64 k0) (w' := w') ?_ ⟨_, rfl, J', hc.read rfl (by decide) (by decide) (by decide)⟩
            clear hw hout hdp hc
            unfold execOp
            simp only [Act.eval, e38]
            go_simp
          · cases ho
            have e37 := (hdp 1 37 (by kernel_rfl) (hw 1 (by kernel_rfl))).trans (hc.rd 1 _ rfl (hw 1 (by kernel_rfl)))
            have e39 := (hdp 3 39 (by kernel_rfl) (hw 3 (by kernel_rfl))).trans (hc.rd 3 _ rfl (hw 3 (by kernel_rfl)))
            refine wp_value (x := .slice Ak k0 ck) (w' := w') ?_ ⟨_, rfl, J', hc.read rfl (by decide) (by decide) (by decide)⟩
            clear hw hout hdp hc
            unfold execOp
            simp only [Act.eval, e37]
            go_simp
          · cases ho
            have e40 := (hdp 4 40 (by kernel_rfl) (hw 4 (by kernel_rfl))).trans (hc.rd 4 _ rfl (hw 4 (by kernel_rfl)))
            have hcl := cloneK_calls hc.x.ext.inv (HKT.out.1.mono (hc.x.ext.le hI)) HKT.out.2.2
            rw [HKT.out.2.1] at hcl
            have HCC := Lib.hid hc
            clear hw hout hdp hc
            unfold Oper.wp execOp
            go_simp
            refine hcl.mono ?_
            rintro e9 w9 ⟨v9, J9, rfl, hE9, hO9, -⟩
            obtain ⟨A9, c9, rfl, -, -⟩ := hO9.sl.form
            exact ⟨_, rfl, J9, HCC.out.call5 rfl hL hE9 hO9⟩
          · cases ho
            refine wp_value (x := .pointer (some ⟨nb, 2, none⟩)) (w' := w') ?_ ⟨_, rfl, J', hc.read rfl (by decide) (by decide) (by decide)⟩
            clear hw hout hdp hc
            unfold execOp
            simp only [Act.eval, q2]
            go_simp
          · cases ho
            have e42 := (hdp 6 42 (by kernel_rfl) (hw 6 (by kernel_rfl))).trans (hc.rd 6 _ rfl (hw 6 (by kernel_rfl)))
            have n2 := blk_cell_J hc.x.fn 2 rfl
            refine wp_value (x := .slice Ak n.kids.length ck) (w' := w') ?_ ⟨_, rfl, J', hc.read rfl (by decide) (by decide) (by decide)⟩
            clear hw hout hdp hc
            unfold execOp
            simp only [Act.eval, e42]
            go_simp
          · cases ho
            refine wp_value (x := .int .i64 i) (w' := w') ?_ ⟨_, rfl, J', hc.read rfl (by decide) (by decide) (by decide)⟩
            clear hw hout hdp hc
            unfold execOp
            simp only [Act.eval, q1]
            go_simp
          · cases ho
            have e44 := (hdp 8 44 (by kernel_rfl) (hw 8 (by kernel_rfl))).trans (hc.rd 8 _ rfl (hw 8 (by kernel_rfl)))
            refine wp_value (x := .int .i64 k0) (w' := w') ?_ ⟨_, rfl, J', hc.read rfl (by decide) (by decide) (by decide)⟩
            clear hw hout hdp hc
            unfold execOp
            simp only [Act.eval, e44]
            go_simp
          · cases ho
            have e43 := (hdp 7 43 (by kernel_rfl) (hw 7 (by kernel_rfl))).trans (hc.rd 7 _ rfl (hw 7 (by kernel_rfl)))
            have e45 := (hdp 9 45 (by kernel_rfl) (hw 9 (by kernel_rfl))).trans (hc.rd 9 _ rfl (hw 9 (by kernel_rfl)))
            refine wp_value (x := .slice (Ak.map (·.add k0)) (n.kids.length - k0) (ck - k0)) (w' := w') ?_ ⟨_, rfl, J', hc.read rfl (by decide) (by decide) (by decide)⟩
            clear hw hout hdp hc
            unfold execOp
            simp only [Act.eval, e43]
            go_simp
          · cases ho
            have e46 := (hdp 10 46 (by kernel_rfl) (hw 10 (by kernel_rfl))).trans (hc.rd 10 _ rfl (hw 10 (by kernel_rfl)))
            have hcl := cloneK_calls hc.x.ext.inv (HKB.out.1.mono (hc.x.ext.le hI)) HKB.out.2.2
            rw [HKB.out.2.1] at hcl
            have HCC := Lib.hid hc
            clear hw hout hdp hc
            unfold Oper.wp execOp
            go_simp
            refine hcl.mono ?_
            rintro e9 w9 ⟨v9, J9, rfl, hE9, hO9, -⟩
            obtain ⟨A9, c9, rfl, -, -⟩ := hO9.sl.form
            exact ⟨_, rfl, J9, HCC.out.call11 rfl hE9 hO9⟩
          · cases ho
            refine wp_value (x := .pointer (some ⟨ab, 2, none⟩)) (w' := w') ?_ ⟨_, rfl, J', hc.read rfl (by decide) (by decide) (by decide)⟩
            clear hw hout hdp hc
            unfold execOp
            simp only [Act.eval, q6]
            go_simp
          · cases ho
            have h5 := hw 5 (by kernel_rfl)
            have e48 := (hdp 12 48 (by kernel_rfl) (hw 12 (by kernel_rfl))).trans (hc.rd 12 _ rfl (hw 12 (by kernel_rfl)))
            have e41 := hdp 5 41 (by kernel_rfl) h5
            obtain ⟨⟨A9, c9, hv5⟩, -⟩ := hc.c5 h5
            obtain ⟨z, hz, -⟩ := hc.fa
            have a0 := blk_cell_J hz.bx 0 rfl
            have a1 := blk_cell_J hz.bx 1 rfl
            have a2 := blk_cell_J hz.bx 2 rfl
            have a2f := frozen_of_row _ ab 2 _ _ hz.bx
            have hst := hc.store rfl h5 undef HWB.out HOA.out HOB2.out ⟨HNE4.out.1, HNE4.out.2.1, HNE4.out.2.2.2.2⟩ HNN.out
            rw [hv5] at e41 hst
            refine wp_skip (w' := w'.setCell ⟨ab, 2, none⟩ (.slice A9 k0 c9)) ?_ ⟨undef, rfl, J', hst⟩
            clear hw hout hdp hc hst hz
            unfold execOp
            simp only [Act.eval, e48, e41]
            go_simp
          · cases ho
            refine wp_value (x := .pointer (some ⟨bb, 2, none⟩)) (w' := w') ?_ ⟨_, rfl, J', hc.read rfl (by decide) (by decide) (by decide)⟩
            clear hw hout hdp hc
            unfold execOp
            simp only [Act.eval, q7]
            go_simp
        · intro L v w' F hall hIc hF hFd hout hdp
          obtain ⟨J3, hc⟩ := hIc
          have p4 : F.tmps.getD 4 undef = .pointer (some ⟨b4, 0, none⟩) := hout 4 (by kernel_rfl)
          have p5 : F.tmps.getD 5 undef = .pointer (some ⟨b5, 0, none⟩) := hout 5 (by kernel_rfl)
          have p6 : F.tmps.getD 6 undef = .pointer (some ⟨ab, 0, none⟩) := hout 6 (by kernel_rfl)
          have p7 : F.tmps.getD 7 undef = .pointer (some ⟨bb, 0, none⟩) := hout 7 (by kernel_rfl)
          have e49 := (hdp 14 49 (by kernel_rfl)).trans (hc.rd 14 _ rfl (hall 14 (by omega)))
          have e47 := hdp 11 47 (by kernel_rfl)
          have pd : F.defers = [] := hFd
          have psz : F.tmps.size = 52 := by rw [hF, fill_size]; rfl
          obtain ⟨⟨A8, c8, hv5⟩, ho8, hx8, hy8⟩ := hc.c5 (hall 5 (by omega))
          obtain ⟨⟨A9, c9, hv11⟩, ho9, hx9, hy9⟩ := hc.c11 (hall 11 (by omega))
          obtain ⟨z, hz, -, hz1⟩ := hc.fa
          have hz1 := hz1 (hall 13 (by omega))
          subst hz1
          have hcx := hc.x
          have jab : J3 ab = [] := hz.jb
          clear hF hFd hout hdp hc hall
          rw [hv5] at ho8 hx8 hy8 hz
          rw [hv11] at ho9 hx9 hy9 e47
          simp only [List.drop_succ_cons, List.drop_zero]
          have b0 := blk_cell_J hcx.fb.bx 0 rfl
          have b1 := blk_cell_J hcx.fb.bx 1 rfl
          have b2 := blk_cell_J hcx.fb.bx 2 rfl
          have b2f := frozen_of_row _ bb 2 _ _ hcx.fb.bx
          refine wpList_skip (w' := w'.setCell ⟨bb, 2, none⟩ (.slice A9 (n.kids.length - k0) c9)) rfl ?_ ?_
          · clear hcx ho8 ho9 hz
            unfold execOp
            simp only [Act.eval, e49, e47]
            go_simp
          have hne4 := HNE4.out.2.2.1
          have hne5 := HNE4.out.2.2.2.1
          have hne4a := HNE4.out.1
          have hne5a := HNE4.out.2.1
          have jbb := hcx.fb.jb
          have GA := Lib.hid ((hz.set (c := bb) 2 (.slice A9 (n.kids.length - k0) c9) hab).bx)
          have GB := Lib.hid (show NBox (w'.setCell ⟨bb, 2, none⟩ (.slice A9 (n.kids.length - k0) c9)) bb false (.slice A6 (n.items.length - k0) c6) (.slice A9 (n.kids.length - k0) c9) from blk_set_J hcx.fb.bx 2 _)
          have G4 := Lib.hid ((hcx.f4.set (c := bb) 2 (.slice A9 (n.kids.length - k0) c9) hne4).bx)
          have G5 := Lib.hid ((hcx.f5.set (c := bb) 2 (.slice A9 (n.kids.length - k0) c9) hne5).bx)
          have GE := Lib.hid (hcx.ext.setCell (p := ⟨bb, 2, none⟩) (Nat.le_trans HWB.out hcx.fb.lo) jbb (.slice A9 (n.kids.length - k0) c9))
          have GNA := Lib.hid (show NdO J3 (w'.setCell ⟨bb, 2, none⟩ (.slice A9 (n.kids.length - k0) c9)) W.heap.size (.agg #[.bool false, .slice A5 i c5, .slice A8 k0 c8]) (cutA n i) from ⟨_, _, by unfold cutA; rw [hlf], by unfold cutA; simp only []; rw [HLT.out.1]; exact own_set hcx.o5 HOB.out _, by unfold cutA; rw [hlf]; simp only [Bool.false_eq_true, if_false]; rw [← HK0.out, HKT.out.2.1]; exact own_set ho8 hy8 _⟩)
          have GNB := Lib.hid (show NdO J3 (w'.setCell ⟨bb, 2, none⟩ (.slice A9 (n.kids.length - k0) c9)) W.heap.size (.agg #[.bool false, .slice A6 (n.items.length - k0) c6, .slice A9 (n.kids.length - k0) c9]) (cutB n i) from ⟨_, _, by unfold cutB; rw [hlf]; rfl, by unfold cutB; rw [hlf]; simp only [Bool.false_eq_true, if_false]; rw [← HK0.out, HBL.out.1]; exact own_set hcx.o6 HOB3.out _, by unfold cutB; rw [hlf]; simp only [Bool.false_eq_true, if_false]; rw [← HK0.out, HKB.out.2.1]; exact own_set ho9 hy9 _⟩)
          have HJ45 := Lib.hid (show J3 b4 = [] ∧ J3 b5 = [] from ⟨hcx.f4.jb, hcx.f5.jb⟩)
          have HL45 := Lib.hid (show w.heap.size ≤ b4 ∧ w.heap.size ≤ b5 from ⟨hcx.f4.lo, hcx.f5.lo⟩)
          clear hcx ho8 ho9 hz b0 b1 b2 b2f hx8 hy8 hx9 hy9 e47 e49
          generalize World.setCell w' _ _ = w4 at *
          generalize J3 = J2 at *
          refine wpList_nil ?_
          change Exit.then _ _ .normal F _
          go_step
          go_step
          go_step
          have hu4 : ab ≠ b4 := fun e => hne4a e.symm
          have hu5 : ab ≠ b5 := fun e => hne5a e.symm
          have hv4 : bb ≠ b4 := fun e => hne4 e.symm
          have hv5 : bb ≠ b5 := fun e => hne5 e.symm
          have h45 : b5 ≠ b4 := by have := HNE.out; omega
          refine wp_region_pool2 3 (EI w4.drew b4 false (.slice A5 i c5) (.slice A8 k0 c8) false (.slice A6 (n.items.length - k0) c6) (.slice A9 (n.kids.length - k0) c9)) (by kernel_rfl) (by kernel_rfl) (fun _ => undef) ⟨fun h => (by cases h), fun h => (by cases h), rfl⟩ ?_ ?_
          · intro k o hk ho L v w' F hIe hL hw hout hdp
            obtain ⟨he0, he1, he2⟩ := hIe
            have q4 : F.tmps.getD 4 undef = .pointer (some ⟨b4, 0, none⟩) := (hout 4 (by kernel_rfl)).trans p4
            have q6 : F.tmps.getD 6 undef = .pointer (some ⟨ab, 0, none⟩) := (hout 6 (by kernel_rfl)).trans p6
            have q7 : F.tmps.getD 7 undef = .pointer (some ⟨bb, 0, none⟩) := (hout 7 (by kernel_rfl)).trans p7
            have hA : NBox w' ab false (.slice A5 i c5) (.slice A8 k0 c8) := by rw [he2]; split; exact put3_nb _ _ _ GA.out hu4; exact GA.out
            have hB : NBox w' bb false (.slice A6 (n.items.length - k0) c6) (.slice A9 (n.kids.length - k0) c9) := by rw [he2]; split; exact put3_nb _ _ _ GB.out hv4; exact GB.out
            have hk3 : k = 0 ∨ k = 1 ∨ k = 2 := by omega
            rcases hk3 with rfl | rfl | rfl
            · cases ho
              have n0 := blk_cell_J hA 0 rfl
              have n1 := blk_cell_J hA 1 rfl
              have n2 := blk_cell_J hA 2 rfl
              refine wp_value (x := .agg #[.bool false, .slice A5 i c5, .slice A8 k0 c8]) (w' := w') ?_ ⟨_, rfl, fun _ => rfl, he1, he2⟩
              clear hw hout hdp he0 he1 he2 hA hB
              unfold execOp
              simp only [Act.eval, q6]
              go_simp
            · cases ho
              have n0 := blk_cell_J hB 0 rfl
              have n1 := blk_cell_J hB 1 rfl
              have n2 := blk_cell_J hB 2 rfl
              refine wp_value (x := .agg #[.bool false, .slice A6 (n.items.length - k0) c6, .slice A9 (n.kids.length - k0) c9]) (w' := w') ?_ ⟨_, rfl, he0, fun _ => rfl, he2⟩
              clear hw hout hdp he0 he1 he2 hA hB
              unfold execOp
              simp only [Act.eval, q7]
              go_simp
            · cases ho
              have e27 := (hdp 0 50 (by rw [psz]; kernel_rfl) (hw 0 (by kernel_rfl))).trans (he0 (hw 0 (by kernel_rfl)))
              have h4 : NBox w' b4 false (.slice none 0 0) (.slice none 0 0) := by rw [he2, if_neg (by rw [hL]; decide)]; exact G4.out
              refine wp_skip (run_store3 rfl q4 e27 h4) ⟨undef, rfl, he0, he1, ?_⟩
              rw [he2, if_neg (by rw [hL]; decide)]
              rfl
          · intro L v w' F hall hIe hF hFd hout hdp
            obtain ⟨he0, he1, he2⟩ := hIe
            rw [if_pos (hall 2 (by omega))] at he2
            have q4 : F.tmps.getD 4 undef = .pointer (some ⟨b4, 0, none⟩) := (hout 4 (by kernel_rfl)).trans p4
            have q5 : F.tmps.getD 5 undef = .pointer (some ⟨b5, 0, none⟩) := (hout 5 (by kernel_rfl)).trans p5
            have e28 := (hdp 1 51 (by rw [psz]; kernel_rfl)).trans (he1 (hall 1 (by omega)))
            have hFd0 : F.defers = [] := hFd.trans pd
            have h5 : NBox w' b5 false (.slice none 0 0) (.slice none 0 0) := by rw [he2]; exact put3_nb _ _ _ G5.out h45
            simp only [List.drop_succ_cons, List.drop_zero]
            refine wpList_skip rfl (run_store3 rfl q5 e28 h5) ?_
            clear hF hout hdp
            have hFA : NBox (put3 w' b5 (.bool false) (.slice A6 (n.items.length - k0) c6) (.slice A9 (n.kids.length - k0) c9)) b4 false (.slice A5 i c5) (.slice A8 k0 c8) := by rw [he2]; exact put3_nb _ _ _ (put3_at G4.out) (fun e => h45 e.symm)
            have hFB : NBox (put3 w' b5 (.bool false) (.slice A6 (n.items.length - k0) c6) (.slice A9 (n.kids.length - k0) c9)) b5 false (.slice A6 (n.items.length - k0) c6) (.slice A9 (n.kids.length - k0) c9) := put3_at h5
            have hFE : Ext J w J2 (put3 w' b5 (.bool false) (.slice A6 (n.items.length - k0) c6) (.slice A9 (n.kids.length - k0) c9)) := by rw [he2]; exact put3_e (put3_e GE.out.drew HL45.out.1 HJ45.out.1 _ _ _) HL45.out.2 HJ45.out.2 _ _ _
            have hFNA : NdO J2 (put3 w' b5 (.bool false) (.slice A6 (n.items.length - k0) c6) (.slice A9 (n.kids.length - k0) c9)) w.heap.size (.agg #[.bool false, .slice A5 i c5, .slice A8 k0 c8]) (cutA n i) := by rw [he2]; exact put3_node (put3_node GNA.out.drew (by have := HNE.out; omega) (Nat.le_refl _) _ _ _) (by have := HNE.out; omega) HE.out.below.size _ _ _
            have hFNB : NdO J2 (put3 w' b5 (.bool false) (.slice A6 (n.items.length - k0) c6) (.slice A9 (n.kids.length - k0) c9)) w.heap.size (.agg #[.bool false, .slice A6 (n.items.length - k0) c6, .slice A9 (n.kids.length - k0) c9]) (cutB n i) := by rw [he2]; exact put3_node (put3_node GNB.out.drew (by have := HNE.out; omega) (Nat.le_refl _) _ _ _) (by have := HNE.out; omega) HE.out.below.size _ _ _
            refine wpList_nil ?_
            change Exit.then _ _ .normal F _
            go_step
            go_step
            go_step
            go_step
            exact bodyPost_cut hFd0 hFA hFB q4 q5 ⟨_, _, J2, rfl, hFE, hFNA, hFNB⟩
end Go.Proofs.Ytnnkgjaahmflmaa
