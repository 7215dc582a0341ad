/- The walk of Lines. -/
import Derived.Test.YthfjeijhnikabaaLexLn
import Derived.Recover
namespace Go.Proofs.Ythfjeijhnikabaa
open Go.RowKit

def spot (e a : Int) : Value := .agg #[.int .i64 e, .int .i64 a]
set_option maxHeartbeats 2000000 in
set_option maxRecDepth 100000 in
theorem catch_idle (p q : Addr) (w : World) :
    CallsD Try.prog 31 #[.pointer (some p), .pointer (some q)] .returning w fun e u' w' => e = .returned (.tuple #[]) ∧ u' = .returning ∧ w' = w := by
  refine callsD_of_wpS Try.func31 rfl fun c₀ cs hu => ?_
  apply wpS_seq
  apply wpS_region
  simp [wpOpsS, go_sem, recoverD, hu, Try.ntmps31, Exit.thenS]
  refine wpS_of_wp ?_
  go_wp2
  cases c₀
  simp_all [bodyPostS, results, Try.results31]
theorem lt_of_cell {w : World} {a : Addr} {v : Value} (h : w.cell? a = some v) : a.block < w.heap.size := by
  rcases Nat.lt_or_ge a.block w.heap.size with h' | h'
  · exact h'
  · simp [World.cell?, Array.getElem?_eq_none h'] at h
/-- the world behind a caught fault -/
def caught (w : World) (p q x : Nat) : World := ((((w.alloc (.cells #[.int .i64 (x : Int)] 51)).setCell ⟨p, 0, none⟩ (.slice none 0 0)).setCell ⟨q, 0, none⟩ (.int .i64 6)).setCell ⟨q, 1, none⟩ (.int .i64 (x : Int))).drew
theorem assert_fault (v : Value) (w : World) : (Instr.typeAssert (Value.iface 51 v) 20 51 true).run Try.prog w = .ok (.tuple #[v, .bool true]) w := by
  kernel_rfl
set_option maxHeartbeats 2000000 in
set_option maxRecDepth 100000 in
theorem catch_fault (p q : Nat) (x : Nat) (w : World) (v : Value) (e a : Int) (hp : w.cell? ⟨p, 0, none⟩ = some v) (hq : w.cell? ⟨q, 0, none⟩ = some (.int .i64 e)) (hq1 : w.cell? ⟨q, 1, none⟩ = some (.int .i64 a))
    (zp : w.frozen? ⟨p, 0, none⟩ = false) (zq : w.frozen? ⟨q, 0, none⟩ = false) (zq1 : w.frozen? ⟨q, 1, none⟩ = false) (hne : p ≠ q) :
    CallsD Try.prog 31 #[.pointer (some ⟨p, 0, none⟩), .pointer (some ⟨q, 0, none⟩)] (.panicking [{ v := faultV x, recovered := false }]) w fun e u' w' => e = .returned (.tuple #[]) ∧ u' = .panicking [{ v := faultV x, recovered := true }] ∧ w' = caught w p q x := by
  have hta := assert_fault
  refine callsD_of_wpS Try.func31 rfl fun c₀ cs hu => ?_
  apply wpS_seq
  apply wpS_region
  simp [wpOpsS, go_sem, recoverD, hu, Try.ntmps31, Exit.thenS, faultV]
  refine wpS_of_wp ?_
  change Code.wp _ _ _ { tmps := #[.pointer (some ⟨p, 0, none⟩), .pointer (some ⟨q, 0, none⟩), undef, undef, undef, .iface 51 (.agg #[.int .i64 (x : Int)]), undef, undef, undef, undef, undef, undef, undef, undef], defers := [] } _
  go_wp2
  have hne2 : ¬ q = p := fun e => hne e.symm
  have lp := lt_of_cell hp
  have lq := lt_of_cell hq
  have hb : Below w.heap.size w (w.alloc (.cells #[.int .i64 (x : Int)] 51)) := (Below.refl _ _).alloc (Nat.le_refl _) _
  have gp := (hb.cell lp).trans hp
  have gq := (hb.cell lq).trans hq
  have gq1 := (hb.cell (p := ⟨q, 1, none⟩) lq).trans hq1
  have yp := (hb.frozen lp).trans zp
  have yq := (hb.frozen lq).trans zq
  have yq1 := (hb.frozen (p := ⟨q, 1, none⟩) lq).trans zq1
  have gf : (w.alloc (.cells #[.int .i64 (x : Int)] 51)).cell? ⟨w.heap.size, 0, none⟩ = some (.int .i64 (x : Int)) := by simp [go_sem]
  have n1 : ¬ p = w.heap.size := by dsimp at lp; omega
  have n2 : ¬ w.heap.size = p := fun e => n1 e.symm
  clear hp hq hq1 zp zq zq1 hb
  have hW : caught w p q x = ((((w.alloc (.cells #[.int .i64 (x : Int)] 51)).setCell ⟨p, 0, none⟩ (.slice none 0 0)).setCell ⟨q, 0, none⟩ (.int .i64 6)).setCell ⟨q, 1, none⟩ (.int .i64 (x : Int))).drew := rfl
  generalize (w.alloc (.cells #[.int .i64 (x : Int)] 51)) = w7 at *
  go_region
  cases c₀
  simp_all +zetaDelta [Exit.inBlock, bodyPostS, results, Try.results31, faultV]
theorem Mv.toExt {S : Nat → Prop} {J J' : Jm} {w w' : World} (h : Mv S J w J' w') (hs : ∀ b, b < w.heap.size → ¬ S b) : Ext J w J' w' :=
  ⟨⟨h.os, h.tape, h.output, h.size, fun b hb => h.block b hb (hs b hb)⟩, h.inv, fun b hb => h.old b hb⟩
theorem Ext.setNew {J J' : Jm} {w w' : World} (h : Ext J w J' w') {p : Addr} (hp : w.heap.size ≤ p.block) (hJ : J' p.block = []) (u : Value) : Ext J w J' (w'.setCell p u) :=
  ((h.mv (fun _ => False)).setCell (p := p) (fun e => absurd e (by omega)) hJ u).toExt fun _ _ e => e
theorem Below.blkB {B : Nat} {w w' : World} (h : Below B w w') {b : Nat} {o : Obj} (hlt : b < B) (hb : w.heap[b]? = some o) : w'.heap[b]? = some o := (h.block b hlt).trans hb
/-- what Lines answers -/
def AnsP (J : Jm) (w w' : World) (e : Ending) (r : Except Nat (List Ln)) : Prop :=
  match r with
  | .error x => e = .returned (.tuple #[.slice none 0 0, spot 6 x]) ∧ ∃ J', Ext J w J' w'
  | .ok ls => ∃ J' v c M B, e = .returned (.tuple #[v, spot 0 0]) ∧ Ext J w J' w' ∧ w.heap.size ≤ B ∧ Own J' w' B 33 3 v ls.length c ∧ LsO J' w' B M ls c
def LinesP (J : Jm) (w : World) (s : List UInt8) (w' : World) (e : Ending) : Prop :=
  if 32768 < s.length then e = .returned (.tuple #[.slice none 0 0, spot 3 32768]) ∧ Ext J w J w' else AnsP J w w' e (lexL s)
set_option maxHeartbeats 4000000 in
set_option maxRecDepth 100000 in
theorem Lines_calls {J : Jm} {w : World} (hI : Inv J w) (s : List UInt8) (hs : s.length ≤ 1048576) :
    Calls Try.prog 14 #[.string (strB s)] w fun e w' => LinesP J w s w' e := by
  have hmf : ∀ (fn : Fn) (first cap : Array Value) (w : World), (Instr.makeFunc fn first cap).run Try.prog w = .ok (.func fn first cap) w := fun _ _ _ _ => rfl
  have HSZ := strB_size s
  have hE := ((Ext.refl hI).alloc (.cells #[.slice none 0 0] 24)).alloc (.cells #[.int .i64 0, .int .i64 0] 27)
  unfold LinesP
  by_cases hl : 32768 < s.length
  · simp only [if_pos hl]
    have hl' : (32768 : Int) < s.length := by omega
    go_enter_defers Try.func14, Try.ntmps14
    go_wp2
    simp [bodyPostD, Leaves, results, Try.results14, go_sem]
    exact ⟨rfl, ((Ext.refl hI).alloc _).alloc _⟩
  · simp only [if_neg hl]
    have hl' : ¬ (32768 : Int) < s.length := by omega
    have hz2 : ((w.alloc (.cells #[.slice none 0 0] 24)).alloc (.cells #[.int .i64 0, .int .i64 0] 27)).heap.size = w.heap.size + 1 + 1 := by simp
    have hz1 : (w.alloc (.cells #[.slice none 0 0] 24)).heap.size = w.heap.size + 1 := by simp
    have hE3 := hE.alloc (.cells #[.string (strB s), .int .i64 0, .int .i64 1, .int .i64 0] 54)
    have hRd : Rd J (((w.alloc (.cells #[.slice none 0 0] 24)).alloc (.cells #[.int .i64 0, .int .i64 0] 27)).alloc (.cells #[.string (strB s), .int .i64 0, .int .i64 1, .int .i64 0] 54)) (w.heap.size + 1 + 1) s 0 :=
      ⟨heap_new_at hz2, hI.nil (by omega), Nat.zero_le _, hs⟩
    have b0 := (Below.heap_alloc ((w.alloc (.cells #[.slice none 0 0] 24)).alloc (.cells #[.int .i64 0, .int .i64 0] 27)) (.cells #[.string (strB s), .int .i64 0, .int .i64 1, .int .i64 0] 54) w.heap.size (by omega)).trans ((Below.heap_alloc (w.alloc (.cells #[.slice none 0 0] 24)) (.cells #[.int .i64 0, .int .i64 0] 27) w.heap.size (by omega)).trans (heap_alloc_new w (.cells #[.slice none 0 0] 24)))
    have b1 := (Below.heap_alloc ((w.alloc (.cells #[.slice none 0 0] 24)).alloc (.cells #[.int .i64 0, .int .i64 0] 27)) (.cells #[.string (strB s), .int .i64 0, .int .i64 1, .int .i64 0] 54) (w.heap.size + 1) (by omega)).trans (heap_new_at (o := .cells #[.int .i64 0, .int .i64 0] 27) hz1)
    have HB0 := Lib.hid b0
    have HB1 := Lib.hid b1
    have HRd := Lib.hid hRd
    have HE3 := Lib.hid hE3
    clear b0 b1 hRd hE3 hE hz1 hz2
    go_enter_defers Try.func14, Try.ntmps14
    go_wp2_with fail
    cases hr : lexL s with
    | error x =>
      refine (lines_calls HE3.out.inv HRd.out).mono ?_
      rw [hr]
      rintro e w1 ⟨rfl, J', hM⟩
      have hb0 := hM.blk HB0.out (by omega)
      have hb1 := hM.blk HB1.out (by omega)
      have hX := (HE3.out.moved hM (by intro b h1 h2; omega))
      go_wp2_with fail
      refine leaves_cons (f := 31) (args := #[.pointer (some ⟨w.heap.size, 0, none⟩), .pointer (some ⟨w.heap.size + 1, 0, none⟩)]) (by simp) (by simp [go_sem]) ?_
      refine (catch_fault w.heap.size (w.heap.size + 1) x _ _ _ _ (blk_cell_J hb0 0 rfl) (blk_cell_J hb1 0 rfl) (blk_cell_J hb1 1 rfl) (frozen_of_row w1 _ 0 _ _ hb0) (frozen_of_row w1 _ 0 _ _ hb1) (frozen_of_row w1 _ 1 _ _ hb1) (by omega)).mono ?_
      rintro e u' w'' ⟨rfl, rfl, rfl⟩
      have g0 := blk_cell_J hb0 0 rfl
      have g1 := blk_cell_J hb1 0 rfl
      have g2 := blk_cell_J hb1 1 rfl
      have hlt0 := (Array.getElem?_eq_some_iff.1 hb0).1
      have hlt1 := (Array.getElem?_eq_some_iff.1 hb1).1
      have hn0 : ¬ w1.heap.size = w.heap.size := by omega
      have hn1 : ¬ w1.heap.size = w.heap.size + 1 := by omega
      have hn2 : ¬ w.heap.size = w1.heap.size := by omega
      have hn3 : ¬ w.heap.size + 1 = w1.heap.size := by omega
      have hcw : Below w1.heap.size w1 (w1.alloc (.cells #[.int .i64 (x : Int)] 51)) := (Below.refl _ _).alloc (Nat.le_refl _) _
      have k0 := Below.blkB hcw hlt0 hb0
      have k1 := Below.blkB hcw hlt1 hb1
      have m0 := blk_set_J k0 0 (.slice none 0 0)
      have m1 := blk_set_J (blk_set_J ((Below.heap_setCell (w1.alloc (.cells #[.int .i64 (x : Int)] 51)) ⟨w.heap.size, 0, none⟩ (.slice none 0 0) (w.heap.size + 1) (by show w.heap.size + 1 ≠ w.heap.size; omega)).trans k1) 0 (.int .i64 6)) 1 (.int .i64 (x : Int))
      have q0 : (caught w1 w.heap.size (w.heap.size + 1) x).cell? ⟨w.heap.size, 0, none⟩ = some (.slice none 0 0) :=
        blk_cell_J (((Below.heap_setCell _ ⟨w.heap.size + 1, 1, none⟩ _ _ (by show w.heap.size ≠ w.heap.size + 1; omega)).trans (Below.heap_setCell _ ⟨w.heap.size + 1, 0, none⟩ _ _ (by show w.heap.size ≠ w.heap.size + 1; omega))).trans m0) 0 rfl
      have q1 : (caught w1 w.heap.size (w.heap.size + 1) x).cell? ⟨w.heap.size + 1, 0, none⟩ = some (.int .i64 6) := blk_cell_J m1 0 rfl
      have q2 : (caught w1 w.heap.size (w.heap.size + 1) x).cell? ⟨w.heap.size + 1, 1, none⟩ = some (.int .i64 (x : Int)) := blk_cell_J m1 1 rfl
      have hJ0 : J' w.heap.size = [] := (hM.old _ (by simp <;> omega)).trans (hI.nil (Nat.le_refl _))
      have hJ1 : J' (w.heap.size + 1) = [] := (hM.old _ (by simp <;> omega)).trans (hI.nil (by omega))
      have hfin : Ext J w J' (caught w1 w.heap.size (w.heap.size + 1) x) :=
        ((((hX.alloc _).setNew (p := ⟨w.heap.size, 0, none⟩) (Nat.le_refl _) hJ0 _).setNew (p := ⟨w.heap.size + 1, 0, none⟩) (by show w.heap.size ≤ w.heap.size + 1; omega) hJ1 _).setNew (p := ⟨w.heap.size + 1, 1, none⟩) (by show w.heap.size ≤ w.heap.size + 1; omega) hJ1 _).drew
      simp [Leaves, settle, results, Try.results14, go_sem, q0, q1, q2]
      rw [hr]
      exact ⟨rfl, J', hfin⟩
    | ok ls =>
      refine (lines_calls HE3.out.inv HRd.out).mono ?_
      rw [hr]
      rintro e w1 ⟨J', v, c, M, rfl, hM, hO, hL⟩
      obtain ⟨A, cp, rfl, -, -⟩ := hO.sl.form
      have hb0 := hM.blk HB0.out (by omega)
      have hb1 := hM.blk HB1.out (by omega)
      have hX := (HE3.out.moved hM (by intro b h1 h2; omega))
      have g0 := blk_cell_J hb0 0 rfl
      have g1 := blk_cell_J hb1 0 rfl
      have g2 := blk_cell_J hb1 1 rfl
      have y0 := frozen_of_row w1 _ 0 _ _ hb0
      have y1 := frozen_of_row w1 _ 0 _ _ hb1
      have y2 := frozen_of_row w1 _ 1 _ _ hb1
      have HX := Lib.hid hX
      have HO := Lib.hid hO
      have HL := Lib.hid hL
      have hJ0 : J' w.heap.size = [] := (hM.old _ (by simp <;> omega)).trans (hI.nil (Nat.le_refl _))
      have hJ1 : J' (w.heap.size + 1) = [] := (hM.old _ (by simp <;> omega)).trans (hI.nil (by omega))
      have HW := Lib.hid (show w.heap.size + 1 + 1 ≤ (((w.alloc (.cells #[.slice none 0 0] 24)).alloc (.cells #[.int .i64 0, .int .i64 0] 27)).alloc (.cells #[.string (strB s), .int .i64 0, .int .i64 1, .int .i64 0] 54)).heap.size + 1 + 1 by simp <;> omega)
      have k0 := blk_set_J hb0 0 (.slice A ls.length cp)
      have k1 := blk_set_J (blk_set_J ((Below.heap_setCell w1 ⟨w.heap.size, 0, none⟩ (.slice A ls.length cp) (w.heap.size + 1) (by show w.heap.size + 1 ≠ w.heap.size; omega)).trans hb1) 0 (.int .i64 0)) 1 (.int .i64 0)
      have q0 : (((w1.setCell ⟨w.heap.size, 0, none⟩ (.slice A ls.length cp)).setCell ⟨w.heap.size + 1, 0, none⟩ (.int .i64 0)).setCell ⟨w.heap.size + 1, 1, none⟩ (.int .i64 0)).cell? ⟨w.heap.size, 0, none⟩ = some (.slice A ls.length cp) :=
        blk_cell_J (((Below.heap_setCell _ ⟨w.heap.size + 1, 1, none⟩ _ _ (by show w.heap.size ≠ w.heap.size + 1; omega)).trans (Below.heap_setCell _ ⟨w.heap.size + 1, 0, none⟩ _ _ (by show w.heap.size ≠ w.heap.size + 1; omega))).trans k0) 0 rfl
      have q1 : (((w1.setCell ⟨w.heap.size, 0, none⟩ (.slice A ls.length cp)).setCell ⟨w.heap.size + 1, 0, none⟩ (.int .i64 0)).setCell ⟨w.heap.size + 1, 1, none⟩ (.int .i64 0)).cell? ⟨w.heap.size + 1, 0, none⟩ = some (.int .i64 0) := blk_cell_J k1 0 rfl
      have q2 : (((w1.setCell ⟨w.heap.size, 0, none⟩ (.slice A ls.length cp)).setCell ⟨w.heap.size + 1, 0, none⟩ (.int .i64 0)).setCell ⟨w.heap.size + 1, 1, none⟩ (.int .i64 0)).cell? ⟨w.heap.size + 1, 1, none⟩ = some (.int .i64 0) := blk_cell_J k1 1 rfl
      have key : ∀ b, (((w.alloc (.cells #[.slice none 0 0] 24)).alloc (.cells #[.int .i64 0, .int .i64 0] 27)).alloc (.cells #[.string (strB s), .int .i64 0, .int .i64 1, .int .i64 0] 54)).heap.size + 1 + 1 ≤ b → (((w1.setCell ⟨w.heap.size, 0, none⟩ (.slice A ls.length cp)).setCell ⟨w.heap.size + 1, 0, none⟩ (.int .i64 0)).setCell ⟨w.heap.size + 1, 1, none⟩ (.int .i64 0)).heap[b]? = w1.heap[b]? := fun b hb =>
        ((Below.heap_setCell _ ⟨w.heap.size + 1, 1, none⟩ _ _ (by have := HW.out; show b ≠ w.heap.size + 1; omega)).trans (Below.heap_setCell _ ⟨w.heap.size + 1, 0, none⟩ _ _ (by have := HW.out; show b ≠ w.heap.size + 1; omega))).trans (Below.heap_setCell _ ⟨w.heap.size, 0, none⟩ _ _ (by have := HW.out; show b ≠ w.heap.size; omega))
      have hfin := ((hX.setNew (p := ⟨w.heap.size, 0, none⟩) (Nat.le_refl _) hJ0 (.slice A ls.length cp)).setNew (p := ⟨w.heap.size + 1, 0, none⟩) (by show w.heap.size ≤ w.heap.size + 1; omega) hJ1 (.int .i64 0)).setNew (p := ⟨w.heap.size + 1, 1, none⟩) (by show w.heap.size ≤ w.heap.size + 1; omega) hJ1 (.int .i64 0)
      have hO2 := hO.kept (J' := J') fun b e => ⟨key b (hO.lt b e).1, rfl⟩
      have hL2 := hL.imp (J' := J') (fun v n c o _ => o.kept (J' := J') fun b e => ⟨key b (o.lt b e).1, rfl⟩) (Nat.le_refl _)
      have Q0 := Lib.hid q0
      have Q1 := Lib.hid q1
      have Q2 := Lib.hid q2
      have HF := Lib.hid hfin
      have HO := Lib.hid hO2
      have HL := Lib.hid hL2
      clear hM hb0 hb1 hX hO hL q0 q1 q2 key hfin hO2 hL2 k0 k1
      go_wp2_with fail
      refine leaves_cons (f := 31) (args := #[.pointer (some ⟨w.heap.size, 0, none⟩), .pointer (some ⟨w.heap.size + 1, 0, none⟩)]) (by simp) (by simp [go_sem]) ?_
      refine (catch_idle ⟨w.heap.size, 0, none⟩ ⟨w.heap.size + 1, 0, none⟩ _).mono ?_
      rintro e u' w'' ⟨rfl, rfl, rfl⟩
      have q0 := Q0.out
      have q1 := Q1.out
      have q2 := Q2.out
      generalize ((w1.setCell ⟨w.heap.size, 0, none⟩ (.slice A ls.length cp)).setCell ⟨w.heap.size + 1, 0, none⟩ (.int .i64 0)).setCell ⟨w.heap.size + 1, 1, none⟩ (.int .i64 0) = w5 at *
      simp [Leaves, settle, results, Try.results14, go_sem, q0, q1, q2]
      rw [hr]
      exact ⟨J', _, c, M, _, rfl, HF.out, (by simp <;> omega), HO.out, HL.out⟩
end Go.Proofs.Ythfjeijhnikabaa
