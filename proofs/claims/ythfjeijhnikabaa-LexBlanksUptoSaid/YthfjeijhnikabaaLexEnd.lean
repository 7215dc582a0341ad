/- The closure of lines: a line that has words is laid to the lines. -/
import Derived.Test.YthfjeijhnikabaaLexDef
import Derived.StillTailTactics
namespace Go.Proofs.Ythfjeijhnikabaa
open Go.RowKit

set_option maxRecDepth 100000 in
set_option maxHeartbeats 4000000 in
theorem end_calls {J : Jm} {w : World} (hI : Inv J w) {nb ob base : Nat} {ov wv : Value} {oc : List Value} {n : Nat} {one : Ln}
    (h1 : LnBox w nb one.num one.ind wv) (h2 : OBox w ob ov) (hJ2 : J ob = []) (hbo : ob < base) (HO : Own J w base 33 3 ov n oc) (hn : n ≤ 1048576) (hbs : base ≤ w.heap.size)
    (hw : ∃ A c, wv = .slice A one.ws.length c) :
    Calls Try.prog 43 #[.pointer (some ⟨nb, 0, none⟩), .pointer (some ⟨ob, 0, none⟩)] w fun e w' => e = .returned (.tuple #[]) ∧
      ∃ J' ov' n' oc', Mw (fun b => b = ob ∨ some b = ov.ownBlock) J w J' w' ∧ J' ob = [] ∧ OBox w' ob ov' ∧ Own J' w' base 33 3 ov' n' oc' ∧
        ((one.ws = [] ∧ n' = n ∧ oc' = oc) ∨ (one.ws ≠ [] ∧ n' = n + 1 ∧ oc' = oc ++ [.int .i64 (one.num : Int), .bool one.ind, wv])) := by
  obtain ⟨A, c, rfl⟩ := hw
  have c0 : w.cell? ⟨nb, 0, none⟩ = some (.int .i64 (one.num : Int)) := blk_cell_J h1 0 rfl
  have c1 : w.cell? ⟨nb, 1, none⟩ = some (.bool one.ind) := blk_cell_J h1 1 rfl
  have c2 : w.cell? ⟨nb, 2, none⟩ = some (.slice A one.ws.length c) := blk_cell_J h1 2 rfl
  have o0 : w.cell? ⟨ob, 0, none⟩ = some ov := blk_cell_J h2 0 rfl
  have HI := Lib.hid hI
  clear hI
  go_enter Try.func43, Try.ntmps43
  by_cases h0 : one.ws = []
  · have hl : one.ws.length = 0 := by rw [h0]; rfl
    rw [hl] at c2
    go_wp2_with fail
    go_end0
    exact ⟨rfl, J, ov, n, oc, Mw.refl _ HI.out, hJ2, h2, HO, .inl ⟨h0, rfl, rfl⟩⟩
  · have hl : 0 < one.ws.length := List.length_pos_iff.2 h0
    have hobl := (Array.getElem?_eq_some_iff.1 h2).1
    have hnbl := (Array.getElem?_eq_some_iff.1 h1).1
    have hobn : ∀ b, ov.ownBlock = some b → b ≠ ob := fun b e => by have := (HO.lt b e).1; omega
    have H2 := Lib.hid h2
    have HO := Lib.hid HO
    clear h1 h2
    have hone : ∀ u ∈ [Value.int .i64 (one.num : Int), .bool one.ind, .slice A one.ws.length c], u.oneCell' = true := by intro u hu; simp at hu; rcases hu with rfl | rfl | rfl <;> rfl
    have HON := Lib.hid hone
    have HOB := Lib.hid hobn
    clear hone hobn
    go_wp2_with (at_builtin; go_must (refine wpList_append_lit (J := J) (s := .tmp 6) (x := .tmp 8) (t := 24) (e := 33) (base := base) (v := ov) (n := n) (xs := oc) (m := 1) (news := [.int .i64 (one.num : Int), .bool one.ind, .slice A one.ws.length c]) rfl (.agg #[.int .i64 0, .bool false, .slice none 0 0]) 3 40 rfl Try.underlying24 infoLn rfl rfl (HI.out.alloc _) (HO.out.alloc _) rfl (heap_alloc_new _ _) rfl HON.out (by simp only [maxLen]; omega) (by omega) (by simp; omega) ?_; intro v1 w1 J1 ho hg hv; obtain ⟨A1, c1', rfl, -, -⟩ := ho.sl.form; have hM := (((Ext.refl HI.out).alloc (.cells #[.int .i64 (one.num : Int), .bool one.ind, .slice A one.ws.length c] 33)).mw HI.out (fun b => b = ob ∨ some b = ov.ownBlock)).trans hg.mw (fun b hb e => .inr e); have hob1 := hg.mw.blk ((heap_alloc_old _ _ hobl).trans H2.out) (fun e => HOB.out ob e.symm rfl); have o0 : w1.cell? ⟨ob, 0, none⟩ = some ov := blk_cell_J hob1 0 rfl; have f0 : w1.frozen? ⟨ob, 0, none⟩ = false := frozen_of_row w1 ob 0 _ _ hob1; have hj := hg.mw.nilAt (b := ob) (by simp; omega) (fun e => HOB.out ob e.symm rfl) hJ2; have HM := Lib.hid hM; have HO1 := Lib.hid ho; have HB1 := Lib.hid hob1; have HJ1 := Lib.hid hj; clear hM ho hob1 hj hg hv))
    go_end0
    exact ⟨rfl, J1, _, n + 1, _, HM.out.setCell (p := ⟨ob, 0, none⟩) (fun _ => .inl rfl) HJ1.out _, HJ1.out, blk_set_J HB1.out 0 _,
      HO1.out.kept fun b e => ⟨Below.heap_setCell _ _ _ _ (by have := (HO1.out.lt b e).1; show b ≠ ob; omega), rfl⟩, .inr ⟨h0, rfl, rfl⟩⟩
end Go.Proofs.Ythfjeijhnikabaa
