/- The walks of lex's reader: peek, next, bare. -/
import Derived.Test.YthfjeijhnikabaaLexPure
import Derived.Test.YthfjeijhnikabaaMv
import Derived.StillTailTactics
import Derived.Lib.Strings
import Derived.Lib.Slices
import Derived.Lib.Walk
namespace Go.Proofs.Ythfjeijhnikabaa
open Go.RowKit

set_option maxHeartbeats 1000000 in
/-- strings.HasPrefix -/
theorem hasPrefix_calls (s p : ByteArray) (w : World) :
    Calls Try.prog 52 #[.string s, .string p] w fun e w' => e = .returned (.bool (Lib.hasPrefix s.data.toList p.data.toList)) ∧ w' = w := by
  rw [← Lib.hasPrefix_of_take, ← Lib.size_eq, ← Lib.size_eq]
  go_enter Try.func52, Try.ntmps52
  go_wp2
  · rename_i h
    go_ret
    refine ⟨?_, rfl⟩
    show Ending.returned (Value.bool ((s.extract 0 p.size).toList == p.toList)) = _
    rw [Lib.extract_toList, Lib.toList_data]
    simp [h]
  · rename_i h
    go_ret
    refine ⟨?_, rfl⟩
    show Ending.returned (Value.bool false) = _
    simp [h]

theorem strB_from (s : List UInt8) {k : Nat} (_h : k ≤ s.length) : (strB s).extract k s.length = strB (s.drop k) := by
  have h1 : ((strB s).extract k s.length).data.toList = s.drop k := by
    rw [ByteArray.data_extract]
    simp [strB, List.take_of_length_le]
  rw [← h1, strB_of]
theorem strB_at {s : List UInt8} {k : Nat} {x : UInt8} (h : s[k]? = some x) : ∀ hh, (strB s)[k]'hh = x := by
  intro hh
  obtain ⟨h1, h2⟩ := List.getElem?_eq_some_iff.1 h
  rw [← h2]
  simp [strB, ByteArray.getElem_eq_getElem_data]
/-- the reader's block -/
def Rd (J : Jm) (w : World) (g : Nat) (s : List UInt8) (k : Nat) : Prop :=
  w.heap[g]? = some (.cells [.string (strB s), .int .i64 (k : Int), .int .i64 (ln s k : Int), .int .i64 (cl s k : Int)].toArray 54 (0, 0)) ∧ J g = [] ∧ k ≤ s.length ∧ s.length ≤ 1048576
section
variable {J J' : Jm} {w w' : World} {g k : Nat} {s : List UInt8}
theorem Rd.lt (h : Rd J w g s k) : g < w.heap.size := (Array.getElem?_eq_some_iff.1 h.1).1
theorem Rd.mv {S : Nat → Prop} (h : Rd J w g s k) (e : Mv S J w J' w') (hs : ¬ S g) : Rd J' w' g s k :=
  ⟨(e.block g h.lt hs).trans h.1, (e.old g h.lt).trans h.2.1, h.2.2⟩
theorem Rd.ext (h : Rd J w g s k) (e : Ext J w J' w') : Rd J' w' g s k := ⟨(e.below.block g h.lt).trans h.1, (e.old g h.lt).trans h.2.1, h.2.2⟩
theorem Rd.kept {B : Nat} (h : Rd J w g s k) (e : Kept B J w J' w') (hg : g < B) : Rd J' w' g s k := ⟨(e.2 g hg).1.trans h.1, (e.2 g hg).2.trans h.2.1, h.2.2⟩
theorem Rd.drewN (h : Rd J w g s k) (n : Nat) : Rd J (w.drewN n) g s k := h
theorem Rd.c0 (h : Rd J w g s k) : w.cell? ⟨g, 0, none⟩ = some (.string (strB s)) := blk_cell_J h.1 0 rfl
theorem Rd.c1 (h : Rd J w g s k) : w.cell? ⟨g, 1, none⟩ = some (.int .i64 (k : Int)) := blk_cell_J h.1 1 rfl
theorem Rd.c2 (h : Rd J w g s k) : w.cell? ⟨g, 2, none⟩ = some (.int .i64 (ln s k : Int)) := blk_cell_J h.1 2 rfl
theorem Rd.c3 (h : Rd J w g s k) : w.cell? ⟨g, 3, none⟩ = some (.int .i64 (cl s k : Int)) := blk_cell_J h.1 3 rfl
theorem Rd.f1 (h : Rd J w g s k) : w.frozen? ⟨g, 1, none⟩ = false := frozen_of_row w g 1 _ _ h.1
theorem Rd.f2 (h : Rd J w g s k) : w.frozen? ⟨g, 2, none⟩ = false := frozen_of_row w g 2 _ _ h.1
theorem Rd.f3 (h : Rd J w g s k) : w.frozen? ⟨g, 3, none⟩ = false := frozen_of_row w g 3 _ _ h.1
end
theorem below_drewN (w : World) (n : Nat) : Below w.heap.size w (w.drewN n) := ⟨rfl, rfl, rfl, Nat.le_refl _, fun _ _ => rfl⟩
theorem pk_of (l : List UInt8) : pk l = match l with | [] => (0, 0) | c :: r => if Lib.hasPrefix (c :: r) [92, 10] = true then (32, 2) else (c, 1) := by
  match l with
  | [] => rfl
  | [c] => simp [pk, Lib.hasPrefix]
  | c :: d :: r =>
    unfold pk
    by_cases h : c = 92 ∧ d = 10
    · obtain ⟨rfl, rfl⟩ := h; simp [Lib.hasPrefix]
    · simp only [if_neg h]
      rw [if_neg]
      intro e; apply h
      simp [Lib.hasPrefix] at e
      exact ⟨e.1.symm, e.2.symm⟩
set_option maxRecDepth 100000 in
set_option maxHeartbeats 4000000 in
theorem peek_calls {J : Jm} {w : World} {g : Nat} {s : List UInt8} {k : Nat} (hc : Rd J w g s k) :
    Calls Try.prog 44 #[.pointer (some ⟨g, 0, none⟩)] w fun e w' => e = .returned (.tuple #[.int .u8 (pk (s.drop k)).1.toNat, .int .i64 (pk (s.drop k)).2]) ∧ ∃ n, w' = w.drewN n := by
  have h0 := hc.c0
  have h1 := hc.c1
  have hk := hc.2.2.1
  have hm := hc.2.2.2
  have HS := strB_size s
  go_enter Try.func44, Try.ntmps44
  by_cases he : k = s.length
  · have HP : Hid (pk (s.drop k) = (0, 0)) := by rw [Hid, List.drop_of_length_le (by omega)]; rfl
    go_wp2_with fail
    go_quiet (fail)
    go_wp2_with fail
    go_ret2
    rw [HP.out]
    exact ⟨rfl, nq, rfl⟩
  · obtain ⟨x, hx⟩ : ∃ x, s[k]? = some x := ⟨_, List.getElem?_eq_getElem (by omega)⟩
    have hx' := strB_at hx
    have hd : s.drop k = x :: s.drop (k + 1) := by rw [List.drop_eq_getElem_cons (by omega)]; congr 1; exact (List.getElem?_eq_some_iff.1 hx).2
    have i0 : (0 : Int) ≤ (k : Int) := by omega
    have i1 : (k : Int) < s.length := by omega
    have i2 : (k : Int) ≤ s.length := by omega
    have he' : ¬ (k : Int) = s.length := by omega
    have HX := strB_from s hk
    have HP := Lib.hid (pk_of (s.drop k))
    rw [hd] at HP
    cases hb : Lib.hasPrefix (x :: s.drop (k + 1)) [92, 10] with
    | true =>
      have HQ : Hid (pk (s.drop k) = (32, 2)) := by rw [Hid, hd, HP.out]; simp [hb]
      have hcall := fun (w : World) n => hasPrefix_calls (strB (s.drop k)) ⟨#[92, 10]⟩ (w.drewN n)
      simp only [strB_data, hd] at hcall
      go_wp2_with fail
      go_quiet (fail)
      have HN1 : Hid (∃ n, w.drewN nq = w.drewN n) := ⟨nq, rfl⟩
      have HC1 := Lib.hid (hc.drewN nq)
      have h0 := HC1.out.c0
      have h1 := HC1.out.c1
      generalize w.drewN nq = w1 at *
      clear nq
      go_wp2_with fail
      rw [hd] at HX
      go_quiet ((go_at_call 52; exact Calls.quiet_of_same (hcall _ _)))
      have HN2 : Hid (∃ n, w1.drewN nq = w.drewN n) := by { obtain ⟨m, e⟩ := HN1.out; exact ⟨m + nq, by rw [e, World.drewN_drewN]⟩ }
      have HC1 := Lib.hid (HC1.out.drewN nq)
      simp only [hb]
      go_wp2_with fail
      go_ret2
      rw [HQ.out]
      exact ⟨rfl, HN2.out⟩
    | false =>
      have HQ : Hid (pk (s.drop k) = (x, 1)) := by rw [Hid, hd, HP.out]; simp [hb]
      have hcall := fun (w : World) n => hasPrefix_calls (strB (s.drop k)) ⟨#[92, 10]⟩ (w.drewN n)
      simp only [strB_data, hd] at hcall
      go_wp2_with fail
      go_quiet (fail)
      have HN1 : Hid (∃ n, w.drewN nq = w.drewN n) := ⟨nq, rfl⟩
      have HC1 := Lib.hid (hc.drewN nq)
      have h0 := HC1.out.c0
      have h1 := HC1.out.c1
      generalize w.drewN nq = w1 at *
      clear nq
      go_wp2_with fail
      rw [hd] at HX
      go_quiet ((go_at_call 52; exact Calls.quiet_of_same (hcall _ _)))
      have HN2 : Hid (∃ n, w1.drewN nq = w.drewN n) := by { obtain ⟨m, e⟩ := HN1.out; exact ⟨m + nq, by rw [e, World.drewN_drewN]⟩ }
      have HC1 := Lib.hid (HC1.out.drewN nq)
      simp only [hb]
      have h0 := HC1.out.c0
      have h1 := HC1.out.c1
      clear HC1
      generalize w1.drewN nq = w2 at *
      clear nq hcall
      go_wp2_with fail
      go_quiet (fail)
      go_wp2_with fail
      go_ret2
      rw [HQ.out]
      exact ⟨rfl, by obtain ⟨m, e⟩ := HN2.out; exact ⟨m + nq, by rw [e, World.drewN_drewN]⟩⟩
/-- the reader's block, its numbers apart -/
def Rb (w : World) (g : Nat) (s : List UInt8) (k l c : Int) : Prop :=
  w.heap[g]? = some (.cells [.string (strB s), .int .i64 k, .int .i64 l, .int .i64 c].toArray 54 (0, 0))
section
variable {w : World} {g : Nat} {s : List UInt8} {k l c : Int}
theorem Rb.c0 (h : Rb w g s k l c) : w.cell? ⟨g, 0, none⟩ = some (.string (strB s)) := blk_cell_J h 0 rfl
theorem Rb.c1 (h : Rb w g s k l c) : w.cell? ⟨g, 1, none⟩ = some (.int .i64 k) := blk_cell_J h 1 rfl
theorem Rb.c2 (h : Rb w g s k l c) : w.cell? ⟨g, 2, none⟩ = some (.int .i64 l) := blk_cell_J h 2 rfl
theorem Rb.c3 (h : Rb w g s k l c) : w.cell? ⟨g, 3, none⟩ = some (.int .i64 c) := blk_cell_J h 3 rfl
theorem Rb.f (h : Rb w g s k l c) (i : Nat) : w.frozen? ⟨g, i, none⟩ = false := frozen_of_row w g i _ _ h
theorem Rb.set1 (h : Rb w g s k l c) (x : Int) : Rb (w.setCell ⟨g, 1, none⟩ (.int .i64 x)) g s x l c := blk_set_J h 1 _
theorem Rb.set2 (h : Rb w g s k l c) (x : Int) : Rb (w.setCell ⟨g, 2, none⟩ (.int .i64 x)) g s k x c := blk_set_J h 2 _
theorem Rb.set3 (h : Rb w g s k l c) (x : Int) : Rb (w.setCell ⟨g, 3, none⟩ (.int .i64 x)) g s k l x := blk_set_J h 3 _
end
set_option maxRecDepth 100000 in
set_option maxHeartbeats 4000000 in
theorem next_calls {J : Jm} {w : World} (hI : Inv J w) {g : Nat} {s : List UInt8} {k : Nat} (hc : Rd J w g s k) :
    Calls Try.prog 45 #[.pointer (some ⟨g, 0, none⟩)] w fun e w' => e = .returned (.tuple #[]) ∧ Mv (· = g) J w J w' ∧ Rd J w' g s (k + (pk (s.drop k)).2) := by
  go_enter Try.func45, Try.ntmps45
  have hk := hc.2.2.1
  have hm := hc.2.2.2
  have HS := strB_size s
  have hll := ln_le s k hk
  by_cases he : k = s.length
  · have hpk : pk (s.drop k) = (0, 0) := by rw [List.drop_of_length_le (by omega)]; rfl
    have hw : IntKind.i64.wrap (cl s k : Int) = (cl s k : Int) := by rw [IntKind.wrap_i64]; omega
    have hw1 : IntKind.i64.wrap (k : Int) = (k : Int) := by rw [IntKind.wrap_i64]; omega
    clear he
    go_wp2_with (go_at_call 44; go_must (refine (peek_calls hc).mono ?_; rw [hpk]; rintro e w1 ⟨rfl, m, hw⟩; have HM := Lib.hid ((Mv.refl (· = g) hI).drewN m); have HC := Lib.hid (hc.drewN m); rw [← hw] at HM HC; have h3 := HC.out.c3; have f3 := HC.out.f3; clear hw))
    have HB : Hid (Rb (w1.setCell ⟨g, 3, none⟩ (.int .i64 (cl s k:Int))) g s k (ln s k) (cl s k:Int)) := Rb.set3 HC.out.1 _
    have HM := Lib.hid (HM.out.setCell (p := ⟨g, 3, none⟩) (fun _ => rfl) HC.out.2.1 (.int .i64 (cl s k:Int)))
    have h0 := HB.out.c0
    have h1 := HB.out.c1
    clear h3 f3
    generalize w1.setCell ⟨g, 3, none⟩ (.int .i64 (cl s k:Int)) = w2 at *
    go_quiet (fail)
    have HB := Lib.hid (show Rb (w2.drewN nq) g s k (ln s k) (cl s k:Int) from HB.out)
    have HM := Lib.hid (HM.out.drewN nq)
    have h1 := HB.out.c1
    have h2 := HB.out.c2
    have h3 := HB.out.c3
    have f1 := HB.out.f 1
    have f2 := HB.out.f 2
    have f3 := HB.out.f 3
    generalize w2.drewN nq = w3 at *
    go_wp2_with fail
    go_end0
    rw [hpk]
    exact ⟨rfl, HM.out.setCell (p := ⟨g, 1, none⟩) (fun _ => rfl) HC.out.2.1 _, HB.out.set1 _, HC.out.2.1, hk, hm⟩
  · have hp := pk_pos (l := s.drop k) (by intro e; have := congrArg List.length e; simp at this; omega)
    have hlc := lc_next (s := s) (k := k) (by omega)
    rw [List.length_drop] at hp
    cases hpk : pk (s.drop k) with
    | mk c n =>
      rw [hpk] at hp hlc
      dsimp only at hp hlc
      obtain ⟨x, hx⟩ : ∃ x, s[k + n - 1]? = some x := ⟨_, List.getElem?_eq_getElem (by omega)⟩
      rw [hx] at hlc
      have hw : IntKind.i64.wrap ((cl s k : Int) + n) = (cl s k : Int) + n := by rw [IntKind.wrap_i64]; omega
      have hw1 : IntKind.i64.wrap ((k : Int) + n) = (k : Int) + n := by rw [IntKind.wrap_i64]; omega
      have hw2 : IntKind.i64.wrap ((k : Int) + n - 1) = (k : Int) + n - 1 := by rw [IntKind.wrap_i64]; omega
      have i0 : (0 : Int) ≤ (k : Int) + n - 1 := by omega
      have i1 : (k : Int) + n - 1 < s.length := by omega
      have i2 : 0 < n := by omega
      have i3 : (1 : Int) ≤ (k : Int) + n := by omega
      have i4 : (k : Int) + n ≤ s.length := by omega
      have hx' := strB_at hx
      by_cases h10 : x = 10
      · subst h10
        rw [if_pos rfl] at hlc
        go_wp2_with (go_at_call 44; go_must (refine (peek_calls hc).mono ?_; rw [hpk]; rintro e w1 ⟨rfl, m, hw⟩; have HM := Lib.hid ((Mv.refl (· = g) hI).drewN m); have HC := Lib.hid (hc.drewN m); rw [← hw] at HM HC; have h3 := HC.out.c3; have f3 := HC.out.f3; clear hw))
        have HB : Hid (Rb (w1.setCell ⟨g, 3, none⟩ (.int .i64 ((cl s k:Int)+n))) g s k (ln s k) ((cl s k:Int)+n)) := Rb.set3 HC.out.1 _
        have HM := Lib.hid (HM.out.setCell (p := ⟨g, 3, none⟩) (fun _ => rfl) HC.out.2.1 (.int .i64 ((cl s k:Int)+n)))
        have h0 := HB.out.c0
        have h1 := HB.out.c1
        clear h3 f3
        generalize w1.setCell ⟨g, 3, none⟩ (.int .i64 ((cl s k:Int)+n)) = w2 at *
        go_quiet (fail)
        have HB := Lib.hid (show Rb (w2.drewN nq) g s k (ln s k) ((cl s k:Int)+n) from HB.out)
        have HM := Lib.hid (HM.out.drewN nq)
        have h1 := HB.out.c1
        have h2 := HB.out.c2
        have h3 := HB.out.c3
        have f1 := HB.out.f 1
        have f2 := HB.out.f 2
        have f3 := HB.out.f 3
        generalize w2.drewN nq = w3 at *
        have hw3 : IntKind.i64.wrap ((ln s k : Int) + 1) = (ln s k : Int) + 1 := by rw [IntKind.wrap_i64]; omega
        have e1 : ln s (k + n) = ln s k + 1 := congrArg Prod.fst hlc
        have e2 : cl s (k + n) = 0 := congrArg Prod.snd hlc
        go_wp2_with fail
        go_end0
        refine ⟨rfl, ((HM.out.setCell (p := ⟨g, 2, none⟩) (fun _ => rfl) HC.out.2.1 _).setCell (p := ⟨g, 3, none⟩) (fun _ => rfl) HC.out.2.1 _).setCell (p := ⟨g, 1, none⟩) (fun _ => rfl) HC.out.2.1 _, ?_, HC.out.2.1, by omega, hm⟩
        rw [e1, e2]
        push_cast
        exact ((HB.out.set2 _).set3 _).set1 _
      · have hxn : ¬ x.toNat = 10 := fun e => h10 (by rw [← UInt8.toNat_inj]; exact e)
        have hxn' : ¬ (x.toNat : Int) = 10 := by omega
        rw [if_neg (by simpa using h10)] at hlc
        go_wp2_with (go_at_call 44; go_must (refine (peek_calls hc).mono ?_; rw [hpk]; rintro e w1 ⟨rfl, m, hw⟩; have HM := Lib.hid ((Mv.refl (· = g) hI).drewN m); have HC := Lib.hid (hc.drewN m); rw [← hw] at HM HC; have h3 := HC.out.c3; have f3 := HC.out.f3; clear hw))
        have HB : Hid (Rb (w1.setCell ⟨g, 3, none⟩ (.int .i64 ((cl s k:Int)+n))) g s k (ln s k) ((cl s k:Int)+n)) := Rb.set3 HC.out.1 _
        have HM := Lib.hid (HM.out.setCell (p := ⟨g, 3, none⟩) (fun _ => rfl) HC.out.2.1 (.int .i64 ((cl s k:Int)+n)))
        have h0 := HB.out.c0
        have h1 := HB.out.c1
        clear h3 f3
        generalize w1.setCell ⟨g, 3, none⟩ (.int .i64 ((cl s k:Int)+n)) = w2 at *
        go_quiet (fail)
        have HB := Lib.hid (show Rb (w2.drewN nq) g s k (ln s k) ((cl s k:Int)+n) from HB.out)
        have HM := Lib.hid (HM.out.drewN nq)
        have h1 := HB.out.c1
        have h2 := HB.out.c2
        have h3 := HB.out.c3
        have f1 := HB.out.f 1
        have f2 := HB.out.f 2
        have f3 := HB.out.f 3
        generalize w2.drewN nq = w3 at *
        have e1 : ln s (k + n) = ln s k := by show (lc (s.take (k + n))).1 = _; rw [hlc]
        have e2 : cl s (k + n) = cl s k + n := congrArg Prod.snd hlc
        go_wp2_with fail
        go_end0
        refine ⟨rfl, HM.out.setCell (p := ⟨g, 1, none⟩) (fun _ => rfl) HC.out.2.1 _, ?_, HC.out.2.1, by omega, hm⟩
        rw [e1, e2]
        push_cast
        exact HB.out.set1 _
end Go.Proofs.Ythfjeijhnikabaa
