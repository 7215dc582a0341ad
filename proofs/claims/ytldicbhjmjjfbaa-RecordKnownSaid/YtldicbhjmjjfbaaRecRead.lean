/- The walks of record's reader. -/
import Derived.Test.YtldicbhjmjjfbaaRecMem
import Derived.Test.YtldicbhjmjjfbaaWireF
import Derived.Lib.ConvBytes
namespace Go.Proofs.Ytldicbhjmjjfbaa
open Go.RowKit
set_option linter.unusedVariables false

/-- a reader's block, its cursor behind it -/
structure Rdr (J : Jm) (w : World) (rb g : Nat) (s : List UInt8) (r : Rs) : Prop where
  bx : w.heap[rb]? = some (.cells [.pointer (some ⟨g, 0, none⟩), .int .i64 (r.e : Int)].toArray 56 (0, 0))
  jr : J rb = []
  cu : Cur J w g s r.k
  lt : g < rb
abbrev two2 (g rb : Nat) : Nat → Prop := fun b => b = g ∨ b = rb
theorem Rdr.rlt {J : Jm} {w : World} {rb g : Nat} {s : List UInt8} {r : Rs} (h : Rdr J w rb g s r) : rb < w.heap.size := (Array.getElem?_eq_some_iff.1 h.bx).1
theorem Rdr.ext {J J' : Jm} {w w' : World} {rb g : Nat} {s : List UInt8} {r : Rs} (h : Rdr J w rb g s r) (e : Ext J w J' w') : Rdr J' w' rb g s r :=
  ⟨(e.below.block rb h.rlt).trans h.bx, (e.old rb h.rlt).trans h.jr, h.cu.ext e, h.lt⟩
theorem Rdr.at0 {J : Jm} {w : World} {rb g : Nat} {s : List UInt8} {k e k' e' : Nat} (h : Rdr J w rb g s ⟨k, e⟩) (hk : k = k') (he : e = e') : Rdr J w rb g s ⟨k', e'⟩ := by subst hk he; exact h
set_option maxHeartbeats 4000000 in
theorem number_calls {J : Jm} {w : World} (hI : Inv J w) {rb g : Nat} {s : List UInt8} {r : Rs} (hr : Rdr J w rb g s r) (most : Nat) (hm : most ≤ 9223372036854775807) :
    Calls Try.prog 29 #[.pointer (some ⟨rb, 0, none⟩), .int .i64 most] w fun e w' => e = .returned (.int .i64 ((numR s most r).1 : Nat)) ∧ Mv (two2 g rb) J w J w' ∧ Rdr J w' rb g s (numR s most r).2 := by
  obtain ⟨hb, hj, hc, hl⟩ := hr
  obtain ⟨k, e⟩ := r
  simp only at *
  have r0 := blk_cell_J hb 0 rfl
  have r1 := blk_cell_J hb 1 rfl
  go_enter Try.func29, Try.ntmps29
  by_cases he : e = 0
  · subst he
    go_wp2_with fail
    refine (Uint_calls hI hc most (by omega)).mono ?_
    rintro e1 w1 ⟨k', hA, hM, hC⟩
    have hrb := (Array.getElem?_eq_some_iff.1 hb).1
    have hb1 := (hM.block rb hrb (by omega)).trans hb
    have HM2 : Hid (Mv (two2 g rb) J w J w1) := ⟨hM.os, hM.tape, hM.output, hM.size, fun q hq hn => hM.block q hq (fun h => hn (.inl h)), hM.inv, hM.old⟩
    have HC := Lib.hid hC
    have HB := Lib.hid hb1
    clear hM hC hb1 r0 r1 hc
    have r0 := blk_cell_J HB.out 0 rfl
    have r1 := blk_cell_J HB.out 1 rfl
    have f1 := frozen_of_row _ rb 1 _ _ HB.out
    unfold AskP at hA
    cases hq : askU (s.drop k) most with
    | error x =>
      rw [hq] at hA
      obtain ⟨rfl, rfl⟩ := hA
      have HR := Lib.hid (show numR s most ⟨k', 0⟩ = (0, ⟨k', x⟩) by unfold numR; rw [if_neg (fun h => h rfl), hq])
      clear hq
      go_wp2_with fail
      go_ret
      rw [HR.out]
      exact ⟨rfl, HM2.out.setCell (p := ⟨rb, 1, none⟩) (fun _ => .inr rfl) hj _, blk_set_J HB.out 1 _, hj, HC.out.store (p := ⟨rb, 1, none⟩) (by show rb ≠ g; omega) _, hl⟩
    | ok nc =>
      obtain ⟨n, c⟩ := nc
      rw [hq] at hA
      obtain ⟨rfl, rfl⟩ := hA
      have HR := Lib.hid (show numR s most ⟨k, 0⟩ = (n, ⟨k + c, 0⟩) by unfold numR; rw [if_neg (fun h => h rfl), hq])
      have hn := (askU_ok hq).2.2
      clear hq
      go_wp2_with fail
      go_ret
      rw [HR.out]
      exact ⟨rfl, HM2.out.setCell (p := ⟨rb, 1, none⟩) (fun _ => .inr rfl) hj _, blk_set_J HB.out 1 _, hj, HC.out.store (p := ⟨rb, 1, none⟩) (by show rb ≠ g; omega) _, hl⟩
  · have hei : ((e : Int) != 0) = true := by simpa using he
    have hei2 : ¬ (e : Int) = 0 := by omega
    have HR := Lib.hid (numR_err s most (r := ⟨k, e⟩) he)
    clear he
    go_wp2_with fail
    go_ret
    rw [HR.out]
    exact ⟨rfl, Mv.refl _ hI, hb, hj, hc, hl⟩
set_option maxHeartbeats 4000000 in
theorem text_calls {J : Jm} {w : World} (hI : Inv J w) {rb g : Nat} {s : List UInt8} {r : Rs} (hr : Rdr J w rb g s r) (most : Nat) (hm : most ≤ 9223372036854775807) :
    Calls Try.prog 30 #[.pointer (some ⟨rb, 0, none⟩), .int .i64 most] w fun e w' => e = .returned (.string (strB (txtR s most r).1)) ∧ Mv (two2 g rb) J w J w' ∧ Rdr J w' rb g s (txtR s most r).2 := by
  obtain ⟨hb, hj, hc, hl⟩ := hr
  obtain ⟨k, e⟩ := r
  simp only at *
  have r0 := blk_cell_J hb 0 rfl
  have r1 := blk_cell_J hb 1 rfl
  go_enter Try.func30, Try.ntmps30
  by_cases he : e = 0
  · subst he
    go_wp2_with fail
    refine (Text_calls hI hc most (by omega) (by omega)).mono ?_
    rintro e1 w1 ⟨k', hA, hM, hC⟩
    have hrb := (Array.getElem?_eq_some_iff.1 hb).1
    have hb1 := (hM.block rb hrb (by omega)).trans hb
    have HM2 : Hid (Mv (two2 g rb) J w J w1) := ⟨hM.os, hM.tape, hM.output, hM.size, fun q hq hn => hM.block q hq (fun h => hn (.inl h)), hM.inv, hM.old⟩
    have HC := Lib.hid hC
    have HB := Lib.hid hb1
    clear hM hC hb1 r0 r1 hc
    have r0 := blk_cell_J HB.out 0 rfl
    have r1 := blk_cell_J HB.out 1 rfl
    have f1 := frozen_of_row _ rb 1 _ _ HB.out
    unfold AskP at hA
    cases hq : rdT (s.drop k) most with
    | error x =>
      rw [hq] at hA
      obtain ⟨rfl, rfl⟩ := hA
      have HR := Lib.hid (show txtR s most ⟨k', 0⟩ = ([], ⟨k', x⟩) by unfold txtR; rw [if_neg (fun h => h rfl), hq])
      clear hq
      go_wp2_with fail
      go_ret
      rw [HR.out]
      exact ⟨rfl, HM2.out.setCell (p := ⟨rb, 1, none⟩) (fun _ => .inr rfl) hj _, blk_set_J HB.out 1 _, hj, HC.out.store (p := ⟨rb, 1, none⟩) (by show rb ≠ g; omega) _, hl⟩
    | ok nc =>
      obtain ⟨n, c⟩ := nc
      rw [hq] at hA
      obtain ⟨rfl, rfl⟩ := hA
      have HR := Lib.hid (show txtR s most ⟨k, 0⟩ = (n, ⟨k + c, 0⟩) by unfold txtR; rw [if_neg (fun h => h rfl), hq])
      clear hq
      go_wp2_with fail
      go_ret
      rw [HR.out]
      exact ⟨rfl, HM2.out.setCell (p := ⟨rb, 1, none⟩) (fun _ => .inr rfl) hj _, blk_set_J HB.out 1 _, hj, HC.out.store (p := ⟨rb, 1, none⟩) (by show rb ≠ g; omega) _, hl⟩
  · have hei : ((e : Int) != 0) = true := by simpa using he
    have hei2 : ¬ (e : Int) = 0 := by omega
    have HR := Lib.hid (txtR_err s most (r := ⟨k, e⟩) he)
    clear he
    go_wp2_with fail
    go_ret
    rw [HR.out]
    exact ⟨rfl, Mv.refl _ hI, hb, hj, hc, hl⟩
/-- the row that '[]byte(s)' lays down -/
theorem bytes_row {J : Jm} {w : World} (hI : Inv J w) (s : List UInt8) (hs : s.length ≤ 9223372036854775807) :
    Ext J w (J.put w.heap.size (bcs s)) (Lib.bytesWorld w 5 (strB s)) ∧ Bs (J.put w.heap.size (bcs s)) (.slice (some ⟨w.heap.size, 0, none⟩) s.length (grownCap w s.length 0 5)) s := by
  have hnew := Lib.bytesWorld_at_new w 5 (strB s)
  have hcells : bcs s <+: (Lib.bytesCells w 5 (strB s)).toList := by
    unfold Lib.bytesCells
    rw [Array.toList_append, Array.toList_map, strB_data]
    exact List.prefix_append _ _
  have hB : Below w.heap.size w (Lib.bytesWorld w 5 (strB s)) := ⟨rfl, rfl, rfl, by rw [Lib.bytesWorld_size]; omega, fun k hk => Lib.bytesWorld_at_old _ _ _ k hk⟩
  refine ⟨⟨hB, (hI.below hB).put hnew hcells, fun b hb => Jm.put_other _ _ _ (by omega)⟩, ?_⟩
  refine ⟨by simp, _, _, rfl, grownCap_ge w s.length 0 5, grownCap_le_maxLen w s.length 0 5 (by unfold maxLen; omega), (fun e => by cases e), fun a e => ?_⟩
  cases e
  refine .inr ⟨rfl, ?_⟩
  rw [Jm.put_same]; simp [bcs, List.take_of_length_le]
end Go.Proofs.Ytldicbhjmjjfbaa
