/- The statement LexQuotes. -/
import Derived.Test.YthfjeijhnikabaaLexWorks
import Derived.Test.YthfjeijhnikabaaLexQur
namespace Go.Proofs.Ythfjeijhnikabaa
open Go.RowKit

theorem strB_ne {a b : List UInt8} (h : a ≠ b) : ¬ strB a = strB b := fun e => h (by have := congrArg (fun z => z.data.toList) e; simpa using this)
theorem plain_ne {s : List UInt8} (h : plainB s = true) : s ≠ quoteL s := by
  intro e
  simp only [plainB, Bool.and_eq_true] at h
  have h34 : (34 : UInt8) ∈ s := by rw [e]; simp [quoteL]
  have := List.all_eq_true.1 h.1 34 h34
  revert this; decide
theorem long_calls (n : Int) (w : World) : Calls Try.prog 13 #[.int .i64 n] w fun e w' => e = .returned (.bool (decide (262144 < n))) ∧ w' = w := by
  go_enter Try.func13, Try.ntmps13
  go_wp2
  go_ret
  exact ⟨rfl, rfl⟩
theorem quoteLlen (s : List UInt8) : (quoteL s).length ≤ 2 * s.length + 2 := quoteL_len s
theorem lexLquote (s : List UInt8) : lexL (quoteL s) = .ok [⟨1, false, [⟨s, 1, 0, true, false⟩]⟩] := lexL_quote s
theorem lexLplain {s : List UInt8} (h : plainB s = true) : lexL s = .ok [⟨1, false, [⟨s, 1, 0, false, false⟩]⟩] := lexL_plain h
theorem index0 (a b : ByteArray) (w : World) : (Instr.index 40 (.agg #[.string a, .string b]) (.int .i64 0)).run Try.prog w = .ok (.string a) w := by kernel_rfl
theorem index1 (a b : ByteArray) (w : World) : (Instr.index 40 (.agg #[.string a, .string b]) (.int .i64 1)).run Try.prog w = .ok (.string b) w := by kernel_rfl
theorem showC (s : List UInt8) (w : World) (hs : s.length ≤ 1048576) : Calls Try.prog 19 #[.string (strB s)] w fun e w' => e = .returned (.string (strB (showL s))) ∧ Below w.heap.size w w' := show_calls s w hs
set_option maxHeartbeats 8000000 in
set_option maxRecDepth 100000 in
theorem lexQuotes_walk {J : Jm} {w : World} (hI : Inv J w) (b : ByteArray) (_hs : b.size ≤ 140737488351232) :
    Calls Try.prog 6 #[.string b] w fun e w' => e = .returned (.bool true) ∧ Below w.heap.size w w' := by
  obtain ⟨s, rfl⟩ : ∃ s, b = strB s := ⟨b.data.toList, (strB_of b).symm⟩
  have HSZ := strB_size s
  have hix := index1
  have hix0 := index0
  go_enter Try.func6, Try.ntmps6
  go_wp2_with fail
  refine (works_calls hI).mono ?_
  rintro e w1 ⟨J1, rfl, hE⟩
  have HE := Lib.hid hE
  clear hE
  by_cases hl : 262144 < s.length
  · have hl' : (262144 : Int) < s.length := by omega
    go_wp2_with go_in
    go_ret
    exact ⟨rfl, HE.out.below⟩
  · have hl' : ¬ (262144 : Int) < s.length := by omega
    have hs : s.length ≤ 262144 := by omega
    clear hl
    go_wp2_with fail
    refine (long_calls s.length _).mono ?_
    rw [show decide ((262144 : Int) < s.length) = false from decide_eq_false (by omega)]
    rintro e w2 ⟨rfl, hw⟩
    subst hw
    go_wp2_with fail
    refine (quoteC s _ (by omega)).mono ?_
    rintro e w2 ⟨rfl, hB⟩
    have HE := Lib.hid (HE.out.step hB)
    clear hB
    go_wp2_with fail
    refine (showC s _ (by omega)).mono ?_
    rintro e w2 ⟨rfl, hB⟩
    have HE := Lib.hid (HE.out.step hB)
    clear hB
    go_wp2_with fail
    refine (plainC s _ (by omega)).mono ?_
    rintro e w2' ⟨rfl, hw⟩
    subst hw
    go_wp2_with fail
    refine (refPlainC s _ (by omega)).mono ?_
    rintro e w2' ⟨rfl, hw⟩
    subst hw
    go_wp2_with fail
    refine (refQuoteC HE.out.inv s (by omega)).mono ?_
    rintro e w2 ⟨rfl, hB⟩
    have HE := Lib.hid (HE.out.step hB)
    clear hB
    go_wp2_with fail
    refine (refShowC HE.out.inv s (by omega)).mono ?_
    rintro e w2 ⟨rfl, hB⟩
    have HE := Lib.hid (HE.out.step hB)
    clear hB
    go_wp2_with fail
    cases hp : plainB s with
    | true =>
      have hsh : showL s = s := by rw [showL, hp]; rfl
      rw [hsh]
      have hne := strB_ne (plain_ne hp)
      have hne2 : ((strB s).toList == (strB (quoteL s)).toList) = false := by rw [strB_toList, strB_toList]; simpa using plain_ne hp
      have HP := Lib.hid hp
      clear hp hsh
      have HQL := Lib.hid (quoteL_len s)
      have HQR := Lib.hid (lexL_quote s)
      generalize quoteL s = Q at *
      go_loopw [39] (fun i wr => ∃ (j : Nat) (J' : Jm), j ≤ 2 ∧ i = .int .i64 j ∧ Hid (Ext J w J' wr)) (fun i _ => 2 - (intOf i).toNat)
      case atStart => exact ⟨0, J1, by omega, rfl, HE⟩
      case round =>
        obtain ⟨j, J', hj, rfl, HE⟩ := hrel
        obtain rfl | rfl | rfl : j = 0 ∨ j = 1 ∨ j = 2 := by omega
        ·
          have HSX := strB_size Q
          go_wp2_with fail
          refine (Lines_calls HE.out.inv Q (by have := HQL.out; omega)).mono ?_
          intro e w2 h
          unfold LinesP at h
          by_cases hl : 32768 < (Q).length
          · rw [if_pos hl] at h
            obtain ⟨rfl, hE⟩ := h
            have HE := Lib.hid ((HE.out.trans hE).alloc (.cells #[.int .i64 3, .int .i64 32768] 27))
            clear hE
            unfold spot
            go_wp2_with fail
            go_roundw
            case rel => exact ⟨1, _, by omega, by go_num, HE⟩
            case measure => simp [intOf] <;> omega
          · rw [if_neg hl, HQR.out] at h
            obtain ⟨J2, v2, c2, M2, B2, rfl, hE, hB, hO, hL⟩ := h
            obtain ⟨A2, cp2, rfl, -, -⟩ := hO.sl.form
            obtain ⟨wv, e0, e1, e2, hW, -⟩ := hL.at (i := 0) Nat.zero_lt_one
            obtain ⟨WA, wc, rfl, -, -⟩ := hW.sl.form
            obtain ⟨b, o, rfl, g2⟩ := Sl.cell hO.sl hE.inv e2
            obtain ⟨b', o', hb', g1⟩ := Sl.cell hO.sl hE.inv e1
            cases hb'
            obtain ⟨b', o', hb', g0⟩ := Sl.cell hO.sl hE.inv e0
            cases hb'
            obtain ⟨q0, q1, q2, q3, q4⟩ := wsC_at [(⟨s, 1, 0, true, false⟩ : Wd)] 0 Nat.zero_lt_one
            obtain ⟨b1, o1, rfl, d0⟩ := Sl.cell hW.sl hE.inv q0
            obtain ⟨b', o', hb', d1⟩ := Sl.cell hW.sl hE.inv q1
            cases hb'
            obtain ⟨b', o', hb', d2⟩ := Sl.cell hW.sl hE.inv q2
            cases hb'
            obtain ⟨b', o', hb', d3⟩ := Sl.cell hW.sl hE.inv q3
            cases hb'
            obtain ⟨b', o', hb', d4⟩ := Sl.cell hW.sl hE.inv q4
            cases hb'
            have hBel : Below w2.heap.size w2 ((w2.alloc (.cells #[.int .i64 0, .int .i64 0] 27)).alloc (.cells #[.string (strB s), .int .i64 1, .int .i64 0, .bool true, .bool false] 35)) :=
              ((Below.refl _ _).alloc (Nat.le_refl _) _).alloc (by simp) _
            have k0 := (hBel.cell (p := ⟨b, o, none⟩) (lt_of_cell g0)).trans (by simpa using g0)
            have k1 := (hBel.cell (p := ⟨b, o + 1, none⟩) (lt_of_cell g1)).trans (by simpa using g1)
            have k2 := (hBel.cell (p := ⟨b, o + 2, none⟩) (lt_of_cell g2)).trans (by simpa using g2)
            have m0 := (hBel.cell (p := ⟨b1, o1, none⟩) (lt_of_cell d0)).trans (by simpa using d0)
            have m1 := (hBel.cell (p := ⟨b1, o1 + 1, none⟩) (lt_of_cell d1)).trans (by simpa using d1)
            have m2 := (hBel.cell (p := ⟨b1, o1 + 2, none⟩) (lt_of_cell d2)).trans (by simpa using d2)
            have m3 := (hBel.cell (p := ⟨b1, o1 + 3, none⟩) (lt_of_cell d3)).trans (by simpa using d3)
            have m4 := (hBel.cell (p := ⟨b1, o1 + 4, none⟩) (lt_of_cell d4)).trans (by simpa using d4)
            have hz1 : (w2.alloc (.cells #[.int .i64 0, .int .i64 0] 27)).heap.size = w2.heap.size + 1 := by simp
            have bw := heap_new_at (o := .cells #[.string (strB s), .int .i64 1, .int .i64 0, .bool true, .bool false] 35) hz1
            have bs := (Below.heap_alloc (w2.alloc (.cells #[.int .i64 0, .int .i64 0] 27)) (.cells #[.string (strB s), .int .i64 1, .int .i64 0, .bool true, .bool false] 35) w2.heap.size (by omega)).trans (heap_alloc_new w2 _)
            have HE := Lib.hid (((HE.out.trans hE).alloc (.cells #[.int .i64 0, .int .i64 0] 27)).alloc (.cells #[.string (strB s), .int .i64 1, .int .i64 0, .bool true, .bool false] 35))
            have r0 := blk_cell_J bs 0 rfl
            have r1 := blk_cell_J bs 1 rfl
            have t0 := blk_cell_J bw 0 rfl
            have t1 := blk_cell_J bw 1 rfl
            have t2 := blk_cell_J bw 2 rfl
            have t3 := blk_cell_J bw 3 rfl
            have t4 := blk_cell_J bw 4 rfl
            clear hE hB hO hL hW e0 e1 e2 g0 g1 g2 d0 d1 d2 d3 d4 q0 q1 q2 q3 q4 hBel bw bs hz1
            unfold spot
            go_wp2_with fail
            generalize (w2.alloc (.cells #[.int .i64 0, .int .i64 0] 27)).alloc (.cells #[.string (strB s), .int .i64 1, .int .i64 0, .bool true, .bool false] 35) = w8 at *

            go_quiet (fail)
            have HE := Lib.hid (HE.out.step (below_drewN w8 nq))
            go_wp2_with fail
            go_roundw
            case rel => exact ⟨1, _, by omega, by go_num, HE⟩
            case measure => simp [intOf] <;> omega
        ·
          have HSX := strB_size s
          go_wp2_with fail
          refine (Lines_calls HE.out.inv s (by have := hs; omega)).mono ?_
          intro e w2 h
          unfold LinesP at h
          by_cases hl : 32768 < (s).length
          · rw [if_pos hl] at h
            obtain ⟨rfl, hE⟩ := h
            have HE := Lib.hid ((HE.out.trans hE).alloc (.cells #[.int .i64 3, .int .i64 32768] 27))
            clear hE
            unfold spot
            go_wp2_with fail
            go_roundw
            case rel => exact ⟨2, _, by omega, by go_num, HE⟩
            case measure => simp [intOf] <;> omega
          · rw [if_neg hl, (lexLplain HP.out)] at h
            obtain ⟨J2, v2, c2, M2, B2, rfl, hE, hB, hO, hL⟩ := h
            obtain ⟨A2, cp2, rfl, -, -⟩ := hO.sl.form
            obtain ⟨wv, e0, e1, e2, hW, -⟩ := hL.at (i := 0) Nat.zero_lt_one
            obtain ⟨WA, wc, rfl, -, -⟩ := hW.sl.form
            obtain ⟨b, o, rfl, g2⟩ := Sl.cell hO.sl hE.inv e2
            obtain ⟨b', o', hb', g1⟩ := Sl.cell hO.sl hE.inv e1
            cases hb'
            obtain ⟨b', o', hb', g0⟩ := Sl.cell hO.sl hE.inv e0
            cases hb'
            obtain ⟨q0, q1, q2, q3, q4⟩ := wsC_at [(⟨s, 1, 0, false, false⟩ : Wd)] 0 Nat.zero_lt_one
            obtain ⟨b1, o1, rfl, d0⟩ := Sl.cell hW.sl hE.inv q0
            obtain ⟨b', o', hb', d1⟩ := Sl.cell hW.sl hE.inv q1
            cases hb'
            obtain ⟨b', o', hb', d2⟩ := Sl.cell hW.sl hE.inv q2
            cases hb'
            obtain ⟨b', o', hb', d3⟩ := Sl.cell hW.sl hE.inv q3
            cases hb'
            obtain ⟨b', o', hb', d4⟩ := Sl.cell hW.sl hE.inv q4
            cases hb'
            have hBel : Below w2.heap.size w2 ((w2.alloc (.cells #[.int .i64 0, .int .i64 0] 27)).alloc (.cells #[.string (strB s), .int .i64 1, .int .i64 0, .bool false, .bool false] 35)) :=
              ((Below.refl _ _).alloc (Nat.le_refl _) _).alloc (by simp) _
            have k0 := (hBel.cell (p := ⟨b, o, none⟩) (lt_of_cell g0)).trans (by simpa using g0)
            have k1 := (hBel.cell (p := ⟨b, o + 1, none⟩) (lt_of_cell g1)).trans (by simpa using g1)
            have k2 := (hBel.cell (p := ⟨b, o + 2, none⟩) (lt_of_cell g2)).trans (by simpa using g2)
            have m0 := (hBel.cell (p := ⟨b1, o1, none⟩) (lt_of_cell d0)).trans (by simpa using d0)
            have m1 := (hBel.cell (p := ⟨b1, o1 + 1, none⟩) (lt_of_cell d1)).trans (by simpa using d1)
            have m2 := (hBel.cell (p := ⟨b1, o1 + 2, none⟩) (lt_of_cell d2)).trans (by simpa using d2)
            have m3 := (hBel.cell (p := ⟨b1, o1 + 3, none⟩) (lt_of_cell d3)).trans (by simpa using d3)
            have m4 := (hBel.cell (p := ⟨b1, o1 + 4, none⟩) (lt_of_cell d4)).trans (by simpa using d4)
            have hz1 : (w2.alloc (.cells #[.int .i64 0, .int .i64 0] 27)).heap.size = w2.heap.size + 1 := by simp
            have bw := heap_new_at (o := .cells #[.string (strB s), .int .i64 1, .int .i64 0, .bool false, .bool false] 35) hz1
            have bs := (Below.heap_alloc (w2.alloc (.cells #[.int .i64 0, .int .i64 0] 27)) (.cells #[.string (strB s), .int .i64 1, .int .i64 0, .bool false, .bool false] 35) w2.heap.size (by omega)).trans (heap_alloc_new w2 _)
            have HE := Lib.hid (((HE.out.trans hE).alloc (.cells #[.int .i64 0, .int .i64 0] 27)).alloc (.cells #[.string (strB s), .int .i64 1, .int .i64 0, .bool false, .bool false] 35))
            have r0 := blk_cell_J bs 0 rfl
            have r1 := blk_cell_J bs 1 rfl
            have t0 := blk_cell_J bw 0 rfl
            have t1 := blk_cell_J bw 1 rfl
            have t2 := blk_cell_J bw 2 rfl
            have t3 := blk_cell_J bw 3 rfl
            have t4 := blk_cell_J bw 4 rfl
            clear hE hB hO hL hW e0 e1 e2 g0 g1 g2 d0 d1 d2 d3 d4 q0 q1 q2 q3 q4 hBel bw bs hz1
            unfold spot
            go_wp2_with fail
            generalize (w2.alloc (.cells #[.int .i64 0, .int .i64 0] 27)).alloc (.cells #[.string (strB s), .int .i64 1, .int .i64 0, .bool false, .bool false] 35) = w8 at *

            go_quiet (fail)
            have HE := Lib.hid (HE.out.step (below_drewN w8 nq))
            go_wp2_with fail
            go_roundw
            case rel => exact ⟨2, _, by omega, by go_num, HE⟩
            case measure => simp [intOf] <;> omega
        ·
          go_wp2
          go_ret
          exact ⟨rfl, HE.out.below⟩
    | false =>
      have hsh : showL s = quoteL s := by rw [showL, hp]; rfl
      rw [hsh]
      clear hp hsh
      have HQL := Lib.hid (quoteL_len s)
      have HQR := Lib.hid (lexL_quote s)
      generalize quoteL s = Q at *
      go_loopw [39] (fun i wr => ∃ (j : Nat) (J' : Jm), j ≤ 2 ∧ i = .int .i64 j ∧ Hid (Ext J w J' wr)) (fun i _ => 2 - (intOf i).toNat)
      case atStart => exact ⟨0, J1, by omega, rfl, HE⟩
      case round =>
        obtain ⟨j, J', hj, rfl, HE⟩ := hrel
        obtain rfl | rfl | rfl : j = 0 ∨ j = 1 ∨ j = 2 := by omega
        ·
          have HSX := strB_size Q
          go_wp2_with fail
          refine (Lines_calls HE.out.inv Q (by have := HQL.out; omega)).mono ?_
          intro e w2 h
          unfold LinesP at h
          by_cases hl : 32768 < (Q).length
          · rw [if_pos hl] at h
            obtain ⟨rfl, hE⟩ := h
            have HE := Lib.hid ((HE.out.trans hE).alloc (.cells #[.int .i64 3, .int .i64 32768] 27))
            clear hE
            unfold spot
            go_wp2_with fail
            go_roundw
            case rel => exact ⟨1, _, by omega, by go_num, HE⟩
            case measure => simp [intOf] <;> omega
          · rw [if_neg hl, HQR.out] at h
            obtain ⟨J2, v2, c2, M2, B2, rfl, hE, hB, hO, hL⟩ := h
            obtain ⟨A2, cp2, rfl, -, -⟩ := hO.sl.form
            obtain ⟨wv, e0, e1, e2, hW, -⟩ := hL.at (i := 0) Nat.zero_lt_one
            obtain ⟨WA, wc, rfl, -, -⟩ := hW.sl.form
            obtain ⟨b, o, rfl, g2⟩ := Sl.cell hO.sl hE.inv e2
            obtain ⟨b', o', hb', g1⟩ := Sl.cell hO.sl hE.inv e1
            cases hb'
            obtain ⟨b', o', hb', g0⟩ := Sl.cell hO.sl hE.inv e0
            cases hb'
            obtain ⟨q0, q1, q2, q3, q4⟩ := wsC_at [(⟨s, 1, 0, true, false⟩ : Wd)] 0 Nat.zero_lt_one
            obtain ⟨b1, o1, rfl, d0⟩ := Sl.cell hW.sl hE.inv q0
            obtain ⟨b', o', hb', d1⟩ := Sl.cell hW.sl hE.inv q1
            cases hb'
            obtain ⟨b', o', hb', d2⟩ := Sl.cell hW.sl hE.inv q2
            cases hb'
            obtain ⟨b', o', hb', d3⟩ := Sl.cell hW.sl hE.inv q3
            cases hb'
            obtain ⟨b', o', hb', d4⟩ := Sl.cell hW.sl hE.inv q4
            cases hb'
            have hBel : Below w2.heap.size w2 ((w2.alloc (.cells #[.int .i64 0, .int .i64 0] 27)).alloc (.cells #[.string (strB s), .int .i64 1, .int .i64 0, .bool true, .bool false] 35)) :=
              ((Below.refl _ _).alloc (Nat.le_refl _) _).alloc (by simp) _
            have k0 := (hBel.cell (p := ⟨b, o, none⟩) (lt_of_cell g0)).trans (by simpa using g0)
            have k1 := (hBel.cell (p := ⟨b, o + 1, none⟩) (lt_of_cell g1)).trans (by simpa using g1)
            have k2 := (hBel.cell (p := ⟨b, o + 2, none⟩) (lt_of_cell g2)).trans (by simpa using g2)
            have m0 := (hBel.cell (p := ⟨b1, o1, none⟩) (lt_of_cell d0)).trans (by simpa using d0)
            have m1 := (hBel.cell (p := ⟨b1, o1 + 1, none⟩) (lt_of_cell d1)).trans (by simpa using d1)
            have m2 := (hBel.cell (p := ⟨b1, o1 + 2, none⟩) (lt_of_cell d2)).trans (by simpa using d2)
            have m3 := (hBel.cell (p := ⟨b1, o1 + 3, none⟩) (lt_of_cell d3)).trans (by simpa using d3)
            have m4 := (hBel.cell (p := ⟨b1, o1 + 4, none⟩) (lt_of_cell d4)).trans (by simpa using d4)
            have hz1 : (w2.alloc (.cells #[.int .i64 0, .int .i64 0] 27)).heap.size = w2.heap.size + 1 := by simp
            have bw := heap_new_at (o := .cells #[.string (strB s), .int .i64 1, .int .i64 0, .bool true, .bool false] 35) hz1
            have bs := (Below.heap_alloc (w2.alloc (.cells #[.int .i64 0, .int .i64 0] 27)) (.cells #[.string (strB s), .int .i64 1, .int .i64 0, .bool true, .bool false] 35) w2.heap.size (by omega)).trans (heap_alloc_new w2 _)
            have HE := Lib.hid (((HE.out.trans hE).alloc (.cells #[.int .i64 0, .int .i64 0] 27)).alloc (.cells #[.string (strB s), .int .i64 1, .int .i64 0, .bool true, .bool false] 35))
            have r0 := blk_cell_J bs 0 rfl
            have r1 := blk_cell_J bs 1 rfl
            have t0 := blk_cell_J bw 0 rfl
            have t1 := blk_cell_J bw 1 rfl
            have t2 := blk_cell_J bw 2 rfl
            have t3 := blk_cell_J bw 3 rfl
            have t4 := blk_cell_J bw 4 rfl
            clear hE hB hO hL hW e0 e1 e2 g0 g1 g2 d0 d1 d2 d3 d4 q0 q1 q2 q3 q4 hBel bw bs hz1
            unfold spot
            go_wp2_with fail
            generalize (w2.alloc (.cells #[.int .i64 0, .int .i64 0] 27)).alloc (.cells #[.string (strB s), .int .i64 1, .int .i64 0, .bool true, .bool false] 35) = w8 at *

            go_quiet (fail)
            have HE := Lib.hid (HE.out.step (below_drewN w8 nq))
            go_wp2_with fail
            go_roundw
            case rel => exact ⟨1, _, by omega, by go_num, HE⟩
            case measure => simp [intOf] <;> omega
        ·
          have HSX := strB_size Q
          go_wp2_with fail
          refine (Lines_calls HE.out.inv Q (by have := HQL.out; omega)).mono ?_
          intro e w2 h
          unfold LinesP at h
          by_cases hl : 32768 < (Q).length
          · rw [if_pos hl] at h
            obtain ⟨rfl, hE⟩ := h
            have HE := Lib.hid ((HE.out.trans hE).alloc (.cells #[.int .i64 3, .int .i64 32768] 27))
            clear hE
            unfold spot
            go_wp2_with fail
            go_roundw
            case rel => exact ⟨2, _, by omega, by go_num, HE⟩
            case measure => simp [intOf] <;> omega
          · rw [if_neg hl, HQR.out] at h
            obtain ⟨J2, v2, c2, M2, B2, rfl, hE, hB, hO, hL⟩ := h
            obtain ⟨A2, cp2, rfl, -, -⟩ := hO.sl.form
            obtain ⟨wv, e0, e1, e2, hW, -⟩ := hL.at (i := 0) Nat.zero_lt_one
            obtain ⟨WA, wc, rfl, -, -⟩ := hW.sl.form
            obtain ⟨b, o, rfl, g2⟩ := Sl.cell hO.sl hE.inv e2
            obtain ⟨b', o', hb', g1⟩ := Sl.cell hO.sl hE.inv e1
            cases hb'
            obtain ⟨b', o', hb', g0⟩ := Sl.cell hO.sl hE.inv e0
            cases hb'
            obtain ⟨q0, q1, q2, q3, q4⟩ := wsC_at [(⟨s, 1, 0, true, false⟩ : Wd)] 0 Nat.zero_lt_one
            obtain ⟨b1, o1, rfl, d0⟩ := Sl.cell hW.sl hE.inv q0
            obtain ⟨b', o', hb', d1⟩ := Sl.cell hW.sl hE.inv q1
            cases hb'
            obtain ⟨b', o', hb', d2⟩ := Sl.cell hW.sl hE.inv q2
            cases hb'
            obtain ⟨b', o', hb', d3⟩ := Sl.cell hW.sl hE.inv q3
            cases hb'
            obtain ⟨b', o', hb', d4⟩ := Sl.cell hW.sl hE.inv q4
            cases hb'
            have hBel : Below w2.heap.size w2 ((w2.alloc (.cells #[.int .i64 0, .int .i64 0] 27)).alloc (.cells #[.string (strB s), .int .i64 1, .int .i64 0, .bool true, .bool false] 35)) :=
              ((Below.refl _ _).alloc (Nat.le_refl _) _).alloc (by simp) _
            have k0 := (hBel.cell (p := ⟨b, o, none⟩) (lt_of_cell g0)).trans (by simpa using g0)
            have k1 := (hBel.cell (p := ⟨b, o + 1, none⟩) (lt_of_cell g1)).trans (by simpa using g1)
            have k2 := (hBel.cell (p := ⟨b, o + 2, none⟩) (lt_of_cell g2)).trans (by simpa using g2)
            have m0 := (hBel.cell (p := ⟨b1, o1, none⟩) (lt_of_cell d0)).trans (by simpa using d0)
            have m1 := (hBel.cell (p := ⟨b1, o1 + 1, none⟩) (lt_of_cell d1)).trans (by simpa using d1)
            have m2 := (hBel.cell (p := ⟨b1, o1 + 2, none⟩) (lt_of_cell d2)).trans (by simpa using d2)
            have m3 := (hBel.cell (p := ⟨b1, o1 + 3, none⟩) (lt_of_cell d3)).trans (by simpa using d3)
            have m4 := (hBel.cell (p := ⟨b1, o1 + 4, none⟩) (lt_of_cell d4)).trans (by simpa using d4)
            have hz1 : (w2.alloc (.cells #[.int .i64 0, .int .i64 0] 27)).heap.size = w2.heap.size + 1 := by simp
            have bw := heap_new_at (o := .cells #[.string (strB s), .int .i64 1, .int .i64 0, .bool true, .bool false] 35) hz1
            have bs := (Below.heap_alloc (w2.alloc (.cells #[.int .i64 0, .int .i64 0] 27)) (.cells #[.string (strB s), .int .i64 1, .int .i64 0, .bool true, .bool false] 35) w2.heap.size (by omega)).trans (heap_alloc_new w2 _)
            have HE := Lib.hid (((HE.out.trans hE).alloc (.cells #[.int .i64 0, .int .i64 0] 27)).alloc (.cells #[.string (strB s), .int .i64 1, .int .i64 0, .bool true, .bool false] 35))
            have r0 := blk_cell_J bs 0 rfl
            have r1 := blk_cell_J bs 1 rfl
            have t0 := blk_cell_J bw 0 rfl
            have t1 := blk_cell_J bw 1 rfl
            have t2 := blk_cell_J bw 2 rfl
            have t3 := blk_cell_J bw 3 rfl
            have t4 := blk_cell_J bw 4 rfl
            clear hE hB hO hL hW e0 e1 e2 g0 g1 g2 d0 d1 d2 d3 d4 q0 q1 q2 q3 q4 hBel bw bs hz1
            unfold spot
            go_wp2_with fail
            generalize (w2.alloc (.cells #[.int .i64 0, .int .i64 0] 27)).alloc (.cells #[.string (strB s), .int .i64 1, .int .i64 0, .bool true, .bool false] 35) = w8 at *

            go_quiet (fail)
            have HE := Lib.hid (HE.out.step (below_drewN w8 nq))
            go_wp2_with fail
            go_roundw
            case rel => exact ⟨2, _, by omega, by go_num, HE⟩
            case measure => simp [intOf] <;> omega
        ·
          go_wp2
          go_ret
          exact ⟨rfl, HE.out.below⟩
end Go.Proofs.Ythfjeijhnikabaa
