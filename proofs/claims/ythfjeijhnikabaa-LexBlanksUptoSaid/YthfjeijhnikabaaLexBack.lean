/- The statement LexBack. -/
import Derived.Test.YthfjeijhnikabaaLexBackP
import Derived.Test.YthfjeijhnikabaaLexWw
import Derived.Test.YthfjeijhnikabaaLexAlike
import Derived.Test.YthfjeijhnikabaaLexLong
namespace Go.Proofs.Ythfjeijhnikabaa
open Go.RowKit
set_option linter.unusedVariables false

theorem lsti (ls : List Ln) : (ls.map Ln.i).map Li.q = ls.map lst := by
  rw [List.map_map]; exact List.map_congr_left fun l _ => Ln.i_q l
set_option maxRecDepth 100000 in
set_option maxHeartbeats 8000000 in
theorem lexBack_walk {J : Jm} {w : World} (hI : Inv J w) (s : ByteArray) (hs : s.size ≤ 140737488351232) :
    Calls Try.prog 8 #[.string s] w fun e w' => e = .returned (.bool true) ∧ Below w.heap.size w w' := by
  go_enter Try.func8, Try.ntmps8
  go_wp2_with fail
  refine (works_calls hI).mono ?_
  rintro e w1 ⟨J1, rfl, hE⟩
  have HE := Lib.hid hE
  clear hE
  by_cases hl : 32768 < s.size
  · have hl2 : (32768 : Int) < s.size := by omega
    have HL := Lib.hid hl
    clear hl
    go_wp2_with fail
    refine (Lines_long HE.out.inv s HL.out hs).mono ?_
    rintro e w3 ⟨rfl, hE3⟩
    have HE := Lib.hid (HE.out.trans hE3)
    clear hE3
    unfold spot
    go_wp2_with fail
    go_ret
    exact ⟨rfl, (HE.out.alloc _).below⟩
  · obtain ⟨s, rfl⟩ : ∃ l, s = strB l := ⟨s.data.toList, (strB_of s).symm⟩
    have HSZ := strB_size s
    rw [HSZ] at hl hs
    have hl2 : ¬ (32768 : Int) < s.length := by omega
    have HL := Lib.hid (show True → s.length ≤ 32768 from fun _ => by omega)
    have hs8 : s.length ≤ 1048576 := by omega
    clear hl hs
    go_wp2_with fail
    refine (Lines_calls HE.out.inv s hs8).mono ?_
    intro e w3 h
    unfold LinesP at h
    rw [if_neg (by have := HL.out trivial; omega)] at h
    cases hx : lexL s with
    | error x =>
      rw [hx] at h
      obtain ⟨rfl, J3, hE3⟩ := h
      have HE := Lib.hid ((HE.out.trans hE3).alloc (.cells #[.int .i64 6, .int .i64 x] 27))
      clear hE3
      unfold spot
      go_wp2_with fail
      go_ret
      exact ⟨by simp; omega, HE.out.below⟩
    | ok ls =>
      rw [hx] at h
      obtain ⟨J3, v, c, M, B, rfl, hE3, hB, hO, hL⟩ := h
      obtain ⟨A3, cp3, rfl, -, -⟩ := hO.sl.form
      have HLN := Lib.hid (LsO.lns hO hL)
      have hrun := (lexL_run hx).le
      have htot := lexL_tot hx
      obtain ⟨R, hR1, hR2⟩ := lexL_back hx
      have hz := HL.out trivial
      have hla : ls.length ≤ 1048576 := by omega
      have HWA := Lib.hid (show ∀ l ∈ ls, l.ws.length ≤ 1048576 from fun l hl => by have := hrun.2 l hl; omega)
      have HT := Lib.hid (show tot (ls.map Ln.i) ≤ 1048576 by omega)
      have hwl := writeL_len (ls.map Ln.i)
      rw [lsti, List.length_map] at hwl
      have HTL := Lib.hid (show (writeL (ls.map lst)).length ≤ 1048576 by omega)
      have hRrun := (lexL_run hR1).le
      have hRtot := lexL_tot hR1
      have HRR := Lib.hid hRrun
      have HRT := Lib.hid hRtot
      have HRQ := Lib.hid hR2
      have HRX := Lib.hid hR1
      have HE := Lib.hid ((HE.out.trans hE3).alloc (.cells #[.int .i64 0, .int .i64 0] 27))
      have HS0 := Lib.hid (heap_alloc_new w3 (.cells #[.int .i64 0, .int .i64 0] 27))
      clear hE3 hB hO hL hrun htot hwl hRrun hRtot hR1 hR2 hz hx
      unfold spot
      go_wp2_with fail
      refine (write_calls HE.out.inv HLN.out.i (by rw [List.length_map]; exact hla) HT.out).mono ?_
      rw [lsti]
      rintro e w4 ⟨rfl, hb4⟩
      obtain ⟨t, ht⟩ : ∃ t, t = writeL (ls.map lst) := ⟨_, rfl⟩
      rw [← ht] at HTL HRR HRT HRX ⊢
      have HTD := Lib.hid ht
      have ht8 := HTL.out
      clear ht
      have HE := Lib.hid (HE.out.step hb4)
      clear hb4
      have htz := strB_size t
      go_wp2_with fail
      refine (Lines_calls HE.out.inv t ht8).mono ?_
      intro e w5 h
      unfold LinesP at h
      by_cases hl5 : 32768 < t.length
      · rw [if_pos hl5] at h
        obtain ⟨rfl, hE5⟩ := h
        have hl6 : (32768 : Int) < t.length := by omega
        have HE := Lib.hid ((HE.out.trans hE5).alloc (.cells #[.int .i64 3, .int .i64 32768] 27))
        clear hE5 hl5
        unfold spot
        go_wp2_with fail
        go_ret
        exact ⟨rfl, HE.out.below⟩
      · rw [if_neg hl5, HRX.out] at h
        obtain ⟨J5, v5, c5, M5, B5, rfl, hE5, hB5, hO5, hL5⟩ := h
        obtain ⟨A5, cp5, rfl, -, -⟩ := hO5.sl.form
        have hl6 : ¬ (32768 : Int) < t.length := by omega
        have HT5 := Lib.hid (show True → t.length ≤ 32768 from fun _ => by omega)
        clear hl5 ht8
        have HLM := Lib.hid (LsO.lns hO5 hL5)
        have HLN := Lib.hid (HLN.out.mono (hE5.le HE.out.inv))
        have HE := Lib.hid ((HE.out.trans hE5).alloc (.cells #[.int .i64 0, .int .i64 0] 27))
        clear hO5 hL5 hE5 hB5
        unfold spot
        go_wp2_with fail
        refine (alike_calls HE.out.inv HLN.out HLM.out hla HWA.out).mono ?_
        rw [decide_eq_true HRQ.out.symm]
        rintro e w6 ⟨rfl, hb6⟩
        have HE := Lib.hid (HE.out.step hb6)
        clear hb6
        go_wp2_with fail
        refine (write_calls HE.out.inv HLM.out.i (by rw [List.length_map]; have := HRR.out.1; have := HT5.out trivial; omega) (by have := HRT.out; have := HT5.out trivial; omega)).mono ?_
        rw [lsti, HRQ.out, ← HTD.out]
        rintro e w7 ⟨rfl, hb7⟩
        have HE := Lib.hid (HE.out.step hb7)
        clear hb7
        go_wp2_with fail
        go_ret
        exact ⟨rfl, HE.out.below⟩
end Go.Proofs.Ythfjeijhnikabaa
