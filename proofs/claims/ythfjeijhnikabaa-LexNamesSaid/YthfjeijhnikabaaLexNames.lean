/- The statement LexNames. -/
import Derived.Test.YthfjeijhnikabaaLexWorks
namespace Go.Proofs.Ythfjeijhnikabaa
open Go.RowKit

theorem info_u8' : (Try.prog.info? 5).map (fun i => (i.zero, i.size, i.bytes)) = some (some (.int .u8 0), 1, 1) := info_u8
theorem toks_no10 (s : List UInt8) (h : ∀ c ∈ s, c ≠ 10) (k : Nat) : ∀ t ∈ toks s k, t.c ≠ 10 := by
  induction hn : s.length using Nat.strongRecOn generalizing s k with
  | _ n ih =>
    subst hn
    by_cases he : s = []
    · subst he; intro t ht; simp [toks] at ht
    · have hp := pk_pos he
      rw [toks_step he]
      intro t ht
      rcases List.mem_cons.1 ht with rfl | ht
      · match s, he with
        | [c], _ => exact h c (by simp)
        | c :: d :: r, _ =>
          by_cases hc : c = 92 ∧ d = 10
          · exact absurd hc.2 (h d (by simp))
          · show (pk (c :: d :: r)).1 ≠ 10
            unfold pk; simp only [if_neg hc]; exact h c (by simp)
      · exact ih _ (by rw [List.length_drop]; omega) _ (fun c hc => h c (List.mem_of_mem_drop hc)) _ rfl t ht
theorem lexL_comment (l : List UInt8) (h : ∀ c ∈ l, c ≠ 10) : lexL (35 :: l) = .ok [] := by
  unfold lexL
  have hs : toks (35 :: l) 0 = ⟨35, 1, 0⟩ :: toks l 1 := by
    rw [toks_step (by simp)]
    have : pk (35 :: l) = (35, 1) := by
      match l with
      | [] => rfl
      | d :: r => simp [pk]
    rw [this]; rfl
  rw [hs, List.length_cons, lx_cons, if_neg (by decide), if_neg (by decide), if_neg (by simp), if_pos rfl]
  have hd : (toks l 1).dropWhile (fun t => t.c ≠ 10) = [] := by
    have := toks_no10 l h 1
    generalize toks l 1 = T at this
    induction T with
    | nil => rfl
    | cons a T ih => rw [List.dropWhile_cons_of_pos (by simpa using this a (by simp))]; exact ih fun t ht => this t (List.mem_cons_of_mem _ ht)
  rw [hd]; rfl
theorem toks_mark (c : UInt8) (hc : c ≠ 92) (l : List UInt8) : toks (c :: l) 0 = ⟨c, 1, 0⟩ :: toks l 1 := by
  rw [toks_step (by simp)]
  have : pk (c :: l) = (c, 1) := by
    match l with
    | [] => rfl
    | d :: r => simp [pk, hc]
  rw [this]; rfl
theorem lexL_q (l : List UInt8) : lexL (34 :: l) = match qt 0 (toks l 1) [] with
    | .error x => .error x
    | .ok (txt, r') => lx (34 :: l) (l.length + 1) r' [] ((⟨1, false, []⟩ : Ln).add ⟨txt, 1, 0, true, false⟩) false := by
  unfold lexL
  rw [toks_mark 34 (by decide), List.length_cons, lx_cons, if_neg (by decide), if_neg (by decide), if_neg (by simp), if_neg (by decide), if_neg (by decide), if_pos rfl]
  rfl
theorem lexL_u : lexL [34, 97, 92, 113] = .error 2 := by
  have : qt 0 [⟨97, 1, 1⟩, ⟨92, 1, 2⟩, ⟨113, 1, 3⟩] [] = .error 2 := by
    rw [qt_cons, if_neg (by simp), if_neg (by simp), if_neg (by simp), qt_cons, if_neg (by simp), if_neg (by simp), if_pos (by simp)]
    rfl
  rw [lexL_q, show toks [97, 92, 113] 1 = [⟨97, 1, 1⟩, ⟨92, 1, 2⟩, ⟨113, 1, 3⟩] from rfl, this]
theorem lexL_v : lexL [34, 97, 92] = .error 2 := by
  have : qt 0 [⟨97, 1, 1⟩, ⟨92, 1, 2⟩] [] = .error 2 := by
    rw [qt_cons, if_neg (by simp), if_neg (by simp), if_neg (by simp), qt_cons, if_neg (by simp), if_neg (by simp), if_pos (by simp)]
  rw [lexL_q, show toks [97, 92] 1 = [⟨97, 1, 1⟩, ⟨92, 1, 2⟩] from rfl, this]
theorem lexL_w : lexL [97, 92] = .error 1 := by kernel_rfl
theorem lexL_x : lexL [34, 97, 92, 10, 98, 34] = .ok [⟨1, false, [⟨[97, 32, 98], 1, 0, true, false⟩]⟩] := by
  have : qt 0 [⟨97, 1, 1⟩, ⟨32, 2, 2⟩, ⟨98, 1, 4⟩, ⟨34, 1, 5⟩] [] = .ok ([97, 32, 98], []) := by
    rw [qt_cons, if_neg (by simp), if_neg (by simp), if_neg (by simp), qt_cons, if_neg (by simp), if_neg (by simp), if_neg (by simp), qt_cons, if_neg (by simp), if_neg (by simp), if_neg (by simp), qt_cons, if_neg (by simp), if_pos (by simp)]
    rfl
  rw [lexL_q, show toks [97, 92, 10, 98, 34] 1 = [⟨97, 1, 1⟩, ⟨32, 2, 2⟩, ⟨98, 1, 4⟩, ⟨34, 1, 5⟩] from rfl, this]
  rfl
theorem strB_cons (c : UInt8) (l : List UInt8) : (⟨#[c]⟩ : ByteArray) ++ strB l = strB (c :: l) := by
  have h1 : ((⟨#[c]⟩ : ByteArray) ++ strB l).data.toList = c :: l := by simp [strB]
  rw [← strB_of ((⟨#[c]⟩ : ByteArray) ++ strB l), h1]
theorem strB_cons2 (c d : UInt8) (l : List UInt8) : (⟨#[c, d]⟩ : ByteArray) ++ strB l = strB (c :: d :: l) := by
  have h1 : ((⟨#[c, d]⟩ : ByteArray) ++ strB l).data.toList = c :: d :: l := by simp [strB]
  rw [← strB_of ((⟨#[c, d]⟩ : ByteArray) ++ strB l), h1]
set_option maxRecDepth 100000 in
set_option maxHeartbeats 8000000 in
theorem lexNames_walk {J : Jm} {w : World} (hI : Inv J w) :
    Calls Try.prog 5 #[] w fun e w' => e = .returned (.bool true) ∧ Below w.heap.size w w' := by
  obtain ⟨N, hN⟩ : ∃ N : Nat, N = 32767 := ⟨_, rfl⟩
  have hmk := run_make_J (P := Try.prog) (t := 38) Try.underlying38 info_u8' 32767 N (by omega) (by omega) (by omega)
  rw [Nat.mul_one] at hmk
  simp only [madeCells_u8] at hmk
  have HN := Lib.hid hN
  have HL := Lib.hid (show (List.replicate N (0 : UInt8)).length = N by simp)
  clear hN
  go_enter Try.func5, Try.ntmps5
  go_wp2_with fail
  refine (works_calls hI).mono ?_
  rintro e w1 ⟨J1, rfl, hE⟩
  have hE1 := hE.lit 5 (List.replicate N 0)
  have kc := (Bs.of_block J1 (g := w1.heap.size) (l := List.replicate N 0) (n := N) HL.out (by have := HN.out; unfold maxLen; omega)).string (P := Try.prog) hE1.inv 38 9 5 Try.underlying38 Try.underlying5 Try.underlying9
  have hcat := strB_cons 35 (List.replicate N 0)
  have hcat2 := strB_cons2 35 35 (List.replicate N 0)
  have HZ := Lib.hid (show ∀ c ∈ List.replicate N (0 : UInt8), c ≠ 10 by intro c hc; rw [List.eq_of_mem_replicate hc]; decide)
  have HE := Lib.hid hE1
  clear hE hE1
  generalize List.replicate N (0 : UInt8) = Z at *
  have hs1 : ¬ 9223372036854775807 < 1 + Z.length := by have := HN.out; have := HL.out; omega
  have hs2 : ¬ 9223372036854775807 < 2 + Z.length := by have := HN.out; have := HL.out; omega
  go_wp2_with fail
  refine (Lines_calls HE.out.inv (35 :: Z) (by simp only [List.length_cons]; have := HN.out; have := HL.out; omega)).mono ?_
  intro e w2 h
  unfold LinesP at h
  rw [if_neg (by simp only [List.length_cons]; have := HN.out; have := HL.out; omega), lexL_comment Z HZ.out] at h
  obtain ⟨J2, v2, c2, M2, B2, rfl, hE, hB, hO, hL⟩ := h
  obtain ⟨A2, cp2, rfl, -, -⟩ := hO.sl.form
  clear hB hO hL
  have HE := Lib.hid ((HE.out.trans hE).alloc (.cells #[.int .i64 0, .int .i64 0] 27))
  clear hE
  have X2 := Lib.hid (heap_alloc_new w2 (.cells #[.int .i64 0, .int .i64 0] 27))
  unfold spot
  go_wp2_with fail
  refine (Lines_calls HE.out.inv (35 :: 35 :: Z) (by simp only [List.length_cons]; have := HN.out; have := HL.out; omega)).mono ?_
  intro e w3 h
  unfold LinesP at h
  rw [if_pos (by simp only [List.length_cons]; have := HN.out; have := HL.out; omega)] at h
  obtain ⟨rfl, hE⟩ := h
  have X2 := Lib.hid ((hE.below.block _ (Array.getElem?_eq_some_iff.1 X2.out).1).trans X2.out)
  have HE := Lib.hid ((HE.out.trans hE).alloc (.cells #[.int .i64 3, .int .i64 32768] 27))
  clear hE
  have X2 := Lib.hid ((Below.heap_alloc w3 (.cells #[.int .i64 3, .int .i64 32768] 27) _ (Array.getElem?_eq_some_iff.1 X2.out).1).trans X2.out)
  have X3 := Lib.hid (heap_alloc_new w3 (.cells #[.int .i64 3, .int .i64 32768] 27))
  unfold spot
  go_wp2_with fail
  refine (Lines_calls HE.out.inv [34, 97, 92, 113] (by decide)).mono ?_
  intro e w4 h
  unfold LinesP at h
  rw [if_neg (by decide), lexL_u] at h
  obtain ⟨rfl, J4, hE⟩ := h
  have X2 := Lib.hid ((hE.below.block _ (Array.getElem?_eq_some_iff.1 X2.out).1).trans X2.out)
  have X3 := Lib.hid ((hE.below.block _ (Array.getElem?_eq_some_iff.1 X3.out).1).trans X3.out)
  have HE := Lib.hid ((HE.out.trans hE).alloc (.cells #[.int .i64 6, .int .i64 2] 27))
  clear hE
  have X2 := Lib.hid ((Below.heap_alloc w4 (.cells #[.int .i64 6, .int .i64 2] 27) _ (Array.getElem?_eq_some_iff.1 X2.out).1).trans X2.out)
  have X3 := Lib.hid ((Below.heap_alloc w4 (.cells #[.int .i64 6, .int .i64 2] 27) _ (Array.getElem?_eq_some_iff.1 X3.out).1).trans X3.out)
  have X4 := Lib.hid (heap_alloc_new w4 (.cells #[.int .i64 6, .int .i64 2] 27))
  unfold spot
  go_wp2_with fail
  refine (Lines_calls HE.out.inv [34, 97, 92] (by decide)).mono ?_
  intro e w5 h
  unfold LinesP at h
  rw [if_neg (by decide), lexL_v] at h
  obtain ⟨rfl, J5, hE⟩ := h
  have X2 := Lib.hid ((hE.below.block _ (Array.getElem?_eq_some_iff.1 X2.out).1).trans X2.out)
  have X3 := Lib.hid ((hE.below.block _ (Array.getElem?_eq_some_iff.1 X3.out).1).trans X3.out)
  have X4 := Lib.hid ((hE.below.block _ (Array.getElem?_eq_some_iff.1 X4.out).1).trans X4.out)
  have HE := Lib.hid ((HE.out.trans hE).alloc (.cells #[.int .i64 6, .int .i64 2] 27))
  clear hE
  have X2 := Lib.hid ((Below.heap_alloc w5 (.cells #[.int .i64 6, .int .i64 2] 27) _ (Array.getElem?_eq_some_iff.1 X2.out).1).trans X2.out)
  have X3 := Lib.hid ((Below.heap_alloc w5 (.cells #[.int .i64 6, .int .i64 2] 27) _ (Array.getElem?_eq_some_iff.1 X3.out).1).trans X3.out)
  have X4 := Lib.hid ((Below.heap_alloc w5 (.cells #[.int .i64 6, .int .i64 2] 27) _ (Array.getElem?_eq_some_iff.1 X4.out).1).trans X4.out)
  have X5 := Lib.hid (heap_alloc_new w5 (.cells #[.int .i64 6, .int .i64 2] 27))
  unfold spot
  go_wp2_with fail
  refine (Lines_calls HE.out.inv [97, 92] (by decide)).mono ?_
  intro e w6 h
  unfold LinesP at h
  rw [if_neg (by decide), lexL_w] at h
  obtain ⟨rfl, J6, hE⟩ := h
  have X2 := Lib.hid ((hE.below.block _ (Array.getElem?_eq_some_iff.1 X2.out).1).trans X2.out)
  have X3 := Lib.hid ((hE.below.block _ (Array.getElem?_eq_some_iff.1 X3.out).1).trans X3.out)
  have X4 := Lib.hid ((hE.below.block _ (Array.getElem?_eq_some_iff.1 X4.out).1).trans X4.out)
  have X5 := Lib.hid ((hE.below.block _ (Array.getElem?_eq_some_iff.1 X5.out).1).trans X5.out)
  have HE := Lib.hid ((HE.out.trans hE).alloc (.cells #[.int .i64 6, .int .i64 1] 27))
  clear hE
  have X2 := Lib.hid ((Below.heap_alloc w6 (.cells #[.int .i64 6, .int .i64 1] 27) _ (Array.getElem?_eq_some_iff.1 X2.out).1).trans X2.out)
  have X3 := Lib.hid ((Below.heap_alloc w6 (.cells #[.int .i64 6, .int .i64 1] 27) _ (Array.getElem?_eq_some_iff.1 X3.out).1).trans X3.out)
  have X4 := Lib.hid ((Below.heap_alloc w6 (.cells #[.int .i64 6, .int .i64 1] 27) _ (Array.getElem?_eq_some_iff.1 X4.out).1).trans X4.out)
  have X5 := Lib.hid ((Below.heap_alloc w6 (.cells #[.int .i64 6, .int .i64 1] 27) _ (Array.getElem?_eq_some_iff.1 X5.out).1).trans X5.out)
  have X6 := Lib.hid (heap_alloc_new w6 (.cells #[.int .i64 6, .int .i64 1] 27))
  unfold spot
  go_wp2_with fail
  refine (Lines_calls HE.out.inv [34, 97, 92, 10, 98, 34] (by decide)).mono ?_
  intro e w7 h
  unfold LinesP at h
  rw [if_neg (by decide), lexL_x] at h
  obtain ⟨J7, v7, c7, M7, B7, rfl, hE, hB, hO, hL⟩ := h
  obtain ⟨A7, cp7, rfl, -, -⟩ := hO.sl.form
  obtain ⟨wv, e0, e1, e2, hW, -⟩ := hL.at (i := 0) (by decide)
  obtain ⟨WA, wc, rfl, -, -⟩ := hW.sl.form
  obtain ⟨b, o, rfl, g2⟩ := Sl.cell hO.sl hE.inv e2
  obtain ⟨b1, o1, rfl, d1⟩ := Sl.cell hW.sl hE.inv (wsC_at _ 0 (by decide)).1
  have U1 := Lib.hid g2
  have U2 := Lib.hid d1
  clear hB hO hL hW e0 e1 e2 g2 d1
  have X2 := Lib.hid ((hE.below.block _ (Array.getElem?_eq_some_iff.1 X2.out).1).trans X2.out)
  have X3 := Lib.hid ((hE.below.block _ (Array.getElem?_eq_some_iff.1 X3.out).1).trans X3.out)
  have X4 := Lib.hid ((hE.below.block _ (Array.getElem?_eq_some_iff.1 X4.out).1).trans X4.out)
  have X5 := Lib.hid ((hE.below.block _ (Array.getElem?_eq_some_iff.1 X5.out).1).trans X5.out)
  have X6 := Lib.hid ((hE.below.block _ (Array.getElem?_eq_some_iff.1 X6.out).1).trans X6.out)
  have HE := Lib.hid ((HE.out.trans hE).alloc (.cells #[.int .i64 0, .int .i64 0] 27))
  clear hE
  have X2 := Lib.hid ((Below.heap_alloc w7 (.cells #[.int .i64 0, .int .i64 0] 27) _ (Array.getElem?_eq_some_iff.1 X2.out).1).trans X2.out)
  have X3 := Lib.hid ((Below.heap_alloc w7 (.cells #[.int .i64 0, .int .i64 0] 27) _ (Array.getElem?_eq_some_iff.1 X3.out).1).trans X3.out)
  have X4 := Lib.hid ((Below.heap_alloc w7 (.cells #[.int .i64 0, .int .i64 0] 27) _ (Array.getElem?_eq_some_iff.1 X4.out).1).trans X4.out)
  have X5 := Lib.hid ((Below.heap_alloc w7 (.cells #[.int .i64 0, .int .i64 0] 27) _ (Array.getElem?_eq_some_iff.1 X5.out).1).trans X5.out)
  have X6 := Lib.hid ((Below.heap_alloc w7 (.cells #[.int .i64 0, .int .i64 0] 27) _ (Array.getElem?_eq_some_iff.1 X6.out).1).trans X6.out)
  have X7 := Lib.hid (heap_alloc_new w7 (.cells #[.int .i64 0, .int .i64 0] 27))
  unfold spot
  have k2 := (((Below.refl w7.heap.size w7).alloc (Nat.le_refl _) (.cells #[.int .i64 0, .int .i64 0] 27)).cell (p := ⟨b, o + 2, none⟩) (lt_of_cell U1.out)).trans (by have := U1.out; simpa using this)
  have k3 := (((Below.refl w7.heap.size w7).alloc (Nat.le_refl _) (.cells #[.int .i64 0, .int .i64 0] 27)).cell (p := ⟨b1, o1, none⟩) (lt_of_cell U2.out)).trans (by have := U2.out; simpa using this)
  have y2 := blk_cell_J X2.out 0 rfl
  have z2 := blk_cell_J X2.out 1 rfl
  have y3 := blk_cell_J X3.out 0 rfl
  have z3 := blk_cell_J X3.out 1 rfl
  have y4 := blk_cell_J X4.out 0 rfl
  have z4 := blk_cell_J X4.out 1 rfl
  have y5 := blk_cell_J X5.out 0 rfl
  have z5 := blk_cell_J X5.out 1 rfl
  have y6 := blk_cell_J X6.out 0 rfl
  have z6 := blk_cell_J X6.out 1 rfl
  have y7 := blk_cell_J X7.out 0 rfl
  have z7 := blk_cell_J X7.out 1 rfl
  go_wp2_with fail
  go_ret
  exact ⟨by simp [strB_toList], HE.out.below⟩
end Go.Proofs.Ythfjeijhnikabaa
