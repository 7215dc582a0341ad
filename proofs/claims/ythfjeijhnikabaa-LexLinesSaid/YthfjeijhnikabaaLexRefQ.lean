/- The walk of the document's quoted. -/
import Derived.Test.YthfjeijhnikabaaLexRefB
import Derived.Test.YthfjeijhnikabaaLexQur
namespace Go.Proofs.Ythfjeijhnikabaa
open Go.RowKit

theorem tcs_at : ∀ (l : List Tok) (k : Nat) (hk : k < l.length), (tcs l)[k * 3]? = some (.int .u8 (l[k].c.toNat : Int)) ∧ (tcs l)[k * 3 + 1]? = some (.bool (l[k].n == 2)) ∧ (tcs l)[k * 3 + 2]? = some (.int .i64 (l[k].pos : Int))
  | x :: r, 0, _ => ⟨rfl, rfl, rfl⟩
  | x :: r, k + 1, h => by
    have := tcs_at r k (by simpa using h)
    simp only [tcs, tc1, show (k + 1) * 3 = k * 3 + 1 + 1 + 1 by omega, List.cons_append, List.nil_append, List.getElem?_cons_succ, List.getElem_cons_succ]
    exact this
theorem tk_cell {J : Jm} {A : Option Addr} {c m : Nat} {l : List Tok} (h : Sl J 3 (.slice A m c) l.length (tcs l)) {w : World} (hI : Inv J w) {k : Nat} (hk : k < l.length) :
    ∃ b o, A = some ⟨b, o, none⟩ ∧ w.cell? ⟨b, o + k * 3, none⟩ = some (.int .u8 (l[k].c.toNat : Int)) ∧ w.cell? ⟨b, o + k * 3 + 1, none⟩ = some (.bool (l[k].n == 2)) ∧ w.cell? ⟨b, o + k * 3 + 2, none⟩ = some (.int .i64 (l[k].pos : Int)) := by
  obtain ⟨q0, q1, q2⟩ := tcs_at l k hk
  obtain ⟨b, o, hA, c0⟩ := Sl.cell h hI q0
  obtain ⟨b1, o1, hA1, c1⟩ := Sl.cell h hI q1
  obtain ⟨b2, o2, hA2, c2⟩ := Sl.cell h hI q2
  rw [hA] at hA1 hA2
  cases hA1; cases hA2
  exact ⟨b, o, hA, c0, c1, c2⟩
def RQ (n : Nat) (r : Except Nat (List UInt8 × List Tok)) (e : Ending) : Prop :=
  match r with
  | .error x => e = .returned (.tuple #[.string (strB []), .int .i64 0, .int .i64 (x : Int)])
  | .ok (t, rest) => e = .returned (.tuple #[.string (strB t), .int .i64 ((n : Int) - rest.length), .int .i64 (-1)])
theorem results_tmp3 {fn : Func} {i j k : Nat} (h : fn.results = #[.tmp i, .tmp j, .tmp k]) (tmps : Array Value) (P : Program) (w : World) :
    (results fn tmps).run P w = .ok (.tuple #[tmps.getD i undef, tmps.getD j undef, tmps.getD k undef]) w := by simp [results, h, go_sem]
theorem Below.drewsL {B : Nat} {w w' : World} (h : Below B w w') (n : Nat) : Below B w (w'.drewN n) := ⟨h.os, h.tape, h.output, h.size, h.block⟩
set_option maxRecDepth 100000 in
set_option maxHeartbeats 8000000 in
theorem refQuoted_calls {J : Jm} {w : World} (hI : Inv J w) {v : Value} {L : List Tok} (hb : Sl J 3 v L.length (tcs L)) (hL : L.length ≤ 1048576) (hN : ∀ t ∈ L, t.n = 1 ∨ (t.n = 2 ∧ t.c = 32)) {i : Nat} (hi : i < L.length) :
    Calls Try.prog 35 #[v, .int .i64 (i : Int)] w fun e w' => RQ L.length (qt L[i].pos (L.drop (i + 1)) []) e ∧ Below w.heap.size w w' := by
  obtain ⟨A, cp, rfl, hn, hm⟩ := id hb.form
  unfold maxLen at hm
  have HB := Lib.hid hb
  have HN := Lib.hid hN
  clear hb hN
  obtain ⟨frm, hfrm⟩ : ∃ frm, frm = L[i].pos := ⟨_, rfl⟩
  obtain ⟨bi, oi, rfl, -, -, hp⟩ := tk_cell HB.out hI hi
  rw [← hfrm] at hp ⊢
  clear hfrm
  go_enter Try.func35, Try.ntmps35
  have w1 : IntKind.i64.wrap ((i : Int) + 1) = (i : Int) + 1 := by rw [IntKind.wrap_i64]; omega
  go_wp2_with fail
  go_loopw [7, 8] (fun u k wr => ∃ (q : Nat) (acc : List UInt8) (J' : Jm), i + 1 ≤ q ∧ q ≤ L.length ∧ k = .int .i64 q ∧ acc.length ≤ q ∧ Hid (qt frm (L.drop q) acc = qt frm (L.drop (i + 1)) []) ∧ Hid (Ext J w J' wr) ∧ Hid (Own J' wr w.heap.size 5 1 u acc.length (bcs acc))) (fun _ k _ => L.length - (intOf k).toNat)
  case atStart => exact ⟨i + 1, [], J, Nat.le_refl _, by omega, by go_num, Nat.zero_le _, rfl, Ext.refl hI, Own.nil _ _ _ _ _⟩
  case round =>
    obtain ⟨q, acc, J', hiq, hq, rfl, hacc, HQ, HE, HO⟩ := hrel
    have HI := Lib.hid HE.out.inv
    have hpr := (HE.out.below.cell (lt_of_cell hp)).trans hp
    have i0 : (0 : Int) ≤ (q : Int) := by omega
    have i1 : (0 : Int) ≤ (i : Int) := by omega
    have i2 : (i : Int) < L.length := by omega
    have hwq : IntKind.i64.wrap ((q : Int) + 1) = (q : Int) + 1 := by rw [IntKind.wrap_i64]; omega
    by_cases hlt : q < L.length
    · have i3 : (q : Int) < L.length := by omega
      obtain ⟨b, o, hA, c0, c1, c2⟩ := tk_cell (HB.out.mono (HE.out.le hI)) HI.out hlt
      cases hA
      have hD : L.drop q = L[q] :: L.drop (q + 1) := List.drop_eq_getElem_cons hlt
      have hn := HN.out L[q] (List.getElem_mem hlt)
      rw [hD] at HQ
      have HD := Lib.hid hD
      clear hD
      generalize L[q] = t at *
      obtain ⟨c, n, pos⟩ := t
      dsimp only at c0 c1 c2 hn
      rcases hn with rfl | ⟨rfl, rfl⟩
      · by_cases h10 : c = 10
        · subst h10
          have HR : Hid (qt frm (L.drop (i + 1)) [] = .error frm) := by rw [Hid, ← HQ.out, qt_cons, if_pos ⟨rfl, rfl⟩]
          go_wp2_with fail
          go_big_quiet (fail)
          go_wp2_with fail
          (try simp only [Exit.inBlock, Exit.then]); refine bodyPost_ret (results_tmp3 rfl _ _ _) rfl ?_
          rw [HR.out]
          exact ⟨rfl, Below.drewsL HE.out.below nq⟩
        have j10 : ¬ (c.toNat : Int) = 10 := byte_ne h10
        by_cases h34 : c = 34
        · subst h34
          have HR : Hid (qt frm (L.drop (i + 1)) [] = .ok (acc, L.drop (q + 1))) := by rw [Hid, ← HQ.out, qt_cons, if_neg (by simp), if_pos ⟨rfl, rfl⟩]
          have kc := (HO.out.bs).string (P := Try.prog) HE.out.inv 38 9 5 Try.underlying38 Try.underlying5 Try.underlying9
          go_wp2_with fail
          (try simp only [Exit.inBlock, Exit.then]); refine bodyPost_ret (results_tmp3 rfl _ _ _) rfl ?_
          rw [HR.out]
          refine ⟨?_, HE.out.below⟩
          have e1 : ((L.length : Int) - ((L.drop (q + 1)).length : Int)) = (q : Int) + 1 := by rw [List.length_drop]; omega
          show _ = Ending.returned (.tuple #[.string (strB acc), .int .i64 ((L.length : Int) - ((L.drop (q + 1)).length : Int)), .int .i64 (-1)])
          rw [e1]
          rfl
        have j34 : ¬ (c.toNat : Int) = 34 := byte_ne h34
        by_cases h92 : c = 92
        · subst h92
          by_cases hl2 : q + 1 < L.length
          · obtain ⟨b', o', hA, d0, d1, d2⟩ := tk_cell (HB.out.mono (HE.out.le hI)) HI.out hl2
            cases hA
            have hD2 : L.drop (q + 1) = L[q + 1] :: L.drop (q + 2) := List.drop_eq_getElem_cons hl2
            have hn2 := HN.out L[q + 1] (List.getElem_mem hl2)
            rw [hD2] at HQ
            clear hD2
            generalize L[q + 1] = t2 at *
            obtain ⟨c2', n2, pos2⟩ := t2
            dsimp only at d0 d1 d2 hn2
            have i4 : (q : Int) + 1 < L.length := by omega
            have i5 : (0 : Int) ≤ (q : Int) + 1 := by omega
            have i6 : ¬ (q : Int) + 1 = L.length := by omega
            rcases hn2 with rfl | ⟨rfl, rfl⟩
            ·
              by_cases n34 : c2' = 34
              · subst n34
                have HR : Hid (qt frm (L.drop (q + 2)) (acc ++ [34]) = qt frm (L.drop (i + 1)) []) := by rw [Hid, ← HQ.out, qt_cons, if_neg (by simp), if_neg (by simp), if_pos ⟨rfl, rfl⟩]; simp [esc]
                go_wp2_with (at_builtin; go_must (refine wpList_append_lit (J := J') (s := .tmp 82) (x := .tmp 89) (t := 38) (e := 5) (base := w.heap.size) (v := u7) (n := acc.length) (xs := bcs acc) (m := 1) (news := bcs [34]) rfl (.int .u8 0) 1 1 rfl Try.underlying38 info_u8 rfl rfl (HE.out.inv.alloc _) (HO.out.alloc _) rfl (heap_alloc_new _ _) rfl (bcs_one _) (by simp only [maxLen]; omega) (by omega) (by have := HE.out.below.size; simp; omega) ?_; intro v5 w5 J5 ho5 hg5 hv5; have HE5 := Lib.hid ((HE.out.alloc _).grew (HO.out.alloc _) hg5); have HO5 := Lib.hid ho5; have HV5 := Lib.hid hv5; clear ho5 hg5 hv5))
                go_roundw
                case rel => exact ⟨(q + 2), acc ++ [34], J5, by omega, by omega, by go_num, by simp; omega, HR, HE5, by rw [bcs_append, List.length_append]; exact HO5⟩
                case measure => simp [intOf] <;> omega
              by_cases n92 : c2' = 92
              · subst n92
                have HR : Hid (qt frm (L.drop (q + 2)) (acc ++ [92]) = qt frm (L.drop (i + 1)) []) := by rw [Hid, ← HQ.out, qt_cons, if_neg (by simp), if_neg (by simp), if_pos ⟨rfl, rfl⟩]; simp [esc]
                go_wp2_with (at_builtin; go_must (refine wpList_append_lit (J := J') (s := .tmp 82) (x := .tmp 89) (t := 38) (e := 5) (base := w.heap.size) (v := u7) (n := acc.length) (xs := bcs acc) (m := 1) (news := bcs [92]) rfl (.int .u8 0) 1 1 rfl Try.underlying38 info_u8 rfl rfl (HE.out.inv.alloc _) (HO.out.alloc _) rfl (heap_alloc_new _ _) rfl (bcs_one _) (by simp only [maxLen]; omega) (by omega) (by have := HE.out.below.size; simp; omega) ?_; intro v5 w5 J5 ho5 hg5 hv5; have HE5 := Lib.hid ((HE.out.alloc _).grew (HO.out.alloc _) hg5); have HO5 := Lib.hid ho5; have HV5 := Lib.hid hv5; clear ho5 hg5 hv5))
                go_roundw
                case rel => exact ⟨(q + 2), acc ++ [92], J5, by omega, by omega, by go_num, by simp; omega, HR, HE5, by rw [bcs_append, List.length_append]; exact HO5⟩
                case measure => simp [intOf] <;> omega
              by_cases n110 : c2' = 110
              · subst n110
                have HR : Hid (qt frm (L.drop (q + 2)) (acc ++ [10]) = qt frm (L.drop (i + 1)) []) := by rw [Hid, ← HQ.out, qt_cons, if_neg (by simp), if_neg (by simp), if_pos ⟨rfl, rfl⟩]; simp [esc]
                go_wp2_with (at_builtin; go_must (refine wpList_append_lit (J := J') (s := .tmp 93) (x := .tmp 94) (t := 38) (e := 5) (base := w.heap.size) (v := u7) (n := acc.length) (xs := bcs acc) (m := 1) (news := bcs [10]) rfl (.int .u8 0) 1 1 rfl Try.underlying38 info_u8 rfl rfl (HE.out.inv.alloc _) (HO.out.alloc _) rfl (heap_alloc_new _ _) rfl (bcs_one _) (by simp only [maxLen]; omega) (by omega) (by have := HE.out.below.size; simp; omega) ?_; intro v5 w5 J5 ho5 hg5 hv5; have HE5 := Lib.hid ((HE.out.alloc _).grew (HO.out.alloc _) hg5); have HO5 := Lib.hid ho5; have HV5 := Lib.hid hv5; clear ho5 hg5 hv5))
                go_roundw
                case rel => exact ⟨(q + 2), acc ++ [10], J5, by omega, by omega, by go_num, by simp; omega, HR, HE5, by rw [bcs_append, List.length_append]; exact HO5⟩
                case measure => simp [intOf] <;> omega
              by_cases n116 : c2' = 116
              · subst n116
                have HR : Hid (qt frm (L.drop (q + 2)) (acc ++ [9]) = qt frm (L.drop (i + 1)) []) := by rw [Hid, ← HQ.out, qt_cons, if_neg (by simp), if_neg (by simp), if_pos ⟨rfl, rfl⟩]; simp [esc]
                go_wp2_with (at_builtin; go_must (refine wpList_append_lit (J := J') (s := .tmp 98) (x := .tmp 99) (t := 38) (e := 5) (base := w.heap.size) (v := u7) (n := acc.length) (xs := bcs acc) (m := 1) (news := bcs [9]) rfl (.int .u8 0) 1 1 rfl Try.underlying38 info_u8 rfl rfl (HE.out.inv.alloc _) (HO.out.alloc _) rfl (heap_alloc_new _ _) rfl (bcs_one _) (by simp only [maxLen]; omega) (by omega) (by have := HE.out.below.size; simp; omega) ?_; intro v5 w5 J5 ho5 hg5 hv5; have HE5 := Lib.hid ((HE.out.alloc _).grew (HO.out.alloc _) hg5); have HO5 := Lib.hid ho5; have HV5 := Lib.hid hv5; clear ho5 hg5 hv5))
                go_roundw
                case rel => exact ⟨(q + 2), acc ++ [9], J5, by omega, by omega, by go_num, by simp; omega, HR, HE5, by rw [bcs_append, List.length_append]; exact HO5⟩
                case measure => simp [intOf] <;> omega
              have k34 : ¬ (c2'.toNat : Int) = 34 := byte_ne n34
              have k92 : ¬ (c2'.toNat : Int) = 92 := byte_ne n92
              have k110 : ¬ (c2'.toNat : Int) = 110 := byte_ne n110
              have k116 : ¬ (c2'.toNat : Int) = 116 := byte_ne n116
              have HR : Hid (qt frm (L.drop (i + 1)) [] = .error pos) := by rw [Hid, ← HQ.out, qt_cons, if_neg (by simp), if_neg (by simp), if_pos ⟨rfl, rfl⟩]; simp [esc, n34, n92, n110, n116]
              go_wp2_with fail
              go_big_quiet (fail)
              go_wp2_with fail
              (try simp only [Exit.inBlock, Exit.then]); refine bodyPost_ret (results_tmp3 rfl _ _ _) rfl ?_
              rw [HR.out]
              exact ⟨rfl, Below.drewsL HE.out.below nq⟩
            · have HR : Hid (qt frm (L.drop (i + 1)) [] = .error pos) := by rw [Hid, ← HQ.out, qt_cons, if_neg (by simp), if_neg (by simp), if_pos ⟨rfl, rfl⟩]; simp
              go_wp2_with fail
              go_big_quiet (fail)
              go_wp2_with fail
              (try simp only [Exit.inBlock, Exit.then]); refine bodyPost_ret (results_tmp3 rfl _ _ _) rfl ?_
              rw [HR.out]
              exact ⟨rfl, Below.drewsL HE.out.below nq⟩
          · have i6 : (q : Int) + 1 = L.length := by omega
            have HR : Hid (qt frm (L.drop (i + 1)) [] = .error pos) := by rw [Hid, ← HQ.out, qt_cons, if_neg (by simp), if_neg (by simp), if_pos ⟨rfl, rfl⟩, List.drop_of_length_le (by omega)]
            go_wp2_with fail
            go_big_quiet (fail)
            go_wp2_with fail
            (try simp only [Exit.inBlock, Exit.then]); refine bodyPost_ret (results_tmp3 rfl _ _ _) rfl ?_
            rw [HR.out]
            exact ⟨rfl, Below.drewsL HE.out.below nq⟩
        · have j92 : ¬ (c.toNat : Int) = 92 := byte_ne h92
          have HR : Hid (qt frm (L.drop (q + 1)) (acc ++ [c]) = qt frm (L.drop (i + 1)) []) := by rw [Hid, ← HQ.out, qt_cons, if_neg (by simp [h10]), if_neg (by simp [h34]), if_neg (by simp [h92])]
          go_wp2_with (at_builtin; go_must (refine wpList_append_lit (J := J') (s := .tmp 46) (x := .tmp 48) (t := 38) (e := 5) (base := w.heap.size) (v := u7) (n := acc.length) (xs := bcs acc) (m := 1) (news := bcs [c]) rfl (.int .u8 0) 1 1 rfl Try.underlying38 info_u8 rfl rfl (HE.out.inv.alloc _) (HO.out.alloc _) rfl (heap_alloc_new _ _) rfl (bcs_one _) (by simp only [maxLen]; omega) (by omega) (by have := HE.out.below.size; simp; omega) ?_; intro v5 w5 J5 ho5 hg5 hv5; have HE5 := Lib.hid ((HE.out.alloc _).grew (HO.out.alloc _) hg5); have HO5 := Lib.hid ho5; have HV5 := Lib.hid hv5; clear ho5 hg5 hv5))
          go_roundw
          case rel => exact ⟨(q + 1), acc ++ [c], J5, by omega, by omega, by go_num, by simp; omega, HR, HE5, by rw [bcs_append, List.length_append]; exact HO5⟩
          case measure => simp [intOf] <;> omega
      · have HR : Hid (qt frm (L.drop (q + 1)) (acc ++ [32]) = qt frm (L.drop (i + 1)) []) := by rw [Hid, ← HQ.out, qt_cons, if_neg (by simp), if_neg (by simp), if_neg (by simp)]
        go_wp2_with (at_builtin; go_must (refine wpList_append_lit (J := J') (s := .tmp 46) (x := .tmp 48) (t := 38) (e := 5) (base := w.heap.size) (v := u7) (n := acc.length) (xs := bcs acc) (m := 1) (news := bcs [32]) rfl (.int .u8 0) 1 1 rfl Try.underlying38 info_u8 rfl rfl (HE.out.inv.alloc _) (HO.out.alloc _) rfl (heap_alloc_new _ _) rfl (bcs_one _) (by simp only [maxLen]; omega) (by omega) (by have := HE.out.below.size; simp; omega) ?_; intro v5 w5 J5 ho5 hg5 hv5; have HE5 := Lib.hid ((HE.out.alloc _).grew (HO.out.alloc _) hg5); have HO5 := Lib.hid ho5; have HV5 := Lib.hid hv5; clear ho5 hg5 hv5))
        go_roundw
        case rel => exact ⟨(q + 1), acc ++ [32], J5, by omega, by omega, by go_num, by simp; omega, HR, HE5, by rw [bcs_append, List.length_append]; exact HO5⟩
        case measure => simp [intOf] <;> omega
    · have HR : Hid (qt frm (L.drop (i + 1)) [] = .error frm) := by rw [Hid, ← HQ.out, List.drop_of_length_le (by omega)]; exact qt_nil _ _
      have i3 : ¬ (q : Int) < L.length := by omega
      go_wp2_with fail
      go_big_quiet (fail)
      go_wp2_with fail
      (try simp only [Exit.inBlock, Exit.then]); refine bodyPost_ret (results_tmp3 rfl _ _ _) rfl ?_
      rw [HR.out]
      exact ⟨rfl, Below.drewsL HE.out.below nq⟩
end Go.Proofs.Ythfjeijhnikabaa
