/- The statement WireBack: what was put is read. -/
import Derived.Test.YtfofgmjhfbmbaaaWireApart
import Derived.Test.YtfofgmjhfbmbaaaLConcat
namespace Go.Proofs.Ytfofgmjhfbmbaaa
open Go.RowKit

def longest (ls : List (List UInt8)) : Nat := ls.foldl (fun m l => max m l.length) 0
theorem longest_take (ls : List (List UInt8)) (k : Nat) (h : k < ls.length) : longest (ls.take (k + 1)) = max (longest (ls.take k)) ls[k].length := by
  unfold longest
  rw [List.take_succ_eq_append_getElem h, List.foldl_append]
  rfl
theorem foldl_max_le (ls : List (List UInt8)) : ∀ a, a ≤ ls.foldl (fun m l => max m l.length) a := by
  induction ls with
  | nil => intro a; exact Nat.le_refl _
  | cons s ls ih => intro a; exact Nat.le_trans (Nat.le_max_left a s.length) (ih _)
theorem longest_mem (ls : List (List UInt8)) : ∀ s ∈ ls, s.length ≤ longest ls := by
  have key : ∀ (ls : List (List UInt8)) (a : Nat), ∀ s ∈ ls, s.length ≤ ls.foldl (fun m l => max m l.length) a := by
    intro ls
    induction ls with
    | nil => intro a s hs; cases hs
    | cons t ls ih =>
      intro a s hs
      rcases List.mem_cons.1 hs with h | h
      · subst h; exact Nat.le_trans (Nat.le_max_right a _) (foldl_max_le ls _)
      · exact ih _ s h
  exact key ls 0
theorem longest_bulk (ls : List (List UInt8)) (k : Nat) : longest (ls.take k) ≤ bulkS ls := by
  have key : ∀ (ls : List (List UInt8)) (k a : Nat), (ls.take k).foldl (fun m l => max m l.length) a ≤ a + bulkS ls := by
    intro ls
    induction ls with
    | nil => intro k a; simp
    | cons t ls ih =>
      intro k a
      cases k with
      | zero => simp
      | succ k =>
        simp only [List.take_succ_cons, List.foldl_cons, bulkS]
        have := ih k (max a t.length)
        omega
  have := key ls k 0
  unfold longest
  omega
theorem bulk_mem_len (ls : List (List UInt8)) : ∀ s ∈ ls, s.length ≤ bulkS ls := by
  induction ls with
  | nil => intro s hs; cases hs
  | cons t ls ih =>
    intro s hs
    simp only [bulkS]
    rcases List.mem_cons.1 hs with h | h
    · subst h; omega
    · have := ih s h; omega
theorem back_all (n : Nat) (hn : n < 18446744073709551616) (s : List UInt8) (hs : s.length ≤ 1048576) (ls : List (List UInt8)) (hl : bulkS ls ≤ 1048576) (b : List UInt8) :
    askU (([uv n, ut s, ul ls, b].flatten).drop 0) n = .ok (n, (uv n).length) ∧
    rdT (([uv n, ut s, ul ls, b].flatten).drop (uv n).length) s.length = .ok (s, (ut s).length) ∧
    rdL (([uv n, ut s, ul ls, b].flatten).drop ((uv n).length + (ut s).length)) ls.length (longest ls) = .ok (ls, (ul ls).length) := by
  have h0 : [uv n, ut s, ul ls, b].flatten = uv n ++ (ut s ++ (ul ls ++ b)) := by simp
  rw [h0]
  refine ⟨?_, ?_, ?_⟩
  · rw [List.drop_zero]
    unfold askU
    rw [rdU_uv hn]
    exact if_neg (by omega)
  · rw [List.drop_append_length]
    exact rdT_ut (by omega) (by omega) _
  · rw [← List.append_assoc, ← List.length_append, List.drop_append_length]
    have := bulk_len ls
    exact rdL_ul (by omega) (by omega) (fun x hx => ⟨by have := bulk_mem_len ls x hx; omega, by have := longest_mem ls x hx; omega⟩) _
theorem BsL.four {J : Jm} {g : Nat} {a b c d : Value} {la lb lc ld : List UInt8} (ha : Bs (J.put g [a, b, c, d]) a la) (hb : Bs (J.put g [a, b, c, d]) b lb) (hc : Bs (J.put g [a, b, c, d]) c lc) (hd : Bs (J.put g [a, b, c, d]) d ld) :
    BsL (J.put g [a, b, c, d]) (.slice (some ⟨g, 0, none⟩) 4 4) [la, lb, lc, ld] := by
  refine ⟨[a, b, c, d], Sl.of_block J rfl (by decide), ?_⟩
  intro i x hx
  match i with
  | 0 => cases hx; exact ⟨a, rfl, ha⟩
  | 1 => cases hx; exact ⟨b, rfl, hb⟩
  | 2 => cases hx; exact ⟨c, rfl, hc⟩
  | 3 => cases hx; exact ⟨d, rfl, hd⟩
  | n + 4 => cases hx
set_option maxRecDepth 100000 in
set_option maxHeartbeats 8000000 in
theorem wireBack_walk {J : Jm} {w : World} (hI : Inv J w) (n : Nat) (hn : n < 18446744073709551616) (s : List UInt8) (hs : s.length ≤ 1048576)
    {v u : Value} {ls : List (List UInt8)} {b : List UInt8} (hl : Ss J v ls) (hl0 : bulkS ls ≤ 1048576) (hb : Bs J u b) (hb0 : b.length ≤ 1048576) :
    Calls Try.prog 8 #[.int .u64 n, .string (strB s), v, u] w fun e w' => e = .returned (.bool true) ∧ Below w.heap.size w w' := by
  have hlb := ul_bulk ls hl0
  have hll := bulk_len ls
  have HALL := Lib.hid (back_all n hn s hs ls hl0 b)
  have htot : [uv n, ut s, ul ls, b].flatten.length ≤ 30000000 ∧ [uv n, ut s, ul ls, b].flatten.length = (uv n).length + (ut s).length + (ul ls).length + b.length := by
    have h1 := uv_len63 n hn
    have h2 := uv_len63 s.length (by omega)
    have h3 := ut_len s
    have h4 : [uv n, ut s, ul ls, b].flatten.length = (uv n).length + (ut s).length + (ul ls).length + b.length := by simp; omega
    exact ⟨by omega, h4⟩
  have hlo := fun k => longest_bulk ls k
  have HTOT := Lib.hid htot
  obtain ⟨A, c, rfl, hn', hm'⟩ := id hl.form
  obtain ⟨A5, c5, rfl, -, -⟩ := id hb.form
  unfold maxLen at hm'
  clear htot
  have HLO : Hid (∀ k, longest (ls.take k) ≤ bulkS ls) := hlo
  clear hlo
  go_enter Try.func8, Try.ntmps8
  go_wp2_with (first | (go_at_call 9; go_must (refine (works_calls hI).mono ?_; rintro e w1 ⟨J1, rfl, hE⟩; have HE1 := Lib.hid hE; clear hE)) | (go_at_call 11; go_must (refine (putUint_calls HE1.out.inv n hn).mono ?_; rintro e w2 ⟨v2, J2, rfl, hE, hO⟩; have HE2 := Lib.hid (HE1.out.trans hE); have HA2 := Lib.hid hO.bs; have HF := Lib.hid hO.bs.form; clear hE hO; obtain ⟨A2, c2, rfl, -, -⟩ := HF.out; clear HF)) | (go_at_call 12; go_must (refine (putText_calls HE2.out.inv s (by omega)).mono ?_; rintro e w3 ⟨v3, J3, rfl, hE, hO⟩; have HE3 := Lib.hid (HE2.out.trans hE); have HA3 := Lib.hid (HA2.out.mono (hE.le HE2.out.inv)); have HB3 := Lib.hid hO.bs; have HF := Lib.hid hO.bs.form; clear hE hO; obtain ⟨A3, c3, rfl, -, -⟩ := HF.out; clear HF)) | (go_at_call 13; go_must (refine (putList_calls HE3.out.inv (hl.mono (HE3.out.le hI)) (by omega)).mono ?_; rintro e w4 ⟨v4, J4, rfl, hE, hO⟩; have HE4 := Lib.hid (HE3.out.trans hE); have HA4 := Lib.hid (HA3.out.mono (hE.le HE3.out.inv)); have HB4 := Lib.hid (HB3.out.mono (hE.le HE3.out.inv)); have HC4 := Lib.hid hO.bs; have HF := Lib.hid hO.bs.form; clear hE hO; obtain ⟨A4, c4, rfl, -, -⟩ := HF.out; clear HF)) | (go_at_call 30; go_must (have hE1 := HE4.out.litV 24 [.slice A2 (uv n).length c2, .slice A3 (ut s).length c3, .slice A4 (ul ls).length c4, .slice A5 b.length c5]; have hle := ((Ext.refl HE4.out.inv).litV 24 [.slice A2 (uv n).length c2, .slice A3 (ut s).length c3, .slice A4 (ul ls).length c4, .slice A5 b.length c5]).le HE4.out.inv; refine (concat_calls hE1.inv (BsL.four (HA4.out.mono hle) (HB4.out.mono hle) (HC4.out.mono hle) (hb.mono (hE1.le hI))) (by unfold total; have := HTOT.out.1; omega)).mono ?_; rintro e w5 ⟨v5, J5, rfl, hE, hO⟩; have HE5 := Lib.hid (hE1.trans hE); have HB5 := Lib.hid hO.bs; clear hE hO hE1 hle)) | (go_at_call 14; go_must (refine (new_calls HE5.out.inv HB5.out (by have := HTOT.out.1; omega)).mono ?_; rintro e w6 ⟨g, rfl, hg, hE, hC⟩; have HG : Hid (w.heap.size ≤ g) := Nat.le_trans HE5.out.below.size hg; have HE6 := Lib.hid (HE5.out.trans hE); have HC6 := Lib.hid hC; clear hE hC hg)))
  have HL := Lib.hid (hl.mono (HE6.out.le hI))
  go_loop [10, 33] (fun m i => ∃ k : Nat, k ≤ ls.length ∧ i = .int .i64 k ∧ m = .int .i64 (longest (ls.take k) : Nat)) (fun _ i => ls.length - (intOf i).toNat)
  case atStart => exact ⟨0, by omega, rfl, rfl⟩
  case round =>
    obtain ⟨k, hk, rfl, rfl⟩ := hrel
    by_cases hlt : k < ls.length
    · obtain ⟨bb, o, rfl, hc⟩ := HL.out.cell HE6.out.inv hlt
      have HT := Lib.hid (longest_take ls k hlt)
      generalize hxl : ls[k] = x at *
      have hlk : ∀ q, longest (ls.take q) ≤ 1048576 := fun q => Nat.le_trans (HLO.out q) hl0
      have hx1 : (longest (ls.take k) : Int) ≤ 1048576 := by have := hlk k; omega
      clear hlk
      go_wp2
      go_round
      case rel => exact ⟨k + 1, by omega, by go_num, by rw [HT.out]; congr 1; split <;> omega⟩
      case measure => simp [intOf]; omega
    · obtain rfl : k = ls.length := by omega
      rw [List.take_length]
      have hlm : longest ls ≤ 1048576 := by have := HLO.out ls.length; rw [List.take_length] at this; omega
      have HLEFT : Hid ([uv n, ut s, ul ls, b].flatten.length - ((uv n).length + (ut s).length + (ul ls).length) = b.length) := by have := HTOT.out.2; rw [Hid]; omega
      go_wp2_with (first | (go_at_call 15; go_must (refine (Uint_calls HE6.out.inv HC6.out n hn).mono ?_; rw [HALL.out.1]; rintro e w7 ⟨k', ⟨rfl, hk'⟩, hM, hC⟩; subst k'; have HE7 := Lib.hid (HE6.out.moved hM (by intro b h1 h2; have := HG.out; omega)); have HC7 := Lib.hid hC; clear hM hC)) | (go_at_call 16; go_must (refine (Text_calls HE7.out.inv HC7.out s.length (by omega) (by omega)).mono ?_; rw [Nat.zero_add, HALL.out.2.1]; rintro e w8 ⟨k', ⟨rfl, hk'⟩, hM, hC⟩; subst k'; have HE8 := Lib.hid (HE7.out.moved hM (by intro b h1 h2; have := HG.out; omega)); have HC8 := Lib.hid hC; clear hM hC)) | (go_at_call 17; go_must (refine (List_calls HE8.out.inv HC8.out (by have := HTOT.out.1; omega) ls.length (longest ls) (by omega) (by omega) (by omega) (by omega)).mono ?_; rw [HALL.out.2.2]; rintro e w9 ⟨k', J9, ⟨⟨v9, rfl, hS⟩, hk'⟩, hM, hC⟩; subst k'; have HE9 := Lib.hid (HE8.out.moved hM (by intro b h1 h2; have := HG.out; omega)); have HC9 := Lib.hid hC; have HS9 := Lib.hid hS; clear hM hC hS)) | (go_at_call 21; go_must (refine (sequal_calls HE9.out.inv HS9.out (hl.mono (HE9.out.le hI))).mono ?_; rw [decide_eq_true (rfl : ls = ls)]; rintro e w10 ⟨rfl, hB⟩; have HE10 := Lib.hid (HE9.out.step hB); have HC10 := Lib.hid (HC9.out.ext (Ext.of_below HE9.out.inv hB)); clear hB)) | (go_at_call 19; go_must (refine (left_calls HC10.out).mono ?_; rw [HLEFT.out]; rintro e w11 ⟨rfl, hB⟩; have HE11 := Lib.hid (HE10.out.step hB); clear hB)))
      go_ret
      exact ⟨rfl, HE11.out.below⟩
end Go.Proofs.Ytfofgmjhfbmbaaa
