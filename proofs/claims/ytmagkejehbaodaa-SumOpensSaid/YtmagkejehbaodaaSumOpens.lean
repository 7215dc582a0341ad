/- SumOpens: any bytes are opened just if their last four are the sum of the others. The walk of the statement. -/
import Derived.Test.YtmagkejehbaodaaSumWorks
namespace Go.Proofs.Ytmagkejehbaodaa
open Go.RowKit

set_option maxHeartbeats 4000000 in
theorem opens_a {J : Jm} {w : World} (hI : Inv J w) {A : Option Addr} {c : Nat} {l : List UInt8} (hb : Bs J (.slice A l.length c) l) (_ : l.length ≤ c) (_ : c ≤ 9223372036854775807) (h1 : l.length ≤ 3000) (h4 : l.length < 4) :
    Calls Try.prog 7 #[.slice A l.length c] w fun e w' => e = .returned (.bool true) ∧ Below w.heap.size w w' := by
  have ho : opens l = false := by unfold opens; simp; omega
  have HO := Lib.hid ho
  clear ho
  go_enter Try.func7, Try.ntmps7
  go_wp2_with fail
  refine (works_calls hI).mono ?_
  rintro e w1 ⟨rfl, hb1⟩
  have HE1 := Lib.hid ((Ext.refl hI).step hb1)
  clear hb1
  go_wp2_with fail
  refine (sclone_calls HE1.out.inv hb (by omega)).mono ?_
  rintro e w2 ⟨v2, J2, rfl, hE2, ho2, -⟩
  have HE2 := Lib.hid (HE1.out.trans hE2)
  have HO2 := Lib.hid (ho2.lower HE1.out.below.size)
  clear hE2 ho2
  go_wp2_with (at_builtin; go_must (refine wpList_append_lit (J := J2) (s := .tmp 13) (x := .tmp 14) (t := 23) (e := 5) (base := w.heap.size) (v := v2) (n := l.length) (xs := bcs l) (m := 1) (news := bcs [7]) rfl (.int .u8 0) 1 1 rfl Try.underlying23 info_u8 rfl rfl (HE2.out.inv.alloc _) (HO2.out.alloc _) rfl (heap_alloc_new _ _) rfl (bcs_one _) (by simp only [maxLen]; omega) (by omega) (by have := HE2.out.below.size; simp; omega) ?_; rw [← bcs_append]; intro v3 w3 J3 ho3 hg3 _; have HE3 := Lib.hid ((HE2.out.alloc _).grew (HO2.out.alloc _) hg3); have hv3 := ho3.bs; clear ho3 hg3; obtain ⟨A3, c3, rfl, hn3, hm3⟩ := hv3.form; simp only [List.length_append, List.length_cons, List.length_nil, Nat.zero_add] at hn3 ⊢; have hin := Bs.take hv3 l.length (by simp); rw [List.take_left] at hin; have hbl := HE3.out.bs hI hb; clear hv3; unfold maxLen at hm3))
  go_wp2_with fail
  refine (open_no HE3.out.inv hin (by omega) HO.out).mono ?_
  rintro e w4 ⟨rfl, hb4⟩
  have HE4 := Lib.hid (HE3.out.step hb4)
  clear hb4
  go_wp2_with fail
  refine (equal_calls HE4.out.inv hin hbl).mono ?_
  rintro e w5 ⟨rfl, rfl⟩
  go_wp2_with fail
  go_ret
  exact ⟨rfl, HE4.out.below⟩
set_option maxHeartbeats 4000000 in
theorem opens_b {J : Jm} {w : World} (hI : Inv J w) {A : Option Addr} {c : Nat} {l : List UInt8} (hb : Bs J (.slice A l.length c) l) (_ : l.length ≤ c) (_ : c ≤ 9223372036854775807) (h1 : l.length ≤ 3000) (h4 : ¬ l.length < 4) (ho : opens l = false) :
    Calls Try.prog 7 #[.slice A l.length c] w fun e w' => e = .returned (.bool true) ∧ Below w.heap.size w w' := by
  have HO := Lib.hid ho
  obtain ⟨n, hn4⟩ : ∃ n, l.length = n + 4 := ⟨l.length - 4, by omega⟩
  have HN := Lib.hid hn4
  have hnb : n ≤ 2996 := by omega
  have hl' : (l.take n).length = n := by simp; omega
  have HL := Lib.hid hl'
  have hnc : n + 4 ≤ c := by omega
  clear hl'
  have hq : (l == sealed (l.take n)) = false := by
    unfold opens at ho
    rw [hn4] at ho
    simpa using ho
  clear hn4 ho
  go_enter Try.func7, Try.ntmps7
  go_wp2_with fail
  refine (works_calls hI).mono ?_
  rintro e w1 ⟨rfl, hb1⟩
  have HE1 := Lib.hid ((Ext.refl hI).step hb1)
  clear hb1
  go_wp2_with fail
  refine (sclone_calls HE1.out.inv hb (by omega)).mono ?_
  rintro e w2 ⟨v2, J2, rfl, hE2, ho2, -⟩
  have HE2 := Lib.hid (HE1.out.trans hE2)
  have HO2 := Lib.hid (ho2.lower HE1.out.below.size)
  clear hE2 ho2
  go_wp2_with (at_builtin; go_must (refine wpList_append_lit (J := J2) (s := .tmp 13) (x := .tmp 14) (t := 23) (e := 5) (base := w.heap.size) (v := v2) (n := l.length) (xs := bcs l) (m := 1) (news := bcs [7]) rfl (.int .u8 0) 1 1 rfl Try.underlying23 info_u8 rfl rfl (HE2.out.inv.alloc _) (HO2.out.alloc _) rfl (heap_alloc_new _ _) rfl (bcs_one _) (by simp only [maxLen]; omega) (by omega) (by have := HE2.out.below.size; simp; omega) ?_; rw [← bcs_append]; intro v3 w3 J3 ho3 hg3 _; have HE3 := Lib.hid ((HE2.out.alloc _).grew (HO2.out.alloc _) hg3); have hv3 := ho3.bs; clear ho3 hg3; obtain ⟨A3, c3, rfl, hn3, hm3⟩ := hv3.form; simp only [List.length_append, List.length_cons, List.length_nil, Nat.zero_add] at hn3 ⊢; have hin := Bs.take hv3 l.length (by simp); rw [List.take_left] at hin; have hbl := HE3.out.bs hI hb; clear hv3; unfold maxLen at hm3))
  go_wp2_with fail
  refine (open_no HE3.out.inv hin (by omega) HO.out).mono ?_
  rintro e w4 ⟨rfl, hb4⟩
  have HE4 := Lib.hid (HE3.out.step hb4)
  clear hb4
  have hsub : ((l.length : Int) - 4) = (n : Int) := by have := HN.out; omega
  go_wp2_with fail
  have hbt := Bs.take hbl n (by have := HN.out; omega)
  refine (refseal_calls HE4.out.inv hbt (by rw [HL.out]; omega)).mono ?_
  rintro e w5 ⟨v5, J5, rfl, hE5, ho5⟩
  have hv5 := ho5.bs
  have hb5 := hE5.bs HE4.out.inv hbl
  have hi5 := hE5.bs HE4.out.inv hin
  have HE5 := Lib.hid (HE4.out.trans hE5)
  clear hE5 ho5
  go_wp2_with fail
  refine (equal_calls HE5.out.inv hb5 hv5).mono ?_
  rw [hq]
  rintro e w6 ⟨rfl, rfl⟩
  go_wp2_with fail
  refine (equal_calls HE5.out.inv hi5 hb5).mono ?_
  rintro e w6 ⟨rfl, rfl⟩
  go_wp2_with fail
  go_ret
  exact ⟨rfl, HE5.out.below⟩
set_option maxHeartbeats 4000000 in
theorem opens_c {J : Jm} {w : World} (hI : Inv J w) {A : Option Addr} {c : Nat} {l : List UInt8} (hb : Bs J (.slice A l.length c) l) (_ : l.length ≤ c) (_ : c ≤ 9223372036854775807) (h1 : l.length ≤ 3000) (ho : opens l = true) :
    Calls Try.prog 7 #[.slice A l.length c] w fun e w' => e = .returned (.bool true) ∧ Below w.heap.size w w' := by
  have HO := Lib.hid ho
  have h4 : ¬ l.length < 4 := by unfold opens at ho; simp at ho; omega
  obtain ⟨n, hn4⟩ : ∃ n, l.length = n + 4 := ⟨l.length - 4, by omega⟩
  have HN := Lib.hid hn4
  have hnb : n ≤ 2996 := by omega
  have hl' : (l.take n).length = n := by simp; omega
  have HL := Lib.hid hl'
  have hnc : n + 4 ≤ c := by omega
  clear hl'
  have hq : (l == sealed (l.take n)) = true := by
    unfold opens at ho
    rw [hn4] at ho
    simpa using ho
  clear hn4 ho
  go_enter Try.func7, Try.ntmps7
  go_wp2_with fail
  refine (works_calls hI).mono ?_
  rintro e w1 ⟨rfl, hb1⟩
  have HE1 := Lib.hid ((Ext.refl hI).step hb1)
  clear hb1
  go_wp2_with fail
  refine (sclone_calls HE1.out.inv hb (by omega)).mono ?_
  rintro e w2 ⟨v2, J2, rfl, hE2, ho2, -⟩
  have HE2 := Lib.hid (HE1.out.trans hE2)
  have HO2 := Lib.hid (ho2.lower HE1.out.below.size)
  clear hE2 ho2
  go_wp2_with (at_builtin; go_must (refine wpList_append_lit (J := J2) (s := .tmp 13) (x := .tmp 14) (t := 23) (e := 5) (base := w.heap.size) (v := v2) (n := l.length) (xs := bcs l) (m := 1) (news := bcs [7]) rfl (.int .u8 0) 1 1 rfl Try.underlying23 info_u8 rfl rfl (HE2.out.inv.alloc _) (HO2.out.alloc _) rfl (heap_alloc_new _ _) rfl (bcs_one _) (by simp only [maxLen]; omega) (by omega) (by have := HE2.out.below.size; simp; omega) ?_; rw [← bcs_append]; intro v3 w3 J3 ho3 hg3 _; have HE3 := Lib.hid ((HE2.out.alloc _).grew (HO2.out.alloc _) hg3); have hv3 := ho3.bs; clear ho3 hg3; obtain ⟨A3, c3, rfl, hn3, hm3⟩ := hv3.form; simp only [List.length_append, List.length_cons, List.length_nil, Nat.zero_add] at hn3 ⊢; have hin := Bs.take hv3 l.length (by simp); rw [List.take_left] at hin; have hbl := HE3.out.bs hI hb; clear hv3; unfold maxLen at hm3))
  go_wp2_with fail
  refine (open_yes HE3.out.inv hin (by omega) HO.out).mono ?_
  rintro e w4 ⟨v4, J4, rfl, hE4, ho4, -⟩
  rw [HN.out, Nat.add_sub_cancel] at ho4
  have hb4 := hE4.bs HE3.out.inv hbl
  have hi4 := hE4.bs HE3.out.inv hin
  have HE4 := Lib.hid (HE3.out.trans hE4)
  have HE34 := Lib.hid hE4
  have HO4 := Lib.hid ho4
  clear hE4 ho4
  have hsub : ((l.length : Int) - 4) = (n : Int) := by have := HN.out; omega
  go_wp2_with fail
  have hbt := Bs.take hb4 n (by have := HN.out; omega)
  refine (refseal_calls HE4.out.inv hbt (by rw [HL.out]; omega)).mono ?_
  rintro e w5 ⟨v5, J5, rfl, hE5, ho5⟩
  have hv5 := ho5.bs
  have hb5 := hE5.bs HE4.out.inv hb4
  have hi5 := hE5.bs HE4.out.inv hi4
  have HO5 := Lib.hid (HO4.out.ext hE5)
  have HE35 := Lib.hid (HE34.out.trans hE5)
  have HE5 := Lib.hid (HE4.out.trans hE5)
  clear hE5 ho5 hb4 hi4 hbt
  go_wp2_with fail
  refine (equal_calls HE5.out.inv hb5 hv5).mono ?_
  rw [hq]
  rintro e w6 ⟨rfl, rfl⟩
  go_wp2_with fail
  refine (equal_calls HE5.out.inv hi5 hb5).mono ?_
  rintro e w6 ⟨rfl, rfl⟩
  go_wp2_with fail
  have hbt := Bs.take hb5 n (by have := HN.out; omega)
  have hg5 := HO5.out.bs
  refine (equal_calls HE5.out.inv hg5 hbt).mono ?_
  rintro e w6 ⟨rfl, rfl⟩
  obtain ⟨A4, c4, rfl, hn4, hm4⟩ := HO5.out.sl.form
  have hz : ((l.length : Int) == 4) = ((n : Int) == 0) := by
    have := HN.out
    rw [Bool.eq_iff_iff]; simp; omega
  have HB3 := Lib.hid HE35.out.below
  have HI3 := Lib.hid HE3.out.inv
  go_wp2_with (first | ((refine wpList_clear_J (J := J5) (s := .tmp 68) (t := 23) (T := 5) (z := .int .u8 0) (bytes := 1) (base := w3.heap.size) (v := .slice A4 n c4) (n := n) (cs := bcs (l.take n)) rfl rfl Try.underlying23 info_u8 rfl rfl rfl HE5.out.inv HO5.out ?_; intro w6 J6 ho6 hi6 hg6 hs6 _; have hb6 := HB3.out.grown hg6 HB3.out.size (fun k hk => (HO5.out.lt k hk).1); have HB6 := Lib.hid hb6; have HO6 := Lib.hid ho6; have HI6 := Lib.hid hi6; have HN5 := Lib.hid (show Below w.heap.size w w6 from HE5.out.below.trans (Below.grown (Below.refl _ _) hg6 HE5.out.below.size (fun k hk => Nat.le_trans HE3.out.below.size (HO5.out.lt k hk).1))); clear hb6 ho6 hi6 hg6 hs6)) | (at_builtin; go_must (refine wpList_append_lit (J := J6) (s := .tmp 69) (x := .tmp 70) (t := 23) (e := 5) (base := w3.heap.size) (v := .slice A4 n c4) (n := n) (xs := List.replicate n (.int .u8 0)) (m := 1) (news := bcs [9]) rfl (.int .u8 0) 1 1 rfl Try.underlying23 info_u8 rfl rfl (HI6.out.alloc _) (HO6.out.alloc _) rfl (heap_alloc_new _ _) rfl (bcs_one _) (by simp only [maxLen]; omega) (by omega) (by have := HB6.out.size; simp; omega) ?_; intro v7 w7 J7 ho7 hg7 _; have hb7 := (HB6.out.alloc HB6.out.size _).grown hg7.grown (by have := HB6.out.size; simp; omega) (fun k hk => (HO6.out.lt k hk).1); have HI7 := Lib.hid (HI3.out.below hb7); have HN7 := Lib.hid (show Below w.heap.size w w7 from (HN5.out.alloc HN5.out.size _).grown hg7.grown (by have := HN5.out.size; simp; omega) (fun k hk => Nat.le_trans HE3.out.below.size (HO6.out.lt k hk).1)); clear ho7 hg7 hb7)))
  refine (equal_calls HI7.out hin hbl).mono ?_
  rintro e w8 ⟨rfl, rfl⟩
  go_wp2_with fail
  go_ret
  exact ⟨by simp, HN7.out⟩
set_option maxHeartbeats 2000000 in
theorem sumOpens_walk {J : Jm} {w : World} (hI : Inv J w) {v : Value} {l : List UInt8} (hb : Bs J v l) (_ : l.length ≤ 140737488351232) :
    Calls Try.prog 7 #[v] w fun e w' => e = .returned (.bool true) ∧ Below w.heap.size w w' := by
  obtain ⟨A, c, rfl, hn, hm⟩ := hb.form
  unfold maxLen at hm
  by_cases h1 : l.length ≤ 3000
  · cases ho : opens l with
    | true => exact opens_c hI hb hn (by omega) h1 ho
    | false =>
      by_cases h4 : l.length < 4
      · exact opens_a hI hb hn (by omega) h1 h4
      · exact opens_b hI hb hn (by omega) h1 h4 ho
  · go_enter Try.func7, Try.ntmps7
    go_wp2_with (go_at_call 9; go_must (refine (works_calls hI).mono ?_; rintro e w1 ⟨rfl, hb1⟩))
    go_ret
    exact ⟨rfl, hb1⟩
end Go.Proofs.Ytmagkejehbaodaa
