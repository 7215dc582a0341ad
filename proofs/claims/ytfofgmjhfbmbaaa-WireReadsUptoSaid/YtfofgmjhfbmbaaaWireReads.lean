/- The statement WireReads. -/
import Derived.Test.YtfofgmjhfbmbaaaWireAsk
import Derived.Test.YtfofgmjhfbmbaaaLSClone
import Derived.Test.YtfofgmjhfbmbaaaJCut
import Derived.Test.YtfofgmjhfbmbaaaWireAsks
import Derived.StillTailTactics
namespace Go.Proofs.Ytfofgmjhfbmbaaa
open Go.RowKit

set_option maxRecDepth 100000 in
set_option maxHeartbeats 8000000 in
theorem wireReads_walk {J : Jm} {w : World} (hI : Inv J w) {v u : Value} {l : List UInt8} {sc : List Ask} (hb : Bs J v l) (hl : l.length ≤ 1048576) (ha : As J u sc) (hal : sc.length ≤ 1048576)
    (hrg : ∀ (j : Nat) (h : j < sc.length), (-9223372036854775808 ≤ sc[j].most ∧ sc[j].most ≤ 9223372036854775807) ∧ -9223372036854775808 ≤ sc[j].longest ∧ sc[j].longest ≤ 9223372036854775807) :
    Calls Try.prog 7 #[v, u] w fun e w' => e = .returned (.bool true) ∧ Below w.heap.size w w' := by
  obtain ⟨A, c, rfl, hn, hm⟩ := id hb.form
  obtain ⟨A', c', rfl, hn', hm'⟩ := id ha.form
  unfold maxLen at hm hm'
  go_enter Try.func7, Try.ntmps7
  go_wp2_with (first | (go_at_call 9; go_must (refine (works_calls hI).mono ?_; rintro e w1 ⟨J1, rfl, hE⟩; have HE1 := Lib.hid hE; clear hE)) | (go_at_call 26; go_must (refine (sclone_calls HE1.out.inv (hb.mono (HE1.out.le hI)) (by omega)).mono ?_; rintro e w2 ⟨v2, J2, rfl, hE, hO, -⟩; have HE2 := Lib.hid (HE1.out.trans hE); have HO2 := Lib.hid (hO.lower HE1.out.below.size); clear hE hO)) | (at_builtin; go_must (refine wpList_append_lit (J := J2) (s := .tmp 31) (x := .tmp 32) (t := 24) (e := 5) (base := w.heap.size) (v := v2) (n := l.length) (xs := bcs l) (m := 2) (news := bcs [1, 2]) rfl (.int .u8 0) 1 1 rfl Try.underlying24 info_u8 rfl rfl (HE2.out.inv.alloc _) (HO2.out.alloc _) rfl (heap_alloc_new _ _) rfl (bcs_one _) (by simp only [maxLen]; omega) (by omega) (by have := HE2.out.below.size; simp; omega) ?_; intro v3 w3 J3 ho3 hg3 hv3; have HE3 := Lib.hid ((HE2.out.alloc _).grew (HO2.out.alloc _) hg3); have HO3 := Lib.hid ho3; have HV3 := Lib.hid hv3; clear ho3 hg3 hv3; have HCUT := Lib.hid (HO3.out.cut l.length (by omega) (by omega)); obtain ⟨g3, c3, rfl, hg3, hnc3, hm3, ho3, -, -, cur3, hcur3, hpre3⟩ := HCUT.out; rw [bcs_cut] at ho3 hpre3; have HE4 := Lib.hid (HE3.out.put hg3 hcur3 hpre3); have HO4 := Lib.hid ho3; have HB4 := Lib.hid ho3.bs; have HG3 := Lib.hid ((Array.getElem?_eq_some_iff.1 hcur3).1); have HGL := Lib.hid hg3; unfold maxLen at hm3; clear ho3 hcur3 hpre3 HCUT hg3)) | (go_at_call 14; go_must (refine (new_calls HE4.out.inv HB4.out (by omega)).mono ?_; rintro e w5 ⟨g, rfl, hg, hE, hC⟩; have HG : Hid (w.heap.size ≤ g) := Nat.le_trans HE4.out.below.size hg; have HGN : Hid (g3 < g) := Nat.lt_of_lt_of_le HG3.out hg; have HE5 := Lib.hid (HE4.out.trans hE); have HO5 := Lib.hid (HO4.out.ext hE); have HC5 := Lib.hid hC; clear hE hC hg)) | ((refine wpList_clear_J (J := J3.put g3 (bcs l)) (s := .tmp 41) (t := 24) (T := 5) (z := .int .u8 0) (bytes := 1) (base := w.heap.size) (v := .slice (some ⟨g3, 0, none⟩) l.length c3) (n := l.length) (cs := bcs l) rfl rfl Try.underlying24 info_u8 rfl rfl rfl HE5.out.inv HO5.out ?_; intro w6 J6 ho6 hi6 hg6 hs6 hj6; have HE6 := Lib.hid (HE5.out.cleared HO5.out (Nat.le_refl _) hi6 hg6 hj6); have HC6 : Hid (Cur J6 w6 g l 0) := ⟨(hg6.block g HC5.out.lt (by intro e; simp [Value.ownBlock] at e; have := HGN.out; omega)).trans HC5.out.1, (hj6 g (by intro e; simp [Value.ownBlock] at e; have := HGN.out; omega)).trans HC5.out.2.1, HC5.out.2.2⟩; clear ho6 hi6 hg6 hs6 hj6)))
  have HASK := Lib.hid (ha.mono (HE6.out.le hI))
  go_loopw [7, 44] (fun a i wr => ∃ (j q : Nat) (J' : Jm), j ≤ sc.length ∧ i = .int .i64 j ∧ a = .int .i64 q ∧ q ≤ l.length ∧ Hid (J6.le J') ∧ Hid (Ext J w J' wr) ∧ Hid (Cur J' wr g l q)) (fun _ i _ => sc.length - (intOf i).toNat)
  case atStart => exact ⟨0, 0, J6, by omega, rfl, rfl, by omega, Jm.le_refl _, HE6, HC6⟩
  case round =>
    obtain ⟨j, q, J', hj, rfl, rfl, hq, HLE, HE, HC⟩ := hrel
    by_cases hlt : j < sc.length
    · obtain ⟨b, o, rfl, c0, c1, c2⟩ := (HASK.out.mono HLE.out).cell HE.out.inv hlt
      have hr0 := hrg j hlt
      generalize sc[j] = x at *
      obtain ⟨kind, most, longest⟩ := x
      obtain ⟨⟨hm1, hm2⟩, hl1, hl2⟩ := hr0
      dsimp only at hm1 hm2 hl1 hl2
      have i0 : (0 : Int) ≤ (j : Int) := by omega
      have i1 : (j : Int) < sc.length := by omega
      have i2 : (0 : Int) ≤ (q : Int) := by omega
      have i3 : (q : Int) ≤ l.length := by omega
      obtain ⟨Q, hQ⟩ : ∃ Q, (if c = q then A else Option.map (fun x => x.add q) A) = Q := ⟨_, rfl⟩
      have hsub := (hb.mono (HE.out.le hI)).from' q hq
      rw [hQ] at hsub
      have HSUB := Lib.hid hsub
      clear hsub
      by_cases hk0 : kind = 0
      · subst hk0
        by_cases hneg : most < 0
        · cases hr : askU (l.drop q) 18446744073709551615 with
          | error x =>
            have hx0 := askU_err hr
            go_wp2_with (first | (go_at_call 27; go_must (have hE1 := HE.out.alloc (.cells #[.int .i64 0, .int .i64 most, .int .i64 longest] 51); have hC1 := HC.out.ext ((Ext.refl HE.out.inv).alloc (.cells #[.int .i64 0, .int .i64 most, .int .i64 longest] 51)); refine (askUint_calls hE1.inv HSUB.out 18446744073709551615 (by decide)).mono ?_; rw [hr]; rintro e w7 ⟨rfl, hw⟩; rw [← hw] at hE1 hC1; clear hw; have HE2 := Lib.hid hE1; have HC2 := Lib.hid hC1; clear hE1 hC1)) | (go_at_call 15; go_must (refine (Uint_calls HE2.out.inv HC2.out 18446744073709551615 (by decide)).mono ?_; rw [hr]; rintro e w8 ⟨k',⟨rfl,hk'⟩,hM,hC⟩; have hk' := hk'.symm; subst hk'; have HE3 := Lib.hid (HE2.out.moved hM (by intro b h1 h2; have := HG.out; omega)); have HC3 := Lib.hid hC; clear hM hC)) | (go_at_call 18; go_must (refine (at_calls HC3.out).mono ?_; rintro e w9 ⟨rfl, rfl⟩)) | (go_at_call 19; go_must (refine (left_calls HC3.out).mono ?_; rintro e w10 ⟨rfl, hB⟩; have HE4 := Lib.hid (HE3.out.step hB); have HC4 := Lib.hid (HC3.out.ext (Ext.of_below HE3.out.inv hB)); clear hB)))
            go_roundw
            case rel => exact ⟨j + 1, q, J', by omega, by go_num, by go_num, hq, HLE, HE4, HC4⟩
            case measure => simp [intOf] <;> omega
          | ok nd =>
            obtain ⟨n, d⟩ := nd
            have hd := (askU_ok hr).2.1
            have hqd : q + d ≤ l.length := by have := List.length_drop (i := q) (l := l); omega
            clear hd
            go_wp2_with (first | (go_at_call 27; go_must (have hE1 := HE.out.alloc (.cells #[.int .i64 0, .int .i64 most, .int .i64 longest] 51); have hC1 := HC.out.ext ((Ext.refl HE.out.inv).alloc (.cells #[.int .i64 0, .int .i64 most, .int .i64 longest] 51)); refine (askUint_calls hE1.inv HSUB.out 18446744073709551615 (by decide)).mono ?_; rw [hr]; rintro e w7 ⟨rfl, hw⟩; rw [← hw] at hE1 hC1; clear hw; have HE2 := Lib.hid hE1; have HC2 := Lib.hid hC1; clear hE1 hC1)) | (go_at_call 15; go_must (refine (Uint_calls HE2.out.inv HC2.out 18446744073709551615 (by decide)).mono ?_; rw [hr]; rintro e w8 ⟨k',⟨rfl,hk'⟩,hM,hC⟩; have hk' := hk'.symm; subst hk'; have HE3 := Lib.hid (HE2.out.moved hM (by intro b h1 h2; have := HG.out; omega)); have HC3 := Lib.hid hC; clear hM hC)) | (go_at_call 18; go_must (refine (at_calls HC3.out).mono ?_; rintro e w9 ⟨rfl, rfl⟩)) | (go_at_call 19; go_must (refine (left_calls HC3.out).mono ?_; rintro e w10 ⟨rfl, hB⟩; have HE4 := Lib.hid (HE3.out.step hB); have HC4 := Lib.hid (HC3.out.ext (Ext.of_below HE3.out.inv hB)); clear hB)))
            go_roundw
            case rel => exact ⟨j + 1, q + d, J', by omega, by go_num, by go_num, hqd, HLE, HE4, HC4⟩
            case measure => simp [intOf] <;> omega
        · obtain ⟨m, rfl⟩ : ∃ m : Nat, most = m := ⟨most.toNat, by omega⟩
          have hwm : IntKind.u64.wrap (m : Int) = (m : Int) := by rw [IntKind.wrap_u64]; omega
          cases hr : askU (l.drop q) m with
          | error x =>
            have hx0 := askU_err hr
            go_wp2_with (first | (go_at_call 27; go_must (have hE1 := HE.out.alloc (.cells #[.int .i64 0, .int .i64 (m : Int), .int .i64 longest] 51); have hC1 := HC.out.ext ((Ext.refl HE.out.inv).alloc (.cells #[.int .i64 0, .int .i64 (m : Int), .int .i64 longest] 51)); refine (askUint_calls hE1.inv HSUB.out m (by omega)).mono ?_; rw [hr]; rintro e w7 ⟨rfl, hw⟩; rw [← hw] at hE1 hC1; clear hw; have HE2 := Lib.hid hE1; have HC2 := Lib.hid hC1; clear hE1 hC1)) | (go_at_call 15; go_must (refine (Uint_calls HE2.out.inv HC2.out m (by omega)).mono ?_; rw [hr]; rintro e w8 ⟨k',⟨rfl,hk'⟩,hM,hC⟩; have hk' := hk'.symm; subst hk'; have HE3 := Lib.hid (HE2.out.moved hM (by intro b h1 h2; have := HG.out; omega)); have HC3 := Lib.hid hC; clear hM hC)) | (go_at_call 18; go_must (refine (at_calls HC3.out).mono ?_; rintro e w9 ⟨rfl, rfl⟩)) | (go_at_call 19; go_must (refine (left_calls HC3.out).mono ?_; rintro e w10 ⟨rfl, hB⟩; have HE4 := Lib.hid (HE3.out.step hB); have HC4 := Lib.hid (HC3.out.ext (Ext.of_below HE3.out.inv hB)); clear hB)))
            go_roundw
            case rel => exact ⟨j + 1, q, J', by omega, by go_num, by go_num, hq, HLE, HE4, HC4⟩
            case measure => simp [intOf] <;> omega
          | ok nd =>
            obtain ⟨n, d⟩ := nd
            have hd := (askU_ok hr).2.1
            have hqd : q + d ≤ l.length := by have := List.length_drop (i := q) (l := l); omega
            clear hd
            go_wp2_with (first | (go_at_call 27; go_must (have hE1 := HE.out.alloc (.cells #[.int .i64 0, .int .i64 (m : Int), .int .i64 longest] 51); have hC1 := HC.out.ext ((Ext.refl HE.out.inv).alloc (.cells #[.int .i64 0, .int .i64 (m : Int), .int .i64 longest] 51)); refine (askUint_calls hE1.inv HSUB.out m (by omega)).mono ?_; rw [hr]; rintro e w7 ⟨rfl, hw⟩; rw [← hw] at hE1 hC1; clear hw; have HE2 := Lib.hid hE1; have HC2 := Lib.hid hC1; clear hE1 hC1)) | (go_at_call 15; go_must (refine (Uint_calls HE2.out.inv HC2.out m (by omega)).mono ?_; rw [hr]; rintro e w8 ⟨k',⟨rfl,hk'⟩,hM,hC⟩; have hk' := hk'.symm; subst hk'; have HE3 := Lib.hid (HE2.out.moved hM (by intro b h1 h2; have := HG.out; omega)); have HC3 := Lib.hid hC; clear hM hC)) | (go_at_call 18; go_must (refine (at_calls HC3.out).mono ?_; rintro e w9 ⟨rfl, rfl⟩)) | (go_at_call 19; go_must (refine (left_calls HC3.out).mono ?_; rintro e w10 ⟨rfl, hB⟩; have HE4 := Lib.hid (HE3.out.step hB); have HC4 := Lib.hid (HC3.out.ext (Ext.of_below HE3.out.inv hB)); clear hB)))
            go_roundw
            case rel => exact ⟨j + 1, q + d, J', by omega, by go_num, by go_num, hqd, HLE, HE4, HC4⟩
            case measure => simp [intOf] <;> omega
      · by_cases hk1 : kind = 1
        · subst hk1
          cases hr : rdT (l.drop q) most with
          | error x =>
            have hx0 := rdT_err hr
            go_wp2_with fail
            have hE1 := HE.out.alloc (.cells #[.int .i64 1, .int .i64 most, .int .i64 longest] 51)
            have hC1 := HC.out.ext ((Ext.refl HE.out.inv).alloc (.cells #[.int .i64 1, .int .i64 most, .int .i64 longest] 51))
            have hsz : wr.heap.size < (wr.alloc (.cells #[.int .i64 1, .int .i64 most, .int .i64 longest] 51)).heap.size := by simp [go_sem]
            have d0 : (wr.alloc (.cells #[.int .i64 1, .int .i64 most, .int .i64 longest] 51)).cell? ⟨wr.heap.size, 0, none⟩ = some (.int .i64 1) := by simp [go_sem]
            have d1 : (wr.alloc (.cells #[.int .i64 1, .int .i64 most, .int .i64 longest] 51)).cell? ⟨wr.heap.size, 1, none⟩ = some (.int .i64 most) := by simp [go_sem]
            have d2 : (wr.alloc (.cells #[.int .i64 1, .int .i64 most, .int .i64 longest] 51)).cell? ⟨wr.heap.size, 2, none⟩ = some (.int .i64 longest) := by simp [go_sem]
            generalize wr.alloc (.cells #[.int .i64 1, .int .i64 most, .int .i64 longest] 51) = w7 at *
            have hAsk := fun n => askText_calls (hE1.inv.drewN n) HSUB.out most hm1 hm2
            simp only [hr] at hAsk
            go_quiet ((go_at_call 28; exact Calls.quiet_of_same (hAsk _)))
            have HE2 := Lib.hid (hE1.drewN nq)
            have HC2 : Hid (Cur J' (w7.drewN nq) g l q) := hC1
            have e0 : (w7.drewN nq).cell? ⟨wr.heap.size, 0, none⟩ = some (.int .i64 1) := d0
            have e1 : (w7.drewN nq).cell? ⟨wr.heap.size, 1, none⟩ = some (.int .i64 most) := d1
            have e2 : (w7.drewN nq).cell? ⟨wr.heap.size, 2, none⟩ = some (.int .i64 longest) := d2
            clear hE1 hC1 d0 d1 d2 hAsk
            generalize w7.drewN nq = w8 at *
            go_wp2_with (first | (go_at_call 16; go_must (refine (Text_calls HE2.out.inv HC2.out most hm1 hm2).mono ?_; rw [hr]; rintro e w9 ⟨k', ⟨rfl, hk'⟩, hM, hC⟩; have hk' := hk'.symm; subst hk'; have HE3 := Lib.hid (HE2.out.moved hM (by intro b h1 h2; have := HG.out; omega)); have HC3 := Lib.hid hC; clear hM hC)) | (go_at_call 18; go_must (refine (at_calls HC3.out).mono ?_; rintro e w9 ⟨rfl, rfl⟩)) | (go_at_call 19; go_must (refine (left_calls HC3.out).mono ?_; rintro e w10 ⟨rfl, hB⟩; have HE4 := Lib.hid (HE3.out.step hB); have HC4 := Lib.hid (HC3.out.ext (Ext.of_below HE3.out.inv hB)); clear hB)))
            go_roundw
            case rel => exact ⟨j + 1, q, J', by omega, by go_num, by go_num, hq, HLE, HE4, HC4⟩
            case measure => simp [intOf] <;> omega
          | ok nd =>
            obtain ⟨n, d⟩ := nd
            have hd := (rdT_ok2 hr).2.1
            have hqd : q + d ≤ l.length := by have := List.length_drop (i := q) (l := l); omega
            clear hd
            go_wp2_with fail
            have hE1 := HE.out.alloc (.cells #[.int .i64 1, .int .i64 most, .int .i64 longest] 51)
            have hC1 := HC.out.ext ((Ext.refl HE.out.inv).alloc (.cells #[.int .i64 1, .int .i64 most, .int .i64 longest] 51))
            have hsz : wr.heap.size < (wr.alloc (.cells #[.int .i64 1, .int .i64 most, .int .i64 longest] 51)).heap.size := by simp [go_sem]
            have d0 : (wr.alloc (.cells #[.int .i64 1, .int .i64 most, .int .i64 longest] 51)).cell? ⟨wr.heap.size, 0, none⟩ = some (.int .i64 1) := by simp [go_sem]
            have d1 : (wr.alloc (.cells #[.int .i64 1, .int .i64 most, .int .i64 longest] 51)).cell? ⟨wr.heap.size, 1, none⟩ = some (.int .i64 most) := by simp [go_sem]
            have d2 : (wr.alloc (.cells #[.int .i64 1, .int .i64 most, .int .i64 longest] 51)).cell? ⟨wr.heap.size, 2, none⟩ = some (.int .i64 longest) := by simp [go_sem]
            generalize wr.alloc (.cells #[.int .i64 1, .int .i64 most, .int .i64 longest] 51) = w7 at *
            have hAsk := fun n => askText_calls (hE1.inv.drewN n) HSUB.out most hm1 hm2
            simp only [hr] at hAsk
            go_quiet ((go_at_call 28; exact Calls.quiet_of_same (hAsk _)))
            have HE2 := Lib.hid (hE1.drewN nq)
            have HC2 : Hid (Cur J' (w7.drewN nq) g l q) := hC1
            have e0 : (w7.drewN nq).cell? ⟨wr.heap.size, 0, none⟩ = some (.int .i64 1) := d0
            have e1 : (w7.drewN nq).cell? ⟨wr.heap.size, 1, none⟩ = some (.int .i64 most) := d1
            have e2 : (w7.drewN nq).cell? ⟨wr.heap.size, 2, none⟩ = some (.int .i64 longest) := d2
            clear hE1 hC1 d0 d1 d2 hAsk
            generalize w7.drewN nq = w8 at *
            go_wp2_with (first | (go_at_call 16; go_must (refine (Text_calls HE2.out.inv HC2.out most hm1 hm2).mono ?_; rw [hr]; rintro e w9 ⟨k', ⟨rfl, hk'⟩, hM, hC⟩; have hk' := hk'.symm; subst hk'; have HE3 := Lib.hid (HE2.out.moved hM (by intro b h1 h2; have := HG.out; omega)); have HC3 := Lib.hid hC; clear hM hC)) | (go_at_call 18; go_must (refine (at_calls HC3.out).mono ?_; rintro e w9 ⟨rfl, rfl⟩)) | (go_at_call 19; go_must (refine (left_calls HC3.out).mono ?_; rintro e w10 ⟨rfl, hB⟩; have HE4 := Lib.hid (HE3.out.step hB); have HC4 := Lib.hid (HC3.out.ext (Ext.of_below HE3.out.inv hB)); clear hB)))
            go_roundw
            case rel => exact ⟨j + 1, q + d, J', by omega, by go_num, by go_num, hqd, HLE, HE4, HC4⟩
            case measure => simp [intOf] <;> omega
        · by_cases hk2 : kind = 2
          · subst hk2
            cases hr : rdL (l.drop q) most longest with
            | error x =>
              have hx0 := rdL_err hr
              go_wp2_with fail
              have hE1 := HE.out.alloc (.cells #[.int .i64 2, .int .i64 most, .int .i64 longest] 51)
              have hC1 := HC.out.ext ((Ext.refl HE.out.inv).alloc (.cells #[.int .i64 2, .int .i64 most, .int .i64 longest] 51))
              have hsz : wr.heap.size < (wr.alloc (.cells #[.int .i64 2, .int .i64 most, .int .i64 longest] 51)).heap.size := by simp [go_sem]
              have d0 : (wr.alloc (.cells #[.int .i64 2, .int .i64 most, .int .i64 longest] 51)).cell? ⟨wr.heap.size, 0, none⟩ = some (.int .i64 2) := by simp [go_sem]
              have d1 : (wr.alloc (.cells #[.int .i64 2, .int .i64 most, .int .i64 longest] 51)).cell? ⟨wr.heap.size, 1, none⟩ = some (.int .i64 most) := by simp [go_sem]
              have d2 : (wr.alloc (.cells #[.int .i64 2, .int .i64 most, .int .i64 longest] 51)).cell? ⟨wr.heap.size, 2, none⟩ = some (.int .i64 longest) := by simp [go_sem]
              generalize wr.alloc (.cells #[.int .i64 2, .int .i64 most, .int .i64 longest] 51) = w7 at *
              have hq43 : (l.drop q).length ≤ 8796093022208 := by simp; omega
              have d1' : w7.drew.cell? ⟨wr.heap.size, 1, none⟩ = some (.int .i64 most) := d1
              have d2' : w7.drew.cell? ⟨wr.heap.size, 2, none⟩ = some (.int .i64 longest) := d2
              have hsz' : wr.heap.size < w7.drew.heap.size := hsz
              go_region_held3 (fun w' => w'.cell? ⟨wr.heap.size, 1, none⟩ = some (.int .i64 most) ∧ w'.cell? ⟨wr.heap.size, 2, none⟩ = some (.int .i64 longest))
                (first | go_keep | exact HKEEP.out)
                ((go_at_call 29; refine (askList_calls hE1.inv.drew HSUB.out hq43 most longest hm1 hm2 hl1 hl2).mono ?_; rw [hr]; rintro e w8 ⟨J8, rfl, hX⟩; have HKEEP : Hid (w8.cell? ⟨wr.heap.size, 1, none⟩ = some (.int .i64 most) ∧ w8.cell? ⟨wr.heap.size, 2, none⟩ = some (.int .i64 longest)) := ⟨(hX.below.cell hsz').trans d1', (hX.below.cell hsz').trans d2'⟩; have HE2 := Lib.hid (hE1.drew.trans hX); have HC2 := Lib.hid (Cur.ext (w := w7.drew) hC1 hX); have HL2 := Lib.hid (hX.le hE1.inv.drew); clear hX))
              clear hE1 hC1 d0 d1 d2 d1' d2'
              go_wp2_with (first | (go_at_call 17; go_must (refine (List_calls HE2.out.inv HC2.out (by omega) most longest hm1 hm2 hl1 hl2).mono ?_; rw [hr]; rintro e w9 ⟨k', J9, ⟨rfl,hk'⟩, hM, hC⟩; have hk' := hk'.symm; subst hk'; have HE3 := Lib.hid (HE2.out.moved hM (by intro b h1 h2; have := HG.out; omega)); have HC3 := Lib.hid hC; have HLE9 := Lib.hid (hM.le HE2.out.inv); clear hM hC)) | (go_at_call 21; go_must (refine (sequal_calls HE3.out.inv (show Ss J9 (.slice none 0 0) [] from Sl.nil J9 1) (show Ss J9 (.slice none 0 0) [] from Sl.nil J9 1)).mono ?_; rintro e w11 ⟨rfl, hB⟩; rw [decide_eq_true rfl]; have HC3 := Lib.hid (HC3.out.ext (Ext.of_below HE3.out.inv hB)); have HE3 := Lib.hid (HE3.out.step hB); clear hB)) | (go_at_call 18; go_must (refine (at_calls HC3.out).mono ?_; rintro e w9 ⟨rfl, rfl⟩)) | (go_at_call 19; go_must (refine (left_calls HC3.out).mono ?_; rintro e w10 ⟨rfl, hB⟩; have HE4 := Lib.hid (HE3.out.step hB); have HC4 := Lib.hid (HC3.out.ext (Ext.of_below HE3.out.inv hB)); clear hB)))
              go_roundw
              case rel => exact ⟨j + 1, q, J9, by omega, by go_num, by go_num, hq, (fun b => (HLE.out b).trans ((HL2.out b).trans (HLE9.out b))), HE4, HC4⟩
              case measure => simp [intOf] <;> omega
            | ok nd =>
              obtain ⟨ts, d⟩ := nd
              have hd := (rdL_ok2 hr).2.1
              have hqd : q + d ≤ l.length := by have := List.length_drop (i := q) (l := l); omega
              clear hd
              go_wp2_with fail
              have hE1 := HE.out.alloc (.cells #[.int .i64 2, .int .i64 most, .int .i64 longest] 51)
              have hC1 := HC.out.ext ((Ext.refl HE.out.inv).alloc (.cells #[.int .i64 2, .int .i64 most, .int .i64 longest] 51))
              have hsz : wr.heap.size < (wr.alloc (.cells #[.int .i64 2, .int .i64 most, .int .i64 longest] 51)).heap.size := by simp [go_sem]
              have d0 : (wr.alloc (.cells #[.int .i64 2, .int .i64 most, .int .i64 longest] 51)).cell? ⟨wr.heap.size, 0, none⟩ = some (.int .i64 2) := by simp [go_sem]
              have d1 : (wr.alloc (.cells #[.int .i64 2, .int .i64 most, .int .i64 longest] 51)).cell? ⟨wr.heap.size, 1, none⟩ = some (.int .i64 most) := by simp [go_sem]
              have d2 : (wr.alloc (.cells #[.int .i64 2, .int .i64 most, .int .i64 longest] 51)).cell? ⟨wr.heap.size, 2, none⟩ = some (.int .i64 longest) := by simp [go_sem]
              generalize wr.alloc (.cells #[.int .i64 2, .int .i64 most, .int .i64 longest] 51) = w7 at *
              have hq43 : (l.drop q).length ≤ 8796093022208 := by simp; omega
              have d1' : w7.drew.cell? ⟨wr.heap.size, 1, none⟩ = some (.int .i64 most) := d1
              have d2' : w7.drew.cell? ⟨wr.heap.size, 2, none⟩ = some (.int .i64 longest) := d2
              have hsz' : wr.heap.size < w7.drew.heap.size := hsz
              go_region_held3 (fun w' => w'.cell? ⟨wr.heap.size, 1, none⟩ = some (.int .i64 most) ∧ w'.cell? ⟨wr.heap.size, 2, none⟩ = some (.int .i64 longest))
                (first | go_keep | exact HKEEP.out)
                ((go_at_call 29; refine (askList_calls hE1.inv.drew HSUB.out hq43 most longest hm1 hm2 hl1 hl2).mono ?_; rw [hr]; rintro e w8 ⟨J8, ⟨v8,rfl,hs8⟩, hX⟩; have HKEEP : Hid (w8.cell? ⟨wr.heap.size, 1, none⟩ = some (.int .i64 most) ∧ w8.cell? ⟨wr.heap.size, 2, none⟩ = some (.int .i64 longest)) := ⟨(hX.below.cell hsz').trans d1', (hX.below.cell hsz').trans d2'⟩; have HE2 := Lib.hid (hE1.drew.trans hX); have HC2 := Lib.hid (Cur.ext (w := w7.drew) hC1 hX); have HL2 := Lib.hid (hX.le hE1.inv.drew); clear hX))
              clear hE1 hC1 d0 d1 d2 d1' d2'
              go_wp2_with (first | (go_at_call 17; go_must (refine (List_calls HE2.out.inv HC2.out (by omega) most longest hm1 hm2 hl1 hl2).mono ?_; rw [hr]; rintro e w9 ⟨k', J9, ⟨⟨v9,rfl,hs9⟩,hk'⟩, hM, hC⟩; have hk' := hk'.symm; subst hk'; have HE3 := Lib.hid (HE2.out.moved hM (by intro b h1 h2; have := HG.out; omega)); have HC3 := Lib.hid hC; have HLE9 := Lib.hid (hM.le HE2.out.inv); clear hM hC)) | (go_at_call 21; go_must (refine (sequal_calls HE3.out.inv hs9 (Sl.mono hs8 HLE9.out)).mono ?_; rintro e w11 ⟨rfl, hB⟩; rw [decide_eq_true rfl]; have HC3 := Lib.hid (HC3.out.ext (Ext.of_below HE3.out.inv hB)); have HE3 := Lib.hid (HE3.out.step hB); clear hB)) | (go_at_call 18; go_must (refine (at_calls HC3.out).mono ?_; rintro e w9 ⟨rfl, rfl⟩)) | (go_at_call 19; go_must (refine (left_calls HC3.out).mono ?_; rintro e w10 ⟨rfl, hB⟩; have HE4 := Lib.hid (HE3.out.step hB); have HC4 := Lib.hid (HC3.out.ext (Ext.of_below HE3.out.inv hB)); clear hB)))
              go_roundw
              case rel => exact ⟨j + 1, q + d, J9, by omega, by go_num, by go_num, hqd, (fun b => (HLE.out b).trans ((HL2.out b).trans (HLE9.out b))), HE4, HC4⟩
              case measure => simp [intOf] <;> omega
          · go_wp2_with (first | (go_at_call 18; go_must (have hE1 := HE.out.alloc (.cells #[.int .i64 kind, .int .i64 most, .int .i64 longest] 51); have hC1 := HC.out.ext ((Ext.refl HE.out.inv).alloc (.cells #[.int .i64 kind, .int .i64 most, .int .i64 longest] 51)); refine (at_calls hC1).mono ?_; rintro e w9 ⟨rfl, hw⟩; rw [← hw] at hE1 hC1; clear hw; have HE3 := Lib.hid hE1; have HC3 := Lib.hid hC1; clear hE1 hC1)) | (go_at_call 19; go_must (refine (left_calls HC3.out).mono ?_; rintro e w10 ⟨rfl, hB⟩; have HE4 := Lib.hid (HE3.out.step hB); have HC4 := Lib.hid (HC3.out.ext (Ext.of_below HE3.out.inv hB)); clear hB)))
            go_roundw
            case rel => exact ⟨j + 1, q, J', by omega, by go_num, by go_num, hq, HLE, HE4, HC4⟩
            case measure => simp [intOf] <;> omega
    · obtain rfl : j = sc.length := by omega
      go_wp2
      go_ret
      exact ⟨rfl, HE.out.below⟩
end Go.Proofs.Ytfofgmjhfbmbaaa
