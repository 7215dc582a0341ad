/- SumSpoilt: bits turned over within 32 that follow one another are found out. The walk of the statement. -/
import Derived.Test.YtmagkejehbaodaaSumWorks
import Derived.Test.YtmagkejehbaodaaSumBurst
namespace Go.Proofs.Ytmagkejehbaodaa
open Go.RowKit

theorem opens_sealed (l : List UInt8) : opens (sealed l) = true := by
  unfold opens
  have hl := sealed_length l
  have : (sealed l).take ((sealed l).length - 4) = l := by rw [hl, Nat.add_sub_cancel, sealed]; simp
  rw [this, hl]; simp
theorem opens_burst (l t : List UInt8) (p b : Nat) (hlen : t.length = l.length + 4) (hp : p ≤ 8 * t.length) (hb : b < 4294967296) (hb0 : b ≠ 0)
    (hn : num t = num (sealed l) ^^^ 2 ^ p * b) : opens t = false := by
  have := burst l t p b hlen hp hb hb0 hn
  unfold opens
  simp [this]
theorem shr_bit (bits k : Nat) (hb : bits < 4294967296) : (Go.bits .and .u32 ((bits : Int) / 2 ^ k) 1 == 1) = bits.testBit k := by
  have h := u32_low (bits / 2 ^ k) (Nat.lt_of_le_of_lt (Nat.div_le_self _ _) hb)
  rw [Int.natCast_ediv, Int.natCast_pow] at h
  rw [show ((2 : Nat) : Int) = 2 from rfl] at h
  rw [h, Nat.testBit_eq_decide_div_mod_eq]
theorem turn_val (x : UInt8) (am : Nat) : Value.int .u8 (Go.bits .xor .u8 (x.toNat : Int) (2 ^ am % 256)) = bv (x ^^^ UInt8.ofNat (2 ^ am)) := by
  have h := u8_xor_nat x.toNat (2 ^ am % 256) (UInt8.toNat_lt x) (Nat.mod_lt _ (by decide))
  rw [Int.natCast_emod, Int.natCast_pow] at h
  rw [show ((2 : Nat) : Int) = 2 from rfl, show ((256 : Nat) : Int) = 256 from rfl] at h
  rw [h, bv, UInt8.toNat_xor, UInt8.toNat_ofNat']
set_option maxHeartbeats 4000000 in
theorem spoilt_out {J : Jm} {w : World} (hI : Inv J w) {A : Option Addr} {c : Nat} {l : List UInt8} (hb : Bs J (.slice A l.length c) l) (h1 : l.length ≤ 3000) (p : Int) (bits : Nat) (hout : bits = 0 ∨ p < 0 ∨ 8 * (l.length + 4 : Int) < p) :
    Calls Try.prog 5 #[.slice A l.length c, .int .i64 p, .int .u32 bits] w fun e w' => e = .returned (.bool true) ∧ Below w.heap.size w w' := by
  have hcases : (((bits : Int) == 0) = true) ∨ (((bits : Int) == 0) = false ∧ p < 0) ∨ (((bits : Int) == 0) = false ∧ 0 ≤ p ∧ 8 * ((l.length : Int) + 4) < p) := by
    by_cases h0 : bits = 0
    · left; simp [h0]
    · have h0' : ((bits : Int) == 0) = false := by simp; exact h0
      by_cases hp : p < 0
      · exact .inr (.inl ⟨h0', hp⟩)
      · exact .inr (.inr ⟨h0', by omega, by omega⟩)
  clear hout
  rcases hcases with h0 | ⟨h0, hp⟩ | ⟨h0, hp, hp2⟩
  ·
    go_enter Try.func5, Try.ntmps5
    go_wp2_with fail
    refine (works_calls hI).mono ?_
    rintro e w1 ⟨rfl, hb1⟩
    have HE1 := Lib.hid ((Ext.refl hI).step hb1)
    clear hb1
    go_wp2_with fail
    refine (seal_calls HE1.out.inv hb (by omega)).mono ?_
    rintro e w2 ⟨g, J2, rfl, hE2, hge, hg, hJg⟩
    have HE2 := Lib.hid (HE1.out.trans hE2)
    have HG := Lib.hid hg
    have HGE := Lib.hid (Nat.le_trans HE1.out.below.size hge)
    have HJ := Lib.hid hJg
    have hE2' := HE2.out.put HGE.out hg (cs := bcs (sealed l)) (by simp)
    have hs2 : Bs (J2.put g (bcs (sealed l))) (.slice (some ⟨g, 0, none⟩) (l.length + 4) (l.length + 4)) (sealed l) := Bs.of_block J2 (sealed_length l) (by simp only [maxLen]; omega)
    have hl2 := hE2'.bs hI hb
    have HE2' := Lib.hid hE2'
    clear hE2 hge hg hJg hE2'
    go_wp2_with fail
    refine (open_yes HE2'.out.inv hs2 (by rw [sealed_length]; omega) (opens_sealed l)).mono ?_
    rintro e w3 ⟨v3, J3, rfl, hE3, ho3, -⟩
    rw [show (sealed l).length - 4 = l.length by rw [sealed_length]; omega] at ho3
    rw [show (sealed l).take l.length = l by rw [sealed]; simp] at ho3
    have hv3 := ho3.bs
    have hl3 := hE3.bs HE2'.out.inv hl2
    have HE3 := Lib.hid (HE2'.out.trans hE3)
    have HEJ := Lib.hid (HE2.out.step hE3.below)
    have HG3 := Lib.hid ((hE3.below.block g (Array.getElem?_eq_some_iff.1 HG.out).1).trans HG.out)
    clear hE3 ho3 hs2 hl2
    go_wp2_with fail
    refine (equal_calls HE3.out.inv hv3 hl3).mono ?_
    rintro e w4 ⟨rfl, rfl⟩
    go_wp2_with fail
    go_ret
    exact ⟨rfl, HE3.out.below⟩
  ·
    go_enter Try.func5, Try.ntmps5
    go_wp2_with fail
    refine (works_calls hI).mono ?_
    rintro e w1 ⟨rfl, hb1⟩
    have HE1 := Lib.hid ((Ext.refl hI).step hb1)
    clear hb1
    go_wp2_with fail
    refine (seal_calls HE1.out.inv hb (by omega)).mono ?_
    rintro e w2 ⟨g, J2, rfl, hE2, hge, hg, hJg⟩
    have HE2 := Lib.hid (HE1.out.trans hE2)
    have HG := Lib.hid hg
    have HGE := Lib.hid (Nat.le_trans HE1.out.below.size hge)
    have HJ := Lib.hid hJg
    have hE2' := HE2.out.put HGE.out hg (cs := bcs (sealed l)) (by simp)
    have hs2 : Bs (J2.put g (bcs (sealed l))) (.slice (some ⟨g, 0, none⟩) (l.length + 4) (l.length + 4)) (sealed l) := Bs.of_block J2 (sealed_length l) (by simp only [maxLen]; omega)
    have hl2 := hE2'.bs hI hb
    have HE2' := Lib.hid hE2'
    clear hE2 hge hg hJg hE2'
    go_wp2_with fail
    refine (open_yes HE2'.out.inv hs2 (by rw [sealed_length]; omega) (opens_sealed l)).mono ?_
    rintro e w3 ⟨v3, J3, rfl, hE3, ho3, -⟩
    rw [show (sealed l).length - 4 = l.length by rw [sealed_length]; omega] at ho3
    rw [show (sealed l).take l.length = l by rw [sealed]; simp] at ho3
    have hv3 := ho3.bs
    have hl3 := hE3.bs HE2'.out.inv hl2
    have HE3 := Lib.hid (HE2'.out.trans hE3)
    have HEJ := Lib.hid (HE2.out.step hE3.below)
    have HG3 := Lib.hid ((hE3.below.block g (Array.getElem?_eq_some_iff.1 HG.out).1).trans HG.out)
    clear hE3 ho3 hs2 hl2
    go_wp2_with fail
    refine (equal_calls HE3.out.inv hv3 hl3).mono ?_
    rintro e w4 ⟨rfl, rfl⟩
    go_wp2_with fail
    go_ret
    exact ⟨rfl, HE3.out.below⟩
  ·
    go_enter Try.func5, Try.ntmps5
    go_wp2_with fail
    refine (works_calls hI).mono ?_
    rintro e w1 ⟨rfl, hb1⟩
    have HE1 := Lib.hid ((Ext.refl hI).step hb1)
    clear hb1
    go_wp2_with fail
    refine (seal_calls HE1.out.inv hb (by omega)).mono ?_
    rintro e w2 ⟨g, J2, rfl, hE2, hge, hg, hJg⟩
    have HE2 := Lib.hid (HE1.out.trans hE2)
    have HG := Lib.hid hg
    have HGE := Lib.hid (Nat.le_trans HE1.out.below.size hge)
    have HJ := Lib.hid hJg
    have hE2' := HE2.out.put HGE.out hg (cs := bcs (sealed l)) (by simp)
    have hs2 : Bs (J2.put g (bcs (sealed l))) (.slice (some ⟨g, 0, none⟩) (l.length + 4) (l.length + 4)) (sealed l) := Bs.of_block J2 (sealed_length l) (by simp only [maxLen]; omega)
    have hl2 := hE2'.bs hI hb
    have HE2' := Lib.hid hE2'
    clear hE2 hge hg hJg hE2'
    go_wp2_with fail
    refine (open_yes HE2'.out.inv hs2 (by rw [sealed_length]; omega) (opens_sealed l)).mono ?_
    rintro e w3 ⟨v3, J3, rfl, hE3, ho3, -⟩
    rw [show (sealed l).length - 4 = l.length by rw [sealed_length]; omega] at ho3
    rw [show (sealed l).take l.length = l by rw [sealed]; simp] at ho3
    have hv3 := ho3.bs
    have hl3 := hE3.bs HE2'.out.inv hl2
    have HE3 := Lib.hid (HE2'.out.trans hE3)
    have HEJ := Lib.hid (HE2.out.step hE3.below)
    have HG3 := Lib.hid ((hE3.below.block g (Array.getElem?_eq_some_iff.1 HG.out).1).trans HG.out)
    clear hE3 ho3 hs2 hl2
    go_wp2_with fail
    refine (equal_calls HE3.out.inv hv3 hl3).mono ?_
    rintro e w4 ⟨rfl, rfl⟩
    go_wp2_with fail
    go_ret
    exact ⟨rfl, HE3.out.below⟩

set_option maxHeartbeats 8000000 in
theorem spoilt_in {J : Jm} {w : World} (hI : Inv J w) {A : Option Addr} {c : Nat} {l : List UInt8} (hb : Bs J (.slice A l.length c) l) (h1 : l.length ≤ 3000) (q : Nat) (bits : Nat) (hbits : bits < 4294967296) (h0 : ((bits : Int) == 0) = false) (hq : q ≤ 8 * (l.length + 4)) :
    Calls Try.prog 5 #[.slice A l.length c, .int .i64 q, .int .u32 bits] w fun e w' => e = .returned (.bool true) ∧ Below w.heap.size w w' := by
  go_enter Try.func5, Try.ntmps5
  go_wp2_with fail
  refine (works_calls hI).mono ?_
  rintro e w1 ⟨rfl, hb1⟩
  have HE1 := Lib.hid ((Ext.refl hI).step hb1)
  clear hb1
  go_wp2_with fail
  refine (seal_calls HE1.out.inv hb (by omega)).mono ?_
  rintro e w2 ⟨g, J2, rfl, hE2, hge, hg, hJg⟩
  have HE2 := Lib.hid (HE1.out.trans hE2)
  have HG := Lib.hid hg
  have HGE := Lib.hid (Nat.le_trans HE1.out.below.size hge)
  have HJ := Lib.hid hJg
  have hE2' := HE2.out.put HGE.out hg (cs := bcs (sealed l)) (by simp)
  have hs2 : Bs (J2.put g (bcs (sealed l))) (.slice (some ⟨g, 0, none⟩) (l.length + 4) (l.length + 4)) (sealed l) := Bs.of_block J2 (sealed_length l) (by simp only [maxLen]; omega)
  have hl2 := hE2'.bs hI hb
  have HE2' := Lib.hid hE2'
  clear hE2 hge hg hJg hE2'
  go_wp2_with fail
  refine (open_yes HE2'.out.inv hs2 (by rw [sealed_length]; omega) (opens_sealed l)).mono ?_
  rintro e w3 ⟨v3, J3, rfl, hE3, ho3, -⟩
  rw [show (sealed l).length - 4 = l.length by rw [sealed_length]; omega] at ho3
  rw [show (sealed l).take l.length = l by rw [sealed]; simp] at ho3
  have hv3 := ho3.bs
  have hl3 := hE3.bs HE2'.out.inv hl2
  have HE3 := Lib.hid (HE2'.out.trans hE3)
  have HEJ := Lib.hid (HE2.out.step hE3.below)
  have HG3 := Lib.hid ((hE3.below.block g (Array.getElem?_eq_some_iff.1 HG.out).1).trans HG.out)
  clear hE3 ho3 hs2 hl2
  go_wp2_with fail
  refine (equal_calls HE3.out.inv hv3 hl3).mono ?_
  rintro e w4 ⟨rfl, rfl⟩
  go_wp2_with fail
  obtain ⟨m, hm⟩ : ∃ m, m = 8 * (l.length + 4) - q := ⟨_, rfl⟩
  have HM := Lib.hid hm
  clear hm
  go_loopw [10, 46] (fun u i wr => ∃ (k : Nat) (t : List UInt8), k ≤ 32 ∧ i = .int .i64 k ∧ u = .bool (decide (part bits m k ≠ 0)) ∧ Ext J w J2 wr ∧ wr.heap[g]? = some (.cells (bcs t).toArray 5 (0, 0)) ∧ t.length = l.length + 4 ∧ num t = num (sealed l) ^^^ 2 ^ q * part bits m k) (fun _ i _ => 32 - (intOf i).toNat)
  case atStart => exact ⟨0, sealed l, by omega, rfl, by rw [part_zero]; simp, HEJ.out, HG3.out, sealed_length l, by rw [part_zero]; simp⟩
  case round =>
    obtain ⟨k, t, hk, rfl, rfl, hE, hg, ht, hnum⟩ := hrel
    have HE := Lib.hid hE
    have HGr := Lib.hid hg
    have HT := Lib.hid ht
    have HNUM := Lib.hid hnum
    clear hE hg ht hnum
    by_cases hlt : k < 32
    · have hsh := shr_bit bits k hbits
      by_cases hbit : bits.testBit k = true
      · rw [hbit] at hsh
        by_cases hin : q + k < 8 * (l.length + 4)
        · have HP := Lib.hid (part_yes bits m k hbit (by have := HM.out; omega))
          have HTN := Lib.hid (turn_num t (q + k) (by rw [HT.out]; exact hin))
          have hdiv : (q + k) / 8 < t.length := by rw [HT.out]; omega
          obtain ⟨a8, ha8⟩ : ∃ a, a = (q + k) / 8 := ⟨_, rfl⟩
          obtain ⟨am, ham⟩ : ∃ a, a = (q + k) % 8 := ⟨_, rfl⟩
          have e1 : ((q : Int) + k) / 8 = (a8 : Int) := by omega
          have e2 : ((q : Int) + k) % 8 = (am : Int) := by omega
          have e3 : IntKind.i64.wrap (((q : Int) + k).tdiv 8) = (a8 : Int) := by rw [Int.tdiv_eq_ediv_of_nonneg (by omega), e1, IntKind.wrap_i64]; omega
          have e4 : ((q : Int) + k).tmod 8 = (am : Int) := by rw [Int.tmod_eq_emod_of_nonneg (by omega), e2]
          have e5 : IntKind.i64.wrap (am : Int) = am := by rw [IntKind.wrap_i64]; omega
          have e6 : IntKind.i64.wrap (a8 : Int) = a8 := by rw [IntKind.wrap_i64]; omega
          have ham8 : am < 8 := by omega
          have hai : a8 < l.length + 4 := by omega
          have i0 : (0 : Int) ≤ (a8 : Int) := by omega
          have i1 : (a8 : Int) < (l.length : Int) + 4 := by omega
          have i2 : ¬ (am : Int) < 0 := by omega
          have hc := blk_cell_J HGr.out a8 (v := bv (t[a8]'(by rw [HT.out]; exact hai))) (by rw [bcs_get, List.getElem?_eq_getElem (by rw [HT.out]; exact hai)]; rfl)
          have hf := frozen_of_row wr g a8 _ _ HGr.out
          have HA8 := Lib.hid ha8
          have HAM := Lib.hid ham
          simp only [bv] at hc
          generalize hxg : t[a8]'(by rw [HT.out]; exact hai) = x at *
          have HX := Lib.hid hxg
          clear hxg ha8 ham hdiv hbit
          go_wp2
          go_still_tail 10, (by kernel_rfl)
          change wpList _ _ _ _ _ wr.drew
          go_wp2
          go_roundw
          case rel =>
            have hv := turn_val x am
            rw [hv]
            refine ⟨k + 1, t.set a8 (x ^^^ UInt8.ofNat (2 ^ am)), by omega, by go_num, by have := HP.out.2; simp [this], (HE.out.setCell HGE.out HJ.out _).drew, ?_, by simp [HT.out], ?_⟩
            · rw [← bcs_set]; exact blk_set_J HGr.out _ _
            · have h1 := HTN.out
              have h2 := HX.out
              have h3 := HA8.out
              have h4 := HAM.out
              subst h3 h4
              rw [h2] at h1
              rw [h1, HNUM.out, HP.out.1, mul_pow_xor, Nat.pow_add, Nat.xor_assoc]
          case measure => simp [intOf]; omega
        · have HP := Lib.hid (part_no bits m k (by have := HM.out; omega))
          have hin' : 8 * ((l.length : Int) + 4) ≤ q + k := by omega
          clear hin hbit
          go_wp2
          go_roundw
          case rel => exact ⟨k + 1, t, by omega, by go_num, by rw [HP.out], HE.out, HGr.out, HT.out, by rw [HP.out]; exact HNUM.out⟩
          case measure => simp [intOf]; omega
      · have HP := Lib.hid (part_no bits m k (by simp [hbit]))
        have hbit' : bits.testBit k = false := by simpa using hbit
        rw [hbit'] at hsh
        clear hbit hbit'
        go_wp2
        go_roundw
        case rel => exact ⟨k + 1, t, by omega, by go_num, by rw [HP.out], HE.out, HGr.out, HT.out, by rw [HP.out]; exact HNUM.out⟩
        case measure => simp [intOf]; omega
    · obtain rfl : k = 32 := by omega
      have hE5 := HE.out.put HGE.out HGr.out (cs := bcs t) (by simp)
      have hs5 : Bs (J2.put g (bcs t)) (.slice (some ⟨g, 0, none⟩) (l.length + 4) (l.length + 4)) t := Bs.of_block J2 HT.out (by simp only [maxLen]; omega)
      have HE5 := Lib.hid hE5
      clear hE5
      by_cases hB : part bits m 32 = 0
      · have hd : decide (part bits m 32 ≠ 0) = false := by simpa using hB
        rw [hd]
        clear hB hd
        cases hop : opens t with
        | false =>
          have HOP := Lib.hid hop
          clear hop
          go_wp2_with fail
          refine (open_no HE5.out.inv hs5 (by rw [HT.out]; omega) HOP.out).mono ?_
          rintro e w6 ⟨rfl, hb6⟩
          have HE6 := Lib.hid (HE5.out.step hb6)
          clear hb6
          go_wp2_with fail
          go_ret
          exact ⟨rfl, HE6.out.below⟩
        | true =>
          have HOP := Lib.hid hop
          clear hop
          go_wp2_with fail
          refine (open_yes HE5.out.inv hs5 (by rw [HT.out]; omega) HOP.out).mono ?_
          rintro e w6 ⟨v6, J6, rfl, hE6, _, -⟩
          have HE6 := Lib.hid (HE5.out.trans hE6)
          clear hE6
          go_wp2_with fail
          go_ret
          exact ⟨rfl, HE6.out.below⟩
      · have hd : decide (part bits m 32 ≠ 0) = true := by simpa using hB
        have HOP := Lib.hid (opens_burst l t q (part bits m 32) HT.out (by rw [HT.out]; exact hq) (part_lt bits m 32 hbits) hB HNUM.out)
        rw [hd]
        clear hB hd
        go_wp2_with fail
        refine (open_no HE5.out.inv hs5 (by rw [HT.out]; omega) HOP.out).mono ?_
        rintro e w6 ⟨rfl, hb6⟩
        have HE6 := Lib.hid (HE5.out.step hb6)
        clear hb6
        go_wp2_with fail
        go_ret
        exact ⟨rfl, HE6.out.below⟩
set_option maxHeartbeats 4000000 in
theorem sumSpoilt_walk {J : Jm} {w : World} (hI : Inv J w) {v : Value} {l : List UInt8} (hb : Bs J v l) (_ : l.length ≤ 140737488351232) (p : Int) (_ : -9223372036854775808 ≤ p ∧ p ≤ 9223372036854775807) (bits : Nat) (hbits : bits < 2 ^ IntKind.u32.bits) :
    Calls Try.prog 5 #[v, .int .i64 p, .int .u32 bits] w fun e w' => e = .returned (.bool true) ∧ Below w.heap.size w w' := by
  obtain ⟨A, c, rfl, hn, hm⟩ := hb.form
  unfold maxLen at hm
  by_cases h1 : l.length ≤ 3000
  · by_cases hout : bits = 0 ∨ p < 0 ∨ 8 * (l.length + 4 : Int) < p
    · exact spoilt_out hI hb h1 p bits hout
    · obtain ⟨q, rfl⟩ := Int.eq_ofNat_of_zero_le (show 0 ≤ p by omega)
      exact spoilt_in hI hb h1 q bits hbits (by simp; omega) (by omega)
  · go_enter Try.func5, Try.ntmps5
    go_wp2_with (go_at_call 9; go_must (refine (works_calls hI).mono ?_; rintro e w1 ⟨rfl, hb1⟩))
    go_ret
    exact ⟨rfl, hb1⟩
end Go.Proofs.Ytmagkejehbaodaa
