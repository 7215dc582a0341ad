/- SumAdded: the sum of three lists of one length, added without carry, is the three sums, added without carry. The walk of the statement. -/
import Derived.Test.YtmagkejehbaodaaSumWorks
import Derived.StillTailTactics
namespace Go.Proofs.Ytmagkejehbaodaa
open Go.RowKit

def x3 (a b c : List UInt8) : List UInt8 := List.zipWith (fun x yz => x ^^^ yz) a (List.zipWith (fun y z => y ^^^ z) b c)
theorem x3_nil : x3 [] [] [] = [] := rfl
theorem x3_take (a b c : List UInt8) (k : Nat) (ha : k < a.length) (hb : k < b.length) (hc : k < c.length) :
    x3 (a.take (k + 1)) (b.take (k + 1)) (c.take (k + 1)) = x3 (a.take k) (b.take k) (c.take k) ++ [a[k] ^^^ b[k] ^^^ c[k]] := by
  rw [List.take_succ_eq_append_getElem ha, List.take_succ_eq_append_getElem hb, List.take_succ_eq_append_getElem hc]
  unfold x3
  rw [List.zipWith_append (by simp; omega), List.zipWith_append (by simp; omega)]
  simp [UInt8.xor_assoc]
theorem regs_x3 : ∀ (a b c : List UInt8) (r s t : Nat), a.length = b.length → b.length = c.length → regs (r ^^^ s ^^^ t) (x3 a b c) = regs r a ^^^ regs s b ^^^ regs t c
  | [], [], [], _, _, _, _, _ => rfl
  | x :: a, y :: b, z :: c, r, s, t, h1, h2 => by
    simp only [List.length_cons, Nat.add_right_cancel_iff] at h1 h2
    have hx : x3 (x :: a) (y :: b) (z :: c) = (x ^^^ (y ^^^ z)) :: x3 a b c := rfl
    rw [hx, regs_cons, regs_cons, regs_cons, regs_cons, ← regs_x3 a b c _ _ _ h1 h2]
    congr 1
    rw [← stpN_xor, ← stpN_xor]
    congr 1
    simp only [UInt8.toNat_xor]
    ac_rfl
  | [], _ :: _, _, _, _, _, h, _ => by simp at h
  | _ :: _, [], _, _, _, _, h, _ => by simp at h
  | [], [], _ :: _, _, _, _, _, h => by simp at h
  | _ :: _, _ :: _, [], _, _, _, _, h => by simp at h
theorem more_x3 (a b c : List UInt8) (h1 : a.length = b.length) (h2 : b.length = c.length) : more 0 (x3 a b c) = more 0 a ^^^ more 0 b ^^^ more 0 c := by
  unfold more
  have h := regs_x3 a b c 4294967295 4294967295 4294967295 h1 h2
  have e : 4294967295 ^^^ 4294967295 ^^^ 4294967295 = 4294967295 := by decide
  rw [e] at h
  rw [Nat.zero_xor, h]
  generalize regs 4294967295 a = A
  generalize regs 4294967295 b = B
  generalize regs 4294967295 c = C
  have : A ^^^ 4294967295 ^^^ (B ^^^ 4294967295) ^^^ (C ^^^ 4294967295) = A ^^^ B ^^^ C ^^^ (4294967295 ^^^ 4294967295 ^^^ 4294967295) := by ac_rfl
  rw [this, e]
theorem x3_length (a b c : List UInt8) (h1 : a.length = b.length) (h2 : b.length = c.length) : (x3 a b c).length = a.length := by
  simp [x3]; omega
set_option maxHeartbeats 4000000 in
theorem added_go {J : Jm} {w : World} (hI : Inv J w) {A B D : Option Addr} {ca cb cd : Nat} {a b d : List UInt8} {n : Nat} (ha : Bs J (.slice A n ca) a) (hb : Bs J (.slice B n cb) b) (hd : Bs J (.slice D n cd) d)
    (hla : a.length = n) (hlb : b.length = n) (hld : d.length = n) (h1 : n ≤ 3000) :
    Calls Try.prog 4 #[.slice A n ca, .slice B n cb, .slice D n cd] w fun e w' => e = .returned (.bool true) ∧ Below w.heap.size w w' := by
  have HX := Lib.hid (more_x3 a b d (by omega) (by omega))
  have HLA := Lib.hid hla
  have HLB := Lib.hid hlb
  have HLD := Lib.hid hld
  clear hla hlb hld
  go_enter Try.func4, Try.ntmps4
  go_wp2_with fail
  refine (works_calls hI).mono ?_
  rintro e w1 ⟨rfl, hb1⟩
  have HE1 := Lib.hid ((Ext.refl hI).step hb1)
  clear hb1
  go_wp2_with fail
  go_loopw [7, 30] (fun s i wr => ∃ (k : Nat) (J' : Jm), k ≤ n ∧ i = .int .i64 k ∧ Ext J w J' wr ∧ Own J' wr w.heap.size 5 1 s k (bcs (x3 (a.take k) (b.take k) (d.take k)))) (fun _ i _ => n - (intOf i).toNat)
  case atStart => exact ⟨0, J, by omega, rfl, HE1.out, by simpa [x3] using Own.nil _ _ _ _ _⟩
  case round =>
    obtain ⟨k, J', hk, rfl, hE, ho⟩ := hrel
    by_cases hlt : k < n
    · obtain ⟨p1, o1, rfl, j1⟩ := (hE.bs hI ha).jcell (j := k) (by have := HLA.out; omega)
      have c1 := hE.inv.cell j1
      have HJ1 := Lib.hid j1
      clear j1
      obtain ⟨p2, o2, rfl, j2⟩ := (hE.bs hI hb).jcell (j := k) (by have := HLB.out; omega)
      have c2 := hE.inv.cell j2
      have HJ2 := Lib.hid j2
      clear j2
      obtain ⟨p3, o3, rfl, j3⟩ := (hE.bs hI hd).jcell (j := k) (by have := HLD.out; omega)
      have c3 := hE.inv.cell j3
      have HJ3 := Lib.hid j3
      clear j3
      have HE := Lib.hid hE
      have HO := Lib.hid ho
      clear hE ho
      have f1 : bits .xor .u8 ((a[k]'(by have := HLA.out; omega)).toNat : Int) ((b[k]'(by have := HLB.out; omega)).toNat : Int) = (((a[k]'(by have := HLA.out; omega)) ^^^ (b[k]'(by have := HLB.out; omega))).toNat : Int) := by
        rw [u8_xor_nat _ _ (UInt8.toNat_lt _) (UInt8.toNat_lt _), UInt8.toNat_xor]
      have f2 : bits .xor .u8 (((a[k]'(by have := HLA.out; omega)) ^^^ (b[k]'(by have := HLB.out; omega))).toNat : Int) ((d[k]'(by have := HLD.out; omega)).toNat : Int) = (((a[k]'(by have := HLA.out; omega)) ^^^ (b[k]'(by have := HLB.out; omega)) ^^^ (d[k]'(by have := HLD.out; omega))).toNat : Int) := by
        rw [u8_xor_nat _ _ (UInt8.toNat_lt _) (UInt8.toNat_lt _), UInt8.toNat_xor (_ ^^^ _)]
      have HS := Lib.hid (x3_take a b d k (by have := HLA.out; omega) (by have := HLB.out; omega) (by have := HLD.out; omega))
      generalize a[k]'(by have := HLA.out; omega) = x at *
      generalize b[k]'(by have := HLB.out; omega) = y at *
      generalize d[k]'(by have := HLD.out; omega) = z at *
      generalize x ^^^ y ^^^ z = q at *
      generalize x ^^^ y = xy at *
      go_wp2
      go_region_held3 (fun w' => w'.cell? ⟨p1, o1 + k, none⟩ = some (.int .u8 x.toNat) ∧ w'.cell? ⟨p2, o2 + k, none⟩ = some (.int .u8 y.toNat) ∧ w'.cell? ⟨p3, o3 + k, none⟩ = some (.int .u8 z.toNat))
        (first | go_keep | exact ⟨HI2.out.cell HJ1.out, HI2.out.cell HJ2.out, HI2.out.cell HJ3.out⟩)
        ((refine step_append_lit (J := J') (s := .tmp 33) (x := .tmp 48) (t := 23) (e := 5) (base := w.heap.size) (v := u7) (n := k) (xs := bcs (x3 (a.take k) (b.take k) (d.take k))) (m := 1) (news := bcs [q]) rfl (.int .u8 0) 1 1 rfl Try.underlying23 info_u8 rfl rfl (HE.out.inv.drew.alloc _) (HO.out.drew.alloc _) rfl (heap_alloc_new _ _) rfl (bcs_one _) (by simp only [maxLen]; omega) (by omega) (by have := HE.out.below.size; simp; omega) ?_; intro v2 w2 J2 ho2 hg2; have HI2 := Lib.hid (hg2.inv.anti hg2.le); have HO2 := Lib.hid ho2; have HE2 := Lib.hid ((HE.out.drew.alloc _).grew (HO.out.drew.alloc _) hg2); clear ho2 hg2))
      go_wp2
      go_roundw
      case rel => exact ⟨k + 1, J2, by omega, by go_num, HE2.out, by rw [HS.out, bcs_append]; exact HO2.out⟩
      case measure => simp [intOf]; omega
    · obtain rfl : k = n := by omega
      have hfull : x3 (a.take k) (b.take k) (d.take k) = x3 a b d := by
        rw [List.take_of_length_le (by have := HLA.out; omega), List.take_of_length_le (by have := HLB.out; omega), List.take_of_length_le (by have := HLD.out; omega)]
      rw [hfull] at ho
      have hv := ho.bs
      have ha2 := hE.bs hI ha
      have hb2 := hE.bs hI hb
      have hd2 := hE.bs hI hd
      have HE := Lib.hid hE
      clear ho hE hfull
      go_wp2_with fail
      refine (of_calls HE.out.inv hv).mono ?_
      rintro e w4 ⟨rfl, hb4⟩
      have HE4 := Lib.hid (HE.out.step hb4)
      clear hb4
      go_wp2_with fail
      refine (of_calls HE4.out.inv ha2).mono ?_
      rintro e w5 ⟨rfl, hb5⟩
      have HE5 := Lib.hid (HE4.out.step hb5)
      clear hb5
      go_wp2_with fail
      refine (of_calls HE5.out.inv hb2).mono ?_
      rintro e w6 ⟨rfl, hb6⟩
      have HE6 := Lib.hid (HE5.out.step hb6)
      clear hb6
      have f1 := u32_xor_nat (more 0 a) (more 0 b) (more_lt (by decide) _) (more_lt (by decide) _)
      have f2 := u32_xor_nat (more 0 a ^^^ more 0 b) (more 0 d) (Nat.xor_lt_two_pow (n := 32) (more_lt (by decide) _) (more_lt (by decide) _)) (more_lt (by decide) _)
      rw [← HX.out] at f2
      generalize more 0 a ^^^ more 0 b = ab at *
      go_wp2_with fail
      refine (of_calls HE6.out.inv hd2).mono ?_
      rintro e w7 ⟨rfl, hb7⟩
      have HE7 := Lib.hid (HE6.out.step hb7)
      clear hb7
      go_wp2_with fail
      go_ret
      exact ⟨by simp, HE7.out.below⟩
theorem sumAdded_walk {J : Jm} {w : World} (hI : Inv J w) {va : Value} {a : List UInt8} (ha : Bs J va a) (_ : a.length ≤ 140737488351232) {vb : Value} {b : List UInt8} (hb : Bs J vb b) (_ : b.length ≤ 140737488351232)
    {vd : Value} {d : List UInt8} (hd : Bs J vd d) (_ : d.length ≤ 140737488351232) :
    Calls Try.prog 4 #[va, vb, vd] w fun e w' => e = .returned (.bool true) ∧ Below w.heap.size w w' := by
  obtain ⟨A, ca, rfl, hna, hma⟩ := ha.form
  obtain ⟨B, cb, rfl, hnb, hmb⟩ := hb.form
  obtain ⟨D, cd, rfl, hnd, hmd⟩ := hd.form
  unfold maxLen at hma hmb hmd
  by_cases h1 : a.length = b.length
  · by_cases h2 : b.length = d.length
    · by_cases h3 : a.length ≤ 3000
      · have hb' : Bs J (.slice B a.length cb) b := by rw [h1]; exact hb
        have hd' : Bs J (.slice D a.length cd) d := by rw [h1, h2]; exact hd
        rw [← h2, ← h1]
        exact added_go hI ha hb' hd' rfl h1.symm (by omega) h3
      · have e1 : ((a.length : Int) != b.length) = false := by simp; omega
        have e2 : ((b.length : Int) != d.length) = false := by simp; omega
        have e3 : 3000 < a.length := by omega
        clear h1 h2 h3
        go_enter Try.func4, Try.ntmps4
        go_wp2_with (go_at_call 9; go_must (refine (works_calls hI).mono ?_; rintro e w1 ⟨rfl, hb1⟩))
        go_ret
        exact ⟨rfl, hb1⟩
    · have e1 : ((a.length : Int) != b.length) = false := by simp; omega
      have e2 : ((b.length : Int) != d.length) = true := by simp; omega
      clear h1 h2
      go_enter Try.func4, Try.ntmps4
      go_wp2_with (go_at_call 9; go_must (refine (works_calls hI).mono ?_; rintro e w1 ⟨rfl, hb1⟩))
      go_ret
      exact ⟨rfl, hb1⟩
  · have e1 : ((a.length : Int) != b.length) = true := by simp; omega
    clear h1
    go_enter Try.func4, Try.ntmps4
    go_wp2_with (go_at_call 9; go_must (refine (works_calls hI).mono ?_; rintro e w1 ⟨rfl, hb1⟩))
    go_ret
    exact ⟨rfl, hb1⟩
end Go.Proofs.Ytmagkejehbaodaa
