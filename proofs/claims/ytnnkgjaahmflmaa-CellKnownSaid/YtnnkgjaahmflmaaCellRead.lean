/- The walks of the reader. -/
import Derived.Test.YtnnkgjaahmflmaaCellParse
import Derived.Test.YtnnkgjaahmflmaaCellMem
import Derived.Test.YtnnkgjaahmflmaaJSub
import Derived.Laws.BitsAllLaws
import Derived.IntWalk
import Derived.StillTailTactics
import Derived.Deep.CutBlock
import Derived.Deep.DeepCutAuto
namespace Go.Proofs.Ytnnkgjaahmflmaa
open Go.RowKit
set_option linter.unusedVariables false

/-- the block of a reader -/
def Rdr (J : Jm) (w : World) (rb : Nat) (s : Rst) : Prop := ∃ A c, w.heap[rb]? = some (.cells [.slice A s.b.length c, .bool s.ok].toArray 71 (0, 0)) ∧ Bs J (.slice A s.b.length c) s.b ∧ J rb = [] ∧ c ≤ maxLen
theorem Rdr.lt {J : Jm} {w : World} {rb : Nat} {s : Rst} (h : Rdr J w rb s) : rb < w.heap.size := by
  obtain ⟨A, c, h, _⟩ := h
  exact (Array.getElem?_eq_some_iff.1 h).1
theorem sub_to {J : Jm} {A : Option Addr} {c m : Nat} {l : List UInt8} (h : Bs J (.slice A m c) l) (n : Nat) (hn : n ≤ l.length) : Bs J (.slice A n c) (l.take n) := by
  obtain ⟨hl, A', c', hv, hn', hm, h0, ha⟩ := h
  cases hv
  have hlen : (l.take n).length = n := by simp; omega
  unfold Bs
  rw [hlen]
  refine ⟨by rw [bcs_length, hlen, Nat.mul_one], A, c, rfl, by omega, hm, h0, fun a e => ?_⟩
  rcases ha a e with h | ⟨h1, h2⟩
  · left; omega
  · right
    refine ⟨h1, ?_⟩
    rw [bcs_take, ← h2, List.take_take]
    congr 1; omega
set_option maxRecDepth 100000 in
set_option maxHeartbeats 4000000 in
theorem text_calls {J : Jm} {w : World} (hI : Inv J w) {rb : Nat} {s : Rst} (hr : Rdr J w rb s) (n : Nat) (hn : n ≤ 9223372036854775807) :
    Calls Try.prog 47 #[.pointer (some ⟨rb, 0, none⟩), .int .i64 n] w fun e w' => e = .returned (.string (strB (rTxt n s).1)) ∧ Mv (· = rb) J w J w' ∧ Rdr J w' rb (rTxt n s).2 := by
  obtain ⟨A, c, hh, hb, hJ, hcm⟩ := hr
  obtain ⟨-, -, -, -, hle, -⟩ := id hb
  have r0 := blk_cell_J hh 0 rfl
  have r1 := blk_cell_J hh 1 rfl
  have f0 := frozen_of_row w rb 0 _ _ hh
  have f1 := frozen_of_row w rb 1 _ _ hh
  obtain ⟨-, A1, c1, hv1, hnc, -, h0A, -⟩ := id hb
  cases hv1
  have hcm' := hcm
  unfold maxLen at hcm'
  obtain ⟨b, ok⟩ := s
  simp only at *
  go_enter Try.func47, Try.ntmps47
  by_cases hlt : b.length < n
  · have e1 : (b.length : Int) < n := by omega
    have HR := Lib.hid (show rTxt n ⟨b, ok⟩ = ([], ⟨b, false⟩) from if_pos hlt)
    have HB := Lib.hid hb
    have HH := Lib.hid (blk_set_J hh 1 (.bool false))
    clear hb
    go_wp2_with fail
    go_ret
    exact ⟨by rw [HR.out]; rfl, (Mv.refl (· = rb) hI).setCell (p := ⟨rb, 1, none⟩) (fun _ => rfl) hJ _, by rw [HR.out]; exact ⟨A, c, HH.out, HB.out, hJ, hcm⟩⟩
  · have e1 : ¬ (b.length : Int) < n := by omega
    have e2 : (n : Int) ≤ c := by omega
    have n0 : (0 : Int) ≤ (n : Int) := by omega
    have HR := Lib.hid (show rTxt n ⟨b, ok⟩ = (b.take n, ⟨b.drop n, ok⟩) from if_neg hlt)
    have kc := (sub_to hb n (by omega)).string (P := Try.prog) hI 30 9 5 Try.underlying30 Try.underlying5 Try.underlying9
    have hf := hb.from' n (show n ≤ b.length by omega)
    have hbn : (n : Int) ≤ b.length := by omega
    have hdl : (b.drop n).length = b.length - n := by simp
    have hcn0 : c - n ≤ maxLen := by unfold maxLen; omega
    have HCN := Lib.hid hcn0
    have HDL := Lib.hid hdl
    clear hb hcn0 hdl
    by_cases hcn : c = n
    · subst hcn
      rw [if_pos rfl] at hf
      have HF := Lib.hid hf
      have HH := Lib.hid (blk_set_J hh 0 (.slice A 0 0))
      clear hf
      go_wp2_with fail
      go_ret
      exact ⟨by rw [HR.out]; rfl, (Mv.refl (· = rb) hI).setCell (p := ⟨rb, 0, none⟩) (fun _ => rfl) hJ _, by rw [HR.out]; exact ⟨A, 0, by rw [HDL.out, show b.length - c = 0 by omega]; exact HH.out, by rw [HDL.out, show b.length - c = 0 by omega]; have := HF.out; rwa [show b.length - c = 0 by omega, Nat.sub_self] at this, hJ, by decide⟩⟩
    · rw [if_neg hcn] at hf
      have HF := Lib.hid hf
      have HH := Lib.hid (blk_set_J hh 0 (.slice (A.map (·.add n)) (b.length - n) (c - n)))
      clear hf
      go_wp2_with fail
      go_ret
      exact ⟨by rw [HR.out]; rfl, (Mv.refl (· = rb) hI).setCell (p := ⟨rb, 0, none⟩) (fun _ => rfl) hJ _, by rw [HR.out]; exact ⟨A.map (·.add n), c - n, by rw [HDL.out]; exact HH.out, by rw [HDL.out]; exact HF.out, hJ, HCN.out⟩⟩
theorem i64_or_nat (a b : Nat) (ha : a < 9223372036854775808) (hb : b < 9223372036854775808) : bits .or .i64 (a : Int) (b : Int) = ((a ||| b : Nat) : Int) := by
  have hx : a ||| b < 2 ^ 63 := Nat.or_lt_two_pow (by omega) (by omega)
  show IntKind.i64.wrap ((BitVec.ofInt 64 (a : Int) ||| BitVec.ofInt 64 (b : Int)).toNat : Int) = _
  rw [BitVec.toNat_or, ofInt_u64 a (by omega), ofInt_u64 b (by omega), IntKind.wrap_i64]
  omega
theorem or_two (x y : UInt8) : bits .or .i64 (wrap64 (x.toNat : Int)) (wrap64 (wrap64 (y.toNat : Int) * 256)) = (x.toNat : Int) + 256 * y.toNat := by
  have hx := x.toNat_lt
  have hy := y.toNat_lt
  have e1 : wrap64 (x.toNat : Int) = x.toNat := by unfold wrap64; omega
  have e3 : wrap64 (y.toNat : Int) = y.toNat := by unfold wrap64; omega
  have e2 : wrap64 (wrap64 (y.toNat : Int) * 256) = ((y.toNat * 256 : Nat) : Int) := by
    rw [e3]; unfold wrap64; rw [Int.natCast_mul]; show _ = (y.toNat : Int) * 256; omega
  rw [e1, e2, i64_or_nat _ _ (by omega) (by omega), Nat.or_comm, nat_join 8 (y.toNat * 256) x.toNat (by omega) (by omega)]
  omega
set_option maxRecDepth 100000 in
set_option maxHeartbeats 4000000 in
theorem rdTwo_calls {J : Jm} {w : World} (hI : Inv J w) {rb : Nat} {s : Rst} (hr : Rdr J w rb s) :
    Calls Try.prog 46 #[.pointer (some ⟨rb, 0, none⟩)] w fun e w' => e = .returned (.int .i64 (rTwo s).1) ∧ Mv (· = rb) J w J w' ∧ Rdr J w' rb (rTwo s).2 := by
  go_enter Try.func46, Try.ntmps46
  go_wp2_with fail
  refine (text_calls hI hr 2 (by omega)).mono ?_
  rintro e w1 ⟨rfl, hM, hR⟩
  have HM := Lib.hid hM
  have HR := Lib.hid hR
  have H2 := Lib.hid (show rTwo s = (twoOf (rTxt 2 s).1, (rTxt 2 s).2) from rfl)
  have hl : (rTxt 2 s).1 = [] ∨ ∃ x y, (rTxt 2 s).1 = [x, y] := by
    unfold rTxt
    split
    · exact .inl rfl
    · rename_i h
      right
      match hb : s.b, h with
      | x :: y :: r, _ => exact ⟨x, y, rfl⟩
      | [x], h => simp at h
      | [], h => simp at h
  clear hM hR
  rcases hl with hl | ⟨x, y, hl⟩
  · rw [hl] at H2 ⊢
    go_wp2_with fail
    go_ret
    exact ⟨by rw [H2.out]; rfl, HM.out, by rw [H2.out]; exact HR.out⟩
  · rw [hl] at H2 ⊢
    have hz := strB_size [x, y]
    have HX := Lib.hid (show ∀ h, (strB [x, y])[0]'h = x from fun _ => rfl)
    go_wp2_with fail
    go_big_quiet (fail)
    go_wp2_with fail
    go_ret
    exact ⟨by rw [H2.out]; exact congrArg (fun z => Ending.returned (.int .i64 z)) (or_two x y), HM.out.drewN nq, by rw [H2.out]; exact HR.out⟩
theorem askU_le {l : List UInt8} {most n c : Nat} (h : askU l most = .ok (n, c)) : n ≤ most ∧ c ≤ l.length := by
  unfold askU at h
  split at h
  · cases h
  · rename_i n' c' e
    split at h
    · cases h
    · cases h; exact ⟨by omega, (rdU_le e).2.2.1⟩
theorem askU_err {l : List UInt8} {most x : Nat} (h : askU l most = .error x) : x ≠ 0 := by
  unfold askU at h
  split at h
  · cases h; decide
  · split at h
    · cases h; decide
    · cases h
set_option maxRecDepth 100000 in
set_option maxHeartbeats 4000000 in
theorem number_calls {J : Jm} {w : World} (hI : Inv J w) {rb : Nat} {s : Rst} (hr : Rdr J w rb s) (most : Nat) (hm : most ≤ 9223372036854775807) :
    Calls Try.prog 45 #[.pointer (some ⟨rb, 0, none⟩), .int .u64 most] w fun e w' => e = .returned (.int .i64 ((rNum most s).1 : Nat)) ∧ Mv (· = rb) J w J w' ∧ Rdr J w' rb (rNum most s).2 := by
  have hlt := hr.lt
  obtain ⟨A, c, hh, hb, hJ, hcm⟩ := hr
  obtain ⟨-, A1, c1, hv1, hnc, -, h0A, -⟩ := id hb
  cases hv1
  have r0 := blk_cell_J hh 0 rfl
  have r1 := blk_cell_J hh 1 rfl
  have hcm' := hcm
  unfold maxLen at hcm'
  obtain ⟨b, ok⟩ := s
  simp only at *
  have HB := Lib.hid hb
  clear hb
  go_enter Try.func45, Try.ntmps45
  go_wp2_with fail
  refine (new_calls hI HB.out (by omega)).mono ?_
  rintro e w1 ⟨g, rfl, hg, hE1, hC1⟩
  have hgr : g ≠ rb := by omega
  have hrg : rb ≠ g := by omega
  have hh1 := (hE1.below.block rb hlt).trans hh
  have HE1 := Lib.hid hE1
  clear r0 r1 hE1
  go_wp2_with fail
  refine (Uint_calls HE1.out.inv hC1 most (by omega)).mono ?_
  rintro e w2 ⟨k', hA, hM, hC2⟩
  have HM := Lib.hid (HE1.out.mv (· = rb) |>.trans hM fun q hq e => by subst e; omega)
  have hh2 := (hM.block rb (Array.getElem?_eq_some_iff.1 hh1).1 hrg).trans hh1
  have hlt2 := (Array.getElem?_eq_some_iff.1 hh2).1
  have HC2 := Lib.hid hC2
  clear hC1 hM hC2 HE1
  have r0 := blk_cell_J hh2 0 rfl
  have r1 := blk_cell_J hh2 1 rfl
  have f1 := frozen_of_row _ rb 1 _ _ hh2
  have HH2 := Lib.hid hh2
  clear hh hh1 hh2
  rw [List.drop_zero] at hA
  unfold AskP at hA
  cases hq : askU b most with
  | error x =>
    rw [hq] at hA
    obtain ⟨rfl, rfl⟩ := hA
    have hx := askU_err hq
    have HR := Lib.hid (show rNum most ⟨b, ok⟩ = (0, ⟨b.drop 0, false⟩) from by unfold rNum; rw [hq]; rfl)
    have e1 : ((x : Int) == 0) = false := by simpa using hx
    have e2 : ¬ (x : Int) = 0 := by omega
    clear hq hx
    cases ok with
    | true =>
      go_upto_region 4 with fail
      have HM3 := Lib.hid (HM.out.setCell (p := ⟨rb, 1, none⟩) (fun _ => rfl) hJ (.bool false))
      have HH3 := Lib.hid (blk_set_J HH2.out 1 (.bool false))
      have HC3 := Lib.hid (HC2.out.store (p := ⟨rb, 1, none⟩) hrg (.bool false))
      generalize World.setCell w2 _ _ = W3 at *
      clear r0 r1 f1 HH2 HM HC2 hlt2
      have r0 := blk_cell_J HH3.out 0 rfl
      have fz := frozen_of_row _ rb 0 _ _ HH3.out
      have hf := HB.out.from' 0 (Nat.zero_le _)
      have hdl : (b.drop 0).length = b.length - 0 := by simp
      have HDL := Lib.hid hdl
      have hql : 0 ≤ b.length := (Nat.zero_le _)
      have hqi : ((0 : Nat) : Int) ≤ b.length := by omega
      have hqc : ((0 : Nat) : Int) ≤ c := by omega
      have hq0 : (0 : Int) ≤ ((0 : Nat) : Int) := by omega
      clear hdl
      by_cases hcn : c = 0
      · rw [if_pos hcn] at hf
        have hbq : b.length = 0 := by omega
        have HF := Lib.hid hf
        have HBQ := Lib.hid (show b.length - 0 = 0 ∧ c - 0 = 0 from by omega)
        clear hf
        refine wp_region_still_tail 8 (by kernel_rfl) (by kernel_rfl) ?_
        simp only [List.take_succ_cons, List.take_zero, List.drop_succ_cons, List.drop_zero]
        repeat still_step
        still_call (at_calls HC3.out)
        repeat still_step
        refine wpStill_nil ?_
        change wpList _ _ _ _ _ W3.drew
        have HM4 := Lib.hid HM3.out.drew
        have HH4 := Lib.hid (show W3.drew.heap[rb]? = _ from HH3.out)
        have fz4 : W3.drew.frozen? ⟨rb, 0, none⟩ = false := fz
        have r04 : W3.drew.cell? ⟨rb, 0, none⟩ = _ := r0
        generalize W3.drew = W4 at *
        go_wp2_with fail
        go_ret
        exact ⟨by rw [HR.out]; rfl, HM4.out.setCell (p := ⟨rb, 0, none⟩) (fun _ => rfl) hJ _, by rw [HR.out]; exact ⟨A, 0, by rw [HDL.out, HBQ.out.1]; exact blk_set_J HH4.out 0 _, by rw [HDL.out]; have := HF.out; rw [HBQ.out.1, HBQ.out.2] at this; rw [HBQ.out.1]; exact this, hJ, by decide⟩⟩
      · rw [if_neg hcn] at hf
        have HF := Lib.hid hf
        clear hf
        refine wp_region_still_tail 8 (by kernel_rfl) (by kernel_rfl) ?_
        simp only [List.take_succ_cons, List.take_zero, List.drop_succ_cons, List.drop_zero]
        repeat still_step
        still_call (at_calls HC3.out)
        repeat still_step
        refine wpStill_nil ?_
        change wpList _ _ _ _ _ W3.drew
        have HM4 := Lib.hid HM3.out.drew
        have HH4 := Lib.hid (show W3.drew.heap[rb]? = _ from HH3.out)
        have fz4 : W3.drew.frozen? ⟨rb, 0, none⟩ = false := fz
        have r04 : W3.drew.cell? ⟨rb, 0, none⟩ = _ := r0
        generalize W3.drew = W4 at *
        go_wp2_with fail
        go_ret
        exact ⟨by rw [HR.out]; rfl, HM4.out.setCell (p := ⟨rb, 0, none⟩) (fun _ => rfl) hJ _, by rw [HR.out]; first | exact ⟨A.map (·.add 0), c - 0, by rw [HDL.out]; exact blk_set_J HH4.out 0 _, by rw [HDL.out]; exact HF.out, hJ, by unfold maxLen; omega⟩ | exact ⟨A, c, by rw [HDL.out]; exact blk_set_J HH4.out 0 _, by rw [HDL.out]; exact HB.out, hJ, hcm⟩⟩
    | false =>
      go_upto_region 4 with fail
      have HM3 := Lib.hid (HM.out.setCell (p := ⟨rb, 1, none⟩) (fun _ => rfl) hJ (.bool false))
      have HH3 := Lib.hid (blk_set_J HH2.out 1 (.bool false))
      have HC3 := Lib.hid (HC2.out.store (p := ⟨rb, 1, none⟩) hrg (.bool false))
      generalize World.setCell w2 _ _ = W3 at *
      clear r0 r1 f1 HH2 HM HC2 hlt2
      have r0 := blk_cell_J HH3.out 0 rfl
      have fz := frozen_of_row _ rb 0 _ _ HH3.out
      have hf := HB.out.from' 0 (Nat.zero_le _)
      have hdl : (b.drop 0).length = b.length - 0 := by simp
      have HDL := Lib.hid hdl
      have hql : 0 ≤ b.length := (Nat.zero_le _)
      have hqi : ((0 : Nat) : Int) ≤ b.length := by omega
      have hqc : ((0 : Nat) : Int) ≤ c := by omega
      have hq0 : (0 : Int) ≤ ((0 : Nat) : Int) := by omega
      clear hdl
      by_cases hcn : c = 0
      · rw [if_pos hcn] at hf
        have hbq : b.length = 0 := by omega
        have HF := Lib.hid hf
        have HBQ := Lib.hid (show b.length - 0 = 0 ∧ c - 0 = 0 from by omega)
        clear hf
        refine wp_region_still_tail 8 (by kernel_rfl) (by kernel_rfl) ?_
        simp only [List.take_succ_cons, List.take_zero, List.drop_succ_cons, List.drop_zero]
        repeat still_step
        still_call (at_calls HC3.out)
        repeat still_step
        refine wpStill_nil ?_
        change wpList _ _ _ _ _ W3.drew
        have HM4 := Lib.hid HM3.out.drew
        have HH4 := Lib.hid (show W3.drew.heap[rb]? = _ from HH3.out)
        have fz4 : W3.drew.frozen? ⟨rb, 0, none⟩ = false := fz
        have r04 : W3.drew.cell? ⟨rb, 0, none⟩ = _ := r0
        generalize W3.drew = W4 at *
        go_wp2_with fail
        go_ret
        exact ⟨by rw [HR.out]; rfl, HM4.out.setCell (p := ⟨rb, 0, none⟩) (fun _ => rfl) hJ _, by rw [HR.out]; exact ⟨A, 0, by rw [HDL.out, HBQ.out.1]; exact blk_set_J HH4.out 0 _, by rw [HDL.out]; have := HF.out; rw [HBQ.out.1, HBQ.out.2] at this; rw [HBQ.out.1]; exact this, hJ, by decide⟩⟩
      · rw [if_neg hcn] at hf
        have HF := Lib.hid hf
        clear hf
        refine wp_region_still_tail 8 (by kernel_rfl) (by kernel_rfl) ?_
        simp only [List.take_succ_cons, List.take_zero, List.drop_succ_cons, List.drop_zero]
        repeat still_step
        still_call (at_calls HC3.out)
        repeat still_step
        refine wpStill_nil ?_
        change wpList _ _ _ _ _ W3.drew
        have HM4 := Lib.hid HM3.out.drew
        have HH4 := Lib.hid (show W3.drew.heap[rb]? = _ from HH3.out)
        have fz4 : W3.drew.frozen? ⟨rb, 0, none⟩ = false := fz
        have r04 : W3.drew.cell? ⟨rb, 0, none⟩ = _ := r0
        generalize W3.drew = W4 at *
        go_wp2_with fail
        go_ret
        exact ⟨by rw [HR.out]; rfl, HM4.out.setCell (p := ⟨rb, 0, none⟩) (fun _ => rfl) hJ _, by rw [HR.out]; first | exact ⟨A.map (·.add 0), c - 0, by rw [HDL.out]; exact blk_set_J HH4.out 0 _, by rw [HDL.out]; exact HF.out, hJ, by unfold maxLen; omega⟩ | exact ⟨A, c, by rw [HDL.out]; exact blk_set_J HH4.out 0 _, by rw [HDL.out]; exact HB.out, hJ, hcm⟩⟩
  | ok nc =>
    obtain ⟨nn, cc⟩ := nc
    rw [hq] at hA
    obtain ⟨rfl, rfl⟩ := hA
    obtain ⟨hnm, hcl⟩ := askU_le hq
    have HR := Lib.hid (show rNum most ⟨b, ok⟩ = (nn, ⟨b.drop cc, ok⟩) from by unfold rNum; rw [hq])
    have hn63 : nn ≤ 9223372036854775807 := by omega
    clear hq
    rw [Nat.zero_add] at HC2
    cases ok with
    | true =>
      go_upto_region 4 with fail
      have HM3 := Lib.hid (HM.out.setCell (p := ⟨rb, 1, none⟩) (fun _ => rfl) hJ (.bool true))
      have HH3 := Lib.hid (blk_set_J HH2.out 1 (.bool true))
      have HC3 := Lib.hid (HC2.out.store (p := ⟨rb, 1, none⟩) hrg (.bool true))
      generalize World.setCell w2 _ _ = W3 at *
      clear r0 r1 f1 HH2 HM HC2 hlt2
      have r0 := blk_cell_J HH3.out 0 rfl
      have fz := frozen_of_row _ rb 0 _ _ HH3.out
      have hf := HB.out.from' cc hcl
      have hdl : (b.drop cc).length = b.length - cc := by simp
      have HDL := Lib.hid hdl
      have hql : cc ≤ b.length := hcl
      have hqi : ((cc : Nat) : Int) ≤ b.length := by omega
      have hqc : ((cc : Nat) : Int) ≤ c := by omega
      have hq0 : (0 : Int) ≤ ((cc : Nat) : Int) := by omega
      clear hdl
      by_cases hcn : c = cc
      · rw [if_pos hcn] at hf
        have hbq : b.length = cc := by omega
        have HF := Lib.hid hf
        have HBQ := Lib.hid (show b.length - cc = 0 ∧ c - cc = 0 from by omega)
        clear hf
        refine wp_region_still_tail 8 (by kernel_rfl) (by kernel_rfl) ?_
        simp only [List.take_succ_cons, List.take_zero, List.drop_succ_cons, List.drop_zero]
        repeat still_step
        still_call (at_calls HC3.out)
        repeat still_step
        refine wpStill_nil ?_
        change wpList _ _ _ _ _ W3.drew
        have HM4 := Lib.hid HM3.out.drew
        have HH4 := Lib.hid (show W3.drew.heap[rb]? = _ from HH3.out)
        have fz4 : W3.drew.frozen? ⟨rb, 0, none⟩ = false := fz
        have r04 : W3.drew.cell? ⟨rb, 0, none⟩ = _ := r0
        generalize W3.drew = W4 at *
        go_wp2_with fail
        go_ret
        exact ⟨by rw [HR.out]; rfl, HM4.out.setCell (p := ⟨rb, 0, none⟩) (fun _ => rfl) hJ _, by rw [HR.out]; exact ⟨A, 0, by rw [HDL.out, HBQ.out.1]; exact blk_set_J HH4.out 0 _, by rw [HDL.out]; have := HF.out; rw [HBQ.out.1, HBQ.out.2] at this; rw [HBQ.out.1]; exact this, hJ, by decide⟩⟩
      · rw [if_neg hcn] at hf
        have HF := Lib.hid hf
        clear hf
        refine wp_region_still_tail 8 (by kernel_rfl) (by kernel_rfl) ?_
        simp only [List.take_succ_cons, List.take_zero, List.drop_succ_cons, List.drop_zero]
        repeat still_step
        still_call (at_calls HC3.out)
        repeat still_step
        refine wpStill_nil ?_
        change wpList _ _ _ _ _ W3.drew
        have HM4 := Lib.hid HM3.out.drew
        have HH4 := Lib.hid (show W3.drew.heap[rb]? = _ from HH3.out)
        have fz4 : W3.drew.frozen? ⟨rb, 0, none⟩ = false := fz
        have r04 : W3.drew.cell? ⟨rb, 0, none⟩ = _ := r0
        generalize W3.drew = W4 at *
        go_wp2_with fail
        go_ret
        exact ⟨by rw [HR.out]; rfl, HM4.out.setCell (p := ⟨rb, 0, none⟩) (fun _ => rfl) hJ _, by rw [HR.out]; first | exact ⟨A.map (·.add cc), c - cc, by rw [HDL.out]; exact blk_set_J HH4.out 0 _, by rw [HDL.out]; exact HF.out, hJ, by unfold maxLen; omega⟩ | exact ⟨A, c, by rw [HDL.out]; exact blk_set_J HH4.out 0 _, by rw [HDL.out]; exact HB.out, hJ, hcm⟩⟩
    | false =>
      go_upto_region 4 with fail
      have HM3 := Lib.hid (HM.out.setCell (p := ⟨rb, 1, none⟩) (fun _ => rfl) hJ (.bool false))
      have HH3 := Lib.hid (blk_set_J HH2.out 1 (.bool false))
      have HC3 := Lib.hid (HC2.out.store (p := ⟨rb, 1, none⟩) hrg (.bool false))
      generalize World.setCell w2 _ _ = W3 at *
      clear r0 r1 f1 HH2 HM HC2 hlt2
      have r0 := blk_cell_J HH3.out 0 rfl
      have fz := frozen_of_row _ rb 0 _ _ HH3.out
      have hf := HB.out.from' cc hcl
      have hdl : (b.drop cc).length = b.length - cc := by simp
      have HDL := Lib.hid hdl
      have hql : cc ≤ b.length := hcl
      have hqi : ((cc : Nat) : Int) ≤ b.length := by omega
      have hqc : ((cc : Nat) : Int) ≤ c := by omega
      have hq0 : (0 : Int) ≤ ((cc : Nat) : Int) := by omega
      clear hdl
      by_cases hcn : c = cc
      · rw [if_pos hcn] at hf
        have hbq : b.length = cc := by omega
        have HF := Lib.hid hf
        have HBQ := Lib.hid (show b.length - cc = 0 ∧ c - cc = 0 from by omega)
        clear hf
        refine wp_region_still_tail 8 (by kernel_rfl) (by kernel_rfl) ?_
        simp only [List.take_succ_cons, List.take_zero, List.drop_succ_cons, List.drop_zero]
        repeat still_step
        still_call (at_calls HC3.out)
        repeat still_step
        refine wpStill_nil ?_
        change wpList _ _ _ _ _ W3.drew
        have HM4 := Lib.hid HM3.out.drew
        have HH4 := Lib.hid (show W3.drew.heap[rb]? = _ from HH3.out)
        have fz4 : W3.drew.frozen? ⟨rb, 0, none⟩ = false := fz
        have r04 : W3.drew.cell? ⟨rb, 0, none⟩ = _ := r0
        generalize W3.drew = W4 at *
        go_wp2_with fail
        go_ret
        exact ⟨by rw [HR.out]; rfl, HM4.out.setCell (p := ⟨rb, 0, none⟩) (fun _ => rfl) hJ _, by rw [HR.out]; exact ⟨A, 0, by rw [HDL.out, HBQ.out.1]; exact blk_set_J HH4.out 0 _, by rw [HDL.out]; have := HF.out; rw [HBQ.out.1, HBQ.out.2] at this; rw [HBQ.out.1]; exact this, hJ, by decide⟩⟩
      · rw [if_neg hcn] at hf
        have HF := Lib.hid hf
        clear hf
        refine wp_region_still_tail 8 (by kernel_rfl) (by kernel_rfl) ?_
        simp only [List.take_succ_cons, List.take_zero, List.drop_succ_cons, List.drop_zero]
        repeat still_step
        still_call (at_calls HC3.out)
        repeat still_step
        refine wpStill_nil ?_
        change wpList _ _ _ _ _ W3.drew
        have HM4 := Lib.hid HM3.out.drew
        have HH4 := Lib.hid (show W3.drew.heap[rb]? = _ from HH3.out)
        have fz4 : W3.drew.frozen? ⟨rb, 0, none⟩ = false := fz
        have r04 : W3.drew.cell? ⟨rb, 0, none⟩ = _ := r0
        generalize W3.drew = W4 at *
        go_wp2_with fail
        go_ret
        exact ⟨by rw [HR.out]; rfl, HM4.out.setCell (p := ⟨rb, 0, none⟩) (fun _ => rfl) hJ _, by rw [HR.out]; first | exact ⟨A.map (·.add cc), c - cc, by rw [HDL.out]; exact blk_set_J HH4.out 0 _, by rw [HDL.out]; exact HF.out, hJ, by unfold maxLen; omega⟩ | exact ⟨A, c, by rw [HDL.out]; exact blk_set_J HH4.out 0 _, by rw [HDL.out]; exact HB.out, hJ, hcm⟩⟩
end Go.Proofs.Ytnnkgjaahmflmaa
