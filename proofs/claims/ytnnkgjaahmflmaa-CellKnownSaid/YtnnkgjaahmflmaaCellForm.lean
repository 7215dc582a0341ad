/- The walks of both forms. -/
import Derived.Test.YtnnkgjaahmflmaaCellTwo
import Derived.Test.YtnnkgjaahmflmaaCellRight
import Derived.Test.YtnnkgjaahmflmaaWireRef
namespace Go.Proofs.Ytnnkgjaahmflmaa
open Go.RowKit
set_option linter.unusedVariables false

/-- an item's copy, apart from the row that is written -/
def Ap (W : World) (v : Value) (xb : Nat) (x : Cl) : Prop := XBox W xb x ∧ v.ownBlock ≠ some xb
theorem Ap.step {J1 J2 : Jm} {W W1 W2 : World} {v v2 : Value} {xb : Nat} {x : Cl} (h : Ap W v xb x) (hb : Below W.heap.size W W1) (hg : Grew J1 W1 v J2 W2 v2) : Ap W2 v2 xb x := by
  have hlt : xb < W.heap.size := (Array.getElem?_eq_some_iff.1 h.1).1
  have hs := hb.size
  refine ⟨(hg.grown.block xb (by omega) (fun e => h.2 e.symm)).trans ((hb.block xb hlt).trans h.1), fun e => ?_⟩
  rcases hg.home xb e with h' | h'
  · exact h.2 h'
  · omega
theorem Ap.new {J : Jm} {w : World} {B n : Nat} {T : TypeId} {s : Nat} {v : Value} {cs : List Value} (h : Own J w B T s v n cs) (x : Cl) (c : Obj) (hc : c = .cells [.string (strB x.key), .string (strB x.val), .int .i64 x.page, .int .i64 x.len].toArray 55 (0, 0)) : Ap (w.alloc c) v w.heap.size x := by
  subst hc
  exact ⟨heap_alloc_new w _, fun e => by have := (h.lt _ e).2; omega⟩
theorem formU_succ {n : Nd} {k : Nat} (h : k < n.items.length) : formU n (k + 1) = formU n k ++ formI n.leaf n.items[k] (n.kids.getD (k + 1) 0) := by
  simp only [formU, List.getD_eq_getElem?_getD, List.getElem?_eq_getElem h, Option.getD_some]
theorem first_own {J : Jm} {w W : World} (hI : Inv J w) {c : Array Value} {h : UInt8} (hc : c = #[bv h]) (hb : Below w.heap.size w W) (hg : W.heap[w.heap.size]? = some (.cells c 5)) : ∃ J1, Ext J w J1 W ∧ Rb J1 W w.heap.size (.slice (some ⟨w.heap.size, 0, none⟩) 1 1) [h] := by
  subst hc
  have hE := Ext.of_below hI hb
  refine ⟨J.put w.heap.size (bcs [h]), ⟨hb, (hI.below hb).put hg (by simp), fun b hlt => Jm.put_other _ _ _ (by omega)⟩, ⟨by simp, .inr ⟨w.heap.size, 1, _, rfl, Nat.le_refl _, hg, Nat.le_refl _, by decide, by simp, by simp⟩⟩, fun b e => ?_⟩
  simp [Value.ownBlock] at e; subst e; exact Jm.put_same _ _ _
theorem NBox.ext {J J' : Jm} {W W' : World} {nb : Nat} {leaf : Bool} {vi vk : Value} (h : NBox W nb leaf vi vk) (hE : Ext J W J' W') : NBox W' nb leaf vi vk := (hE.below.block nb (Array.getElem?_eq_some_iff.1 h).1).trans h
theorem ut_le {l : List UInt8} (h : l.length ≤ 64) : (ut l).length ≤ 74 := by
  have := uv_len64 (n := l.length) (by omega)
  simp only [ut, List.length_append]; omega
theorem first_setCell {w : World} (T : TypeId) (a b : Value) : ((w.alloc (.cells #[a] T)).setCell ⟨w.heap.size, 0, none⟩ b).heap[w.heap.size]? = some (.cells #[b] T) := by
  have h := heap_alloc_new w (.cells #[a] T)
  have := blk_set_J h 0 b
  simpa using this

theorem putUintC {J : Jm} {w : World} (hI : Inv J w) (n : Nat) (hn : n < 18446744073709551616) :
    Calls Try.prog 59 #[.int .u64 n] w fun e w' => ∃ v' J', e = .returned v' ∧ Ext J w J' w' ∧ Own J' w' w.heap.size 5 1 v' (uv n).length (bcs (uv n)) := putUint_calls hI n hn
theorem refUintC {J : Jm} {w : World} (hI : Inv J w) (n : Nat) (hn : n < 18446744073709551616) :
    Calls Try.prog 41 #[.int .u64 n] w fun e w' => ∃ v' J', e = .returned v' ∧ Ext J w J' w' ∧ Own J' w' w.heap.size 5 1 v' (uv n).length (bcs (uv n)) := refUint_calls hI n hn
theorem putTextC {J : Jm} {w : World} (hI : Inv J w) (l : List UInt8) (hn : l.length ≤ 70368744177664) :
    Calls Try.prog 61 #[.string (strB l)] w fun e w' => ∃ v' J', e = .returned v' ∧ Ext J w J' w' ∧ Own J' w' w.heap.size 5 1 v' (ut l).length (bcs (ut l)) := putText_calls hI l hn
theorem refTextC {J : Jm} {w : World} (hI : Inv J w) (l : List UInt8) (hn : l.length ≤ 70368744177664) :
    Calls Try.prog 43 #[.string (strB l)] w fun e w' => ∃ v' J', e = .returned v' ∧ Ext J w J' w' ∧ Own J' w' w.heap.size 5 1 v' (ut l).length (bcs (ut l)) := refText_calls hI l hn
theorem twoC {J : Jm} {w : World} (hI : Inv J w) (n : Int) (h0 : 0 ≤ n) (h1 : n ≤ 65535) :
    Calls Try.prog 60 #[.int .i64 n] w fun e w' => ∃ v' J', e = .returned v' ∧ Ext J w J' w' ∧ Own J' w' w.heap.size 5 1 v' (two n).length (bcs (two n)) := two_calls hI n h0 h1
theorem refTwoC {J : Jm} {w : World} (hI : Inv J w) (n : Int) (h0 : 0 ≤ n) (h1 : n ≤ 65535) :
    Calls Try.prog 42 #[.int .i64 n] w fun e w' => ∃ v' J', e = .returned v' ∧ Ext J w J' w' ∧ Own J' w' w.heap.size 5 1 v' (two n).length (bcs (two n)) := refTwo_calls hI n h0 h1
set_option maxRecDepth 100000 in
set_option maxHeartbeats 8000000 in
theorem form_leaf {J : Jm} {w : World} (hI : Inv J w) {v : Value} {n : Nd} (hn : NdV J v n) (hr : right n = true) (hl : n.items.length ≤ 1048576) (hlf : n.leaf = true) :
    Calls Try.prog 40 #[v] w fun e w' => ∃ v' J', e = .returned v' ∧ Ext J w J' w' ∧ Rb J' w' w.heap.size v' (form n) := by
  obtain ⟨vi, vk, rfl, hi, hk⟩ := hn
  obtain ⟨Ai, ci, rfl, hni, hmi⟩ := hi.form
  obtain ⟨Ak, ck, rfl, hnk, hmk⟩ := hk.form
  unfold maxLen at hmi hmk
  have HIt := Lib.hid hi
  have HRA := Lib.hid (right_at hr)
  have HFL := Lib.hid (fun k => formU_len hr hl k)
  have HFS := Lib.hid (fun k h => formU_succ (n := n) (k := k) h)
  have HF0 : Hid (formU n 0 = [1] ++ uv n.items.length) := by show formH n = _; unfold formH; rw [hlf]; simp
  have HFE := Lib.hid (formU_end n)
  have HLF := Lib.hid hlf
  have hul := uv_len64 (n := n.items.length) (by omega)
  clear hi hk hr
  go_enter Try.func40, Try.ntmps40
  rw [hlf]
  clear hlf
  go_upto_region 1 with fail
  have HN0 : Hid (NBox (w.alloc (.cells #[.bool true, .slice Ai n.items.length ci, .slice Ak n.kids.length ck] 25)) w.heap.size true (.slice Ai n.items.length ci) (.slice Ak n.kids.length ck)) := heap_alloc_new w _
  obtain ⟨nb, hnb⟩ : ∃ nb, nb = w.heap.size := ⟨_, rfl⟩
  have HE0 := Lib.hid ((Ext.refl hI).alloc (.cells #[.bool true, .slice Ai n.items.length ci, .slice Ak n.kids.length ck] 25))
  have HN0 := Lib.hid (show NBox _ nb true _ _ from by rw [hnb]; exact HN0.out)
  rw [← hnb]
  have HLT := Lib.hid (show nb < (w.alloc (.cells #[.bool true, .slice Ai n.items.length ci, .slice Ak n.kids.length ck] 25)).heap.size from by rw [hnb]; simp)
  generalize World.alloc w _ = W at *
  clear hnb
  go_upto_region 2 with fail
  have HB1 := Lib.hid ((Below.refl W.heap.size W).alloc (Nat.le_refl _) (.cells #[.int .u8 2] 5))
  have HG1 := Lib.hid (heap_alloc_new W (.cells #[.int .u8 2] 5))
  generalize World.alloc W _ = W1 at *
  have HN1 := Lib.hid (show NBox W1 nb true _ _ from (HB1.out.block nb HLT.out).trans HN0.out)
  have hng : nb ≠ W.heap.size := by have := HLT.out; omega
  have n0 := blk_cell_J HN1.out 0 rfl
  have fz := frozen_of_row _ W.heap.size 0 _ _ HG1.out
  have c0 := blk_cell_J HG1.out 0 rfl
  go_upto_region 4 with fail
  have HB2 := Lib.hid (HB1.out.setCell (p := ⟨W.heap.size, 0, none⟩) (Nat.le_refl _) (.int .u8 1))
  have HG2 := Lib.hid (blk_set_J HG1.out 0 (.int .u8 1))
  generalize World.setCell W1 _ _ = W2 at *
  have hfo := first_own (J := J) (W := W2) (h := 1) HE0.out.inv (c := #[.int .u8 1]) rfl HB2.out HG2.out
  obtain ⟨J1, hE, hO⟩ := hfo
  have HE := Lib.hid hE
  have HO := Lib.hid hO
  clear hE hO HN1 HB1 HG1 HB2 HG2 n0 fz hng c0
  have HN := Lib.hid (show NBox W2 nb true _ _ from (HE.out.below.block nb HLT.out).trans HN0.out)
  have n0 := blk_cell_J HN.out 0 rfl
  have n1 := blk_cell_J HN.out 1 rfl
  have n2 := blk_cell_J HN.out 2 rfl
  obtain ⟨P0, hP0⟩ : ∃ p : List UInt8, p = [1] := ⟨_, rfl⟩
  rw [← hP0] at HO
  have hfl : P0.length ≤ 1 := by rw [hP0]; simp
  have HP0 := Lib.hid hP0
  clear hP0
  have hle : (n.items.length : Int) ≤ 1048576 := by omega
  go_wp2_with fail
  refine ((putUintC HE.out.inv n.items.length (by omega))).mono ?_
  rintro e w1 ⟨v1, J1, rfl, hE1, hO1⟩
  obtain ⟨A1, c1, rfl, -, -⟩ := hO1.sl.form
  have HB1 := Lib.hid (Own.sl hO1)
  have HD1 := Lib.hid hE1.below
  have HO := Lib.hid (HO.out.ext hE1)
  have HE := Lib.hid (HE.out.trans hE1)
  clear hE1 hO1
  have hnl := uv_len64 (n := n.items.length) (by omega)
  go_wp2_with (at_builtin; go_must (refine wpList_append_J (J := J1) (s := .tmp 11) (x := .tmp 16) (t := 30) (e := 5) (base := W.heap.size) (v := .slice (some ⟨W.heap.size, 0, none⟩) 1 1) (n := P0.length) (xs := bcs P0) rfl (.int .u8 0) 1 1 rfl Try.underlying30 info_u8 rfl rfl HE.out.inv HO.out rfl HB1.out (bcs_one _) (by simp only [maxLen]; omega) (by omega) (by have := HE.out.below.size; simp; omega) ?_; intro v2 w2 J2 ho2 hg2 hv2; have HE2 := Lib.hid ((HE.out).grew (HO.out) hg2); have HO2 := Lib.hid ho2; have HV2 := Lib.hid hv2; have HG2 := Lib.hid hg2; clear ho2 hg2 hv2; have n0 := blk_cell_J (HN0.out.ext HE2.out) 0 rfl; have n1 := blk_cell_J (HN0.out.ext HE2.out) 1 rfl; have n2 := blk_cell_J (HN0.out.ext HE2.out) 2 rfl))
  obtain ⟨P1, hP1⟩ : ∃ p, p = P0 ++ (uv n.items.length) := ⟨_, rfl⟩
  have HO := Lib.hid (Rb.lit HO2.out rfl rfl)
  rw [← hP1] at HO
  have hfl : P1.length ≤ 20 := by rw [hP1, List.length_append]; omega
  have HP1 := Lib.hid hP1
  have HE := HE2
  clear hP1 HO2 HE2 HV2 hnl HG2 HD1 HB1
  have HO := Lib.hid (show Rb J2 w2 W.heap.size v2 (formU n 0) from by rw [HF0.out, ← HP0.out, ← HP1.out]; exact HO.out)
  clear HP0 HP1 hfl n0 n1 n2 HN
  go_wp2_with fail
  go_loopw [3, 31] (fun bv iv wr => ∃ (k : Nat) (v' : Value) (J' : Jm), k ≤ n.items.length ∧ iv = .int .i64 k ∧ bv = v' ∧ Hid (Ext J W J' wr) ∧ Hid (Rb J' wr W.heap.size v' (formU n k))) (fun _ iv _ => n.items.length - (intOf iv).toNat)
  case atStart => exact ⟨0, _, _, Nat.zero_le _, rfl, rfl, HE, HO⟩
  case round =>
    clear HE HO
    obtain ⟨k, v', J', hk, rfl, rfl, HE, HO⟩ := hrel
    have i0 : (0 : Int) ≤ (k : Int) := by omega
    have HN := Lib.hid (HN0.out.ext HE.out)
    have n0 := blk_cell_J HN.out 0 rfl
    have n1 := blk_cell_J HN.out 1 rfl
    have n2 := blk_cell_J HN.out 2 rfl
    by_cases hlt : k < n.items.length
    · have i1 : (k : Int) < n.items.length := by omega
      have hIw := hI.below (HE0.out.trans HE.out).below
      obtain ⟨b, o, rfl, c0, c1, c2, c3⟩ := HIt.out.cell hIw hlt
      have hbx := okItem_le (HRA.out n.items[k] (List.getElem_mem hlt))
      have hfs := HFS.out k hlt
      rw [HLF.out] at hfs
      have hfl := HFL.out k hk
      have hfl : (formU n k).length ≤ 140000000 := by omega
      obtain ⟨x, hx⟩ : ∃ x, x = n.items[k] := ⟨_, rfl⟩
      rw [← hx] at c0 c1 c2 c3 hbx hfs
      have HFS1 := Lib.hid hfs
      have HBX := Lib.hid hbx
      clear hfs hx hIw
      obtain ⟨P0, hP0⟩ : ∃ p, p = formU n k := ⟨_, rfl⟩
      rw [← hP0] at HO hfl HFS1
      clear hP0
      go_upto_region 10 with fail
      have HE := Lib.hid (HE.out.alloc (.cells #[.string (strB x.key), .string (strB x.val), .int .i64 x.page, .int .i64 x.len] 55))
      have HA := Lib.hid (Ap.new HO.out x _ rfl)
      have HO := Lib.hid (HO.out.alloc (.cells #[.string (strB x.key), .string (strB x.val), .int .i64 x.page, .int .i64 x.len] 55))
      generalize World.alloc wr _ = Wx at *
      generalize wr.heap.size = xb at *
      clear c0 c1 c2 c3 n0 n1 n2 HN
      have HN := Lib.hid (HN0.out.ext HE.out)
      have n0 := blk_cell_J HN.out 0 rfl
      have n1 := blk_cell_J HN.out 1 rfl
      have n2 := blk_cell_J HN.out 2 rfl
      have x0 := blk_cell_J HA.out.1 0 rfl
      have x1 := blk_cell_J HA.out.1 1 rfl
      have x2 := blk_cell_J HA.out.1 2 rfl
      have x3 := blk_cell_J HA.out.1 3 rfl
      have hks := strB_size x.key
      have hvs := strB_size x.val
      by_cases hp : 0 < x.page
      · obtain ⟨ln, hln⟩ := Int.eq_ofNat_of_zero_le hbx.2.2.2.2.2.1
        have hln2 : ln ≤ 4608 := by omega
        have HF2 : Hid (formU n (k + 1) = P0 ++ (ut x.key ++ (uv (2 * ln + 1) ++ two x.page))) := by
          rw [Hid, HFS1.out]; unfold formI; rw [if_neg (by decide), if_pos hp, hln, show (2 * (ln : Int) + 1).toNat = 2 * ln + 1 by omega]
        rw [hln] at x3
        have HLN := Lib.hid hln
        go_wp2_with fail
        refine ((putTextC HE.out.inv x.key (by omega))).mono ?_
        rintro e w3 ⟨v3, J3, rfl, hE3, hO3⟩
        obtain ⟨A3, c3, rfl, -, -⟩ := hO3.sl.form
        have HB3 := Lib.hid (Own.sl hO3)
        have HD3 := Lib.hid hE3.below
        have HO := Lib.hid (HO.out.ext hE3)
        have HE := Lib.hid (HE.out.trans hE3)
        clear hE3 hO3
        have hnl := ut_le (l := x.key) (by omega)
        go_wp2_with (at_builtin; go_must (refine wpList_append_J (J := J3) (s := .tmp 36) (x := .tmp 39) (t := 30) (e := 5) (base := W.heap.size) (v := u3) (n := P0.length) (xs := bcs P0) rfl (.int .u8 0) 1 1 rfl Try.underlying30 info_u8 rfl rfl HE.out.inv HO.out rfl HB3.out (bcs_one _) (by simp only [maxLen]; omega) (by omega) (by have := HE.out.below.size; simp; omega) ?_; intro v4 w4 J4 ho4 hg4 hv4; have HE4 := Lib.hid ((HE.out).grew (HO.out) hg4); have HO4 := Lib.hid ho4; have HV4 := Lib.hid hv4; have HG4 := Lib.hid hg4; clear ho4 hg4 hv4; have n0 := blk_cell_J (HN0.out.ext HE4.out) 0 rfl; have n1 := blk_cell_J (HN0.out.ext HE4.out) 1 rfl; have n2 := blk_cell_J (HN0.out.ext HE4.out) 2 rfl; have HA := Lib.hid (HA.out.step HD3.out HG4.out); have x0 := blk_cell_J HA.out.1 0 rfl; have x1 := blk_cell_J HA.out.1 1 rfl; have x2 := blk_cell_J HA.out.1 2 rfl; have x3 := blk_cell_J HA.out.1 3 rfl))
        obtain ⟨P1, hP1⟩ : ∃ p, p = P0 ++ (ut x.key) := ⟨_, rfl⟩
        have HO := Lib.hid (Rb.lit HO4.out rfl rfl)
        rw [← hP1] at HO
        have hfl : P1.length ≤ 150000000 := by rw [hP1, List.length_append]; omega
        have HP1 := Lib.hid hP1
        have HE := HE4
        clear hP1 HO4 HE4 HV4 hnl HG4 HD3 HB3
        go_wp2_with fail
        refine ((putUintC HE.out.inv (2*ln+1) (by omega))).mono ?_
        rintro e w5 ⟨v5, J5, rfl, hE5, hO5⟩
        obtain ⟨A5, c5, rfl, -, -⟩ := hO5.sl.form
        have HB5 := Lib.hid (Own.sl hO5)
        have HD5 := Lib.hid hE5.below
        have HO := Lib.hid (HO.out.ext hE5)
        have HE := Lib.hid (HE.out.trans hE5)
        clear hE5 hO5
        have hnl := uv_len64 (n := 2*ln+1) (by omega)
        go_wp2_with (at_builtin; go_must (refine wpList_append_J (J := J5) (s := .tmp 70) (x := .tmp 76) (t := 30) (e := 5) (base := W.heap.size) (v := v4) (n := P1.length) (xs := bcs P1) rfl (.int .u8 0) 1 1 rfl Try.underlying30 info_u8 rfl rfl HE.out.inv HO.out rfl HB5.out (bcs_one _) (by simp only [maxLen]; omega) (by omega) (by have := HE.out.below.size; simp; omega) ?_; intro v6 w6 J6 ho6 hg6 hv6; have HE6 := Lib.hid ((HE.out).grew (HO.out) hg6); have HO6 := Lib.hid ho6; have HV6 := Lib.hid hv6; have HG6 := Lib.hid hg6; clear ho6 hg6 hv6; have n0 := blk_cell_J (HN0.out.ext HE6.out) 0 rfl; have n1 := blk_cell_J (HN0.out.ext HE6.out) 1 rfl; have n2 := blk_cell_J (HN0.out.ext HE6.out) 2 rfl; have HA := Lib.hid (HA.out.step HD5.out HG6.out); have x0 := blk_cell_J HA.out.1 0 rfl; have x1 := blk_cell_J HA.out.1 1 rfl; have x2 := blk_cell_J HA.out.1 2 rfl; have x3 := blk_cell_J HA.out.1 3 rfl))
        obtain ⟨P2, hP2⟩ : ∃ p, p = P1 ++ (uv (2*ln+1)) := ⟨_, rfl⟩
        have HO := Lib.hid (Rb.lit HO6.out rfl rfl)
        rw [← hP2] at HO
        have hfl : P2.length ≤ 160000000 := by rw [hP2, List.length_append]; omega
        have HP2 := Lib.hid hP2
        have HE := HE6
        clear hP2 HO6 HE6 HV6 hnl HG6 HD5 HB5
        go_wp2_with fail
        refine ((twoC HE.out.inv x.page (by omega) (by omega))).mono ?_
        rintro e w7 ⟨v7, J7, rfl, hE7, hO7⟩
        obtain ⟨A7, c7, rfl, -, -⟩ := hO7.sl.form
        have HB7 := Lib.hid (Own.sl hO7)
        have HD7 := Lib.hid hE7.below
        have HO := Lib.hid (HO.out.ext hE7)
        have HE := Lib.hid (HE.out.trans hE7)
        clear hE7 hO7
        have hnl := two_len x.page
        go_wp2_with (at_builtin; go_must (refine wpList_append_J (J := J7) (s := .tmp 78) (x := .tmp 81) (t := 30) (e := 5) (base := W.heap.size) (v := v6) (n := P2.length) (xs := bcs P2) rfl (.int .u8 0) 1 1 rfl Try.underlying30 info_u8 rfl rfl HE.out.inv HO.out rfl HB7.out (bcs_one _) (by simp only [maxLen]; omega) (by omega) (by have := HE.out.below.size; simp; omega) ?_; intro v8 w8 J8 ho8 hg8 hv8; have HE8 := Lib.hid ((HE.out).grew (HO.out) hg8); have HO8 := Lib.hid ho8; have HV8 := Lib.hid hv8; have HG8 := Lib.hid hg8; clear ho8 hg8 hv8; have n0 := blk_cell_J (HN0.out.ext HE8.out) 0 rfl; have n1 := blk_cell_J (HN0.out.ext HE8.out) 1 rfl; have n2 := blk_cell_J (HN0.out.ext HE8.out) 2 rfl; have HA := Lib.hid (HA.out.step HD7.out HG8.out); have x0 := blk_cell_J HA.out.1 0 rfl; have x1 := blk_cell_J HA.out.1 1 rfl; have x2 := blk_cell_J HA.out.1 2 rfl; have x3 := blk_cell_J HA.out.1 3 rfl))
        obtain ⟨P3, hP3⟩ : ∃ p, p = P2 ++ (two x.page) := ⟨_, rfl⟩
        have HO := Lib.hid (Rb.lit HO8.out rfl rfl)
        rw [← hP3] at HO
        have hfl : P3.length ≤ 170000000 := by rw [hP3, List.length_append]; omega
        have HP3 := Lib.hid hP3
        have HE := HE8
        clear hP3 HO8 HE8 HV8 hnl HG8 HD7 HB7
        go_roundw
        case rel => exact ⟨k + 1, _, _, by omega, by go_num, rfl, HE, by rw [HF2.out, ← List.append_assoc, ← List.append_assoc, ← HP1.out, ← HP2.out, ← HP3.out]; exact HO⟩
        case measure => simp [intOf] <;> omega
      · have HF2 : Hid (formU n (k + 1) = P0 ++ (ut x.key ++ (uv (2 * x.val.length) ++ x.val))) := by
          rw [Hid, HFS1.out]; unfold formI; rw [if_neg (by decide), if_neg hp]
        go_wp2_with fail
        refine ((putTextC HE.out.inv x.key (by omega))).mono ?_
        rintro e w3 ⟨v3, J3, rfl, hE3, hO3⟩
        obtain ⟨A3, c3, rfl, -, -⟩ := hO3.sl.form
        have HB3 := Lib.hid (Own.sl hO3)
        have HD3 := Lib.hid hE3.below
        have HO := Lib.hid (HO.out.ext hE3)
        have HE := Lib.hid (HE.out.trans hE3)
        clear hE3 hO3
        have hnl := ut_le (l := x.key) (by omega)
        go_wp2_with (at_builtin; go_must (refine wpList_append_J (J := J3) (s := .tmp 36) (x := .tmp 39) (t := 30) (e := 5) (base := W.heap.size) (v := u3) (n := P0.length) (xs := bcs P0) rfl (.int .u8 0) 1 1 rfl Try.underlying30 info_u8 rfl rfl HE.out.inv HO.out rfl HB3.out (bcs_one _) (by simp only [maxLen]; omega) (by omega) (by have := HE.out.below.size; simp; omega) ?_; intro v4 w4 J4 ho4 hg4 hv4; have HE4 := Lib.hid ((HE.out).grew (HO.out) hg4); have HO4 := Lib.hid ho4; have HV4 := Lib.hid hv4; have HG4 := Lib.hid hg4; clear ho4 hg4 hv4; have n0 := blk_cell_J (HN0.out.ext HE4.out) 0 rfl; have n1 := blk_cell_J (HN0.out.ext HE4.out) 1 rfl; have n2 := blk_cell_J (HN0.out.ext HE4.out) 2 rfl; have HA := Lib.hid (HA.out.step HD3.out HG4.out); have x0 := blk_cell_J HA.out.1 0 rfl; have x1 := blk_cell_J HA.out.1 1 rfl; have x2 := blk_cell_J HA.out.1 2 rfl; have x3 := blk_cell_J HA.out.1 3 rfl))
        obtain ⟨P1, hP1⟩ : ∃ p, p = P0 ++ (ut x.key) := ⟨_, rfl⟩
        have HO := Lib.hid (Rb.lit HO4.out rfl rfl)
        rw [← hP1] at HO
        have hfl : P1.length ≤ 150000000 := by rw [hP1, List.length_append]; omega
        have HP1 := Lib.hid hP1
        have HE := HE4
        clear hP1 HO4 HE4 HV4 hnl HG4 HD3 HB3
        go_wp2_with fail
        refine ((putUintC HE.out.inv (2*x.val.length) (by omega))).mono ?_
        rintro e w5 ⟨v5, J5, rfl, hE5, hO5⟩
        obtain ⟨A5, c5, rfl, -, -⟩ := hO5.sl.form
        have HB5 := Lib.hid (Own.sl hO5)
        have HD5 := Lib.hid hE5.below
        have HO := Lib.hid (HO.out.ext hE5)
        have HE := Lib.hid (HE.out.trans hE5)
        clear hE5 hO5
        have hnl := uv_len64 (n := 2*x.val.length) (by omega)
        go_wp2_with (first | (have := HP2; (at_builtin; go_must (refine wpList_append_str (J := J6) (s := .tmp 49) (x := .tmp 51) (t := 30) (u := 9) (e := 5) (base := W.heap.size) (v := v6) (n := P2.length) (xs := bcs P2) rfl rfl Try.underlying30 Try.underlying9 info_u8 rfl HE.out.inv HO.out rfl (by rw [strB_size]; omega) (by have := HE.out.below.size; simp; omega) ?_; intro v7 w7 J7 ho7 hg7 hv7; have HE7 := Lib.hid ((HE.out).grew (HO.out) hg7); have HO7 := Lib.hid ho7; have HV7 := Lib.hid hv7; clear ho7 hg7 hv7; obtain ⟨P3, hP3⟩ : ∃ p, p = P2 ++ (x.val) := ⟨_, rfl⟩; have HO := Lib.hid (Rb.str HO7.out rfl); rw [← hP3] at HO; have HP3 := Lib.hid hP3; have HE := HE7; clear hP3 HO7 HE7 HV7))) | (at_builtin; go_must (refine wpList_append_J (J := J5) (s := .tmp 41) (x := .tmp 47) (t := 30) (e := 5) (base := W.heap.size) (v := v4) (n := P1.length) (xs := bcs P1) rfl (.int .u8 0) 1 1 rfl Try.underlying30 info_u8 rfl rfl HE.out.inv HO.out rfl HB5.out (bcs_one _) (by simp only [maxLen]; omega) (by omega) (by have := HE.out.below.size; simp; omega) ?_; intro v6 w6 J6 ho6 hg6 hv6; have HE6 := Lib.hid ((HE.out).grew (HO.out) hg6); have HO6 := Lib.hid ho6; have HV6 := Lib.hid hv6; have HG6 := Lib.hid hg6; clear ho6 hg6 hv6; have n0 := blk_cell_J (HN0.out.ext HE6.out) 0 rfl; have n1 := blk_cell_J (HN0.out.ext HE6.out) 1 rfl; have n2 := blk_cell_J (HN0.out.ext HE6.out) 2 rfl; have HA := Lib.hid (HA.out.step HD5.out HG6.out); have x0 := blk_cell_J HA.out.1 0 rfl; have x1 := blk_cell_J HA.out.1 1 rfl; have x2 := blk_cell_J HA.out.1 2 rfl; have x3 := blk_cell_J HA.out.1 3 rfl; obtain ⟨P2, hP2⟩ : ∃ p, p = P1 ++ (uv (2*x.val.length)) := ⟨_, rfl⟩; have HO := Lib.hid (Rb.lit HO6.out rfl rfl); rw [← hP2] at HO; have hfl : P2.length ≤ 160000000 := (by rw [hP2, List.length_append]; omega); have HP2 := Lib.hid hP2; have HE := HE6; clear hP2 HO6 HE6 HV6 hnl HG6 HD5 HB5)))
        go_roundw
        case rel => exact ⟨k + 1, _, _, by omega, by go_num, rfl, HE, by rw [HF2.out, ← List.append_assoc, ← List.append_assoc, ← HP1.out, ← HP2.out, ← HP3.out]; exact HO⟩
        case measure => simp [intOf] <;> omega
    · obtain rfl : k = n.items.length := by omega
      have i1 : ¬ (n.items.length : Int) < n.items.length := by omega
      go_wp2_with fail
      go_ret
      exact ⟨_, rfl, _, HE0.out.trans HE.out, by rw [← HFE.out]; exact HO.out.lower HE0.out.below.size⟩
set_option maxRecDepth 100000 in
set_option maxHeartbeats 8000000 in
theorem form_inner {J : Jm} {w : World} (hI : Inv J w) {v : Value} {n : Nd} (hn : NdV J v n) (hr : right n = true) (hl : n.items.length ≤ 1048576) (hlf : n.leaf = false) :
    Calls Try.prog 40 #[v] w fun e w' => ∃ v' J', e = .returned v' ∧ Ext J w J' w' ∧ Rb J' w' w.heap.size v' (form n) := by
  obtain ⟨vi, vk, rfl, hi, hk⟩ := hn
  obtain ⟨Ai, ci, rfl, hni, hmi⟩ := hi.form
  obtain ⟨Ak, ck, rfl, hnk, hmk⟩ := hk.form
  unfold maxLen at hmi hmk
  have HIt := Lib.hid hi
  have HRA := Lib.hid (right_at hr)
  have HFL := Lib.hid (fun k => formU_len hr hl k)
  have HFS := Lib.hid (fun k h => formU_succ (n := n) (k := k) h)
  obtain ⟨hpi, hkl, hka⟩ := right_kids hr hlf
  have HKA := Lib.hid hka
  obtain ⟨kb, ko, rfl, hk0⟩ := hk.cell hI (show 0 < n.kids.length by omega)
  have HK0 := Lib.hid (show w.cell? ⟨kb, ko, none⟩ = some (.int .i64 (n.kids[0]'(by omega))) from by simpa using hk0)
  have HKd := Lib.hid hk
  have hkb := hka (n.kids[0]'(by omega)) (List.getElem_mem _)
  have HF0 : Hid (formU n 0 = (([2] : List UInt8) ++ uv n.items.length) ++ two (n.kids[0]'(by omega))) := by
    show formH n = _
    unfold formH; rw [hlf, if_neg (by decide), if_neg (by decide), List.headD_eq_head?_getD, List.head?_eq_getElem?, List.getElem?_eq_getElem (by omega)]; simp
  obtain ⟨kk, hkk⟩ : ∃ kk, kk = n.kids[0]'(by omega) := ⟨_, rfl⟩
  rw [← hkk] at HK0 hkb HF0
  have HKL := Lib.hid hkl
  have h0k : 0 < n.kids.length := by omega
  have h0i : (0 : Int) < n.kids.length := by omega
  clear hkk hk0 hka hkl
  have HFE := Lib.hid (formU_end n)
  have HLF := Lib.hid hlf
  have hul := uv_len64 (n := n.items.length) (by omega)
  clear hi hk hr
  go_enter Try.func40, Try.ntmps40
  rw [hlf]
  clear hlf
  go_upto_region 1 with fail
  have HN0 : Hid (NBox (w.alloc (.cells #[.bool false, .slice Ai n.items.length ci, .slice (some ⟨kb, ko, none⟩) n.kids.length ck] 25)) w.heap.size false (.slice Ai n.items.length ci) (.slice (some ⟨kb, ko, none⟩) n.kids.length ck)) := heap_alloc_new w _
  obtain ⟨nb, hnb⟩ : ∃ nb, nb = w.heap.size := ⟨_, rfl⟩
  have HE0 := Lib.hid ((Ext.refl hI).alloc (.cells #[.bool false, .slice Ai n.items.length ci, .slice (some ⟨kb, ko, none⟩) n.kids.length ck] 25))
  have HN0 := Lib.hid (show NBox _ nb false _ _ from by rw [hnb]; exact HN0.out)
  rw [← hnb]
  have HLT := Lib.hid (show nb < (w.alloc (.cells #[.bool false, .slice Ai n.items.length ci, .slice (some ⟨kb, ko, none⟩) n.kids.length ck] 25)).heap.size from by rw [hnb]; simp)
  generalize World.alloc w _ = W at *
  clear hnb
  go_upto_region 2 with fail
  have HB1 := Lib.hid ((Below.refl W.heap.size W).alloc (Nat.le_refl _) (.cells #[.int .u8 2] 5))
  have HG1 := Lib.hid (heap_alloc_new W (.cells #[.int .u8 2] 5))
  generalize World.alloc W _ = W1 at *
  have hfo := first_own (J := J) (W := W1) (h := 2) HE0.out.inv (c := #[.int .u8 2]) rfl HB1.out HG1.out
  obtain ⟨J1, hE, hO⟩ := hfo
  have HE := Lib.hid hE
  have HO := Lib.hid hO
  clear hE hO HB1 HG1
  have HN := Lib.hid (show NBox W1 nb false _ _ from (HE.out.below.block nb HLT.out).trans HN0.out)
  have n0 := blk_cell_J HN.out 0 rfl
  have n1 := blk_cell_J HN.out 1 rfl
  have n2 := blk_cell_J HN.out 2 rfl
  obtain ⟨P0, hP0⟩ : ∃ p : List UInt8, p = [2] := ⟨_, rfl⟩
  rw [← hP0] at HO
  have hfl : P0.length ≤ 1 := by rw [hP0]; simp
  have HP0 := Lib.hid hP0
  clear hP0
  have hle : (n.items.length : Int) ≤ 1048576 := by omega
  go_wp2_with fail
  refine ((putUintC HE.out.inv n.items.length (by omega))).mono ?_
  rintro e w1 ⟨v1, J1, rfl, hE1, hO1⟩
  obtain ⟨A1, c1, rfl, -, -⟩ := hO1.sl.form
  have HB1 := Lib.hid (Own.sl hO1)
  have HD1 := Lib.hid hE1.below
  have HO := Lib.hid (HO.out.ext hE1)
  have HE := Lib.hid (HE.out.trans hE1)
  clear hE1 hO1
  have hnl := uv_len64 (n := n.items.length) (by omega)
  go_wp2_with (at_builtin; go_must (refine wpList_append_J (J := J1) (s := .tmp 11) (x := .tmp 16) (t := 30) (e := 5) (base := W.heap.size) (v := .slice (some ⟨W.heap.size, 0, none⟩) 1 1) (n := P0.length) (xs := bcs P0) rfl (.int .u8 0) 1 1 rfl Try.underlying30 info_u8 rfl rfl HE.out.inv HO.out rfl HB1.out (bcs_one _) (by simp only [maxLen]; omega) (by omega) (by have := HE.out.below.size; simp; omega) ?_; intro v2 w2 J2 ho2 hg2 hv2; have HE2 := Lib.hid ((HE.out).grew (HO.out) hg2); have HO2 := Lib.hid ho2; have HV2 := Lib.hid hv2; have HG2 := Lib.hid hg2; clear ho2 hg2 hv2; have n0 := blk_cell_J (HN0.out.ext HE2.out) 0 rfl; have n1 := blk_cell_J (HN0.out.ext HE2.out) 1 rfl; have n2 := blk_cell_J (HN0.out.ext HE2.out) 2 rfl; have qk := below_held (HE0.out.trans HE2.out).below HK0.out))
  obtain ⟨P1, hP1⟩ : ∃ p, p = P0 ++ (uv n.items.length) := ⟨_, rfl⟩
  have HO := Lib.hid (Rb.lit HO2.out rfl rfl)
  rw [← hP1] at HO
  have hfl : P1.length ≤ 20 := by rw [hP1, List.length_append]; omega
  have HP1 := Lib.hid hP1
  have HE := HE2
  clear hP1 HO2 HE2 HV2 hnl HG2 HD1 HB1
  go_wp2_with fail
  refine ((twoC HE.out.inv kk (by omega) (by omega))).mono ?_
  rintro e w3 ⟨v3, J3, rfl, hE3, hO3⟩
  obtain ⟨A3, c3, rfl, -, -⟩ := hO3.sl.form
  have HB3 := Lib.hid (Own.sl hO3)
  have HD3 := Lib.hid hE3.below
  have HO := Lib.hid (HO.out.ext hE3)
  have HE := Lib.hid (HE.out.trans hE3)
  clear hE3 hO3
  have hnl := two_len kk
  go_wp2_with (at_builtin; go_must (refine wpList_append_J (J := J3) (s := .tmp 21) (x := .tmp 26) (t := 30) (e := 5) (base := W.heap.size) (v := v2) (n := P1.length) (xs := bcs P1) rfl (.int .u8 0) 1 1 rfl Try.underlying30 info_u8 rfl rfl HE.out.inv HO.out rfl HB3.out (bcs_one _) (by simp only [maxLen]; omega) (by omega) (by have := HE.out.below.size; simp; omega) ?_; intro v4 w4 J4 ho4 hg4 hv4; have HE4 := Lib.hid ((HE.out).grew (HO.out) hg4); have HO4 := Lib.hid ho4; have HV4 := Lib.hid hv4; have HG4 := Lib.hid hg4; clear ho4 hg4 hv4; have n0 := blk_cell_J (HN0.out.ext HE4.out) 0 rfl; have n1 := blk_cell_J (HN0.out.ext HE4.out) 1 rfl; have n2 := blk_cell_J (HN0.out.ext HE4.out) 2 rfl))
  obtain ⟨P2, hP2⟩ : ∃ p, p = P1 ++ (two kk) := ⟨_, rfl⟩
  have HO := Lib.hid (Rb.lit HO4.out rfl rfl)
  rw [← hP2] at HO
  have hfl : P2.length ≤ 30 := by rw [hP2, List.length_append]; omega
  have HP2 := Lib.hid hP2
  have HE := HE4
  clear hP2 HO4 HE4 HV4 hnl HG4 HD3 HB3
  have HO := Lib.hid (show Rb J4 w4 W.heap.size v4 (formU n 0) from by rw [HF0.out, ← HP0.out, ← HP1.out, ← HP2.out]; exact HO.out)
  clear HP0 HP1 HP2 hfl n0 n1 n2 HN
  go_wp2_with fail
  go_loopw [3, 31] (fun bv iv wr => ∃ (k : Nat) (v' : Value) (J' : Jm), k ≤ n.items.length ∧ iv = .int .i64 k ∧ bv = v' ∧ Hid (Ext J W J' wr) ∧ Hid (Rb J' wr W.heap.size v' (formU n k))) (fun _ iv _ => n.items.length - (intOf iv).toNat)
  case atStart => exact ⟨0, _, _, Nat.zero_le _, rfl, rfl, HE, HO⟩
  case round =>
    clear HE HO
    obtain ⟨k, v', J', hk, rfl, rfl, HE, HO⟩ := hrel
    have i0 : (0 : Int) ≤ (k : Int) := by omega
    have HN := Lib.hid (HN0.out.ext HE.out)
    have n0 := blk_cell_J HN.out 0 rfl
    have n1 := blk_cell_J HN.out 1 rfl
    have n2 := blk_cell_J HN.out 2 rfl
    by_cases hlt : k < n.items.length
    · have i1 : (k : Int) < n.items.length := by omega
      have hIw := hI.below (HE0.out.trans HE.out).below
      obtain ⟨b, o, rfl, c0, c1, c2, c3⟩ := HIt.out.cell hIw hlt
      have hk1 : k + 1 < n.kids.length := by have := HKL.out; omega
      have hk1i : (k : Int) + 1 < n.kids.length := by omega
      obtain ⟨kb1, ko1, hkA, hkc⟩ := HKd.out.cell hI hk1
      cases hkA
      have hKd2 : n.kids.getD (k + 1) 0 = n.kids[k + 1] := by rw [List.getD_eq_getElem?_getD, List.getElem?_eq_getElem hk1]; rfl
      have hKk := HKA.out n.kids[k + 1] (List.getElem_mem hk1)
      obtain ⟨kd, hkd⟩ : ∃ kd, kd = n.kids[k + 1] := ⟨_, rfl⟩
      rw [← hkd] at hkc hKd2 hKk
      have HKC := Lib.hid hkc
      clear hkc hkd
      have hbx := okItem_le (HRA.out n.items[k] (List.getElem_mem hlt))
      have hfs := HFS.out k hlt
      rw [HLF.out] at hfs
      have hfl := HFL.out k hk
      have hfl : (formU n k).length ≤ 140000000 := by omega
      obtain ⟨x, hx⟩ : ∃ x, x = n.items[k] := ⟨_, rfl⟩
      rw [← hx] at c0 c1 c2 c3 hbx hfs
      have HFS1 := Lib.hid hfs
      have HBX := Lib.hid hbx
      clear hfs hx hIw
      obtain ⟨P0, hP0⟩ : ∃ p, p = formU n k := ⟨_, rfl⟩
      rw [← hP0] at HO hfl HFS1
      clear hP0
      go_upto_region 10 with fail
      have HE := Lib.hid (HE.out.alloc (.cells #[.string (strB x.key), .string (strB x.val), .int .i64 x.page, .int .i64 x.len] 55))
      have HA := Lib.hid (Ap.new HO.out x _ rfl)
      have HO := Lib.hid (HO.out.alloc (.cells #[.string (strB x.key), .string (strB x.val), .int .i64 x.page, .int .i64 x.len] 55))
      generalize World.alloc wr _ = Wx at *
      generalize wr.heap.size = xb at *
      clear c0 c1 c2 c3 n0 n1 n2 HN
      have HN := Lib.hid (HN0.out.ext HE.out)
      have n0 := blk_cell_J HN.out 0 rfl
      have n1 := blk_cell_J HN.out 1 rfl
      have n2 := blk_cell_J HN.out 2 rfl
      have x0 := blk_cell_J HA.out.1 0 rfl
      have x1 := blk_cell_J HA.out.1 1 rfl
      have x2 := blk_cell_J HA.out.1 2 rfl
      have x3 := blk_cell_J HA.out.1 3 rfl
      have hks := strB_size x.key
      have hvs := strB_size x.val
      have HF2 : Hid (formU n (k + 1) = P0 ++ (ut x.key ++ two (n.kids.getD (k + 1) 0))) := by
        rw [Hid, HFS1.out]; unfold formI; rw [if_pos rfl]
      have hkx := hKk
      rw [hKd2] at HF2
      go_wp2_with fail
      refine ((putTextC HE.out.inv x.key (by omega))).mono ?_
      rintro e w3 ⟨v3, J3, rfl, hE3, hO3⟩
      obtain ⟨A3, c3, rfl, -, -⟩ := hO3.sl.form
      have HB3 := Lib.hid (Own.sl hO3)
      have HD3 := Lib.hid hE3.below
      have HO := Lib.hid (HO.out.ext hE3)
      have HE := Lib.hid (HE.out.trans hE3)
      clear hE3 hO3
      have hnl := ut_le (l := x.key) (by omega)
      go_wp2_with (at_builtin; go_must (refine wpList_append_J (J := J3) (s := .tmp 36) (x := .tmp 39) (t := 30) (e := 5) (base := W.heap.size) (v := u3) (n := P0.length) (xs := bcs P0) rfl (.int .u8 0) 1 1 rfl Try.underlying30 info_u8 rfl rfl HE.out.inv HO.out rfl HB3.out (bcs_one _) (by simp only [maxLen]; omega) (by omega) (by have := HE.out.below.size; simp; omega) ?_; intro v4 w4 J4 ho4 hg4 hv4; have HE4 := Lib.hid ((HE.out).grew (HO.out) hg4); have HO4 := Lib.hid ho4; have HV4 := Lib.hid hv4; have HG4 := Lib.hid hg4; clear ho4 hg4 hv4; have n0 := blk_cell_J (HN0.out.ext HE4.out) 0 rfl; have n1 := blk_cell_J (HN0.out.ext HE4.out) 1 rfl; have n2 := blk_cell_J (HN0.out.ext HE4.out) 2 rfl; have qk := below_held (HE0.out.trans HE4.out).below HKC.out))
      obtain ⟨P1, hP1⟩ : ∃ p, p = P0 ++ (ut x.key) := ⟨_, rfl⟩
      have HO := Lib.hid (Rb.lit HO4.out rfl rfl)
      rw [← hP1] at HO
      have hfl : P1.length ≤ 150000000 := by rw [hP1, List.length_append]; omega
      have HP1 := Lib.hid hP1
      have HE := HE4
      clear hP1 HO4 HE4 HV4 hnl HG4 HD3 HB3
      go_wp2_with fail
      refine ((twoC HE.out.inv kd (by omega) (by omega))).mono ?_
      rintro e w5 ⟨v5, J5, rfl, hE5, hO5⟩
      obtain ⟨A5, c5, rfl, -, -⟩ := hO5.sl.form
      have HB5 := Lib.hid (Own.sl hO5)
      have HD5 := Lib.hid hE5.below
      have HO := Lib.hid (HO.out.ext hE5)
      have HE := Lib.hid (HE.out.trans hE5)
      clear hE5 hO5
      have hnl := two_len kd
      go_wp2_with (at_builtin; go_must (refine wpList_append_J (J := J5) (s := .tmp 57) (x := .tmp 64) (t := 30) (e := 5) (base := W.heap.size) (v := v4) (n := P1.length) (xs := bcs P1) rfl (.int .u8 0) 1 1 rfl Try.underlying30 info_u8 rfl rfl HE.out.inv HO.out rfl HB5.out (bcs_one _) (by simp only [maxLen]; omega) (by omega) (by have := HE.out.below.size; simp; omega) ?_; intro v6 w6 J6 ho6 hg6 hv6; have HE6 := Lib.hid ((HE.out).grew (HO.out) hg6); have HO6 := Lib.hid ho6; have HV6 := Lib.hid hv6; have HG6 := Lib.hid hg6; clear ho6 hg6 hv6; have n0 := blk_cell_J (HN0.out.ext HE6.out) 0 rfl; have n1 := blk_cell_J (HN0.out.ext HE6.out) 1 rfl; have n2 := blk_cell_J (HN0.out.ext HE6.out) 2 rfl))
      obtain ⟨P2, hP2⟩ : ∃ p, p = P1 ++ (two kd) := ⟨_, rfl⟩
      have HO := Lib.hid (Rb.lit HO6.out rfl rfl)
      rw [← hP2] at HO
      have hfl : P2.length ≤ 160000000 := by rw [hP2, List.length_append]; omega
      have HP2 := Lib.hid hP2
      have HE := HE6
      clear hP2 HO6 HE6 HV6 hnl HG6 HD5 HB5
      go_roundw
      case rel => exact ⟨k + 1, _, _, by omega, by go_num, rfl, HE, by rw [HF2.out, ← List.append_assoc, ← HP1.out, ← HP2.out]; exact HO⟩
      case measure => simp [intOf] <;> omega
    · obtain rfl : k = n.items.length := by omega
      have i1 : ¬ (n.items.length : Int) < n.items.length := by omega
      go_wp2_with fail
      go_ret
      exact ⟨_, rfl, _, HE0.out.trans HE.out, by rw [← HFE.out]; exact HO.out.lower HE0.out.below.size⟩
set_option maxRecDepth 100000 in
set_option maxHeartbeats 8000000 in
theorem refForm_leaf {J : Jm} {w : World} (hI : Inv J w) {v : Value} {n : Nd} (hn : NdV J v n) (hr : right n = true) (hl : n.items.length ≤ 1048576) (hlf : n.leaf = true) :
    Calls Try.prog 15 #[v] w fun e w' => ∃ v' J', e = .returned v' ∧ Ext J w J' w' ∧ Rb J' w' w.heap.size v' (form n) := by
  obtain ⟨vi, vk, rfl, hi, hk⟩ := hn
  obtain ⟨Ai, ci, rfl, hni, hmi⟩ := hi.form
  obtain ⟨Ak, ck, rfl, hnk, hmk⟩ := hk.form
  unfold maxLen at hmi hmk
  have HIt := Lib.hid hi
  have HRA := Lib.hid (right_at hr)
  have HFL := Lib.hid (fun k => formU_len hr hl k)
  have HFS := Lib.hid (fun k h => formU_succ (n := n) (k := k) h)
  have HF0 : Hid (formU n 0 = [1] ++ uv n.items.length) := by show formH n = _; unfold formH; rw [hlf]; simp
  have HFE := Lib.hid (formU_end n)
  have HLF := Lib.hid hlf
  have hul := uv_len64 (n := n.items.length) (by omega)
  clear hi hk hr
  go_enter Try.func15, Try.ntmps15
  rw [hlf]
  clear hlf
  go_upto_region 1 with fail
  have HN0 : Hid (NBox (w.alloc (.cells #[.bool true, .slice Ai n.items.length ci, .slice Ak n.kids.length ck] 25)) w.heap.size true (.slice Ai n.items.length ci) (.slice Ak n.kids.length ck)) := heap_alloc_new w _
  obtain ⟨nb, hnb⟩ : ∃ nb, nb = w.heap.size := ⟨_, rfl⟩
  have HE0 := Lib.hid ((Ext.refl hI).alloc (.cells #[.bool true, .slice Ai n.items.length ci, .slice Ak n.kids.length ck] 25))
  have HN0 := Lib.hid (show NBox _ nb true _ _ from by rw [hnb]; exact HN0.out)
  rw [← hnb]
  have HLT := Lib.hid (show nb < (w.alloc (.cells #[.bool true, .slice Ai n.items.length ci, .slice Ak n.kids.length ck] 25)).heap.size from by rw [hnb]; simp)
  generalize World.alloc w _ = W at *
  clear hnb
  go_upto_region 2 with fail
  have HB1 := Lib.hid ((Below.refl W.heap.size W).alloc (Nat.le_refl _) (.cells #[.int .u8 2] 5))
  have HG1 := Lib.hid (heap_alloc_new W (.cells #[.int .u8 2] 5))
  generalize World.alloc W _ = W1 at *
  have HN1 := Lib.hid (show NBox W1 nb true _ _ from (HB1.out.block nb HLT.out).trans HN0.out)
  have hng : nb ≠ W.heap.size := by have := HLT.out; omega
  have n0 := blk_cell_J HN1.out 0 rfl
  have fz := frozen_of_row _ W.heap.size 0 _ _ HG1.out
  have c0 := blk_cell_J HG1.out 0 rfl
  go_upto_region 4 with fail
  have HB2 := Lib.hid (HB1.out.setCell (p := ⟨W.heap.size, 0, none⟩) (Nat.le_refl _) (.int .u8 1))
  have HG2 := Lib.hid (blk_set_J HG1.out 0 (.int .u8 1))
  generalize World.setCell W1 _ _ = W2 at *
  have hfo := first_own (J := J) (W := W2) (h := 1) HE0.out.inv (c := #[.int .u8 1]) rfl HB2.out HG2.out
  obtain ⟨J1, hE, hO⟩ := hfo
  have HE := Lib.hid hE
  have HO := Lib.hid hO
  clear hE hO HN1 HB1 HG1 HB2 HG2 n0 fz hng c0
  have HN := Lib.hid (show NBox W2 nb true _ _ from (HE.out.below.block nb HLT.out).trans HN0.out)
  have n0 := blk_cell_J HN.out 0 rfl
  have n1 := blk_cell_J HN.out 1 rfl
  have n2 := blk_cell_J HN.out 2 rfl
  obtain ⟨P0, hP0⟩ : ∃ p : List UInt8, p = [1] := ⟨_, rfl⟩
  rw [← hP0] at HO
  have hfl : P0.length ≤ 1 := by rw [hP0]; simp
  have HP0 := Lib.hid hP0
  clear hP0
  have hle : (n.items.length : Int) ≤ 1048576 := by omega
  go_wp2_with fail
  refine ((refUintC HE.out.inv n.items.length (by omega))).mono ?_
  rintro e w1 ⟨v1, J1, rfl, hE1, hO1⟩
  obtain ⟨A1, c1, rfl, -, -⟩ := hO1.sl.form
  have HB1 := Lib.hid (Own.sl hO1)
  have HD1 := Lib.hid hE1.below
  have HO := Lib.hid (HO.out.ext hE1)
  have HE := Lib.hid (HE.out.trans hE1)
  clear hE1 hO1
  have hnl := uv_len64 (n := n.items.length) (by omega)
  go_wp2_with (at_builtin; go_must (refine wpList_append_J (J := J1) (s := .tmp 11) (x := .tmp 16) (t := 30) (e := 5) (base := W.heap.size) (v := .slice (some ⟨W.heap.size, 0, none⟩) 1 1) (n := P0.length) (xs := bcs P0) rfl (.int .u8 0) 1 1 rfl Try.underlying30 info_u8 rfl rfl HE.out.inv HO.out rfl HB1.out (bcs_one _) (by simp only [maxLen]; omega) (by omega) (by have := HE.out.below.size; simp; omega) ?_; intro v2 w2 J2 ho2 hg2 hv2; have HE2 := Lib.hid ((HE.out).grew (HO.out) hg2); have HO2 := Lib.hid ho2; have HV2 := Lib.hid hv2; have HG2 := Lib.hid hg2; clear ho2 hg2 hv2; have n0 := blk_cell_J (HN0.out.ext HE2.out) 0 rfl; have n1 := blk_cell_J (HN0.out.ext HE2.out) 1 rfl; have n2 := blk_cell_J (HN0.out.ext HE2.out) 2 rfl))
  obtain ⟨P1, hP1⟩ : ∃ p, p = P0 ++ (uv n.items.length) := ⟨_, rfl⟩
  have HO := Lib.hid (Rb.lit HO2.out rfl rfl)
  rw [← hP1] at HO
  have hfl : P1.length ≤ 20 := by rw [hP1, List.length_append]; omega
  have HP1 := Lib.hid hP1
  have HE := HE2
  clear hP1 HO2 HE2 HV2 hnl HG2 HD1 HB1
  have HO := Lib.hid (show Rb J2 w2 W.heap.size v2 (formU n 0) from by rw [HF0.out, ← HP0.out, ← HP1.out]; exact HO.out)
  clear HP0 HP1 hfl n0 n1 n2 HN
  go_wp2_with fail
  go_loopw [3, 4] (fun bv iv wr => ∃ (k : Nat) (v' : Value) (J' : Jm), k ≤ n.items.length ∧ iv = .int .i64 k ∧ bv = v' ∧ Hid (Ext J W J' wr) ∧ Hid (Rb J' wr W.heap.size v' (formU n k))) (fun _ iv _ => n.items.length - (intOf iv).toNat)
  case atStart => exact ⟨0, _, _, Nat.zero_le _, rfl, rfl, HE, HO⟩
  case round =>
    clear HE HO
    obtain ⟨k, v', J', hk, rfl, rfl, HE, HO⟩ := hrel
    have i0 : (0 : Int) ≤ (k : Int) := by omega
    have HN := Lib.hid (HN0.out.ext HE.out)
    have n0 := blk_cell_J HN.out 0 rfl
    have n1 := blk_cell_J HN.out 1 rfl
    have n2 := blk_cell_J HN.out 2 rfl
    by_cases hlt : k < n.items.length
    · have i1 : (k : Int) < n.items.length := by omega
      have hIw := hI.below (HE0.out.trans HE.out).below
      obtain ⟨b, o, rfl, c0, c1, c2, c3⟩ := HIt.out.cell hIw hlt
      have hbx := okItem_le (HRA.out n.items[k] (List.getElem_mem hlt))
      have hfs := HFS.out k hlt
      rw [HLF.out] at hfs
      have hfl := HFL.out k hk
      have hfl : (formU n k).length ≤ 140000000 := by omega
      obtain ⟨x, hx⟩ : ∃ x, x = n.items[k] := ⟨_, rfl⟩
      rw [← hx] at c0 c1 c2 c3 hbx hfs
      have HFS1 := Lib.hid hfs
      have HBX := Lib.hid hbx
      clear hfs hx hIw
      obtain ⟨P0, hP0⟩ : ∃ p, p = formU n k := ⟨_, rfl⟩
      rw [← hP0] at HO hfl HFS1
      clear hP0
      go_upto_region 11 with fail
      have HE := Lib.hid (HE.out.alloc (.cells #[.string (strB x.key), .string (strB x.val), .int .i64 x.page, .int .i64 x.len] 55))
      have HA := Lib.hid (Ap.new HO.out x _ rfl)
      have HO := Lib.hid (HO.out.alloc (.cells #[.string (strB x.key), .string (strB x.val), .int .i64 x.page, .int .i64 x.len] 55))
      generalize World.alloc wr _ = Wx at *
      generalize wr.heap.size = xb at *
      clear c0 c1 c2 c3 n0 n1 n2 HN
      have HN := Lib.hid (HN0.out.ext HE.out)
      have n0 := blk_cell_J HN.out 0 rfl
      have n1 := blk_cell_J HN.out 1 rfl
      have n2 := blk_cell_J HN.out 2 rfl
      have x0 := blk_cell_J HA.out.1 0 rfl
      have x1 := blk_cell_J HA.out.1 1 rfl
      have x2 := blk_cell_J HA.out.1 2 rfl
      have x3 := blk_cell_J HA.out.1 3 rfl
      have hks := strB_size x.key
      have hvs := strB_size x.val
      by_cases hp : 0 < x.page
      · obtain ⟨ln, hln⟩ := Int.eq_ofNat_of_zero_le hbx.2.2.2.2.2.1
        have hln2 : ln ≤ 4608 := by omega
        have HF2 : Hid (formU n (k + 1) = P0 ++ (ut x.key ++ (uv (2 * ln + 1) ++ two x.page))) := by
          rw [Hid, HFS1.out]; unfold formI; rw [if_neg (by decide), if_pos hp, hln, show (2 * (ln : Int) + 1).toNat = 2 * ln + 1 by omega]
        rw [hln] at x3
        have HLN := Lib.hid hln
        go_wp2_with fail
        refine ((refTextC HE.out.inv x.key (by omega))).mono ?_
        rintro e w3 ⟨v3, J3, rfl, hE3, hO3⟩
        obtain ⟨A3, c3, rfl, -, -⟩ := hO3.sl.form
        have HB3 := Lib.hid (Own.sl hO3)
        have HD3 := Lib.hid hE3.below
        have HO := Lib.hid (HO.out.ext hE3)
        have HE := Lib.hid (HE.out.trans hE3)
        clear hE3 hO3
        have hnl := ut_le (l := x.key) (by omega)
        go_wp2_with (at_builtin; go_must (refine wpList_append_J (J := J3) (s := .tmp 40) (x := .tmp 43) (t := 30) (e := 5) (base := W.heap.size) (v := u3) (n := P0.length) (xs := bcs P0) rfl (.int .u8 0) 1 1 rfl Try.underlying30 info_u8 rfl rfl HE.out.inv HO.out rfl HB3.out (bcs_one _) (by simp only [maxLen]; omega) (by omega) (by have := HE.out.below.size; simp; omega) ?_; intro v4 w4 J4 ho4 hg4 hv4; have HE4 := Lib.hid ((HE.out).grew (HO.out) hg4); have HO4 := Lib.hid ho4; have HV4 := Lib.hid hv4; have HG4 := Lib.hid hg4; clear ho4 hg4 hv4; have n0 := blk_cell_J (HN0.out.ext HE4.out) 0 rfl; have n1 := blk_cell_J (HN0.out.ext HE4.out) 1 rfl; have n2 := blk_cell_J (HN0.out.ext HE4.out) 2 rfl; have HA := Lib.hid (HA.out.step HD3.out HG4.out); have x0 := blk_cell_J HA.out.1 0 rfl; have x1 := blk_cell_J HA.out.1 1 rfl; have x2 := blk_cell_J HA.out.1 2 rfl; have x3 := blk_cell_J HA.out.1 3 rfl))
        obtain ⟨P1, hP1⟩ : ∃ p, p = P0 ++ (ut x.key) := ⟨_, rfl⟩
        have HO := Lib.hid (Rb.lit HO4.out rfl rfl)
        rw [← hP1] at HO
        have hfl : P1.length ≤ 150000000 := by rw [hP1, List.length_append]; omega
        have HP1 := Lib.hid hP1
        have HE := HE4
        clear hP1 HO4 HE4 HV4 hnl HG4 HD3 HB3
        go_wp2_with fail
        refine ((refUintC HE.out.inv (2*ln+1) (by omega))).mono ?_
        rintro e w5 ⟨v5, J5, rfl, hE5, hO5⟩
        obtain ⟨A5, c5, rfl, -, -⟩ := hO5.sl.form
        have HB5 := Lib.hid (Own.sl hO5)
        have HD5 := Lib.hid hE5.below
        have HO := Lib.hid (HO.out.ext hE5)
        have HE := Lib.hid (HE.out.trans hE5)
        clear hE5 hO5
        have hnl := uv_len64 (n := 2*ln+1) (by omega)
        go_wp2_with (at_builtin; go_must (refine wpList_append_J (J := J5) (s := .tmp 74) (x := .tmp 80) (t := 30) (e := 5) (base := W.heap.size) (v := v4) (n := P1.length) (xs := bcs P1) rfl (.int .u8 0) 1 1 rfl Try.underlying30 info_u8 rfl rfl HE.out.inv HO.out rfl HB5.out (bcs_one _) (by simp only [maxLen]; omega) (by omega) (by have := HE.out.below.size; simp; omega) ?_; intro v6 w6 J6 ho6 hg6 hv6; have HE6 := Lib.hid ((HE.out).grew (HO.out) hg6); have HO6 := Lib.hid ho6; have HV6 := Lib.hid hv6; have HG6 := Lib.hid hg6; clear ho6 hg6 hv6; have n0 := blk_cell_J (HN0.out.ext HE6.out) 0 rfl; have n1 := blk_cell_J (HN0.out.ext HE6.out) 1 rfl; have n2 := blk_cell_J (HN0.out.ext HE6.out) 2 rfl; have HA := Lib.hid (HA.out.step HD5.out HG6.out); have x0 := blk_cell_J HA.out.1 0 rfl; have x1 := blk_cell_J HA.out.1 1 rfl; have x2 := blk_cell_J HA.out.1 2 rfl; have x3 := blk_cell_J HA.out.1 3 rfl))
        obtain ⟨P2, hP2⟩ : ∃ p, p = P1 ++ (uv (2*ln+1)) := ⟨_, rfl⟩
        have HO := Lib.hid (Rb.lit HO6.out rfl rfl)
        rw [← hP2] at HO
        have hfl : P2.length ≤ 160000000 := by rw [hP2, List.length_append]; omega
        have HP2 := Lib.hid hP2
        have HE := HE6
        clear hP2 HO6 HE6 HV6 hnl HG6 HD5 HB5
        go_wp2_with fail
        refine ((refTwoC HE.out.inv x.page (by omega) (by omega))).mono ?_
        rintro e w7 ⟨v7, J7, rfl, hE7, hO7⟩
        obtain ⟨A7, c7, rfl, -, -⟩ := hO7.sl.form
        have HB7 := Lib.hid (Own.sl hO7)
        have HD7 := Lib.hid hE7.below
        have HO := Lib.hid (HO.out.ext hE7)
        have HE := Lib.hid (HE.out.trans hE7)
        clear hE7 hO7
        have hnl := two_len x.page
        go_wp2_with (at_builtin; go_must (refine wpList_append_J (J := J7) (s := .tmp 82) (x := .tmp 85) (t := 30) (e := 5) (base := W.heap.size) (v := v6) (n := P2.length) (xs := bcs P2) rfl (.int .u8 0) 1 1 rfl Try.underlying30 info_u8 rfl rfl HE.out.inv HO.out rfl HB7.out (bcs_one _) (by simp only [maxLen]; omega) (by omega) (by have := HE.out.below.size; simp; omega) ?_; intro v8 w8 J8 ho8 hg8 hv8; have HE8 := Lib.hid ((HE.out).grew (HO.out) hg8); have HO8 := Lib.hid ho8; have HV8 := Lib.hid hv8; have HG8 := Lib.hid hg8; clear ho8 hg8 hv8; have n0 := blk_cell_J (HN0.out.ext HE8.out) 0 rfl; have n1 := blk_cell_J (HN0.out.ext HE8.out) 1 rfl; have n2 := blk_cell_J (HN0.out.ext HE8.out) 2 rfl; have HA := Lib.hid (HA.out.step HD7.out HG8.out); have x0 := blk_cell_J HA.out.1 0 rfl; have x1 := blk_cell_J HA.out.1 1 rfl; have x2 := blk_cell_J HA.out.1 2 rfl; have x3 := blk_cell_J HA.out.1 3 rfl))
        obtain ⟨P3, hP3⟩ : ∃ p, p = P2 ++ (two x.page) := ⟨_, rfl⟩
        have HO := Lib.hid (Rb.lit HO8.out rfl rfl)
        rw [← hP3] at HO
        have hfl : P3.length ≤ 170000000 := by rw [hP3, List.length_append]; omega
        have HP3 := Lib.hid hP3
        have HE := HE8
        clear hP3 HO8 HE8 HV8 hnl HG8 HD7 HB7
        go_roundw
        case rel => exact ⟨k + 1, _, _, by omega, by go_num, rfl, HE, by rw [HF2.out, ← List.append_assoc, ← List.append_assoc, ← HP1.out, ← HP2.out, ← HP3.out]; exact HO⟩
        case measure => simp [intOf] <;> omega
      · have HF2 : Hid (formU n (k + 1) = P0 ++ (ut x.key ++ (uv (2 * x.val.length) ++ x.val))) := by
          rw [Hid, HFS1.out]; unfold formI; rw [if_neg (by decide), if_neg hp]
        go_wp2_with fail
        refine ((refTextC HE.out.inv x.key (by omega))).mono ?_
        rintro e w3 ⟨v3, J3, rfl, hE3, hO3⟩
        obtain ⟨A3, c3, rfl, -, -⟩ := hO3.sl.form
        have HB3 := Lib.hid (Own.sl hO3)
        have HD3 := Lib.hid hE3.below
        have HO := Lib.hid (HO.out.ext hE3)
        have HE := Lib.hid (HE.out.trans hE3)
        clear hE3 hO3
        have hnl := ut_le (l := x.key) (by omega)
        go_wp2_with (at_builtin; go_must (refine wpList_append_J (J := J3) (s := .tmp 40) (x := .tmp 43) (t := 30) (e := 5) (base := W.heap.size) (v := u3) (n := P0.length) (xs := bcs P0) rfl (.int .u8 0) 1 1 rfl Try.underlying30 info_u8 rfl rfl HE.out.inv HO.out rfl HB3.out (bcs_one _) (by simp only [maxLen]; omega) (by omega) (by have := HE.out.below.size; simp; omega) ?_; intro v4 w4 J4 ho4 hg4 hv4; have HE4 := Lib.hid ((HE.out).grew (HO.out) hg4); have HO4 := Lib.hid ho4; have HV4 := Lib.hid hv4; have HG4 := Lib.hid hg4; clear ho4 hg4 hv4; have n0 := blk_cell_J (HN0.out.ext HE4.out) 0 rfl; have n1 := blk_cell_J (HN0.out.ext HE4.out) 1 rfl; have n2 := blk_cell_J (HN0.out.ext HE4.out) 2 rfl; have HA := Lib.hid (HA.out.step HD3.out HG4.out); have x0 := blk_cell_J HA.out.1 0 rfl; have x1 := blk_cell_J HA.out.1 1 rfl; have x2 := blk_cell_J HA.out.1 2 rfl; have x3 := blk_cell_J HA.out.1 3 rfl))
        obtain ⟨P1, hP1⟩ : ∃ p, p = P0 ++ (ut x.key) := ⟨_, rfl⟩
        have HO := Lib.hid (Rb.lit HO4.out rfl rfl)
        rw [← hP1] at HO
        have hfl : P1.length ≤ 150000000 := by rw [hP1, List.length_append]; omega
        have HP1 := Lib.hid hP1
        have HE := HE4
        clear hP1 HO4 HE4 HV4 hnl HG4 HD3 HB3
        go_wp2_with fail
        refine ((refUintC HE.out.inv (2*x.val.length) (by omega))).mono ?_
        rintro e w5 ⟨v5, J5, rfl, hE5, hO5⟩
        obtain ⟨A5, c5, rfl, -, -⟩ := hO5.sl.form
        have HB5 := Lib.hid (Own.sl hO5)
        have HD5 := Lib.hid hE5.below
        have HO := Lib.hid (HO.out.ext hE5)
        have HE := Lib.hid (HE.out.trans hE5)
        clear hE5 hO5
        have hnl := uv_len64 (n := 2*x.val.length) (by omega)
        go_wp2_with (first | (have := HP2; (at_builtin; go_must (refine wpList_append_str (J := J6) (s := .tmp 53) (x := .tmp 55) (t := 30) (u := 9) (e := 5) (base := W.heap.size) (v := v6) (n := P2.length) (xs := bcs P2) rfl rfl Try.underlying30 Try.underlying9 info_u8 rfl HE.out.inv HO.out rfl (by rw [strB_size]; omega) (by have := HE.out.below.size; simp; omega) ?_; intro v7 w7 J7 ho7 hg7 hv7; have HE7 := Lib.hid ((HE.out).grew (HO.out) hg7); have HO7 := Lib.hid ho7; have HV7 := Lib.hid hv7; clear ho7 hg7 hv7; obtain ⟨P3, hP3⟩ : ∃ p, p = P2 ++ (x.val) := ⟨_, rfl⟩; have HO := Lib.hid (Rb.str HO7.out rfl); rw [← hP3] at HO; have HP3 := Lib.hid hP3; have HE := HE7; clear hP3 HO7 HE7 HV7))) | (at_builtin; go_must (refine wpList_append_J (J := J5) (s := .tmp 45) (x := .tmp 51) (t := 30) (e := 5) (base := W.heap.size) (v := v4) (n := P1.length) (xs := bcs P1) rfl (.int .u8 0) 1 1 rfl Try.underlying30 info_u8 rfl rfl HE.out.inv HO.out rfl HB5.out (bcs_one _) (by simp only [maxLen]; omega) (by omega) (by have := HE.out.below.size; simp; omega) ?_; intro v6 w6 J6 ho6 hg6 hv6; have HE6 := Lib.hid ((HE.out).grew (HO.out) hg6); have HO6 := Lib.hid ho6; have HV6 := Lib.hid hv6; have HG6 := Lib.hid hg6; clear ho6 hg6 hv6; have n0 := blk_cell_J (HN0.out.ext HE6.out) 0 rfl; have n1 := blk_cell_J (HN0.out.ext HE6.out) 1 rfl; have n2 := blk_cell_J (HN0.out.ext HE6.out) 2 rfl; have HA := Lib.hid (HA.out.step HD5.out HG6.out); have x0 := blk_cell_J HA.out.1 0 rfl; have x1 := blk_cell_J HA.out.1 1 rfl; have x2 := blk_cell_J HA.out.1 2 rfl; have x3 := blk_cell_J HA.out.1 3 rfl; obtain ⟨P2, hP2⟩ : ∃ p, p = P1 ++ (uv (2*x.val.length)) := ⟨_, rfl⟩; have HO := Lib.hid (Rb.lit HO6.out rfl rfl); rw [← hP2] at HO; have hfl : P2.length ≤ 160000000 := (by rw [hP2, List.length_append]; omega); have HP2 := Lib.hid hP2; have HE := HE6; clear hP2 HO6 HE6 HV6 hnl HG6 HD5 HB5)))
        go_roundw
        case rel => exact ⟨k + 1, _, _, by omega, by go_num, rfl, HE, by rw [HF2.out, ← List.append_assoc, ← List.append_assoc, ← HP1.out, ← HP2.out, ← HP3.out]; exact HO⟩
        case measure => simp [intOf] <;> omega
    · obtain rfl : k = n.items.length := by omega
      have i1 : ¬ (n.items.length : Int) < n.items.length := by omega
      go_wp2_with fail
      go_ret
      exact ⟨_, rfl, _, HE0.out.trans HE.out, by rw [← HFE.out]; exact HO.out.lower HE0.out.below.size⟩
set_option maxRecDepth 100000 in
set_option maxHeartbeats 8000000 in
theorem refForm_inner {J : Jm} {w : World} (hI : Inv J w) {v : Value} {n : Nd} (hn : NdV J v n) (hr : right n = true) (hl : n.items.length ≤ 1048576) (hlf : n.leaf = false) :
    Calls Try.prog 15 #[v] w fun e w' => ∃ v' J', e = .returned v' ∧ Ext J w J' w' ∧ Rb J' w' w.heap.size v' (form n) := by
  obtain ⟨vi, vk, rfl, hi, hk⟩ := hn
  obtain ⟨Ai, ci, rfl, hni, hmi⟩ := hi.form
  obtain ⟨Ak, ck, rfl, hnk, hmk⟩ := hk.form
  unfold maxLen at hmi hmk
  have HIt := Lib.hid hi
  have HRA := Lib.hid (right_at hr)
  have HFL := Lib.hid (fun k => formU_len hr hl k)
  have HFS := Lib.hid (fun k h => formU_succ (n := n) (k := k) h)
  obtain ⟨hpi, hkl, hka⟩ := right_kids hr hlf
  have HKA := Lib.hid hka
  obtain ⟨kb, ko, rfl, hk0⟩ := hk.cell hI (show 0 < n.kids.length by omega)
  have HK0 := Lib.hid (show w.cell? ⟨kb, ko, none⟩ = some (.int .i64 (n.kids[0]'(by omega))) from by simpa using hk0)
  have HKd := Lib.hid hk
  have hkb := hka (n.kids[0]'(by omega)) (List.getElem_mem _)
  have HF0 : Hid (formU n 0 = (([2] : List UInt8) ++ uv n.items.length) ++ two (n.kids[0]'(by omega))) := by
    show formH n = _
    unfold formH; rw [hlf, if_neg (by decide), if_neg (by decide), List.headD_eq_head?_getD, List.head?_eq_getElem?, List.getElem?_eq_getElem (by omega)]; simp
  obtain ⟨kk, hkk⟩ : ∃ kk, kk = n.kids[0]'(by omega) := ⟨_, rfl⟩
  rw [← hkk] at HK0 hkb HF0
  have HKL := Lib.hid hkl
  have h0k : 0 < n.kids.length := by omega
  have h0i : (0 : Int) < n.kids.length := by omega
  clear hkk hk0 hka hkl
  have HFE := Lib.hid (formU_end n)
  have HLF := Lib.hid hlf
  have hul := uv_len64 (n := n.items.length) (by omega)
  clear hi hk hr
  go_enter Try.func15, Try.ntmps15
  rw [hlf]
  clear hlf
  go_upto_region 1 with fail
  have HN0 : Hid (NBox (w.alloc (.cells #[.bool false, .slice Ai n.items.length ci, .slice (some ⟨kb, ko, none⟩) n.kids.length ck] 25)) w.heap.size false (.slice Ai n.items.length ci) (.slice (some ⟨kb, ko, none⟩) n.kids.length ck)) := heap_alloc_new w _
  obtain ⟨nb, hnb⟩ : ∃ nb, nb = w.heap.size := ⟨_, rfl⟩
  have HE0 := Lib.hid ((Ext.refl hI).alloc (.cells #[.bool false, .slice Ai n.items.length ci, .slice (some ⟨kb, ko, none⟩) n.kids.length ck] 25))
  have HN0 := Lib.hid (show NBox _ nb false _ _ from by rw [hnb]; exact HN0.out)
  rw [← hnb]
  have HLT := Lib.hid (show nb < (w.alloc (.cells #[.bool false, .slice Ai n.items.length ci, .slice (some ⟨kb, ko, none⟩) n.kids.length ck] 25)).heap.size from by rw [hnb]; simp)
  generalize World.alloc w _ = W at *
  clear hnb
  go_upto_region 2 with fail
  have HB1 := Lib.hid ((Below.refl W.heap.size W).alloc (Nat.le_refl _) (.cells #[.int .u8 2] 5))
  have HG1 := Lib.hid (heap_alloc_new W (.cells #[.int .u8 2] 5))
  generalize World.alloc W _ = W1 at *
  have hfo := first_own (J := J) (W := W1) (h := 2) HE0.out.inv (c := #[.int .u8 2]) rfl HB1.out HG1.out
  obtain ⟨J1, hE, hO⟩ := hfo
  have HE := Lib.hid hE
  have HO := Lib.hid hO
  clear hE hO HB1 HG1
  have HN := Lib.hid (show NBox W1 nb false _ _ from (HE.out.below.block nb HLT.out).trans HN0.out)
  have n0 := blk_cell_J HN.out 0 rfl
  have n1 := blk_cell_J HN.out 1 rfl
  have n2 := blk_cell_J HN.out 2 rfl
  obtain ⟨P0, hP0⟩ : ∃ p : List UInt8, p = [2] := ⟨_, rfl⟩
  rw [← hP0] at HO
  have hfl : P0.length ≤ 1 := by rw [hP0]; simp
  have HP0 := Lib.hid hP0
  clear hP0
  have hle : (n.items.length : Int) ≤ 1048576 := by omega
  go_wp2_with fail
  refine ((refUintC HE.out.inv n.items.length (by omega))).mono ?_
  rintro e w1 ⟨v1, J1, rfl, hE1, hO1⟩
  obtain ⟨A1, c1, rfl, -, -⟩ := hO1.sl.form
  have HB1 := Lib.hid (Own.sl hO1)
  have HD1 := Lib.hid hE1.below
  have HO := Lib.hid (HO.out.ext hE1)
  have HE := Lib.hid (HE.out.trans hE1)
  clear hE1 hO1
  have hnl := uv_len64 (n := n.items.length) (by omega)
  go_wp2_with (at_builtin; go_must (refine wpList_append_J (J := J1) (s := .tmp 11) (x := .tmp 16) (t := 30) (e := 5) (base := W.heap.size) (v := .slice (some ⟨W.heap.size, 0, none⟩) 1 1) (n := P0.length) (xs := bcs P0) rfl (.int .u8 0) 1 1 rfl Try.underlying30 info_u8 rfl rfl HE.out.inv HO.out rfl HB1.out (bcs_one _) (by simp only [maxLen]; omega) (by omega) (by have := HE.out.below.size; simp; omega) ?_; intro v2 w2 J2 ho2 hg2 hv2; have HE2 := Lib.hid ((HE.out).grew (HO.out) hg2); have HO2 := Lib.hid ho2; have HV2 := Lib.hid hv2; have HG2 := Lib.hid hg2; clear ho2 hg2 hv2; have n0 := blk_cell_J (HN0.out.ext HE2.out) 0 rfl; have n1 := blk_cell_J (HN0.out.ext HE2.out) 1 rfl; have n2 := blk_cell_J (HN0.out.ext HE2.out) 2 rfl; have qk := below_held (HE0.out.trans HE2.out).below HK0.out))
  obtain ⟨P1, hP1⟩ : ∃ p, p = P0 ++ (uv n.items.length) := ⟨_, rfl⟩
  have HO := Lib.hid (Rb.lit HO2.out rfl rfl)
  rw [← hP1] at HO
  have hfl : P1.length ≤ 20 := by rw [hP1, List.length_append]; omega
  have HP1 := Lib.hid hP1
  have HE := HE2
  clear hP1 HO2 HE2 HV2 hnl HG2 HD1 HB1
  go_wp2_with fail
  refine ((refTwoC HE.out.inv kk (by omega) (by omega))).mono ?_
  rintro e w3 ⟨v3, J3, rfl, hE3, hO3⟩
  obtain ⟨A3, c3, rfl, -, -⟩ := hO3.sl.form
  have HB3 := Lib.hid (Own.sl hO3)
  have HD3 := Lib.hid hE3.below
  have HO := Lib.hid (HO.out.ext hE3)
  have HE := Lib.hid (HE.out.trans hE3)
  clear hE3 hO3
  have hnl := two_len kk
  go_wp2_with (at_builtin; go_must (refine wpList_append_J (J := J3) (s := .tmp 21) (x := .tmp 26) (t := 30) (e := 5) (base := W.heap.size) (v := v2) (n := P1.length) (xs := bcs P1) rfl (.int .u8 0) 1 1 rfl Try.underlying30 info_u8 rfl rfl HE.out.inv HO.out rfl HB3.out (bcs_one _) (by simp only [maxLen]; omega) (by omega) (by have := HE.out.below.size; simp; omega) ?_; intro v4 w4 J4 ho4 hg4 hv4; have HE4 := Lib.hid ((HE.out).grew (HO.out) hg4); have HO4 := Lib.hid ho4; have HV4 := Lib.hid hv4; have HG4 := Lib.hid hg4; clear ho4 hg4 hv4; have n0 := blk_cell_J (HN0.out.ext HE4.out) 0 rfl; have n1 := blk_cell_J (HN0.out.ext HE4.out) 1 rfl; have n2 := blk_cell_J (HN0.out.ext HE4.out) 2 rfl))
  obtain ⟨P2, hP2⟩ : ∃ p, p = P1 ++ (two kk) := ⟨_, rfl⟩
  have HO := Lib.hid (Rb.lit HO4.out rfl rfl)
  rw [← hP2] at HO
  have hfl : P2.length ≤ 30 := by rw [hP2, List.length_append]; omega
  have HP2 := Lib.hid hP2
  have HE := HE4
  clear hP2 HO4 HE4 HV4 hnl HG4 HD3 HB3
  have HO := Lib.hid (show Rb J4 w4 W.heap.size v4 (formU n 0) from by rw [HF0.out, ← HP0.out, ← HP1.out, ← HP2.out]; exact HO.out)
  clear HP0 HP1 HP2 hfl n0 n1 n2 HN
  go_wp2_with fail
  go_loopw [3, 4] (fun bv iv wr => ∃ (k : Nat) (v' : Value) (J' : Jm), k ≤ n.items.length ∧ iv = .int .i64 k ∧ bv = v' ∧ Hid (Ext J W J' wr) ∧ Hid (Rb J' wr W.heap.size v' (formU n k))) (fun _ iv _ => n.items.length - (intOf iv).toNat)
  case atStart => exact ⟨0, _, _, Nat.zero_le _, rfl, rfl, HE, HO⟩
  case round =>
    clear HE HO
    obtain ⟨k, v', J', hk, rfl, rfl, HE, HO⟩ := hrel
    have i0 : (0 : Int) ≤ (k : Int) := by omega
    have HN := Lib.hid (HN0.out.ext HE.out)
    have n0 := blk_cell_J HN.out 0 rfl
    have n1 := blk_cell_J HN.out 1 rfl
    have n2 := blk_cell_J HN.out 2 rfl
    by_cases hlt : k < n.items.length
    · have i1 : (k : Int) < n.items.length := by omega
      have hIw := hI.below (HE0.out.trans HE.out).below
      obtain ⟨b, o, rfl, c0, c1, c2, c3⟩ := HIt.out.cell hIw hlt
      have hk1 : k + 1 < n.kids.length := by have := HKL.out; omega
      have hk1i : (k : Int) + 1 < n.kids.length := by omega
      obtain ⟨kb1, ko1, hkA, hkc⟩ := HKd.out.cell hI hk1
      cases hkA
      have hKd2 : n.kids.getD (k + 1) 0 = n.kids[k + 1] := by rw [List.getD_eq_getElem?_getD, List.getElem?_eq_getElem hk1]; rfl
      have hKk := HKA.out n.kids[k + 1] (List.getElem_mem hk1)
      obtain ⟨kd, hkd⟩ : ∃ kd, kd = n.kids[k + 1] := ⟨_, rfl⟩
      rw [← hkd] at hkc hKd2 hKk
      have HKC := Lib.hid hkc
      clear hkc hkd
      have hbx := okItem_le (HRA.out n.items[k] (List.getElem_mem hlt))
      have hfs := HFS.out k hlt
      rw [HLF.out] at hfs
      have hfl := HFL.out k hk
      have hfl : (formU n k).length ≤ 140000000 := by omega
      obtain ⟨x, hx⟩ : ∃ x, x = n.items[k] := ⟨_, rfl⟩
      rw [← hx] at c0 c1 c2 c3 hbx hfs
      have HFS1 := Lib.hid hfs
      have HBX := Lib.hid hbx
      clear hfs hx hIw
      obtain ⟨P0, hP0⟩ : ∃ p, p = formU n k := ⟨_, rfl⟩
      rw [← hP0] at HO hfl HFS1
      clear hP0
      go_upto_region 11 with fail
      have HE := Lib.hid (HE.out.alloc (.cells #[.string (strB x.key), .string (strB x.val), .int .i64 x.page, .int .i64 x.len] 55))
      have HA := Lib.hid (Ap.new HO.out x _ rfl)
      have HO := Lib.hid (HO.out.alloc (.cells #[.string (strB x.key), .string (strB x.val), .int .i64 x.page, .int .i64 x.len] 55))
      generalize World.alloc wr _ = Wx at *
      generalize wr.heap.size = xb at *
      clear c0 c1 c2 c3 n0 n1 n2 HN
      have HN := Lib.hid (HN0.out.ext HE.out)
      have n0 := blk_cell_J HN.out 0 rfl
      have n1 := blk_cell_J HN.out 1 rfl
      have n2 := blk_cell_J HN.out 2 rfl
      have x0 := blk_cell_J HA.out.1 0 rfl
      have x1 := blk_cell_J HA.out.1 1 rfl
      have x2 := blk_cell_J HA.out.1 2 rfl
      have x3 := blk_cell_J HA.out.1 3 rfl
      have hks := strB_size x.key
      have hvs := strB_size x.val
      have HF2 : Hid (formU n (k + 1) = P0 ++ (ut x.key ++ two (n.kids.getD (k + 1) 0))) := by
        rw [Hid, HFS1.out]; unfold formI; rw [if_pos rfl]
      have hkx := hKk
      rw [hKd2] at HF2
      go_wp2_with fail
      refine ((refTextC HE.out.inv x.key (by omega))).mono ?_
      rintro e w3 ⟨v3, J3, rfl, hE3, hO3⟩
      obtain ⟨A3, c3, rfl, -, -⟩ := hO3.sl.form
      have HB3 := Lib.hid (Own.sl hO3)
      have HD3 := Lib.hid hE3.below
      have HO := Lib.hid (HO.out.ext hE3)
      have HE := Lib.hid (HE.out.trans hE3)
      clear hE3 hO3
      have hnl := ut_le (l := x.key) (by omega)
      go_wp2_with (at_builtin; go_must (refine wpList_append_J (J := J3) (s := .tmp 40) (x := .tmp 43) (t := 30) (e := 5) (base := W.heap.size) (v := u3) (n := P0.length) (xs := bcs P0) rfl (.int .u8 0) 1 1 rfl Try.underlying30 info_u8 rfl rfl HE.out.inv HO.out rfl HB3.out (bcs_one _) (by simp only [maxLen]; omega) (by omega) (by have := HE.out.below.size; simp; omega) ?_; intro v4 w4 J4 ho4 hg4 hv4; have HE4 := Lib.hid ((HE.out).grew (HO.out) hg4); have HO4 := Lib.hid ho4; have HV4 := Lib.hid hv4; have HG4 := Lib.hid hg4; clear ho4 hg4 hv4; have n0 := blk_cell_J (HN0.out.ext HE4.out) 0 rfl; have n1 := blk_cell_J (HN0.out.ext HE4.out) 1 rfl; have n2 := blk_cell_J (HN0.out.ext HE4.out) 2 rfl; have qk := below_held (HE0.out.trans HE4.out).below HKC.out))
      obtain ⟨P1, hP1⟩ : ∃ p, p = P0 ++ (ut x.key) := ⟨_, rfl⟩
      have HO := Lib.hid (Rb.lit HO4.out rfl rfl)
      rw [← hP1] at HO
      have hfl : P1.length ≤ 150000000 := by rw [hP1, List.length_append]; omega
      have HP1 := Lib.hid hP1
      have HE := HE4
      clear hP1 HO4 HE4 HV4 hnl HG4 HD3 HB3
      go_wp2_with fail
      refine ((refTwoC HE.out.inv kd (by omega) (by omega))).mono ?_
      rintro e w5 ⟨v5, J5, rfl, hE5, hO5⟩
      obtain ⟨A5, c5, rfl, -, -⟩ := hO5.sl.form
      have HB5 := Lib.hid (Own.sl hO5)
      have HD5 := Lib.hid hE5.below
      have HO := Lib.hid (HO.out.ext hE5)
      have HE := Lib.hid (HE.out.trans hE5)
      clear hE5 hO5
      have hnl := two_len kd
      go_wp2_with (at_builtin; go_must (refine wpList_append_J (J := J5) (s := .tmp 61) (x := .tmp 68) (t := 30) (e := 5) (base := W.heap.size) (v := v4) (n := P1.length) (xs := bcs P1) rfl (.int .u8 0) 1 1 rfl Try.underlying30 info_u8 rfl rfl HE.out.inv HO.out rfl HB5.out (bcs_one _) (by simp only [maxLen]; omega) (by omega) (by have := HE.out.below.size; simp; omega) ?_; intro v6 w6 J6 ho6 hg6 hv6; have HE6 := Lib.hid ((HE.out).grew (HO.out) hg6); have HO6 := Lib.hid ho6; have HV6 := Lib.hid hv6; have HG6 := Lib.hid hg6; clear ho6 hg6 hv6; have n0 := blk_cell_J (HN0.out.ext HE6.out) 0 rfl; have n1 := blk_cell_J (HN0.out.ext HE6.out) 1 rfl; have n2 := blk_cell_J (HN0.out.ext HE6.out) 2 rfl))
      obtain ⟨P2, hP2⟩ : ∃ p, p = P1 ++ (two kd) := ⟨_, rfl⟩
      have HO := Lib.hid (Rb.lit HO6.out rfl rfl)
      rw [← hP2] at HO
      have hfl : P2.length ≤ 160000000 := by rw [hP2, List.length_append]; omega
      have HP2 := Lib.hid hP2
      have HE := HE6
      clear hP2 HO6 HE6 HV6 hnl HG6 HD5 HB5
      go_roundw
      case rel => exact ⟨k + 1, _, _, by omega, by go_num, rfl, HE, by rw [HF2.out, ← List.append_assoc, ← HP1.out, ← HP2.out]; exact HO⟩
      case measure => simp [intOf] <;> omega
    · obtain rfl : k = n.items.length := by omega
      have i1 : ¬ (n.items.length : Int) < n.items.length := by omega
      go_wp2_with fail
      go_ret
      exact ⟨_, rfl, _, HE0.out.trans HE.out, by rw [← HFE.out]; exact HO.out.lower HE0.out.below.size⟩
theorem form_calls {J : Jm} {w : World} (hI : Inv J w) {v : Value} {n : Nd} (hn : NdV J v n) (hr : right n = true) (hl : n.items.length ≤ 1048576) :
    Calls Try.prog 40 #[v] w fun e w' => ∃ v' J', e = .returned v' ∧ Ext J w J' w' ∧ Rb J' w' w.heap.size v' (form n) := by
  cases h : n.leaf with
  | true => exact form_leaf hI hn hr hl h
  | false => exact form_inner hI hn hr hl h
theorem refForm_calls {J : Jm} {w : World} (hI : Inv J w) {v : Value} {n : Nd} (hn : NdV J v n) (hr : right n = true) (hl : n.items.length ≤ 1048576) :
    Calls Try.prog 15 #[v] w fun e w' => ∃ v' J', e = .returned v' ∧ Ext J w J' w' ∧ Rb J' w' w.heap.size v' (form n) := by
  cases h : n.leaf with
  | true => exact refForm_leaf hI hn hr hl h
  | false => exact refForm_inner hI hn hr hl h
end Go.Proofs.Ytnnkgjaahmflmaa
