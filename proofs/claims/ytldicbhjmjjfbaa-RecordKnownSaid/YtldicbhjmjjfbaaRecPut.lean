/- The walks of record's Put and of the document's Bytes. -/
import Derived.Test.YtldicbhjmjjfbaaRecCheck
import Derived.Test.YtldicbhjmjjfbaaWireRef
import Derived.Test.YtldicbhjmjjfbaaJOwn
namespace Go.Proofs.Ytldicbhjmjjfbaa
open Go.RowKit
set_option linter.unusedVariables false

/-- a block apart from the row that is written -/
def Apt (W : World) (v : Value) (b : Nat) (n : Nee) : Prop := EBox W b n ∧ v.ownBlock ≠ some b
theorem Apt.step {J0 J1 J2 : Jm} {W W1 W2 : World} {v v2 : Value} {b : Nat} {n : Nee} (h : Apt W v b n) (hb : Ext J0 W J1 W1) (hg : Grew J1 W1 v J2 W2 v2) : Apt W2 v2 b n := by
  have hlt := h.1.lt
  have hs := hb.below.size
  refine ⟨(hg.grown.block b (by omega) (fun e => h.2 e.symm)).trans ((hb.below.block b hlt).trans h.1), fun e => ?_⟩
  rcases hg.home b e with h' | h'
  · exact h.2 h'
  · omega
theorem Apt.new {J : Jm} {w : World} {B n : Nat} {T : TypeId} {s : Nat} {v : Value} {cs : List Value} (h : Own J w B T s v n cs) (x : Nee) : Apt (w.alloc (.cells #[.string (strB x.path), .bool x.hv, .string (strB x.cont)] 38)) v w.heap.size x :=
  ⟨EBox.new w x, fun e => by have := (h.lt _ e).2; omega⟩
theorem ut_le {l : List UInt8} {m : Nat} (h : l.length ≤ m) (hm : m ≤ 1048576) : (ut l).length ≤ m + 10 := by
  have := uv_len64 (n := l.length) (by omega)
  simp only [ut, List.length_append]; omega
theorem uts_le : ∀ {l : List (List UInt8)} {m : Nat}, (∀ s ∈ l, s.length ≤ m) → m ≤ 1048576 → (uts l).length ≤ l.length * (m + 10)
  | [], m, _, _ => by simp [uts]
  | x :: l, m, h, hm => by
    have h1 := ut_le (h x (.head _)) hm
    have h2 := uts_le (l := l) (m := m) (fun s hs => h s (.tail _ hs)) hm
    have e : uts (x :: l) = ut x ++ uts l := by simp [uts]
    rw [e, List.length_append, List.length_cons, Nat.succ_mul]
    omega
theorem nb_le {n : Nee} (h : okNee n = true) : (nb n).length ≤ 337 := by
  obtain ⟨h1, h2, _⟩ := okNee_path h
  have a := ut_le h1 (by decide)
  have b := ut_le h2 (by decide)
  unfold nb
  split <;> simp <;> omega
theorem nbs_le : ∀ {l : List Nee}, (∀ n ∈ l, okNee n = true) → (nbs l).length ≤ l.length * 337
  | [], _ => by simp
  | x :: l, h => by
    have h1 := nb_le (h x (.head _))
    have h2 := nbs_le (l := l) fun n hn => h n (.tail _ hn)
    have e : nbs (x :: l) = nb x ++ nbs l := by simp [nbs]
    rw [e, List.length_append, List.length_cons, Nat.succ_mul]
    omega
def hdT (t : Trc) : List UInt8 := [1] ++ ut t.job ++ uv t.needs.length
theorem right_parts {t : Trc} (h : rightT t = true) : t.job.length ≤ 512 ∧ t.needs.length ≤ 8 ∧ 1 ≤ t.outs.length ∧ t.outs.length ≤ 4 ∧ (∀ n ∈ t.needs, okNee n = true) ∧ (∀ s ∈ t.outs, s.length ≤ 256) := by
  unfold rightT shape okOuts at h
  simp only [Bool.and_eq_true, decide_eq_true_eq, List.all_eq_true] at h
  obtain ⟨⟨⟨⟨⟨h1, h2⟩, h3⟩, h4⟩, h5⟩, h6⟩ := h
  exact ⟨h1, h2, h3, h4, okNs_all h5, h6⟩
theorem hd_le {t : Trc} (h : rightT t = true) : (hdT t).length ≤ 540 := by
  obtain ⟨h1, h2, _⟩ := right_parts h
  have a := ut_le h1 (by decide)
  have b := uv_len64 (n := t.needs.length) (by omega)
  unfold hdT; simp; omega
theorem pre_le {t : Trc} (h : rightT t = true) (j : Nat) : (hdT t ++ nbs (t.needs.take j)).length ≤ 3300 := by
  obtain ⟨h1, h2, _, _, h5, _⟩ := right_parts h
  have a := hd_le h
  have b := nbs_le (l := t.needs.take j) fun n hn => h5 n (List.mem_of_mem_take hn)
  have c : (t.needs.take j).length ≤ 8 := by rw [List.length_take]; omega
  rw [List.length_append]; omega
theorem ul_le {t : Trc} (h : rightT t = true) : (ul t.outs).length ≤ 1100 := by
  obtain ⟨_, _, _, h4, _, h6⟩ := right_parts h
  have a := uv_len64 (n := t.outs.length) (by omega)
  have b := uts_le h6 (by decide)
  rw [ul_len]; omega
theorem bytesT_eq (t : Trc) : hdT t ++ nbs t.needs ++ ul t.outs = bytesT t := rfl
theorem pre_succ {t : Trc} {j : Nat} (hj : j < t.needs.length) : hdT t ++ nbs (t.needs.take (j + 1)) = hdT t ++ nbs (t.needs.take j) ++ nb t.needs[j] := by
  rw [List.take_succ_eq_append_getElem hj, nbs_append, nbs_one, List.append_assoc]
set_option maxRecDepth 100000 in
set_option maxHeartbeats 8000000 in
theorem put_calls {J : Jm} {w : World} (hI : Inv J w) {v : Value} {t : Trc} (ht : TrV J v t) (hS : TrS t) (hr : rightT t = true) :
    Calls Try.prog 19 #[v] w fun e w' => e = .returned (.tuple #[.string (strB (bytesT t)), .int .i64 0]) ∧ Below w.heap.size w w' := by
  have HV := Lib.hid ht
  obtain ⟨vn, vo, rfl, hn, ho⟩ := ht
  obtain ⟨An, cn, rfl, hnc, hnm⟩ := hn.form
  obtain ⟨Ao, co, rfl, hoc, hom⟩ := ho.form
  unfold maxLen at hnm hom
  have HN := Lib.hid hn
  have HOU := Lib.hid ho
  clear hn ho
  have HR := Lib.hid hr
  obtain ⟨r1, r2, r3, r4, r5, r6⟩ := right_parts hr
  have hX := (Ext.refl hI).alloc (.cells #[.string (strB t.job), .slice An t.needs.length cn, .slice Ao t.outs.length co] 26)
  have HB := Lib.hid (TBox.new w t (.slice An t.needs.length cn) (.slice Ao t.outs.length co))
  go_enter Try.func19, Try.ntmps19
  go_wp2_with fail
  refine (check_calls hX.inv HV.out hS).mono ?_
  rw [errT_yes hr]
  rintro e W ⟨rfl, hb⟩
  have HX := Lib.hid (hX.step hb)
  have HT := Lib.hid (HB.out.below hb)
  clear hX hb HB hr
  generalize w.heap.size = tb at HT ⊢
  have HO := Lib.hid (show Own _ (W.alloc (.cells #[.int .u8 1] 5)) W.heap.size 5 1 (.slice (some ⟨W.heap.size, 0, none⟩) 1 1) 1 (bcs [1]) from Own.litB HX.out.inv [1] rfl (by decide))
  have HE := Lib.hid (show Ext J W _ (W.alloc (.cells #[.int .u8 1] 5)) from (Ext.refl HX.out.inv).lit 5 [1])
  generalize (J.put W.heap.size (bcs [1])) = J1 at *
  obtain ⟨P0, hP0⟩ : ∃ p : List UInt8, p = [1] := ⟨_, rfl⟩
  rw [← hP0] at HO
  have hfl : P0.length = 1 := by rw [hP0]; rfl
  have HP0 := Lib.hid hP0
  clear hP0
  have HO : Hid (Rb J1 (W.alloc (.cells #[.int .u8 1] 5)) W.heap.size (.slice (some ⟨W.heap.size, 0, none⟩) 1 1) P0) := by rw [Hid]; unfold Rb; rw [hfl]; exact HO.out
  have HTB := Lib.hid (HT.out.ext HE.out)
  have q0 := HTB.out.c0
  have q1 := HTB.out.c1
  have q2 := HTB.out.c2
  go_wp2_with fail
  refine (putText_calls HE.out.inv t.job (by omega)).mono ?_
  rintro e w2 ⟨v2, J2, rfl, hE2, hO2⟩
  obtain ⟨A2, c2, rfl, -, -⟩ := hO2.sl.form
  have HB2 := Lib.hid (Own.sl hO2)
  have HD2 := Lib.hid hE2
  have HO := Lib.hid (HO.out.ext hE2)
  have HE := Lib.hid (HE.out.trans hE2)
  clear hE2 hO2 q0 q1 q2 
  have hnl := ut_le r1 (by decide)
  go_wp2_with (at_builtin; go_must (refine wpList_append_J (J := J2) (s := .tmp 13) (x := .tmp 16) (t := 54) (e := 5) (base := W.heap.size) (v := .slice (some ⟨W.heap.size, 0, none⟩) 1 1) (n := P0.length) (xs := bcs P0) rfl (.int .u8 0) 1 1 rfl Try.underlying54 info_u8 rfl rfl HE.out.inv HO.out rfl HB2.out (bcs_one _) (by simp only [maxLen]; omega) (by omega) (by have := HE.out.below.size; simp; omega) ?_; intro v3 w3 J3 ho3 hg3 hv3; have HE3 := Lib.hid ((HE.out).grew (HO.out) hg3); have HO3 := Lib.hid ho3; have HV3 := Lib.hid hv3; have HG3 := Lib.hid hg3; clear ho3 hg3 hv3; have q0 := (HT.out.ext HE3.out).c0; have q1 := (HT.out.ext HE3.out).c1; have q2 := (HT.out.ext HE3.out).c2))
  obtain ⟨P1, hP1⟩ : ∃ p, p = P0 ++ (ut t.job) := ⟨_, rfl⟩
  have HO := Lib.hid (Rb.lit HO3.out rfl rfl)
  rw [← hP1] at HO
  have hfl : P1.length ≤ 540 := by rw [hP1, List.length_append]; omega
  have HP1 := Lib.hid hP1
  have HE := HE3
  have HTB := Lib.hid (HT.out.ext HE.out)
  clear hP1 HO3 HE3 HV3 hnl HB2
  go_wp2_with fail
  refine (putUint_calls HE.out.inv t.needs.length (by omega)).mono ?_
  rintro e w4 ⟨v4, J4, rfl, hE4, hO4⟩
  obtain ⟨A4, c4, rfl, -, -⟩ := hO4.sl.form
  have HB4 := Lib.hid (Own.sl hO4)
  have HD4 := Lib.hid hE4
  have HO := Lib.hid (HO.out.ext hE4)
  have HE := Lib.hid (HE.out.trans hE4)
  clear hE4 hO4 q0 q1 q2 
  have hnl := uv_len64 (n:=t.needs.length) (by omega)
  go_wp2_with (at_builtin; go_must (refine wpList_append_J (J := J4) (s := .tmp 18) (x := .tmp 23) (t := 54) (e := 5) (base := W.heap.size) (v := v3) (n := P1.length) (xs := bcs P1) rfl (.int .u8 0) 1 1 rfl Try.underlying54 info_u8 rfl rfl HE.out.inv HO.out rfl HB4.out (bcs_one _) (by simp only [maxLen]; omega) (by omega) (by have := HE.out.below.size; simp; omega) ?_; intro v5 w5 J5 ho5 hg5 hv5; have HE5 := Lib.hid ((HE.out).grew (HO.out) hg5); have HO5 := Lib.hid ho5; have HV5 := Lib.hid hv5; have HG5 := Lib.hid hg5; clear ho5 hg5 hv5; have q0 := (HT.out.ext HE5.out).c0; have q1 := (HT.out.ext HE5.out).c1; have q2 := (HT.out.ext HE5.out).c2))
  obtain ⟨P2, hP2⟩ : ∃ p, p = P1 ++ (uv t.needs.length) := ⟨_, rfl⟩
  have HO := Lib.hid (Rb.lit HO5.out rfl rfl)
  rw [← hP2] at HO
  have hfl : P2.length ≤ 560 := by rw [hP2, List.length_append]; omega
  have HP2 := Lib.hid hP2
  have HE := HE5
  have HTB := Lib.hid (HT.out.ext HE.out)
  clear hP2 HO5 HE5 HV5 hnl HB4
  go_wp2_with fail
  clear q0 q1 q2
  have HO : Hid (Rb J5 w5 W.heap.size v5 (hdT t ++ nbs (t.needs.take 0))) := by
    rw [List.take_zero, nbs_nil, List.append_nil, show hdT t = P2 by rw [HP2.out, HP1.out, HP0.out]; rfl]; exact HO.out
  clear HP2 HP1 HP0
  go_loopw [5, 28] (fun v i wr => ∃ (j : Nat) (J' : Jm), j ≤ t.needs.length ∧ i = .int .i64 j ∧ Hid (Ext J W J' wr) ∧ Hid (Rb J' wr W.heap.size v (hdT t ++ nbs (t.needs.take j)))) (fun _ i _ => t.needs.length - (intOf i).toNat)
  case atStart => exact ⟨0, J5, by omega, rfl, HE, HO⟩
  case round =>
    obtain ⟨j, J', hj, rfl, HE, HO⟩ := hrel
    have hpre := pre_le HR.out j
    by_cases hlt : j < t.needs.length
    · have i0 : (0 : Int) ≤ (j : Int) := by omega
      have i1 : (j : Int) < t.needs.length := by omega
      obtain ⟨b, o, rfl, hx0, hx1, hx2⟩ := Ns.cell (HN.out.mono ((HX.out.trans HE.out).le hI)) HE.out.inv hlt
      have HPS := Lib.hid (pre_succ hlt)
      have hok := r5 t.needs[j] (List.getElem_mem hlt)
      obtain ⟨s1, s2, s3⟩ := okNee_path hok
      clear r5 hok
      generalize t.needs[j] = n at *
      obtain ⟨P0, hP0⟩ : ∃ p : List UInt8, p = hdT t ++ nbs (t.needs.take j) := ⟨_, rfl⟩
      rw [← hP0] at HO HPS hpre
      clear hP0
      have hfl := hpre
      clear hpre
      obtain ⟨pa, hv, ct⟩ := n
      simp only at hx0 hx1 hx2 s1 s2 s3
      go_upto_region 9 with fail
      have HA := Lib.hid (Apt.new HO.out ⟨pa, hv, ct⟩)
      have HO := Lib.hid (HO.out.alloc (.cells #[.string (strB pa), .bool hv, .string (strB ct)] 38))
      have HE := Lib.hid (HE.out.alloc (.cells #[.string (strB pa), .bool hv, .string (strB ct)] 38))
      clear hx0 hx1 hx2
      generalize World.alloc wr _ = W3 at *
      generalize wr.heap.size = eb at HA ⊢
      have q0 := (HT.out.ext HE.out).c0
      have q1 := (HT.out.ext HE.out).c1
      have q2 := (HT.out.ext HE.out).c2
      have e0 := HA.out.1.c0
      cases hv with
      | false =>
        go_wp2_with fail
        refine (putText_calls HE.out.inv pa (by omega)).mono ?_
        rintro e w6 ⟨v6, J6, rfl, hE6, hO6⟩
        obtain ⟨A6, c6, rfl, -, -⟩ := hO6.sl.form
        have HB6 := Lib.hid (Own.sl hO6)
        have HD6 := Lib.hid hE6
        have HO := Lib.hid (HO.out.ext hE6)
        have HE := Lib.hid (HE.out.trans hE6)
        clear hE6 hO6 q0 q1 q2 e0
        have hnl := ut_le s1 (by decide)
        go_upto_region 11 with (at_builtin; go_must (refine wpList_append_J (J := J6) (s := .tmp 32) (x := .tmp 35) (t := 54) (e := 5) (base := W.heap.size) (v := u5) (n := P0.length) (xs := bcs P0) rfl (.int .u8 0) 1 1 rfl Try.underlying54 info_u8 rfl rfl HE.out.inv HO.out rfl HB6.out (bcs_one _) (by simp only [maxLen]; omega) (by omega) (by have := HE.out.below.size; simp; omega) ?_; intro v7 w7 J7 ho7 hg7 hv7; have HE7 := Lib.hid ((HE.out).grew (HO.out) hg7); have HO7 := Lib.hid ho7; have HV7 := Lib.hid hv7; have HG7 := Lib.hid hg7; clear ho7 hg7 hv7; have q0 := (HT.out.ext HE7.out).c0; have q1 := (HT.out.ext HE7.out).c1; have q2 := (HT.out.ext HE7.out).c2; have HA7 := Lib.hid (HA.out.step HD6.out HG7.out); have e1 := HA7.out.1.c1; have e2 := HA7.out.1.c2))
        obtain ⟨P1, hP1⟩ : ∃ p, p = P0 ++ (ut pa) := ⟨_, rfl⟩
        have HO := Lib.hid (Rb.lit HO7.out rfl rfl)
        rw [← hP1] at HO
        have hfl : P1.length ≤ 3370 := by rw [hP1, List.length_append]; omega
        have HP1 := Lib.hid hP1
        have HE := HE7
        have HTB := Lib.hid (HT.out.ext HE.out)
        clear hP1 HO7 HE7 HV7 hnl HB6
        clear e1 e2 q0 q1 q2
        go_wp2_with (at_builtin; go_must (refine wpList_append_lit (J := J7) (s := .tmp 40) (x := .tmp 41) (t := 54) (e := 5) (base := W.heap.size) (v := v7) (n := P1.length) (xs := bcs P1) (m := 1) (news := bcs [0]) rfl (.int .u8 0) 1 1 rfl Try.underlying54 info_u8 rfl rfl (HE.out.inv.alloc _) (HO.out.alloc _) rfl (heap_alloc_new _ _) rfl (bcs_one _) (by simp only [maxLen]; omega) (by omega) (by have := HE.out.below.size; simp; omega) ?_; intro v9 w9 J9 ho9 hg9 hv9; have HE9 := Lib.hid ((HE.out.alloc _).grew (HO.out.alloc _) hg9); have HO9 := Lib.hid ho9; have HV9 := Lib.hid hv9; clear ho9 hg9 hv9))
        go_roundw
        case rel => exact ⟨j + 1, J9, by omega, by go_num, HE9, by
          have hz := Rb.lit HO9.out rfl rfl
          rw [HPS.out]; rw [HP1.out, List.append_assoc] at hz; exact hz⟩
        case measure => simp [intOf]; omega
      | true =>
        go_wp2_with fail
        refine (putText_calls HE.out.inv pa (by omega)).mono ?_
        rintro e w6 ⟨v6, J6, rfl, hE6, hO6⟩
        obtain ⟨A6, c6, rfl, -, -⟩ := hO6.sl.form
        have HB6 := Lib.hid (Own.sl hO6)
        have HD6 := Lib.hid hE6
        have HO := Lib.hid (HO.out.ext hE6)
        have HE := Lib.hid (HE.out.trans hE6)
        clear hE6 hO6 q0 q1 q2 e0
        have hnl := ut_le s1 (by decide)
        go_upto_region 12 with (at_builtin; go_must (refine wpList_append_J (J := J6) (s := .tmp 32) (x := .tmp 35) (t := 54) (e := 5) (base := W.heap.size) (v := u5) (n := P0.length) (xs := bcs P0) rfl (.int .u8 0) 1 1 rfl Try.underlying54 info_u8 rfl rfl HE.out.inv HO.out rfl HB6.out (bcs_one _) (by simp only [maxLen]; omega) (by omega) (by have := HE.out.below.size; simp; omega) ?_; intro v7 w7 J7 ho7 hg7 hv7; have HE7 := Lib.hid ((HE.out).grew (HO.out) hg7); have HO7 := Lib.hid ho7; have HV7 := Lib.hid hv7; have HG7 := Lib.hid hg7; clear ho7 hg7 hv7; have q0 := (HT.out.ext HE7.out).c0; have q1 := (HT.out.ext HE7.out).c1; have q2 := (HT.out.ext HE7.out).c2; have HA7 := Lib.hid (HA.out.step HD6.out HG7.out); have e1 := HA7.out.1.c1; have e2 := HA7.out.1.c2))
        obtain ⟨P1, hP1⟩ : ∃ p, p = P0 ++ (ut pa) := ⟨_, rfl⟩
        have HO := Lib.hid (Rb.lit HO7.out rfl rfl)
        rw [← hP1] at HO
        have hfl : P1.length ≤ 3370 := by rw [hP1, List.length_append]; omega
        have HP1 := Lib.hid hP1
        have HE := HE7
        have HTB := Lib.hid (HT.out.ext HE.out)
        clear hP1 HO7 HE7 HV7 hnl HB6
        clear e1 e2 q0 q1 q2
        go_upto_region 13 with (at_builtin; go_must (refine wpList_append_lit (J := J7) (s := .tmp 43) (x := .tmp 44) (t := 54) (e := 5) (base := W.heap.size) (v := v7) (n := P1.length) (xs := bcs P1) (m := 1) (news := bcs [1]) rfl (.int .u8 0) 1 1 rfl Try.underlying54 info_u8 rfl rfl (HE.out.inv.alloc _) (HO.out.alloc _) rfl (heap_alloc_new _ _) rfl (bcs_one _) (by simp only [maxLen]; omega) (by omega) (by have := HE.out.below.size; simp; omega) ?_; intro v9 w9 J9 ho9 hg9 hv9; have HE9 := Lib.hid ((HE.out.alloc _).grew (HO.out.alloc _) hg9); have HO9 := Lib.hid ho9; have HV9 := Lib.hid hv9; have HG9 := Lib.hid hg9; clear ho9 hg9 hv9; have HA9 := Lib.hid (HA7.out.step ((Ext.refl HE.out.inv).alloc (.cells #[.int .u8 1] 5)) HG9.out)))
        have e2 := HA9.out.1.c2
        have q0 := (HT.out.ext HE9.out).c0
        have q1 := (HT.out.ext HE9.out).c1
        have q2 := (HT.out.ext HE9.out).c2
        obtain ⟨P2, hP2⟩ : ∃ p, p = P1 ++ [1] := ⟨_, rfl⟩
        have HO := Lib.hid (Rb.lit HO9.out rfl rfl)
        rw [← hP2] at HO
        have hfl : P2.length ≤ 3380 := by rw [hP2, List.length_append]; simp only [List.length_cons, List.length_nil]; omega
        have HP2 := Lib.hid hP2
        have HE := HE9
        clear hP2 HO9 HE9 HV9 HG9
        go_wp2_with fail
        refine (putText_calls HE.out.inv ct (by omega)).mono ?_
        rintro e w10 ⟨v10, J10, rfl, hE10, hO10⟩
        obtain ⟨A10, c10, rfl, -, -⟩ := hO10.sl.form
        have HB10 := Lib.hid (Own.sl hO10)
        have HD10 := Lib.hid hE10
        have HO := Lib.hid (HO.out.ext hE10)
        have HE := Lib.hid (HE.out.trans hE10)
        clear hE10 hO10 q0 q1 q2 e2
        have hnl := ut_le s2 (by decide)
        go_wp2_with (at_builtin; go_must (refine wpList_append_J (J := J10) (s := .tmp 46) (x := .tmp 49) (t := 54) (e := 5) (base := W.heap.size) (v := v9) (n := P2.length) (xs := bcs P2) rfl (.int .u8 0) 1 1 rfl Try.underlying54 info_u8 rfl rfl HE.out.inv HO.out rfl HB10.out (bcs_one _) (by simp only [maxLen]; omega) (by omega) (by have := HE.out.below.size; simp; omega) ?_; intro v11 w11 J11 ho11 hg11 hv11; have HE11 := Lib.hid ((HE.out).grew (HO.out) hg11); have HO11 := Lib.hid ho11; have HV11 := Lib.hid hv11; have HG11 := Lib.hid hg11; clear ho11 hg11 hv11; have q0 := (HT.out.ext HE11.out).c0; have q1 := (HT.out.ext HE11.out).c1; have q2 := (HT.out.ext HE11.out).c2))
        obtain ⟨P3, hP3⟩ : ∃ p, p = P2 ++ (ut ct) := ⟨_, rfl⟩
        have HO := Lib.hid (Rb.lit HO11.out rfl rfl)
        rw [← hP3] at HO
        have hfl : P3.length ≤ 3700 := by rw [hP3, List.length_append]; omega
        have HP3 := Lib.hid hP3
        have HE := HE11
        have HTB := Lib.hid (HT.out.ext HE.out)
        clear hP3 HO11 HE11 HV11 hnl HB10
        clear q0 q1 q2
        go_roundw
        case rel => exact ⟨j + 1, J11, by omega, by go_num, HE, by
          have hz := HO.out
          rw [HPS.out]
          rw [HP3.out, HP2.out, HP1.out, List.append_assoc, List.append_assoc] at hz; exact hz⟩
        case measure => simp [intOf]; omega
    · obtain rfl : j = t.needs.length := by omega
      have q0 := (HT.out.ext HE.out).c0
      have q1 := (HT.out.ext HE.out).c1
      have q2 := (HT.out.ext HE.out).c2
      have HOX := Lib.hid (HOU.out.mono ((HX.out.trans HE.out).le hI))
      have hul := ul_le HR.out
      have hfl := hpre
      clear hpre
      rw [List.take_length] at HO hfl
      obtain ⟨P0, hP0⟩ : ∃ p : List UInt8, p = hdT t ++ nbs t.needs := ⟨_, rfl⟩
      rw [← hP0] at HO hfl
      have HP0 := Lib.hid hP0
      clear hP0
      go_wp2_with fail
      refine (putList_calls HE.out.inv HOX.out (by omega)).mono ?_
      rintro e w6 ⟨v6, J6, rfl, hE6, hO6⟩
      obtain ⟨A6, c6, rfl, -, -⟩ := hO6.sl.form
      have HB6 := Lib.hid (Own.sl hO6)
      have HD6 := Lib.hid hE6
      have HO := Lib.hid (HO.out.ext hE6)
      have HE := Lib.hid (HE.out.trans hE6)
      clear hE6 hO6 q0 q1 q2 
      have hnl := hul
      go_wp2_with (at_builtin; go_must (refine wpList_append_J (J := J6) (s := .tmp 52) (x := .tmp 55) (t := 54) (e := 5) (base := W.heap.size) (v := u5) (n := P0.length) (xs := bcs P0) rfl (.int .u8 0) 1 1 rfl Try.underlying54 info_u8 rfl rfl HE.out.inv HO.out rfl HB6.out (bcs_one _) (by simp only [maxLen]; omega) (by omega) (by have := HE.out.below.size; simp; omega) ?_; intro v7 w7 J7 ho7 hg7 hv7; have HE7 := Lib.hid ((HE.out).grew (HO.out) hg7); have HO7 := Lib.hid ho7; have HV7 := Lib.hid hv7; have HG7 := Lib.hid hg7; clear ho7 hg7 hv7; have q0 := (HT.out.ext HE7.out).c0; have q1 := (HT.out.ext HE7.out).c1; have q2 := (HT.out.ext HE7.out).c2; have kc := Bs.string (P := Try.prog) HE7.out.inv (Own.bs (Rb.lit HO7.out rfl rfl)) 54 9 5 Try.underlying54 Try.underlying5 Try.underlying9))
      obtain ⟨P1, hP1⟩ : ∃ p, p = P0 ++ (ul t.outs) := ⟨_, rfl⟩
      have HO := Lib.hid (Rb.lit HO7.out rfl rfl)
      rw [← hP1] at HO
      have hfl : P1.length ≤ 4400 := by rw [hP1, List.length_append]; omega
      have HP1 := Lib.hid hP1
      have HE := HE7
      have HTB := Lib.hid (HT.out.ext HE.out)
      clear hP1 HO7 HE7 HV7 hnl HB6
      clear q0 q1 q2
      go_ret2
      exact ⟨by rw [← bytesT_eq, ← HP0.out]; rfl, HX.out.below.trans (HE.out.below.mono HX.out.below.size)⟩
set_option maxHeartbeats 2000000 in
theorem put_bad_calls {J : Jm} {w : World} (hI : Inv J w) {v : Value} {t : Trc} (ht : TrV J v t) (hS : TrS t) (hr : rightT t = false) :
    Calls Try.prog 19 #[v] w fun e w' => e = .returned (.tuple #[.string (strB []), .int .i64 2]) ∧ Below w.heap.size w w' := by
  have HV := Lib.hid ht
  obtain ⟨vn, vo, rfl, hn, ho⟩ := ht
  have hX := (Ext.refl hI).alloc (.cells #[.string (strB t.job), vn, vo] 26)
  clear hn ho
  go_enter Try.func19, Try.ntmps19
  go_wp2_with fail
  refine (check_calls hX.inv HV.out hS).mono ?_
  rw [errT_no hr]
  rintro e W ⟨rfl, hb⟩
  have HX := Lib.hid (hX.step hb)
  clear hX hb
  go_wp2_with fail
  go_ret2
  exact ⟨rfl, HX.out.below⟩
set_option maxRecDepth 100000 in
set_option maxHeartbeats 8000000 in
theorem refBytes_calls {J : Jm} {w : World} (hI : Inv J w) {v : Value} {t : Trc} (ht : TrV J v t) (hr : rightT t = true) :
    Calls Try.prog 13 #[v] w fun e w' => e = .returned (.string (strB (bytesT t))) ∧ Below w.heap.size w w' := by
  obtain ⟨vn, vo, rfl, hn, ho⟩ := ht
  obtain ⟨An, cn, rfl, hnc, hnm⟩ := hn.form
  obtain ⟨Ao, co, rfl, hoc, hom⟩ := ho.form
  unfold maxLen at hnm hom
  have HN := Lib.hid hn
  have HOU := Lib.hid ho
  clear hn ho
  have HR := Lib.hid hr
  obtain ⟨r1, r2, r3, r4, r5, r6⟩ := right_parts hr
  have hX := (Ext.refl hI).alloc (.cells #[.string (strB t.job), .slice An t.needs.length cn, .slice Ao t.outs.length co] 26)
  have HT := Lib.hid (TBox.new w t (.slice An t.needs.length cn) (.slice Ao t.outs.length co))
  go_enter Try.func13, Try.ntmps13
  go_upto_region 1 with fail
  have HX := Lib.hid hX
  clear hX hr
  generalize World.alloc w _ = W at *
  generalize w.heap.size = tb at HT ⊢
  have HO := Lib.hid (show Own _ (W.alloc (.cells #[.int .u8 1] 5)) W.heap.size 5 1 (.slice (some ⟨W.heap.size, 0, none⟩) 1 1) 1 (bcs [1]) from Own.litB HX.out.inv [1] rfl (by decide))
  have HE := Lib.hid (show Ext J W _ (W.alloc (.cells #[.int .u8 1] 5)) from (Ext.refl HX.out.inv).lit 5 [1])
  generalize (J.put W.heap.size (bcs [1])) = J1 at *
  obtain ⟨P0, hP0⟩ : ∃ p : List UInt8, p = [1] := ⟨_, rfl⟩
  rw [← hP0] at HO
  have hfl : P0.length = 1 := by rw [hP0]; rfl
  have HP0 := Lib.hid hP0
  clear hP0
  have HO : Hid (Rb J1 (W.alloc (.cells #[.int .u8 1] 5)) W.heap.size (.slice (some ⟨W.heap.size, 0, none⟩) 1 1) P0) := by rw [Hid]; unfold Rb; rw [hfl]; exact HO.out
  have HTB := Lib.hid (HT.out.ext HE.out)
  have q0 := HTB.out.c0
  have q1 := HTB.out.c1
  have q2 := HTB.out.c2
  go_wp2_with fail
  refine (refText_calls HE.out.inv t.job (by omega)).mono ?_
  rintro e w2 ⟨v2, J2, rfl, hE2, hO2⟩
  obtain ⟨A2, c2, rfl, -, -⟩ := hO2.sl.form
  have HB2 := Lib.hid (Own.sl hO2)
  have HD2 := Lib.hid hE2
  have HO := Lib.hid (HO.out.ext hE2)
  have HE := Lib.hid (HE.out.trans hE2)
  clear hE2 hO2 q0 q1 q2 
  have hnl := ut_le r1 (by decide)
  go_wp2_with (at_builtin; go_must (refine wpList_append_J (J := J2) (s := .tmp 6) (x := .tmp 9) (t := 54) (e := 5) (base := W.heap.size) (v := .slice (some ⟨W.heap.size, 0, none⟩) 1 1) (n := P0.length) (xs := bcs P0) rfl (.int .u8 0) 1 1 rfl Try.underlying54 info_u8 rfl rfl HE.out.inv HO.out rfl HB2.out (bcs_one _) (by simp only [maxLen]; omega) (by omega) (by have := HE.out.below.size; simp; omega) ?_; intro v3 w3 J3 ho3 hg3 hv3; have HE3 := Lib.hid ((HE.out).grew (HO.out) hg3); have HO3 := Lib.hid ho3; have HV3 := Lib.hid hv3; have HG3 := Lib.hid hg3; clear ho3 hg3 hv3; have q0 := (HT.out.ext HE3.out).c0; have q1 := (HT.out.ext HE3.out).c1; have q2 := (HT.out.ext HE3.out).c2))
  obtain ⟨P1, hP1⟩ : ∃ p, p = P0 ++ (ut t.job) := ⟨_, rfl⟩
  have HO := Lib.hid (Rb.lit HO3.out rfl rfl)
  rw [← hP1] at HO
  have hfl : P1.length ≤ 540 := by rw [hP1, List.length_append]; omega
  have HP1 := Lib.hid hP1
  have HE := HE3
  have HTB := Lib.hid (HT.out.ext HE.out)
  clear hP1 HO3 HE3 HV3 hnl HB2
  go_wp2_with fail
  refine (refUint_calls HE.out.inv t.needs.length (by omega)).mono ?_
  rintro e w4 ⟨v4, J4, rfl, hE4, hO4⟩
  obtain ⟨A4, c4, rfl, -, -⟩ := hO4.sl.form
  have HB4 := Lib.hid (Own.sl hO4)
  have HD4 := Lib.hid hE4
  have HO := Lib.hid (HO.out.ext hE4)
  have HE := Lib.hid (HE.out.trans hE4)
  clear hE4 hO4 q0 q1 q2 
  have hnl := uv_len64 (n:=t.needs.length) (by omega)
  go_wp2_with (at_builtin; go_must (refine wpList_append_J (J := J4) (s := .tmp 11) (x := .tmp 16) (t := 54) (e := 5) (base := W.heap.size) (v := v3) (n := P1.length) (xs := bcs P1) rfl (.int .u8 0) 1 1 rfl Try.underlying54 info_u8 rfl rfl HE.out.inv HO.out rfl HB4.out (bcs_one _) (by simp only [maxLen]; omega) (by omega) (by have := HE.out.below.size; simp; omega) ?_; intro v5 w5 J5 ho5 hg5 hv5; have HE5 := Lib.hid ((HE.out).grew (HO.out) hg5); have HO5 := Lib.hid ho5; have HV5 := Lib.hid hv5; have HG5 := Lib.hid hg5; clear ho5 hg5 hv5; have q0 := (HT.out.ext HE5.out).c0; have q1 := (HT.out.ext HE5.out).c1; have q2 := (HT.out.ext HE5.out).c2))
  obtain ⟨P2, hP2⟩ : ∃ p, p = P1 ++ (uv t.needs.length) := ⟨_, rfl⟩
  have HO := Lib.hid (Rb.lit HO5.out rfl rfl)
  rw [← hP2] at HO
  have hfl : P2.length ≤ 560 := by rw [hP2, List.length_append]; omega
  have HP2 := Lib.hid hP2
  have HE := HE5
  have HTB := Lib.hid (HT.out.ext HE.out)
  clear hP2 HO5 HE5 HV5 hnl HB4
  go_wp2_with fail
  clear q0 q1 q2
  have HO : Hid (Rb J5 w5 W.heap.size v5 (hdT t ++ nbs (t.needs.take 0))) := by
    rw [List.take_zero, nbs_nil, List.append_nil, show hdT t = P2 by rw [HP2.out, HP1.out, HP0.out]; rfl]; exact HO.out
  clear HP2 HP1 HP0
  go_loopw [3, 4] (fun v i wr => ∃ (j : Nat) (J' : Jm), j ≤ t.needs.length ∧ i = .int .i64 j ∧ Hid (Ext J W J' wr) ∧ Hid (Rb J' wr W.heap.size v (hdT t ++ nbs (t.needs.take j)))) (fun _ i _ => t.needs.length - (intOf i).toNat)
  case atStart => exact ⟨0, J5, by omega, rfl, HE, HO⟩
  case round =>
    obtain ⟨j, J', hj, rfl, HE, HO⟩ := hrel
    have hpre := pre_le HR.out j
    have q0 := (HT.out.ext HE.out).c0
    have q1 := (HT.out.ext HE.out).c1
    have q2 := (HT.out.ext HE.out).c2
    by_cases hlt : j < t.needs.length
    · have i0 : (0 : Int) ≤ (j : Int) := by omega
      have i1 : (j : Int) < t.needs.length := by omega
      obtain ⟨b, o, rfl, hx0, hx1, hx2⟩ := Ns.cell (HN.out.mono ((HX.out.trans HE.out).le hI)) HE.out.inv hlt
      have HPS := Lib.hid (pre_succ hlt)
      have hok := r5 t.needs[j] (List.getElem_mem hlt)
      obtain ⟨s1, s2, s3⟩ := okNee_path hok
      clear r5 hok
      generalize t.needs[j] = n at *
      obtain ⟨P0, hP0⟩ : ∃ p : List UInt8, p = hdT t ++ nbs (t.needs.take j) := ⟨_, rfl⟩
      rw [← hP0] at HO HPS hpre
      clear hP0
      have hfl := hpre
      clear hpre
      obtain ⟨pa, hv, ct⟩ := n
      simp only at hx0 hx1 hx2 s1 s2 s3
      go_upto_region 7 with fail
      have HA := Lib.hid (Apt.new HO.out ⟨pa, hv, ct⟩)
      have HO := Lib.hid (HO.out.alloc (.cells #[.string (strB pa), .bool hv, .string (strB ct)] 38))
      have HE := Lib.hid (HE.out.alloc (.cells #[.string (strB pa), .bool hv, .string (strB ct)] 38))
      clear hx0 hx1 hx2 q0 q1 q2
      generalize World.alloc wr _ = W3 at *
      generalize wr.heap.size = eb at HA ⊢
      have q0 := (HT.out.ext HE.out).c0
      have q1 := (HT.out.ext HE.out).c1
      have q2 := (HT.out.ext HE.out).c2
      have e0 := HA.out.1.c0
      cases hv with
      | false =>
        go_wp2_with fail
        refine (refText_calls HE.out.inv pa (by omega)).mono ?_
        rintro e w6 ⟨v6, J6, rfl, hE6, hO6⟩
        obtain ⟨A6, c6, rfl, -, -⟩ := hO6.sl.form
        have HB6 := Lib.hid (Own.sl hO6)
        have HD6 := Lib.hid hE6
        have HO := Lib.hid (HO.out.ext hE6)
        have HE := Lib.hid (HE.out.trans hE6)
        clear hE6 hO6 q0 q1 q2 e0
        have hnl := ut_le s1 (by decide)
        go_upto_region 11 with (at_builtin; go_must (refine wpList_append_J (J := J6) (s := .tmp 30) (x := .tmp 33) (t := 54) (e := 5) (base := W.heap.size) (v := u3) (n := P0.length) (xs := bcs P0) rfl (.int .u8 0) 1 1 rfl Try.underlying54 info_u8 rfl rfl HE.out.inv HO.out rfl HB6.out (bcs_one _) (by simp only [maxLen]; omega) (by omega) (by have := HE.out.below.size; simp; omega) ?_; intro v7 w7 J7 ho7 hg7 hv7; have HE7 := Lib.hid ((HE.out).grew (HO.out) hg7); have HO7 := Lib.hid ho7; have HV7 := Lib.hid hv7; have HG7 := Lib.hid hg7; clear ho7 hg7 hv7; have q0 := (HT.out.ext HE7.out).c0; have q1 := (HT.out.ext HE7.out).c1; have q2 := (HT.out.ext HE7.out).c2; have HA7 := Lib.hid (HA.out.step HD6.out HG7.out); have e1 := HA7.out.1.c1; have e2 := HA7.out.1.c2))
        obtain ⟨P1, hP1⟩ : ∃ p, p = P0 ++ (ut pa) := ⟨_, rfl⟩
        have HO := Lib.hid (Rb.lit HO7.out rfl rfl)
        rw [← hP1] at HO
        have hfl : P1.length ≤ 3370 := by rw [hP1, List.length_append]; omega
        have HP1 := Lib.hid hP1
        have HE := HE7
        have HTB := Lib.hid (HT.out.ext HE.out)
        clear hP1 HO7 HE7 HV7 hnl HB6
        clear e1 e2 q0 q1 q2
        go_wp2_with (at_builtin; go_must (refine wpList_append_lit (J := J7) (s := .tmp 45) (x := .tmp 46) (t := 54) (e := 5) (base := W.heap.size) (v := v7) (n := P1.length) (xs := bcs P1) (m := 1) (news := bcs [0]) rfl (.int .u8 0) 1 1 rfl Try.underlying54 info_u8 rfl rfl (HE.out.inv.alloc _) (HO.out.alloc _) rfl (heap_alloc_new _ _) rfl (bcs_one _) (by simp only [maxLen]; omega) (by omega) (by have := HE.out.below.size; simp; omega) ?_; intro v9 w9 J9 ho9 hg9 hv9; have HE9 := Lib.hid ((HE.out.alloc _).grew (HO.out.alloc _) hg9); have HO9 := Lib.hid ho9; have HV9 := Lib.hid hv9; clear ho9 hg9 hv9))
        go_roundw
        case rel => exact ⟨j + 1, J9, by omega, by go_num, HE9, by
          have hz := Rb.lit HO9.out rfl rfl
          rw [HPS.out]; rw [HP1.out, List.append_assoc] at hz; exact hz⟩
        case measure => simp [intOf]; omega
      | true =>
        go_wp2_with fail
        refine (refText_calls HE.out.inv pa (by omega)).mono ?_
        rintro e w6 ⟨v6, J6, rfl, hE6, hO6⟩
        obtain ⟨A6, c6, rfl, -, -⟩ := hO6.sl.form
        have HB6 := Lib.hid (Own.sl hO6)
        have HD6 := Lib.hid hE6
        have HO := Lib.hid (HO.out.ext hE6)
        have HE := Lib.hid (HE.out.trans hE6)
        clear hE6 hO6 q0 q1 q2 e0
        have hnl := ut_le s1 (by decide)
        go_upto_region 9 with (at_builtin; go_must (refine wpList_append_J (J := J6) (s := .tmp 30) (x := .tmp 33) (t := 54) (e := 5) (base := W.heap.size) (v := u3) (n := P0.length) (xs := bcs P0) rfl (.int .u8 0) 1 1 rfl Try.underlying54 info_u8 rfl rfl HE.out.inv HO.out rfl HB6.out (bcs_one _) (by simp only [maxLen]; omega) (by omega) (by have := HE.out.below.size; simp; omega) ?_; intro v7 w7 J7 ho7 hg7 hv7; have HE7 := Lib.hid ((HE.out).grew (HO.out) hg7); have HO7 := Lib.hid ho7; have HV7 := Lib.hid hv7; have HG7 := Lib.hid hg7; clear ho7 hg7 hv7; have q0 := (HT.out.ext HE7.out).c0; have q1 := (HT.out.ext HE7.out).c1; have q2 := (HT.out.ext HE7.out).c2; have HA7 := Lib.hid (HA.out.step HD6.out HG7.out); have e1 := HA7.out.1.c1; have e2 := HA7.out.1.c2))
        obtain ⟨P1, hP1⟩ : ∃ p, p = P0 ++ (ut pa) := ⟨_, rfl⟩
        have HO := Lib.hid (Rb.lit HO7.out rfl rfl)
        rw [← hP1] at HO
        have hfl : P1.length ≤ 3370 := by rw [hP1, List.length_append]; omega
        have HP1 := Lib.hid hP1
        have HE := HE7
        have HTB := Lib.hid (HT.out.ext HE.out)
        clear hP1 HO7 HE7 HV7 hnl HB6
        clear e1 e2 q0 q1 q2
        go_upto_region 10 with (at_builtin; go_must (refine wpList_append_lit (J := J7) (s := .tmp 37) (x := .tmp 38) (t := 54) (e := 5) (base := W.heap.size) (v := v7) (n := P1.length) (xs := bcs P1) (m := 1) (news := bcs [1]) rfl (.int .u8 0) 1 1 rfl Try.underlying54 info_u8 rfl rfl (HE.out.inv.alloc _) (HO.out.alloc _) rfl (heap_alloc_new _ _) rfl (bcs_one _) (by simp only [maxLen]; omega) (by omega) (by have := HE.out.below.size; simp; omega) ?_; intro v9 w9 J9 ho9 hg9 hv9; have HE9 := Lib.hid ((HE.out.alloc _).grew (HO.out.alloc _) hg9); have HO9 := Lib.hid ho9; have HV9 := Lib.hid hv9; have HG9 := Lib.hid hg9; clear ho9 hg9 hv9; have HA9 := Lib.hid (HA7.out.step ((Ext.refl HE.out.inv).alloc (.cells #[.int .u8 1] 5)) HG9.out)))
        have e2 := HA9.out.1.c2
        have q0 := (HT.out.ext HE9.out).c0
        have q1 := (HT.out.ext HE9.out).c1
        have q2 := (HT.out.ext HE9.out).c2
        obtain ⟨P2, hP2⟩ : ∃ p, p = P1 ++ [1] := ⟨_, rfl⟩
        have HO := Lib.hid (Rb.lit HO9.out rfl rfl)
        rw [← hP2] at HO
        have hfl : P2.length ≤ 3380 := by rw [hP2, List.length_append]; simp only [List.length_cons, List.length_nil]; omega
        have HP2 := Lib.hid hP2
        have HE := HE9
        clear hP2 HO9 HE9 HV9 HG9
        go_wp2_with fail
        refine (refText_calls HE.out.inv ct (by omega)).mono ?_
        rintro e w10 ⟨v10, J10, rfl, hE10, hO10⟩
        obtain ⟨A10, c10, rfl, -, -⟩ := hO10.sl.form
        have HB10 := Lib.hid (Own.sl hO10)
        have HD10 := Lib.hid hE10
        have HO := Lib.hid (HO.out.ext hE10)
        have HE := Lib.hid (HE.out.trans hE10)
        clear hE10 hO10 q0 q1 q2 e2
        have hnl := ut_le s2 (by decide)
        go_wp2_with (at_builtin; go_must (refine wpList_append_J (J := J10) (s := .tmp 40) (x := .tmp 43) (t := 54) (e := 5) (base := W.heap.size) (v := v9) (n := P2.length) (xs := bcs P2) rfl (.int .u8 0) 1 1 rfl Try.underlying54 info_u8 rfl rfl HE.out.inv HO.out rfl HB10.out (bcs_one _) (by simp only [maxLen]; omega) (by omega) (by have := HE.out.below.size; simp; omega) ?_; intro v11 w11 J11 ho11 hg11 hv11; have HE11 := Lib.hid ((HE.out).grew (HO.out) hg11); have HO11 := Lib.hid ho11; have HV11 := Lib.hid hv11; have HG11 := Lib.hid hg11; clear ho11 hg11 hv11; have q0 := (HT.out.ext HE11.out).c0; have q1 := (HT.out.ext HE11.out).c1; have q2 := (HT.out.ext HE11.out).c2))
        obtain ⟨P3, hP3⟩ : ∃ p, p = P2 ++ (ut ct) := ⟨_, rfl⟩
        have HO := Lib.hid (Rb.lit HO11.out rfl rfl)
        rw [← hP3] at HO
        have hfl : P3.length ≤ 3700 := by rw [hP3, List.length_append]; omega
        have HP3 := Lib.hid hP3
        have HE := HE11
        have HTB := Lib.hid (HT.out.ext HE.out)
        clear hP3 HO11 HE11 HV11 hnl HB10
        clear q0 q1 q2
        go_roundw
        case rel => exact ⟨j + 1, J11, by omega, by go_num, HE, by
          have hz := HO.out
          rw [HPS.out]
          rw [HP3.out, HP2.out, HP1.out, List.append_assoc, List.append_assoc] at hz; exact hz⟩
        case measure => simp [intOf]; omega
    · obtain rfl : j = t.needs.length := by omega
      have HOX := Lib.hid (HOU.out.mono ((HX.out.trans HE.out).le hI))
      have hul := ul_le HR.out
      have hfl := hpre
      clear hpre
      rw [List.take_length] at HO hfl
      obtain ⟨P0, hP0⟩ : ∃ p : List UInt8, p = hdT t ++ nbs t.needs := ⟨_, rfl⟩
      rw [← hP0] at HO hfl
      have HP0 := Lib.hid hP0
      clear hP0
      go_wp2_with fail
      refine (refList_calls HE.out.inv HOX.out (by omega)).mono ?_
      rintro e w6 ⟨v6, J6, rfl, hE6, hO6⟩
      obtain ⟨A6, c6, rfl, -, -⟩ := hO6.sl.form
      have HB6 := Lib.hid (Own.sl hO6)
      have HD6 := Lib.hid hE6
      have HO := Lib.hid (HO.out.ext hE6)
      have HE := Lib.hid (HE.out.trans hE6)
      clear hE6 hO6 q0 q1 q2 
      have hnl := hul
      go_wp2_with (at_builtin; go_must (refine wpList_append_J (J := J6) (s := .tmp 48) (x := .tmp 51) (t := 54) (e := 5) (base := W.heap.size) (v := u3) (n := P0.length) (xs := bcs P0) rfl (.int .u8 0) 1 1 rfl Try.underlying54 info_u8 rfl rfl HE.out.inv HO.out rfl HB6.out (bcs_one _) (by simp only [maxLen]; omega) (by omega) (by have := HE.out.below.size; simp; omega) ?_; intro v7 w7 J7 ho7 hg7 hv7; have HE7 := Lib.hid ((HE.out).grew (HO.out) hg7); have HO7 := Lib.hid ho7; have HV7 := Lib.hid hv7; have HG7 := Lib.hid hg7; clear ho7 hg7 hv7; have q0 := (HT.out.ext HE7.out).c0; have q1 := (HT.out.ext HE7.out).c1; have q2 := (HT.out.ext HE7.out).c2; have kc := Bs.string (P := Try.prog) HE7.out.inv (Own.bs (Rb.lit HO7.out rfl rfl)) 54 9 5 Try.underlying54 Try.underlying5 Try.underlying9))
      obtain ⟨P1, hP1⟩ : ∃ p, p = P0 ++ (ul t.outs) := ⟨_, rfl⟩
      have HO := Lib.hid (Rb.lit HO7.out rfl rfl)
      rw [← hP1] at HO
      have hfl : P1.length ≤ 4400 := by rw [hP1, List.length_append]; omega
      have HP1 := Lib.hid hP1
      have HE := HE7
      have HTB := Lib.hid (HT.out.ext HE.out)
      clear hP1 HO7 HE7 HV7 hnl HB6
      clear q0 q1 q2
      go_ret
      exact ⟨by rw [← bytesT_eq, ← HP0.out, ← HP1.out]; rfl, HX.out.below.trans (HE.out.below.mono HX.out.below.size)⟩
end Go.Proofs.Ytldicbhjmjjfbaa
