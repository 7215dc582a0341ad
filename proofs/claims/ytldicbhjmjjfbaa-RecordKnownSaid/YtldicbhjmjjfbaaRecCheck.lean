/- The walks of record's need and Check. -/
import Derived.Test.YtldicbhjmjjfbaaRecMem
import Derived.Test.YtldicbhjmjjfbaaJMap
import Derived.Test.YtldicbhjmjjfbaaPathW
import Derived.Carry
import Derived.IntWalk
import Derived.Deep.CutBlock
import Derived.Deep.DeepCutAuto
namespace Go.Proofs.Ytldicbhjmjjfbaa
open Go.RowKit
set_option linter.unusedVariables false

def okK (ks : List (List UInt8)) (n : Nee) : Bool := okNee n && !ks.contains n.path
theorem okK_at (l : List Nee) (n : Nee) : okK (l.map (·.path)) n = okAt l n := rfl
theorem zero_bool (w : World) : (zeroValue 4).run Try.prog w = .ok (.bool false) w := by kernel_rfl
set_option maxHeartbeats 2000000 in
theorem need_calls {J : Jm} {w : World} (hI : Inv J w) (n : Nee) (hn : n.path.length ≤ 140737488351232) {mb : Nat} {ks : List (List UInt8)} (hm : Ms w mb ks) :
    Calls Try.prog 37 #[neV n, .map (some mb)] w fun e w' => e = .returned (.bool (okK ks n)) ∧ Mv (· = mb) J w J w' ∧ (okK ks n = true → Ms w' mb (ks ++ [n.path])) := by
  have hX := (Ext.refl hI).alloc (.cells #[.string (strB n.path), .bool n.hv, .string (strB n.cont)] 38)
  have HE := Lib.hid (EBox.new w n)
  unfold neV
  go_enter Try.func37, Try.ntmps37
  go_wp2_with fail
  refine (isP_calls n.path (by omega) _).mono ?_
  rintro e w1 ⟨rfl, k, rfl⟩
  have hM := hm.ext (hX.drewN k)
  have HM := Lib.hid hM
  have HX := Lib.hid (hX.drewN k)
  have HE : Hid (EBox ((w.alloc (.cells #[.string (strB n.path), .bool n.hv, .string (strB n.cont)] 38)).drewN k) w.heap.size n) := HE.out
  clear hX hM
  generalize World.drewN _ k = W at *
  generalize w.heap.size = nb0 at HE ⊢
  have c0 := HE.out.c0
  have c1 := HE.out.c1
  have c2 := HE.out.c2
  cases h1 : isP n.path with
  | false =>
    have HF : Hid (okK ks n = false) := by rw [Hid]; unfold okK okNee; rw [h1]; rfl
    go_wp2_with fail
    go_ret
    exact ⟨by rw [HF.out]; rfl, HX.out.mv _, fun h => by rw [HF.out] at h; cases h⟩
  | true =>
    have hl := run_look_set (P := Try.prog) HM.out Try.underlying66 Try.underlying9 zero_bool n.path
    cases h2 : ks.contains n.path with
    | true =>
      have HF : Hid (okK ks n = false) := by rw [Hid]; unfold okK; rw [h2]; simp
      rw [h2] at hl
      go_wp2_with fail
      go_ret
      exact ⟨by rw [HF.out]; rfl, HX.out.mv _, fun h => by rw [HF.out] at h; cases h⟩
    | false =>
      rw [h2] at hl
      by_cases h3 : 256 < n.cont.length
      · have HF : Hid (okK ks n = false) := by rw [Hid]; unfold okK okNee; simp; omega
        have h3i : (256 : Int) < n.cont.length := by omega
        go_wp2_with fail
        go_ret
        exact ⟨by rw [HF.out]; rfl, HX.out.mv _, fun h => by rw [HF.out] at h; cases h⟩
      have h3i : ¬ (256 : Int) < n.cont.length := by omega
      have hq := strB_empty n.cont
      obtain ⟨o, hr, hM2⟩ := run_put_set (P := Try.prog) HM.out Try.underlying66 Try.underlying9 h2
      have HMV := Lib.hid ((HX.out.mv (· = mb)).setBlk o (fun _ => rfl) (HX.out.inv.ms HM.out))
      have HM2 := Lib.hid hM2
      clear hM2
      generalize setBlk W mb o = W2 at *
      cases h4 : n.hv with
      | true =>
        rw [h4] at c1
        have HT : Hid (okK ks n = true) := by rw [Hid]; unfold okK okNee; rw [h1, h2, h4]; simp; omega
        go_wp2_with fail
        go_ret
        exact ⟨by rw [HT.out]; rfl, HMV.out, fun _ => HM2.out⟩
      | false =>
        rw [h4] at c1
        by_cases h5 : n.cont = []
        · rw [decide_eq_true h5] at hq
          have HT : Hid (okK ks n = true) := by rw [Hid]; unfold okK okNee; rw [h1, h2, h4]; simp [h5]
          clear h5
          go_wp2_with fail
          go_ret
          exact ⟨by rw [HT.out]; rfl, HMV.out, fun _ => HM2.out⟩
        · rw [decide_eq_false h5] at hq
          have HF : Hid (okK ks n = false) := by rw [Hid]; unfold okK okNee; rw [h4]; simp [h5]
          clear h5
          go_wp2_with fail
          go_ret
          exact ⟨by rw [HF.out]; rfl, HX.out.mv _, fun h => by rw [HF.out] at h; cases h⟩
set_option maxHeartbeats 2000000 in
theorem tooLong_calls (l : List UInt8) (w : World) :
    Calls Try.prog 39 #[.string (strB l)] w fun e w' => e = .returned (.bool (decide (256 < l.length))) ∧ w' = w := by
  go_enter Try.func39, Try.ntmps39
  by_cases h : 256 < l.length
  · have h' : (256 : Int) < l.length := by omega
    go_wp2_with fail
    go_ret
    exact ⟨by rw [decide_eq_true h]; rfl, rfl⟩
  · have h' : ¬ (256 : Int) < l.length := by omega
    go_wp2_with fail
    go_ret
    exact ⟨by first | rfl | (rw [decide_eq_false h]; rfl), rfl⟩
/-- is one of them too long? -/
def anyLong (l : List (List UInt8)) : Bool := l.any fun s => decide (256 < s.length)
theorem okOuts_eq (l : List (List UInt8)) : okOuts l = !anyLong l := by
  unfold okOuts anyLong
  rw [List.not_any_eq_all_not]
  congr 1; funext s
  rw [Bool.eq_iff_iff]; simp
set_option maxHeartbeats 2000000 in
theorem indexLong_calls {J : Jm} {w : World} (hI : Inv J w) {v : Value} {l : List (List UInt8)} (hb : Ss J v l) (hl : l.length ≤ 9223372036854775807) :
    Calls Try.prog 54 #[v, .func (.func 39) #[] #[]] w fun e w' => (∃ i : Int, e = .returned (.int .i64 i) ∧ decide (0 ≤ i) = anyLong l) ∧ w' = w := by
  obtain ⟨A, c, rfl, hn, hm⟩ := hb.form
  unfold maxLen at hm
  have HB := Lib.hid hb
  clear hb
  go_enter Try.func54, Try.ntmps54
  go_wp2_with fail
  go_loopw [8] (fun i wr => ∃ (j : Nat), j ≤ l.length ∧ i = .int .i64 j ∧ Hid (anyLong (l.take j) = false) ∧ wr = w) (fun i _ => l.length - (intOf i).toNat)
  case atStart => exact ⟨0, by omega, rfl, rfl, rfl⟩
  case round =>
    obtain ⟨j, hj, rfl, HT, rfl⟩ := hrel
    by_cases hlt : j < l.length
    · have i0 : (0 : Int) ≤ (j : Int) := by omega
      have i1 : (j : Int) < l.length := by omega
      obtain ⟨b, o, rfl, hx⟩ := HB.out.cell hI hlt
      have HT1 : Hid (anyLong (l.take (j + 1)) = decide (256 < l[j].length)) := by
        rw [Hid, List.take_succ_eq_append_getElem hlt]
        have := HT.out
        unfold anyLong at this ⊢
        rw [List.any_append, this]; simp
      have HA : Hid (256 < l[j].length → anyLong l = true) := fun h => by
        unfold anyLong
        rw [List.any_eq_true]
        exact ⟨l[j], List.getElem_mem hlt, by simpa using h⟩
      generalize l[j] = x at *
      by_cases hm : 256 < x.length
      · have HF := Lib.hid (HA.out hm)
        go_wp2_with fail
        refine (tooLong_calls x _).mono ?_
        rw [decide_eq_true hm]
        rintro e w1 ⟨rfl, rfl⟩
        go_wp2_with fail
        go_ret
        exact ⟨⟨_, rfl, by rw [HF.out]; simp⟩, rfl⟩
      · rw [decide_eq_false hm] at HT1
        go_wp2_with fail
        refine (tooLong_calls x _).mono ?_
        rw [decide_eq_false hm]
        rintro e w1 ⟨rfl, rfl⟩
        go_wp2_with fail
        go_roundw
        case rel => exact ⟨j + 1, by omega, by go_num, HT1, by trivial⟩
        case measure => simp [intOf]; omega
    · obtain rfl : j = l.length := by omega
      have HF : Hid (anyLong l = false) := by have := HT.out; rwa [List.take_length] at this
      go_wp2_with fail
      go_ret
      exact ⟨⟨_, rfl, by rw [HF.out]; rfl⟩, rfl⟩
set_option maxHeartbeats 2000000 in
theorem containsLong_calls {J : Jm} {w : World} (hI : Inv J w) {v : Value} {l : List (List UInt8)} (hb : Ss J v l) (hl : l.length ≤ 9223372036854775807) :
    Calls Try.prog 38 #[v, .func (.func 39) #[] #[]] w fun e w' => e = .returned (.bool (anyLong l)) ∧ w' = w := by
  go_enter Try.func38, Try.ntmps38
  go_wp2_with fail
  refine (indexLong_calls hI hb hl).mono ?_
  rintro e w1 ⟨⟨i, rfl, hi⟩, rfl⟩
  have HI := Lib.hid hi
  clear hi
  go_wp2_with fail
  go_ret
  exact ⟨by rw [← HI.out]; rfl, rfl⟩
structure TrS (t : Trc) : Prop where
  job : t.job.length ≤ 140737488351232
  needs : ∀ n ∈ t.needs, n.path.length ≤ 140737488351232 ∧ n.cont.length ≤ 140737488351232
  outs : ∀ s ∈ t.outs, s.length ≤ 140737488351232
  nn : t.needs.length * 40 ≤ 140737488351232
  no : t.outs.length * 16 ≤ 140737488351232
def errT (t : Trc) : Int := if rightT t = true then 0 else 2
theorem errT_no {t : Trc} (h : rightT t = false) : errT t = 2 := by unfold errT; rw [h]; rfl
theorem errT_yes {t : Trc} (h : rightT t = true) : errT t = 0 := by unfold errT; rw [h]; rfl
theorem shape_no {t : Trc} (h : 512 < t.job.length ∨ 8 < t.needs.length ∨ t.outs.length < 1 ∨ 4 < t.outs.length) : rightT t = false := by
  unfold rightT shape
  rcases h with h | h | h | h
  · rw [decide_eq_false (show ¬ t.job.length ≤ 512 by omega)]; simp
  · rw [decide_eq_false (show ¬ t.needs.length ≤ 8 by omega)]; simp
  · rw [decide_eq_false (show ¬ 1 ≤ t.outs.length by omega)]; simp
  · rw [decide_eq_false (show ¬ t.outs.length ≤ 4 by omega)]; simp
theorem shape_yes {t : Trc} (h1 : ¬ 512 < t.job.length) (h2 : ¬ 8 < t.needs.length) (h3 : ¬ t.outs.length < 1) (h4 : ¬ 4 < t.outs.length) : rightT t = (okNs [] t.needs && okOuts t.outs) := by
  unfold rightT shape
  rw [decide_eq_true (show t.job.length ≤ 512 by omega), decide_eq_true (show t.needs.length ≤ 8 by omega), decide_eq_true (show 1 ≤ t.outs.length by omega), decide_eq_true (show t.outs.length ≤ 4 by omega)]
  simp
set_option maxHeartbeats 4000000 in
theorem check_calls {J : Jm} {w : World} (hI : Inv J w) {v : Value} {t : Trc} (ht : TrV J v t) (hS : TrS t) :
    Calls Try.prog 14 #[v] w fun e w' => e = .returned (.int .i64 (errT t)) ∧ Below w.heap.size w w' := by
  obtain ⟨vn, vo, rfl, hn, ho⟩ := ht
  obtain ⟨An, cn, rfl, hnc, hnm⟩ := hn.form
  obtain ⟨Ao, co, rfl, hoc, hom⟩ := ho.form
  unfold maxLen at hnm hom
  have HN := Lib.hid hn
  have HO := Lib.hid ho
  clear hn ho
  have hX := (Ext.refl hI).alloc (.cells #[.string (strB t.job), .slice An t.needs.length cn, .slice Ao t.outs.length co] 26)
  have HB := Lib.hid (TBox.new w t (.slice An t.needs.length cn) (.slice Ao t.outs.length co))
  have hmm := @run_makeMap Try.prog
  go_enter Try.func14, Try.ntmps14
  by_cases h1 : 512 < t.job.length
  · have HF := Lib.hid (errT_no (shape_no (.inl h1)))
    have h1i : (512 : Int) < t.job.length := by omega
    go_wp2_with fail
    go_ret
    exact ⟨by rw [HF.out]; rfl, hX.below⟩
  have h1i : ¬ (512 : Int) < t.job.length := by omega
  by_cases h2 : 8 < t.needs.length
  · have HF := Lib.hid (errT_no (shape_no (.inr (.inl h2))))
    have h2i : (8 : Int) < t.needs.length := by omega
    go_wp2_with fail
    go_ret
    exact ⟨by rw [HF.out]; rfl, hX.below⟩
  have h2i : ¬ (8 : Int) < t.needs.length := by omega
  by_cases h3 : t.outs.length < 1
  · have HF := Lib.hid (errT_no (shape_no (.inr (.inr (.inl h3)))))
    have h3i : (t.outs.length : Int) < 1 := by omega
    go_wp2_with fail
    go_ret
    exact ⟨by rw [HF.out]; rfl, hX.below⟩
  have h3i : ¬ (t.outs.length : Int) < 1 := by omega
  by_cases h4 : 4 < t.outs.length
  · have HF := Lib.hid (errT_no (shape_no (.inr (.inr (.inr h4)))))
    have h4i : (4 : Int) < t.outs.length := by omega
    go_wp2_with fail
    go_ret
    exact ⟨by rw [HF.out]; rfl, hX.below⟩
  have h4i : ¬ (4 : Int) < t.outs.length := by omega
  have HR := Lib.hid (shape_yes h1 h2 h3 h4)
  clear h1 h2 h3 h4
  go_upto_region 4 with fail
  have hX2 := hX.alloc (.map #[] 0)
  have HM := Lib.hid (Ms.new (w.alloc (.cells #[.string (strB t.job), .slice An t.needs.length cn, .slice Ao t.outs.length co] 26)))
  have HB2 := Lib.hid (HB.out.ext ((Ext.refl hX.inv).alloc (.map #[] 0)))
  have HX2 := Lib.hid hX2
  have hsz : (w.alloc (.cells #[.string (strB t.job), .slice An t.needs.length cn, .slice Ao t.outs.length co] 26)).heap.size = w.heap.size + 1 := by simp
  rw [hsz] at HM
  clear hX hX2 HB
  generalize World.alloc (World.alloc w _) _ = W at *
  have c1 := HB2.out.c1
  go_wp2_with fail
  clear c1
  go_loopw [32] (fun i wr => ∃ (j : Nat), j ≤ t.needs.length ∧ i = .int .i64 j ∧ Hid (okNs [] (t.needs.take j) = true) ∧ Hid (Ext J w J wr) ∧ Hid (TBox wr w.heap.size t (.slice An t.needs.length cn) (.slice Ao t.outs.length co)) ∧
    Hid (Ms wr (w.heap.size + 1) ((t.needs.take j).map (·.path)))) (fun i _ => t.needs.length - (intOf i).toNat)
  case atStart => exact ⟨0, by omega, rfl, rfl, HX2, HB2, HM⟩
  case round =>
    obtain ⟨j, hj, rfl, HT, HX, HB, HM⟩ := hrel
    by_cases hlt : j < t.needs.length
    · have i0 : (0 : Int) ≤ (j : Int) := by omega
      have i1 : (j : Int) < t.needs.length := by omega
      obtain ⟨b, o, rfl, hx0, hx1, hx2⟩ := HN.out.cell HX.out.inv hlt
      have HT1 := Lib.hid (okNs_take hlt HT.out)
      have HST := Lib.hid (fun h => okNs_stop hlt h)
      have HTK := Lib.hid (show (t.needs.take (j + 1)).map (·.path) = (t.needs.take j).map (·.path) ++ [t.needs[j].path] by rw [List.take_succ_eq_append_getElem hlt, List.map_append]; rfl)
      have hsz := (hS.needs t.needs[j] (List.getElem_mem hlt)).1
      generalize t.needs[j] = n at *
      go_upto_region 7 with fail
      have hX3 := HX.out.alloc (.cells #[.string (strB n.path), .bool n.hv, .string (strB n.cont)] 38)
      have hx3 := (Ext.refl HX.out.inv).alloc (.cells #[.string (strB n.path), .bool n.hv, .string (strB n.cont)] 38)
      have HB3 := Lib.hid (HB.out.ext hx3)
      have HM3 := Lib.hid (HM.out.ext hx3)
      have HEB := Lib.hid (EBox.new wr n)
      have HX3 := Lib.hid hX3
      clear hX3 hx3 hx0 hx1 hx2
      generalize World.alloc wr _ = W3 at *
      generalize wr.heap.size = eb at HEB ⊢
      have e0 := HEB.out.c0
      have e1 := HEB.out.c1
      have e2 := HEB.out.c2
      go_wp2_with fail
      refine (need_calls HX3.out.inv n hsz HM3.out).mono ?_
      rw [okK_at]
      rintro e w4 ⟨rfl, hMv, hMs⟩
      have HX4 := Lib.hid (HX3.out.moved hMv (fun b hb => by omega))
      have HB4 := Lib.hid (HB3.out.mv hMv (by omega))
      have HMS := Lib.hid hMs
      clear hMv hMs e0 e1 e2
      cases hk : okAt (t.needs.take j) n with
      | true =>
        rw [hk] at HT1
        have HM4 : Hid (Ms w4 (w.heap.size + 1) ((t.needs.take (j + 1)).map (·.path))) := by rw [HTK.out]; exact HMS.out hk
        go_wp2_with fail
        go_roundw
        case rel => exact ⟨j + 1, by omega, by go_num, HT1, HX4, HB4, HM4⟩
        case measure => simp [intOf]; omega
      | false =>
        have HF := Lib.hid (errT_no (t := t) (by rw [HR.out, HST.out hk]; rfl))
        go_wp2_with fail
        go_ret
        exact ⟨by rw [HF.out]; rfl, HX4.out.below⟩
    · obtain rfl : j = t.needs.length := by omega
      have HT2 : Hid (okNs [] t.needs = true) := by have := HT.out; rwa [List.take_length] at this
      have c2 := HB.out.c2
      go_wp2_with fail
      refine (containsLong_calls HX.out.inv HO.out (by omega)).mono ?_
      rintro e w4 ⟨rfl, rfl⟩
      cases hl : anyLong t.outs with
      | true =>
        have HF := Lib.hid (errT_no (t := t) (by rw [HR.out, okOuts_eq, hl]; simp))
        go_wp2_with fail
        go_ret
        exact ⟨by rw [HF.out]; rfl, HX.out.below⟩
      | false =>
        have HF := Lib.hid (errT_yes (t := t) (by rw [HR.out, okOuts_eq, hl, HT2.out]; rfl))
        go_wp2_with fail
        go_ret
        exact ⟨by rw [HF.out]; rfl, HX.out.below⟩
end Go.Proofs.Ytldicbhjmjjfbaa
