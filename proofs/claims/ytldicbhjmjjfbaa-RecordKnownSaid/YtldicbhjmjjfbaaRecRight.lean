/- The walk of the document's Right. -/
import Derived.Test.YtldicbhjmjjfbaaRecCheck
import Derived.Test.YtldicbhjmjjfbaaPathR
import Derived.Test.YtldicbhjmjjfbaaLSEq
import Derived.Deep.QuietTactic
import Derived.BigQuiet
namespace Go.Proofs.Ytldicbhjmjjfbaa
open Go.RowKit
set_option linter.unusedVariables false

theorem okAt_parts (l : List Nee) (n : Nee) : okAt l n = (okNee n && !(l.map (·.path)).contains n.path) := rfl
theorem cont_succ {l : List Nee} {k : Nat} (hk : k < l.length) (p : List UInt8) (h : ((l.take k).map (·.path)).contains p = false) : ((l.take (k + 1)).map (·.path)).contains p = decide (l[k].path = p) := by
  rw [List.take_succ_eq_append_getElem hk, List.map_append, Bool.eq_iff_iff]
  simp only [List.contains_eq_mem, decide_eq_false_iff_not] at h
  simp only [List.contains_eq_mem, decide_eq_true_eq, List.mem_append, List.map_cons, List.map_nil, List.mem_singleton]
  exact ⟨fun q => by rcases q with q | q; exact absurd q h; exact q.symm, fun q => .inr q.symm⟩
theorem cont_le {l : List Nee} {k i : Nat} (hk : k ≤ i) (p : List UInt8) (h : ((l.take k).map (·.path)).contains p = true) : ((l.take i).map (·.path)).contains p = true := by
  simp only [List.contains_eq_mem, decide_eq_true_eq, List.mem_map] at h ⊢
  obtain ⟨a, ha, rfl⟩ := h
  exact ⟨a, (List.take_subset_take_left l hk) ha, rfl⟩
set_option maxRecDepth 100000 in
set_option maxHeartbeats 8000000 in
theorem refRight_calls {J : Jm} {w : World} (hI : Inv J w) {v : Value} {t : Trc} (ht : TrV J v t) (hS : TrS t) :
    Calls Try.prog 12 #[v] w fun e w' => e = .returned (.bool (rightT t)) ∧ Below w.heap.size w w' := by
  obtain ⟨vn, vo, rfl, hn, ho⟩ := ht
  obtain ⟨An, cn, rfl, hnc, hnm⟩ := hn.form
  obtain ⟨Ao, co, rfl, hoc, hom⟩ := ho.form
  unfold maxLen at hnm hom
  have HN := Lib.hid hn
  have HO := Lib.hid ho
  clear hn ho
  have hX := (Ext.refl hI).alloc (.cells #[.string (strB t.job), .slice An t.needs.length cn, .slice Ao t.outs.length co] 26)
  have HT := Lib.hid (TBox.new w t (.slice An t.needs.length cn) (.slice Ao t.outs.length co))
  go_enter Try.func12, Try.ntmps12
  by_cases h1 : 512 < t.job.length
  · have HF := Lib.hid (shape_no (.inl h1))
    have h1i : (512 : Int) < t.job.length := by omega
    go_wp2_with fail
    go_ret
    exact ⟨by rw [HF.out]; rfl, hX.below⟩
  have h1i : ¬ (512 : Int) < t.job.length := by omega
  by_cases h2 : 8 < t.needs.length
  · have HF := Lib.hid (shape_no (.inr (.inl h2)))
    have h2i : (8 : Int) < t.needs.length := by omega
    go_wp2_with fail
    go_ret
    exact ⟨by rw [HF.out]; rfl, hX.below⟩
  have h2i : ¬ (8 : Int) < t.needs.length := by omega
  by_cases h3 : t.outs.length < 1
  · have HF := Lib.hid (shape_no (.inr (.inr (.inl h3))))
    have h3i : (t.outs.length : Int) < 1 := by omega
    go_wp2_with fail
    go_ret
    exact ⟨by rw [HF.out]; rfl, hX.below⟩
  have h3i : ¬ (t.outs.length : Int) < 1 := by omega
  by_cases h4 : 4 < t.outs.length
  · have HF := Lib.hid (shape_no (.inr (.inr (.inr h4))))
    have h4i : (4 : Int) < t.outs.length := by omega
    go_wp2_with fail
    go_ret
    exact ⟨by rw [HF.out]; rfl, hX.below⟩
  have h4i : ¬ (4 : Int) < t.outs.length := by omega
  have HR := Lib.hid (shape_yes h1 h2 h3 h4)
  clear h1 h2 h3 h4
  go_upto_region 3 with fail
  have HX := Lib.hid hX
  clear hX
  generalize World.alloc w _ = W at *
  generalize w.heap.size = tb at HT ⊢
  go_wp2_with fail
  go_loopw [3] (fun i wr => ∃ (j : Nat), j ≤ t.needs.length ∧ i = .int .i64 j ∧ Hid (okNs [] (t.needs.take j) = true) ∧ Hid (Ext J W J wr)) (fun i _ => t.needs.length - (intOf i).toNat)
  case atStart => exact ⟨0, by omega, rfl, rfl, Ext.refl HX.out.inv⟩
  case round =>
    obtain ⟨j, hj, rfl, HK, HE⟩ := hrel
    have q0 := (HT.out.ext HE.out).c0
    have q1 := (HT.out.ext HE.out).c1
    have q2 := (HT.out.ext HE.out).c2
    by_cases hlt : j < t.needs.length
    · have i0 : (0 : Int) ≤ (j : Int) := by omega
      have i1 : (j : Int) < t.needs.length := by omega
      obtain ⟨b, o, rfl, hx0, hx1, hx2⟩ := Ns.cell HN.out HE.out.inv hlt
      have HK1 := Lib.hid (okNs_take hlt HK.out)
      have HST := Lib.hid (fun h => okNs_stop hlt h)
      have hsz := (hS.needs t.needs[j] (List.getElem_mem hlt)).1
      have HAP := Lib.hid (okAt_parts (t.needs.take j) t.needs[j])
      generalize t.needs[j] = n at *
      obtain ⟨pa, hv, ct⟩ := n
      simp only at hx0 hx1 hx2 hsz
      go_upto_region 7 with fail
      have HX3 := Lib.hid (HE.out.alloc (.cells #[.string (strB pa), .bool hv, .string (strB ct)] 38))
      have HEB := Lib.hid (EBox.new wr ⟨pa, hv, ct⟩)
      clear hx0 hx1 hx2 q0 q1 q2
      generalize World.alloc wr _ = W3 at *
      generalize wr.heap.size = eb at HEB ⊢
      have e0 := HEB.out.c0
      simp only at e0
      go_wp2_with fail
      refine (refIs_calls HX3.out.inv pa (by omega)).mono ?_
      rintro e W4 ⟨rfl, hb4⟩
      have HX4 := Lib.hid (HX3.out.step hb4)
      have HEB4 := Lib.hid (HEB.out.below hb4)
      clear hb4 e0
      have e0 := HEB4.out.c0
      have e1 := HEB4.out.c1
      have e2 := HEB4.out.c2
      simp only at e0 e1 e2
      have q0 := (HT.out.ext HX4.out).c0
      have q1 := (HT.out.ext HX4.out).c1
      have q2 := (HT.out.ext HX4.out).c2
      cases g1 : isP pa with
      | false =>
        have HF : Hid (rightT t = false) := by
          rw [Hid, HR.out, HST.out (by rw [HAP.out]; unfold okNee; simp only [g1]; rfl)]; rfl
        go_wp2_with fail
        go_ret
        exact ⟨by rw [HF.out]; rfl, (HX.out.below.trans (HX4.out.below.mono HX.out.below.size))⟩
      | true =>
        by_cases g2 : 256 < ct.length
        · have HF : Hid (rightT t = false) := by
            rw [Hid, HR.out, HST.out (by rw [HAP.out]; unfold okNee; simp only []; rw [decide_eq_false (show ¬ ct.length ≤ 256 by omega)]; simp)]; rfl
          have g2i : (256 : Int) < ct.length := by omega
          go_wp2_with fail
          go_ret
          exact ⟨by rw [HF.out]; rfl, (HX.out.below.trans (HX4.out.below.mono HX.out.below.size))⟩
        · have g2i : ¬ (256 : Int) < ct.length := by omega
          have hq := strB_empty ct
          cases hv with
          | true =>
            have HOK : Hid (okNee ⟨pa, true, ct⟩ = true) := by rw [Hid]; unfold okNee; simp only [g1]; rw [decide_eq_true (show ct.length ≤ 256 by omega)]; rfl
            have HAP2 := Lib.hid (HAP.out.trans (by rw [HOK.out, Bool.true_and]))
            go_wp2_with fail
            clear e0 e1 e2 q0 q1 q2 hq g1 g2 g2i
            go_loopw [5] (fun i wr => ∃ (m : Nat), m ≤ j ∧ i = .int .i64 m ∧ Hid (((t.needs.take m).map (·.path)).contains pa = false) ∧ Hid (Ext J W J wr) ∧ Hid (EBox wr eb ⟨pa, true, ct⟩)) (fun i _ => j - (intOf i).toNat)
            case atStart => exact ⟨0, by omega, rfl, rfl, HX4, HEB4⟩
            case round =>
              obtain ⟨m, hm, rfl, HC, HE5, HEB5⟩ := hrel
              by_cases hmj : m < j
              · have hmn : m < t.needs.length := by omega
                have m0 : (0 : Int) ≤ (m : Int) := by omega
                have m1 : (m : Int) < t.needs.length := by omega
                have m2 : (m : Int) < (j : Int) := by omega
                obtain ⟨b', o', hbo, hy0, hy1, hy2⟩ := Ns.cell HN.out HE5.out.inv hmn
                cases hbo
                have e0 := HEB5.out.c0
                have q1 := (HT.out.ext HE5.out).c1
                have HC1 := Lib.hid (cont_succ hmn pa HC.out)
                have HCL := Lib.hid (fun h => cont_le (l := t.needs) (k := m + 1) (i := j) (by omega) pa h)
                have hb := strB_is t.needs[m].path pa
                have hb2 : ((strB t.needs[m].path).toList == (strB pa).toList) = decide (t.needs[m].path = pa) := by rw [strB_toList pa]; exact hb
                clear hb
                simp only at e0
                generalize t.needs[m].path = pb at *
                by_cases hp : pb = pa
                · rw [decide_eq_true hp] at hb2 HC1
                  have HF : Hid (rightT t = false) := by
                    rw [Hid, HR.out, HST.out (by rw [HAP2.out, HCL.out HC1.out]; rfl)]; rfl
                  clear hp
                  go_wp2_with fail
                  go_big_quiet (fail)
                  go_wp2_with fail
                  go_ret
                  exact ⟨by rw [HF.out]; rfl, HX.out.below.trans (Below.mono (HE5.out.below.drews nq) HX.out.below.size)⟩
                · rw [decide_eq_false hp] at hb2 HC1
                  clear hp
                  go_wp2_with fail
                  go_big_quiet (fail)
                  go_wp2_with fail
                  go_roundw
                  case rel => exact ⟨m + 1, by omega, by go_num, HC1, HE5.out.drewN nq, HEB5⟩
                  case measure => simp [intOf]; omega
              · obtain rfl : m = j := by omega
                have HK2 : Hid (okNs [] (t.needs.take (m + 1)) = true) := by rw [Hid, HK1.out, HAP2.out, HC.out]; rfl
                go_wp2_with fail
                go_roundw
                case rel => exact ⟨m + 1, by omega, by go_num, HK2, HE5⟩
                case measure => simp [intOf]; omega
          | false =>
            by_cases g3 : ct = []
            · have HOK : Hid (okNee ⟨pa, false, ct⟩ = true) := by rw [Hid]; unfold okNee; simp only [g1]; rw [decide_eq_true (show ct.length ≤ 256 by omega), g3]; rfl
              rw [decide_eq_true g3] at hq
              clear g3
              have HAP2 := Lib.hid (HAP.out.trans (by rw [HOK.out, Bool.true_and]))
              go_wp2_with fail
              clear e0 e1 e2 q0 q1 q2 hq g1 g2 g2i
              go_loopw [5] (fun i wr => ∃ (m : Nat), m ≤ j ∧ i = .int .i64 m ∧ Hid (((t.needs.take m).map (·.path)).contains pa = false) ∧ Hid (Ext J W J wr) ∧ Hid (EBox wr eb ⟨pa, false, ct⟩)) (fun i _ => j - (intOf i).toNat)
              case atStart => exact ⟨0, by omega, rfl, rfl, HX4, HEB4⟩
              case round =>
                obtain ⟨m, hm, rfl, HC, HE5, HEB5⟩ := hrel
                by_cases hmj : m < j
                · have hmn : m < t.needs.length := by omega
                  have m0 : (0 : Int) ≤ (m : Int) := by omega
                  have m1 : (m : Int) < t.needs.length := by omega
                  have m2 : (m : Int) < (j : Int) := by omega
                  obtain ⟨b', o', hbo, hy0, hy1, hy2⟩ := Ns.cell HN.out HE5.out.inv hmn
                  cases hbo
                  have e0 := HEB5.out.c0
                  have q1 := (HT.out.ext HE5.out).c1
                  have HC1 := Lib.hid (cont_succ hmn pa HC.out)
                  have HCL := Lib.hid (fun h => cont_le (l := t.needs) (k := m + 1) (i := j) (by omega) pa h)
                  have hb := strB_is t.needs[m].path pa
                  have hb2 : ((strB t.needs[m].path).toList == (strB pa).toList) = decide (t.needs[m].path = pa) := by rw [strB_toList pa]; exact hb
                  clear hb
                  simp only at e0
                  generalize t.needs[m].path = pb at *
                  by_cases hp : pb = pa
                  · rw [decide_eq_true hp] at hb2 HC1
                    have HF : Hid (rightT t = false) := by
                      rw [Hid, HR.out, HST.out (by rw [HAP2.out, HCL.out HC1.out]; rfl)]; rfl
                    clear hp
                    go_wp2_with fail
                    go_big_quiet (fail)
                    go_wp2_with fail
                    go_ret
                    exact ⟨by rw [HF.out]; rfl, HX.out.below.trans (Below.mono (HE5.out.below.drews nq) HX.out.below.size)⟩
                  · rw [decide_eq_false hp] at hb2 HC1
                    clear hp
                    go_wp2_with fail
                    go_big_quiet (fail)
                    go_wp2_with fail
                    go_roundw
                    case rel => exact ⟨m + 1, by omega, by go_num, HC1, HE5.out.drewN nq, HEB5⟩
                    case measure => simp [intOf]; omega
                · obtain rfl : m = j := by omega
                  have HK2 : Hid (okNs [] (t.needs.take (m + 1)) = true) := by rw [Hid, HK1.out, HAP2.out, HC.out]; rfl
                  go_wp2_with fail
                  go_roundw
                  case rel => exact ⟨m + 1, by omega, by go_num, HK2, HE5⟩
                  case measure => simp [intOf]; omega
            · have HF : Hid (rightT t = false) := by
                rw [Hid, HR.out, HST.out (by rw [HAP.out]; unfold okNee; simp only []; rw [decide_eq_false g3]; simp)]; rfl
              rw [decide_eq_false g3] at hq
              clear g3
              go_wp2_with fail
              go_ret
              exact ⟨by rw [HF.out]; rfl, (HX.out.below.trans (HX4.out.below.mono HX.out.below.size))⟩
    · obtain rfl : j = t.needs.length := by omega
      have HKN : Hid (okNs [] t.needs = true) := by have := HK.out; rwa [List.take_length] at this
      go_wp2_with fail
      go_loopw [6] (fun i wr' => ∃ (j : Nat), j ≤ t.outs.length ∧ i = .int .i64 j ∧ Hid (okOuts (t.outs.take j) = true) ∧ wr' = wr) (fun i _ => t.outs.length - (intOf i).toNat)
      case atStart => exact ⟨0, by omega, rfl, rfl, by trivial⟩
      case round =>
        obtain ⟨j, hj, rfl, HOO, rfl⟩ := hrel
        by_cases hlt : j < t.outs.length
        · have i0 : (0 : Int) ≤ (j : Int) := by omega
          have i1 : (j : Int) < t.outs.length := by omega
          obtain ⟨b, o, rfl, hx0⟩ := Ss.cell HO.out HE.out.inv hlt
          have HO1 : Hid (okOuts (t.outs.take (j + 1)) = decide (t.outs[j].length ≤ 256)) := by
            rw [Hid, List.take_succ_eq_append_getElem hlt]
            have := HOO.out
            unfold okOuts at this ⊢
            rw [List.all_append, this]; simp
          have HOA : Hid (¬ t.outs[j].length ≤ 256 → okOuts t.outs = false) := fun h => by
            unfold okOuts
            rw [Bool.eq_false_iff]
            intro h'
            rw [List.all_eq_true] at h'
            have := h' _ (List.getElem_mem hlt)
            exact h (by simpa using this)
          generalize t.outs[j] = s at *
          by_cases hs : 256 < s.length
          · have hsi : (256 : Int) < s.length := by omega
            have HF : Hid (rightT t = false) := by rw [Hid, HR.out, HOA.out (by omega)]; simp
            go_wp2_with fail
            go_ret
            exact ⟨by rw [HF.out]; rfl, (HX.out.below.trans (HE.out.below.mono HX.out.below.size))⟩
          · have hsi : ¬ (256 : Int) < s.length := by omega
            rw [decide_eq_true (show s.length ≤ 256 by omega)] at HO1
            go_wp2_with fail
            go_roundw
            case rel => exact ⟨j + 1, by omega, by go_num, HO1, by trivial⟩
            case measure => simp [intOf]; omega
        · obtain rfl : j = t.outs.length := by omega
          have HF : Hid (rightT t = true) := by
            have := HOO.out
            rw [List.take_length] at this
            rw [Hid, HR.out, HKN.out, this]; rfl
          go_wp2_with fail
          go_ret
          exact ⟨by rw [HF.out]; rfl, (HX.out.below.trans (HE.out.below.mono HX.out.below.size))⟩
end Go.Proofs.Ytldicbhjmjjfbaa
