/- The walks of brickyardref09: Segment, Cut, Is. -/
import Derived.Test.YtldicbhjmjjfbaaPathW
namespace Go.Proofs.Ytldicbhjmjjfbaa
open Go.RowKit
set_option linter.unusedVariables false

theorem mayB_no {c : Nat} (h : ((c : Int) < 97 ∨ 122 < (c : Int)) ∧ ((c : Int) < 48 ∨ 57 < (c : Int)) ∧ ¬ (c : Int) = 95 ∧ ¬ (c : Int) = 46 ∧ ¬ (c : Int) = 45) : mayB c = false := by
  unfold mayB; simp; omega
theorem mayB_yes {c : Nat} (h : (97 ≤ (c : Int) ∧ (c : Int) ≤ 122) ∨ (48 ≤ (c : Int) ∧ (c : Int) ≤ 57) ∨ (c : Int) = 95 ∨ (c : Int) = 46 ∨ (c : Int) = 45) : mayB c = true := by
  unfold mayB; simp; omega
set_option maxHeartbeats 4000000 in
theorem refSegment_calls (l : List UInt8) (hl : l.length ≤ 4611686018427387904) (w : World) :
    Calls Try.prog 52 #[.string (strB l)] w fun e w' => e = .returned (.bool (seg l)) ∧ w' = w := by
  have q1 := strB_is l [46]
  have q2 := strB_is l [46, 46]
  by_cases h0 : l = []
  · have HS := Lib.hid (seg_false (.inl h0))
    have h0i : (l.length : Int) < 1 := by rw [h0]; decide
    clear h0 q1 q2
    go_enter Try.func52, Try.ntmps52
    go_wp2_with fail
    go_ret
    exact ⟨by rw [HS.out]; rfl, rfl⟩
  have h0i : ¬ (l.length : Int) < 1 := by have := List.length_pos_iff.2 h0; omega
  by_cases h1 : 32 < l.length
  · have HS := Lib.hid (seg_false (.inr (.inl h1)))
    have h1i : (32 : Int) < l.length := by omega
    clear h0 q1 q2 h1
    go_enter Try.func52, Try.ntmps52
    go_wp2_with fail
    go_ret
    exact ⟨by rw [HS.out]; rfl, rfl⟩
  have h1i : ¬ (32 : Int) < l.length := by omega
  by_cases h2 : l = [46]
  · have HS := Lib.hid (seg_false (.inr (.inr (.inl h2))))
    rw [decide_eq_true h2] at q1
    clear h0 q2 h1 h2
    go_enter Try.func52, Try.ntmps52
    go_wp2_with fail
    go_ret
    exact ⟨by rw [HS.out]; rfl, rfl⟩
  rw [decide_eq_false h2] at q1
  by_cases h3 : l = [46, 46]
  · have HS := Lib.hid (seg_false (.inr (.inr (.inr h3))))
    rw [decide_eq_true h3] at q2
    clear h0 h1 h2 h3
    go_enter Try.func52, Try.ntmps52
    go_wp2_with fail
    go_ret
    exact ⟨by rw [HS.out]; rfl, rfl⟩
  rw [decide_eq_false h3] at q2
  have HS : Hid (seg l = l.all fun c => mayB c.toNat) := by
    rw [Hid]; unfold seg
    simp [h0, h2, h3, Nat.le_of_not_lt h1]
  clear h0 h1 h2 h3
  go_enter Try.func52, Try.ntmps52
  go_wp2_with fail
  go_loopw [3] (fun i wr => ∃ (j : Nat), j ≤ l.length ∧ i = .int .i64 j ∧ Hid ((l.take j).all (fun c => mayB c.toNat) = true) ∧ wr = w) (fun i _ => l.length - (intOf i).toNat)
  case atStart => exact ⟨0, by omega, rfl, rfl, rfl⟩
  case round =>
    obtain ⟨j, hj, rfl, HT, rfl⟩ := hrel
    by_cases hlt : j < l.length
    · have i0 : (0 : Int) ≤ (j : Int) := by omega
      have i1 : (j : Int) < l.length := by omega
      have hx := strB_at0 hlt
      have HT1 := Lib.hid (all_take_succ hlt HT.out)
      have HA : Hid (mayB l[j].toNat = false → l.all (fun c => mayB c.toNat) = false) := fun h => by
        rw [Bool.eq_false_iff]
        intro h'
        rw [List.all_eq_true] at h'
        have := h' l[j] (List.getElem_mem hlt)
        rw [h] at this; cases this
      generalize l[j] = x at *
      go_wp2_with fail
      all_goals (try simp only [bne_iff_ne, bne_eq_false_iff_eq, ne_eq] at *)
      all_goals first
        | (exfalso; omega)
        | (go_ret; exact ⟨by rw [HS.out.trans (HA.out (mayB_no (by omega)))]; rfl, rfl⟩)
        | (go_roundw
           case rel => exact ⟨j + 1, by omega, by go_num, by rw [Hid, HT1.out]; exact mayB_yes (by omega), by trivial⟩
           case measure => simp [intOf]; omega)
    · obtain rfl : j = l.length := by omega
      have HF : Hid (seg l = true) := by rw [Hid, HS.out, ← HT.out, List.take_length]
      go_wp2_with fail
      go_ret
      exact ⟨by rw [HF.out]; rfl, rfl⟩
set_option maxHeartbeats 4000000 in
theorem refCut_calls9 {J : Jm} {w : World} (hI : Inv J w) (l : List UInt8) (hl : l.length ≤ 1048576) :
    Calls Try.prog 51 #[.string (strB l)] w fun e w' => ∃ v' J', e = .returned v' ∧ Ext J w J' w' ∧ Ss J' v' (pieces l) := by
  have hle := pieces_len l
  go_enter Try.func51, Try.ntmps51
  go_wp2_with fail
  go_loopw [3, 4, 5] (fun o f i wr => ∃ (k q : Nat) (ps : List (List UInt8)) (J' : Jm), k ≤ l.length + 1 ∧ i = .int .i64 k ∧ f = .int .i64 q ∧ q ≤ l.length + 1 ∧ ps.length ≤ k ∧
    (k ≤ l.length → q ≤ k) ∧ Hid ((k ≤ l.length → Pcd l k q ps) ∧ (k = l.length + 1 → pieces l = ps)) ∧ Hid (Ext J w J' wr) ∧ Hid (Own J' wr w.heap.size 9 1 o ps.length (scs ps))) (fun _ _ i _ => l.length + 1 - (intOf i).toNat)
  case atStart => exact ⟨0, 0, [], J, by omega, rfl, rfl, by omega, by simp, by omega, ⟨fun _ => Pcd.zero l, by omega⟩, Ext.refl hI, Own.nil _ _ _ _ _⟩
  case round =>
    obtain ⟨k, q, ps, J', hk, rfl, rfl, hq, hps, hqk, HP, HE, HO⟩ := hrel
    by_cases hlt : k ≤ l.length
    · have hqk := hqk hlt
      have j0 : (0 : Int) ≤ (q : Int) := by omega
      have j1 : (q : Int) ≤ (k : Int) := by omega
      have j2 : (k : Int) ≤ l.length := by omega
      have hx := strB_extr l q k
      by_cases he : k = l.length
      · subst he
        have HQ : Hid (pieces l = ps ++ [(l.take l.length).drop q]) := by
          rw [Hid, List.take_length]
          exact (HP.out.1 hlt).last
        generalize (l.take l.length).drop q = c at *
        go_wp2_with (at_builtin; go_must (refine wpList_append_lit (J := J') (s := .tmp 22) (x := .tmp 27) (t := 24) (e := 9) (base := w.heap.size) (v := u3) (n := ps.length) (xs := scs ps) (m := 1) (news := scs [c]) rfl (.string (strB [])) 1 16 rfl Try.underlying24 info_str rfl rfl (HE.out.inv.alloc _) (HO.out.alloc _) rfl (heap_alloc_new _ _) rfl (scs_one _) (by simp only [maxLen]; omega) (by omega) (by have := HE.out.below.size; simp; omega) ?_; intro v1 w1 J1 ho1 hg1 hv1; have HE1 := Lib.hid ((HE.out.alloc _).grew (HO.out.alloc _) hg1); have HO1 := Lib.hid ho1; have HV1 := Lib.hid hv1; clear ho1 hg1 hv1))
        go_roundw
        case rel => exact ⟨l.length + 1, l.length + 1, ps ++ [c], J1, by omega, by first | rfl | go_num, by first | rfl | go_num, by omega, (by rw [List.length_append]; simp only [List.length_cons, List.length_nil]; omega), by omega, ⟨by omega, fun _ => HQ.out⟩, HE1, by rw [Hid, scs_append, List.length_append]; exact HO1.out⟩
        case measure => simp [intOf]
      · have hei : ¬ (k : Int) = l.length := by omega
        have hlt2 : k < l.length := by omega
        have i1 : (k : Int) < l.length := by omega
        have i0 : (0 : Int) ≤ (k : Int) := by omega
        have hy := strB_at0 hlt2
        by_cases h47 : l[k] = 47
        · have HQ := Lib.hid ((HP.out.1 hlt).slash hlt2 h47)
          rw [h47] at hy
          generalize (l.take k).drop q = c at *
          go_wp2_with (at_builtin; go_must (refine wpList_append_lit (J := J') (s := .tmp 22) (x := .tmp 27) (t := 24) (e := 9) (base := w.heap.size) (v := u3) (n := ps.length) (xs := scs ps) (m := 1) (news := scs [c]) rfl (.string (strB [])) 1 16 rfl Try.underlying24 info_str rfl rfl (HE.out.inv.alloc _) (HO.out.alloc _) rfl (heap_alloc_new _ _) rfl (scs_one _) (by simp only [maxLen]; omega) (by omega) (by have := HE.out.below.size; simp; omega) ?_; intro v1 w1 J1 ho1 hg1 hv1; have HE1 := Lib.hid ((HE.out.alloc _).grew (HO.out.alloc _) hg1); have HO1 := Lib.hid ho1; have HV1 := Lib.hid hv1; clear ho1 hg1 hv1))
          go_roundw
          case rel => exact ⟨k + 1, k + 1, ps ++ [c], J1, by omega, by go_num, by go_num, by omega, by simp; omega, by omega, ⟨fun _ => HQ.out, by omega⟩, HE1, by rw [Hid, scs_append, List.length_append]; exact HO1.out⟩
          case measure => simp [intOf]; omega
        · have HQ := Lib.hid ((HP.out.1 hlt).other hlt2 h47)
          have h47i : ((l[k].toNat : Int) == 47) = false := by
            rw [beq_eq_false_iff_ne]; intro h
            exact h47 (UInt8.toNat_inj.1 (by simpa using (show l[k].toNat = 47 by omega)))
          generalize l[k] = x at *
          go_wp2_with fail
          go_roundw
          case rel => exact ⟨k + 1, q, ps, J', by omega, by go_num, by go_num, by omega, by omega, by omega, ⟨fun _ => HQ.out, by omega⟩, HE, HO⟩
          case measure => simp [intOf]; omega
    · have hei : ¬ (k : Int) ≤ l.length := by omega
      have HF : Hid (pieces l = ps) := HP.out.2 (by omega)
      go_wp2_with fail
      go_ret
      exact ⟨_, rfl, J', HE.out, by rw [HF.out]; exact HO.out.sl⟩
set_option maxHeartbeats 4000000 in
theorem refIs_calls {J : Jm} {w : World} (hI : Inv J w) (l : List UInt8) (hl : l.length ≤ 4611686018427387904) :
    Calls Try.prog 33 #[.string (strB l)] w fun e w' => e = .returned (.bool (isP l)) ∧ Below w.heap.size w w' := by
  go_enter Try.func33, Try.ntmps33
  by_cases h1 : 60 < l.length
  · have HS : Hid (isP l = false) := by rw [Hid]; unfold isP; simp; omega
    have h1i : (60 : Int) < l.length := by omega
    go_wp2_with fail
    go_ret
    exact ⟨by rw [HS.out]; rfl, Below.refl _ _⟩
  have h1i : ¬ (60 : Int) < l.length := by omega
  have HS : Hid (isP l = segs l) := by rw [Hid]; unfold isP; simp; omega
  have hle := pieces_len l
  go_wp2_with (go_at_call 51; go_must (refine (refCut_calls9 hI l (by omega)).mono ?_; rintro e w1 ⟨v1, J1, rfl, hE, hO⟩; have HE := Lib.hid hE; have HO := Lib.hid hO; obtain ⟨A, c, rfl, hn, hm⟩ := hO.form; clear hE hO; unfold maxLen at hm))
  go_loopw [4] (fun i wr => ∃ (k : Nat), k ≤ (pieces l).length ∧ i = .int .i64 k ∧ Hid (((pieces l).take k).all seg = true) ∧ wr = w1) (fun i _ => (pieces l).length - (intOf i).toNat)
  case atStart => exact ⟨0, by omega, rfl, rfl, rfl⟩
  case round =>
    obtain ⟨k, hk, rfl, HT, rfl⟩ := hrel
    by_cases hlt : k < (pieces l).length
    · have i0 : (0 : Int) ≤ (k : Int) := by omega
      have i1 : (k : Int) < (pieces l).length := by omega
      obtain ⟨b, o, rfl, hx⟩ := HO.out.cell HE.out.inv hlt
      have HM := Lib.hid (List.getElem_mem hlt)
      have hpl := piece_le l _ HM.out
      have HT1 : Hid (((pieces l).take (k + 1)).all seg = seg (pieces l)[k]) := by
        rw [Hid, List.take_succ_eq_append_getElem hlt, List.all_append, HT.out]; simp
      have HA : Hid (seg (pieces l)[k] = false → isP l = false) := fun h => by
        rw [HS.out, Bool.eq_false_iff]
        unfold segs
        intro h'
        rw [List.all_eq_true] at h'
        have := h' _ HM.out
        rw [h] at this; cases this
      clear HM
      generalize (pieces l)[k] = x at *
      cases hm : seg x with
      | true =>
        rw [hm] at HT1
        go_wp2_with (go_at_call 52; go_must (refine (refSegment_calls x (by omega) _).mono ?_; rw [hm]; rintro e w2 ⟨rfl, rfl⟩))
        go_roundw
        case rel => exact ⟨k + 1, by omega, by go_num, HT1, by trivial⟩
        case measure => simp [intOf]; omega
      | false =>
        have HF := Lib.hid (HA.out hm)
        go_wp2_with (go_at_call 52; go_must (refine (refSegment_calls x (by omega) _).mono ?_; rw [hm]; rintro e w2 ⟨rfl, rfl⟩))
        go_ret
        exact ⟨by rw [HF.out]; rfl, HE.out.below⟩
    · obtain rfl : k = (pieces l).length := by omega
      have HF : Hid (isP l = true) := by rw [Hid, HS.out, ← HT.out, List.take_length]; rfl
      go_wp2_with fail
      go_ret
      exact ⟨by rw [HF.out]; rfl, HE.out.below⟩
end Go.Proofs.Ytldicbhjmjjfbaa
