/- The walks of record's Holds without a closure, of the document's Now and Holds. -/
import Derived.Test.YtldicbhjmjjfbaaRecHolds
import Derived.Deep.QuietTactic
import Derived.BigQuiet
namespace Go.Proofs.Ytldicbhjmjjfbaa
open Go.RowKit
set_option linter.unusedVariables false

theorem run_neq_nilFunc2 (W : World) : (binOp .neq 39 .nilFunc .nilFunc).run Try.prog W = .ok (.bool false) W := by
  kernel_rfl
def noF : List UInt8 → List UInt8 × Bool := fun _ => ([], false)
set_option maxRecDepth 100000 in
set_option maxHeartbeats 8000000 in
theorem holdsNil_calls {J : Jm} {w : World} (hI : Inv J w) {v : Value} {t : Trc} (ht : TrV J v t) (job : List UInt8) :
    Calls Try.prog 15 #[v, .string (strB job), .nilFunc] w fun e w' => e = .returned (.tuple #[.int .i64 (holdsT t job noF).1, .bool (holdsT t job noF).2]) ∧ Below w.heap.size w w' := by
  obtain ⟨vn, vo, rfl, hn, ho⟩ := ht
  obtain ⟨An, cn, rfl, hnc, hnm⟩ := hn.form
  unfold maxLen at hnm
  have HN := Lib.hid hn
  clear hn ho
  have hX := (Ext.refl hI).alloc (.cells #[.string (strB t.job), .slice An t.needs.length cn, vo] 26)
  have HT := Lib.hid (TBox.new w t (.slice An t.needs.length cn) vo)
  have hb := strB_beq t.job job
  go_enter Try.func15, Try.ntmps15
  by_cases hj : t.job = job
  case neg =>
    have hb2 : ((strB t.job).toList == (strB job).toList) = false := by rw [hb]; simpa using hj
    have HH := Lib.hid (show holdsT t job noF = (0, false) from if_neg hj)
    clear hb
    go_wp2_with fail
    go_ret2
    rw [HH.out]
    exact ⟨rfl, hX.below⟩
  have hb2 : ((strB t.job).toList == (strB job).toList) = true := by rw [hb]; simpa using hj
  have HH := Lib.hid (show holdsT t job noF = holdsL t.needs noF from if_pos hj)
  clear hb hj
  go_upto_region 1 with fail
  have HX := Lib.hid hX
  clear hX
  generalize World.alloc w _ = W at *
  generalize w.heap.size = tb at HT ⊢
  have c0 := HT.out.c0
  have c1 := HT.out.c1
  go_wp2_with fail
  clear c0 c1
  go_loopw [19] (fun i wr => ∃ (j : Nat), j ≤ t.needs.length ∧ i = .int .i64 j ∧ Hid (holdsL t.needs noF = ((holdsL (t.needs.drop j) noF).1 + j, (holdsL (t.needs.drop j) noF).2)) ∧ Hid (Ext J W J wr)) (fun i _ => t.needs.length - (intOf i).toNat)
  case atStart => exact ⟨0, by omega, rfl, rfl, Ext.refl HX.out.inv⟩
  case round =>
    obtain ⟨j, hj, rfl, HL, HE⟩ := hrel
    by_cases hlt : j < t.needs.length
    · have i0 : (0 : Int) ≤ (j : Int) := by omega
      have i1 : (j : Int) < t.needs.length := by omega
      obtain ⟨b, o, rfl, hx0, hx1, hx2⟩ := Ns.cell HN.out HE.out.inv hlt
      have HDY := Lib.hid (fun h1 h2 => holdsL_drop_yes (F := noF) hlt h1 h2)
      have HDN := Lib.hid (fun h => holdsL_drop_no (F := noF) hlt h)
      generalize t.needs[j] = n at *
      obtain ⟨pa, hv, ct⟩ := n
      unfold noF at HDY HDN
      simp only at hx0 hx1 hx2 HDY HDN
      go_upto_region 6 with fail
      have hx := (Ext.refl HE.out.inv).alloc (.cells #[.string (strB pa), .bool hv, .string (strB ct)] 38)
      have HE3 := Lib.hid (HE.out.trans hx)
      have HEB := Lib.hid (EBox.new wr ⟨pa, hv, ct⟩)
      clear hx hx0 hx1 hx2
      generalize World.alloc wr _ = W3 at *
      generalize wr.heap.size = eb at HEB ⊢
      have e0 := HEB.out.c0
      have e1 := HEB.out.c1
      have e2 := HEB.out.c2
      simp only at e0 e1 e2
      have hnf := run_neq_nilFunc2
      cases hv with
      | true =>
        have HL2 := Lib.hid (show holdsL t.needs noF = (j, false) by rw [HL.out]; unfold noF; rw [HDN.out (fun h => by cases h.1)]; simp)
        go_wp2_with fail
        go_ret2
        rw [HH.out, HL2.out]
        exact ⟨rfl, HX.out.below.trans (HE3.out.below.mono HX.out.below.size)⟩
      | false =>
        have hb3 := strB_beq [] ct
        by_cases hc : ct = []
        · have HL2 := Lib.hid (show holdsL t.needs noF = ((holdsL (t.needs.drop (j + 1)) noF).1 + (j + 1), (holdsL (t.needs.drop (j + 1)) noF).2) by rw [HL.out]; unfold noF; rw [HDY.out rfl hc.symm]; simp only [Nat.add_assoc, Nat.add_comm 1 j])
          have hb4 : (([] : List UInt8) == (strB ct).toList) = true := by rw [hc, strB_toList]; rfl
          have hb5 : (strB ct).toList.isEmpty = true := by rw [hc, strB_toList]; rfl
          clear hc hb3
          go_wp2_with fail
          go_roundw
          case rel => exact ⟨j + 1, by omega, by go_num, HL2, HE3⟩
          case measure => simp [intOf]; omega
        · have HL2 := Lib.hid (show holdsL t.needs noF = (j, false) by rw [HL.out]; unfold noF; rw [HDN.out (fun h => hc h.2.symm)]; simp)
          have hb4 : (([] : List UInt8) == (strB ct).toList) = false := by rw [strB_toList]; cases ct; exact absurd rfl hc; rfl
          have hb5 : (strB ct).toList.isEmpty = false := by rw [strB_empty, decide_eq_false hc]
          clear hc hb3
          go_wp2_with fail
          go_ret2
          rw [HH.out, HL2.out]
          exact ⟨rfl, HX.out.below.trans (HE3.out.below.mono HX.out.below.size)⟩
    · obtain rfl : j = t.needs.length := by omega
      have HL2 := Lib.hid (show holdsL t.needs noF = (t.needs.length, true) by rw [HL.out, List.drop_length]; simp [holdsL])
      have c1 := (HT.out.ext HE.out).c1
      go_wp2_with fail
      go_ret2
      rw [HH.out, HL2.out]
      exact ⟨rfl, HX.out.below.trans (HE.out.below.mono HX.out.below.size)⟩
def nowF : List Nee → List UInt8 → List UInt8 × Bool
  | [], _ => ([], false)
  | n :: r, p => if n.path = p then (n.cont, n.hv) else nowF r p
theorem nowF_yes {l : List Nee} {j : Nat} {p : List UInt8} (hj : j < l.length) (h : l[j].path = p) : nowF (l.drop j) p = (l[j].cont, l[j].hv) := by
  rw [List.drop_eq_getElem_cons hj, nowF, if_pos h]
theorem nowF_no {l : List Nee} {j : Nat} {p : List UInt8} (hj : j < l.length) (h : ¬ l[j].path = p) : nowF (l.drop j) p = nowF (l.drop (j + 1)) p := by
  rw [List.drop_eq_getElem_cons hj, nowF, if_neg h]
set_option maxRecDepth 100000 in
set_option maxHeartbeats 8000000 in
theorem now_calls {J : Jm} {w : World} (hI : Inv J w) {v : Value} {l : List Nee} (hl : Ns J v l) (p : List UInt8) :
    Calls Try.prog 24 #[v, .string (strB p)] w fun e w' => e = .returned (.tuple #[.string (strB (nowF l p).1), .bool (nowF l p).2]) ∧ Below w.heap.size w w' := by
  obtain ⟨A, c, rfl, hn, hm⟩ := hl.form
  unfold maxLen at hm
  have HN := Lib.hid hl
  clear hl
  go_enter Try.func24, Try.ntmps24
  go_wp2_with fail
  go_loopw [6] (fun i wr => ∃ (j : Nat), j ≤ l.length ∧ i = .int .i64 j ∧ Hid (nowF l p = nowF (l.drop j) p) ∧ wr = w) (fun i _ => l.length - (intOf i).toNat)
  case atStart => exact ⟨0, by omega, rfl, rfl, rfl⟩
  case round =>
    obtain ⟨j, hj, rfl, HL, rfl⟩ := hrel
    by_cases hlt : j < l.length
    · have i0 : (0 : Int) ≤ (j : Int) := by omega
      have i1 : (j : Int) < l.length := by omega
      obtain ⟨b, o, rfl, hx0, hx1, hx2⟩ := Ns.cell HN.out hI hlt
      have HY := Lib.hid (fun h => nowF_yes (p := p) hlt h)
      have HNO := Lib.hid (fun h => nowF_no (p := p) hlt h)
      generalize l[j] = n at *
      obtain ⟨pa, hv, ct⟩ := n
      simp only at hx0 hx1 hx2 HY HNO
      have hb := strB_beq pa p
      by_cases hp : pa = p
      · have hb2 : ((strB pa).toList == (strB p).toList) = true := by rw [hb]; simpa using hp
        have HR := Lib.hid (HL.out.trans (HY.out hp))
        clear hb hp
        go_wp2_with fail
        go_big_quiet (fail)
        go_wp2_with fail
        go_ret2
        rw [HR.out]
        exact ⟨rfl, below_drewN _ nq⟩
      · have hb2 : ((strB pa).toList == (strB p).toList) = false := by rw [hb]; simpa using hp
        have HR := Lib.hid (HL.out.trans (HNO.out hp))
        clear hb hp
        go_wp2_with fail
        go_roundw
        case rel => exact ⟨j + 1, by omega, by go_num, HR, by trivial⟩
        case measure => simp [intOf]; omega
    · obtain rfl : j = l.length := by omega
      have HR := Lib.hid (show nowF l p = ([], false) by rw [HL.out, List.drop_length]; rfl)
      go_wp2_with fail
      go_ret2
      rw [HR.out]
      exact ⟨rfl, Below.refl _ _⟩
set_option maxRecDepth 100000 in
set_option maxHeartbeats 8000000 in
theorem refHolds_calls {J : Jm} {w : World} (hI : Inv J w) {v u : Value} {t : Trc} (ht : TrV J v t) (job : List UInt8) {l : List Nee} (hl : Ns J u l) :
    Calls Try.prog 25 #[v, .string (strB job), u] w fun e w' => e = .returned (.tuple #[.int .i64 (holdsT t job (nowF l)).1, .bool (holdsT t job (nowF l)).2]) ∧ Below w.heap.size w w' := by
  obtain ⟨vn, vo, rfl, hn, ho⟩ := ht
  obtain ⟨An, cn, rfl, hnc, hnm⟩ := hn.form
  unfold maxLen at hnm
  have HN := Lib.hid hn
  have HLL := Lib.hid hl
  obtain ⟨Au, cu, rfl, -, -⟩ := hl.form
  clear hn ho hl
  have hX := (Ext.refl hI).alloc (.cells #[.string (strB t.job), .slice An t.needs.length cn, vo] 26)
  have HT := Lib.hid (TBox.new w t (.slice An t.needs.length cn) vo)
  have hb := strB_beq t.job job
  go_enter Try.func25, Try.ntmps25
  by_cases hj : t.job = job
  case neg =>
    have hb2 : ((strB t.job).toList == (strB job).toList) = false := by rw [hb]; simpa using hj
    have HH := Lib.hid (show holdsT t job (nowF l) = (0, false) from if_neg hj)
    clear hb
    go_wp2_with fail
    go_ret2
    rw [HH.out]
    exact ⟨rfl, hX.below⟩
  have hb2 : ((strB t.job).toList == (strB job).toList) = true := by rw [hb]; simpa using hj
  have HH := Lib.hid (show holdsT t job (nowF l) = holdsL t.needs (nowF l) from if_pos hj)
  clear hb hj
  go_upto_region 1 with fail
  have HX := Lib.hid hX
  clear hX
  generalize World.alloc w _ = W at *
  generalize w.heap.size = tb at HT ⊢
  have c0 := HT.out.c0
  have c1 := HT.out.c1
  go_wp2_with fail
  clear c0 c1
  obtain ⟨F, hF⟩ : ∃ F, F = nowF l := ⟨_, rfl⟩
  have HH : Hid (holdsT t job (nowF l) = holdsL t.needs F) := by rw [Hid, hF]; exact HH.out
  have HFF := Lib.hid hF
  clear hF
  go_loopw [8] (fun i wr => ∃ (j : Nat), j ≤ t.needs.length ∧ i = .int .i64 j ∧ Hid (holdsL t.needs F = ((holdsL (t.needs.drop j) F).1 + j, (holdsL (t.needs.drop j) F).2)) ∧ Hid (Ext J W J wr)) (fun i _ => t.needs.length - (intOf i).toNat)
  case atStart => exact ⟨0, by omega, rfl, rfl, Ext.refl HX.out.inv⟩
  case round =>
    obtain ⟨j, hj, rfl, HL, HE⟩ := hrel
    have c1 := (HT.out.ext HE.out).c1
    by_cases hlt : j < t.needs.length
    · have i0 : (0 : Int) ≤ (j : Int) := by omega
      have i1 : (j : Int) < t.needs.length := by omega
      obtain ⟨b, o, hAn, hx0, hx1, hx2⟩ := Ns.cell HN.out HE.out.inv hlt
      have HDY := Lib.hid (fun h1 h2 => holdsL_drop_yes (F := F) hlt h1 h2)
      have HDN := Lib.hid (fun h => holdsL_drop_no (F := F) hlt h)
      have HCE := Lib.hid (fun w' (e : Ext J W J w') => Ns.cell HN.out e.inv hlt)
      generalize t.needs[j] = n at *
      obtain ⟨pa, hv, ct⟩ := n
      subst hAn
      simp only at hx0 hx1 hx2 HDY HDN HCE
      go_wp2_with fail
      refine (now_calls HE.out.inv HLL.out pa).mono ?_
      rw [← HFF.out]
      rintro e W4 ⟨rfl, hb4⟩
      have HE4 := Lib.hid (HE.out.step hb4)
      clear hb4 hx0 hx1 hx2 c1
      obtain ⟨b', o', hbo, hx0, hx1, hx2⟩ := HCE.out _ HE4.out
      cases hbo
      have c1 := (HT.out.ext HE4.out).c1
      obtain ⟨⟨fc, fh⟩, hfv⟩ : ∃ v, v = F pa := ⟨_, rfl⟩
      rw [← hfv] at HDY HDN ⊢
      simp only at HDY HDN ⊢
      clear hfv
      by_cases hh : fh = hv
      case neg =>
        have HL2 := Lib.hid (show holdsL t.needs F = (j, false) by rw [HL.out, HDN.out (fun h => hh h.1)]; simp)
        rcases bool_neR hh with ⟨rfl, rfl⟩ | ⟨rfl, rfl⟩
        all_goals
          clear hh
          go_wp2_with fail
          go_ret2
          rw [HH.out, HL2.out]
          exact ⟨rfl, HX.out.below.trans (HE4.out.below.mono HX.out.below.size)⟩
      subst hh
      have hb5 := strB_beq fc ct
      by_cases hc : fc = ct
      case neg =>
        have HL2 := Lib.hid (show holdsL t.needs F = (j, false) by rw [HL.out, HDN.out (fun h => hc h.2)]; simp)
        have hb3 : ((strB fc).toList == (strB ct).toList) = false := by rw [hb5]; simpa using hc
        clear hc hb5
        cases fh
        all_goals
          go_wp2_with fail
          go_ret2
          rw [HH.out, HL2.out]
          exact ⟨rfl, HX.out.below.trans (HE4.out.below.mono HX.out.below.size)⟩
      have HL2 := Lib.hid (show holdsL t.needs F = ((holdsL (t.needs.drop (j + 1)) F).1 + (j + 1), (holdsL (t.needs.drop (j + 1)) F).2) by rw [HL.out, HDY.out rfl hc]; simp only [Nat.add_assoc, Nat.add_comm 1 j])
      have hb3 : ((strB fc).toList == (strB ct).toList) = true := by rw [hb5]; simp [hc]
      clear hc hb5
      cases fh
      all_goals
        go_wp2_with fail
        go_roundw
        case rel => exact ⟨j + 1, by omega, by go_num, HL2, HE4⟩
        case measure => simp [intOf]; omega
    · obtain rfl : j = t.needs.length := by omega
      have HL2 := Lib.hid (show holdsL t.needs F = (t.needs.length, true) by rw [HL.out, List.drop_length]; simp [holdsL])
      go_wp2_with fail
      go_ret2
      rw [HH.out, HL2.out]
      exact ⟨rfl, HX.out.below.trans (HE.out.below.mono HX.out.below.size)⟩
end Go.Proofs.Ytldicbhjmjjfbaa
