/- The walk of right. -/
import Derived.Test.YtnnkgjaahmflmaaCellItem
import Derived.Lib.QuietBelow
import Derived.IntWalk
import Derived.Laws.Cover1
import Derived.Deep.CutBlock
import Derived.Deep.DeepCutAuto
namespace Go.Proofs.Ytnnkgjaahmflmaa
open Go.RowKit
set_option linter.unusedVariables false

set_option maxRecDepth 100000 in
set_option maxHeartbeats 4000000 in
theorem badKid_calls (k : Int) (w : World) : Calls Try.prog 63 #[.int .i64 k] w fun e w' => e = .returned (.bool (!okKid k)) ∧ w' = w := by
  go_enter Try.func63, Try.ntmps63
  by_cases h1 : k < 1
  · have HR := Lib.hid (show okKid k = false from decide_eq_false (by omega))
    go_wp2_with fail
    go_ret
    exact ⟨by rw [HR.out]; rfl, rfl⟩
  · by_cases h2 : 65535 < k
    · have HR := Lib.hid (show okKid k = false from decide_eq_false (by omega))
      go_wp2_with fail
      go_ret
      exact ⟨by rw [HR.out]; rfl, rfl⟩
    · have HR := Lib.hid (show okKid k = true from decide_eq_true (by omega))
      go_wp2_with fail
      go_ret
      exact ⟨by rw [HR.out]; rfl, rfl⟩
theorem all_take {l : List Int} {k : Nat} (h : k < l.length) (h1 : (l.take k).all okKid = true) : (l.take (k + 1)).all okKid = okKid l[k] := by
  rw [List.take_succ_eq_append_getElem h, List.all_append, h1]; simp
set_option maxRecDepth 100000 in
set_option maxHeartbeats 4000000 in
theorem kidIdx_calls {J : Jm} {w : World} (hI : Inv J w) {v : Value} {l : List Int} (hb : Ks J v l) :
    Calls Try.prog 69 #[v, .func (.func 63) #[] #[]] w fun e w' => ∃ i : Int, e = .returned (.int .i64 i) ∧ (decide (0 ≤ i) = !l.all okKid) ∧ w' = w := by
  obtain ⟨A, c, rfl, hn, hm⟩ := hb.form
  have HB := Lib.hid hb
  unfold maxLen at hm
  clear hb
  go_enter Try.func69, Try.ntmps69
  go_wp2_with fail
  go_loopw [8] (fun iv wr => ∃ k : Nat, k ≤ l.length ∧ iv = .int .i64 k ∧ wr = w ∧ Hid ((l.take k).all okKid = true)) (fun iv _ => l.length - (intOf iv).toNat)
  case atStart => exact ⟨0, Nat.zero_le _, rfl, rfl, rfl⟩
  case round =>
    obtain ⟨k, hk, rfl, rfl, HA⟩ := hrel
    have i0 : (0 : Int) ≤ (k : Int) := by omega
    by_cases hlt : k < l.length
    · have i1 : (k : Int) < l.length := by omega
      obtain ⟨b, o, rfl, c0⟩ := HB.out.cell hI hlt
      have HT := Lib.hid (all_take hlt HA.out)
      obtain ⟨x, hx⟩ : ∃ x, x = l[k] := ⟨_, rfl⟩
      rw [← hx] at c0 HT
      have HX := Lib.hid hx
      clear hx
      cases hb : okKid x with
      | true =>
        have HT2 := Lib.hid (HT.out.trans hb)
        go_wp2_with fail
        refine (badKid_calls x _).mono ?_
        rw [hb]
        rintro e w' ⟨rfl, rfl⟩
        go_wp2_with fail
        go_roundw
        case rel => exact ⟨k + 1, by omega, by go_num, trivial, HT2⟩
        case measure => simp [intOf] <;> omega
      | false =>
        have HF := Lib.hid (show l.all okKid = false from List.all_eq_false.2 ⟨l[k], List.getElem_mem hlt, by rw [← HX.out, hb]; decide⟩)
        go_wp2_with fail
        refine (badKid_calls x _).mono ?_
        rw [hb]
        rintro e w' ⟨rfl, rfl⟩
        go_wp2_with fail
        go_ret
        exact ⟨k, rfl, by rw [HF.out, decide_eq_true i0]; rfl, rfl⟩
    · obtain rfl : k = l.length := by omega
      have i1 : ¬ (l.length : Int) < l.length := by omega
      have ha := HA.out
      rw [List.take_of_length_le (Nat.le_refl _)] at ha
      have HA2 := Lib.hid ha
      clear ha
      go_wp2_with fail
      go_ret
      exact ⟨-1, rfl, by rw [HA2.out]; rfl, rfl⟩
set_option maxRecDepth 100000 in
set_option maxHeartbeats 4000000 in
theorem kids_calls {J : Jm} {w : World} (hI : Inv J w) {v : Value} {l : List Int} (hb : Ks J v l) :
    Calls Try.prog 62 #[v, .func (.func 63) #[] #[]] w fun e w' => e = .returned (.bool (!l.all okKid)) ∧ w' = w := by
  go_enter Try.func62, Try.ntmps62
  go_wp2_with fail
  refine (kidIdx_calls hI hb).mono ?_
  rintro e w' ⟨i, rfl, hi, rfl⟩
  have HR := Lib.hid hi
  clear hi
  go_wp2_with fail
  go_ret
  exact ⟨by rw [← HR.out]; rfl, rfl⟩
theorem lt_of_cell {w : World} {a : Addr} {v : Value} (h : w.cell? a = some v) : a.block < w.heap.size := by
  rcases Nat.lt_or_ge a.block w.heap.size with h' | h'
  · exact h'
  · simp [World.cell?, Array.getElem?_eq_none h'] at h
theorem below_held {w w' : World} (h : Below w.heap.size w w') {p : Addr} {v : Value} (hp : w.cell? p = some v) : w'.cell? p = some v := (h.cell (lt_of_cell hp)).trans hp
/-- the box of a node -/
def NBox (w : World) (b : Nat) (leaf : Bool) (vi vk : Value) : Prop := w.heap[b]? = some (.cells [.bool leaf, vi, vk].toArray 25 (0, 0))
def XBox (w : World) (b : Nat) (x : Cl) : Prop := w.heap[b]? = some (.cells [.string (strB x.key), .string (strB x.val), .int .i64 x.page, .int .i64 x.len].toArray 55 (0, 0))
theorem okGo_drop {leaf : Bool} {l : List Cl} {k : Nat} (h : k < l.length) : okGo leaf (pv l k) (l.drop k) = (okItem l[k] leaf && ahead (pv l k) l[k].key && okGo leaf (pv l (k + 1)) (l.drop (k + 1))) := by
  rw [List.drop_eq_getElem_cons h]
  show (okItem l[k] leaf && _ && okGo leaf (some l[k].key) (l.drop (k + 1))) = _
  rw [show pv l (k + 1) = some l[k].key from by show l[k]?.map Cl.key = _; rw [List.getElem?_eq_getElem h]; rfl]
set_option maxRecDepth 100000 in
set_option maxHeartbeats 4000000 in
theorem right_calls {J : Jm} {w : World} (hI : Inv J w) {v : Value} {n : Nd} (hn : NdV J v n) (hs : ∀ x ∈ n.items, x.key.length ≤ 9223372036854775807 ∧ x.val.length ≤ 9223372036854775807) :
    Calls Try.prog 44 #[v] w fun e w' => e = .returned (.bool (right n)) ∧ Below w.heap.size w w' := by
  obtain ⟨vi, vk, rfl, hi, hk⟩ := hn
  obtain ⟨Ai, ci, rfl, hni, hmi⟩ := hi.form
  obtain ⟨Ak, ck, rfl, hnk, hmk⟩ := hk.form
  unfold maxLen at hmi hmk
  have HIt := Lib.hid hi
  have HKd := Lib.hid hk
  have HS := Lib.hid hs
  obtain ⟨leaf, items, kids⟩ := n
  simp only at *
  clear hi hk hs
  go_enter Try.func44, Try.ntmps44
  go_wp2_with fail
  have HW0 := Lib.hid ((Below.refl w.heap.size w).alloc (Nat.le_refl _) (.cells #[.bool leaf, .slice Ai items.length ci, .slice Ak kids.length ck] 25))
  have HN0 : Hid (NBox (w.alloc (.cells #[.bool leaf, .slice Ai items.length ci, .slice Ak kids.length ck] 25)) w.heap.size leaf (.slice Ai items.length ci) (.slice Ak kids.length ck)) := heap_alloc_new w _
  generalize World.alloc w _ = W0 at *
  obtain ⟨nb, hnb⟩ : ∃ nb, nb = w.heap.size := ⟨_, rfl⟩
  rw [← hnb] at HN0 ⊢
  have HNB := Lib.hid hnb
  clear hnb
  go_loopw [8] (fun iv wr => ∃ k : Nat, k ≤ items.length ∧ iv = .int .i64 k ∧ Hid (Below w.heap.size w wr) ∧ Hid (NBox wr nb leaf (.slice Ai items.length ci) (.slice Ak kids.length ck)) ∧ Hid (okGo leaf none items = okGo leaf (pv items k) (items.drop k))) (fun iv _ => items.length - (intOf iv).toNat)
  case atStart => exact ⟨0, Nat.zero_le _, rfl, HW0, HN0, rfl⟩
  case round =>
    clear HN0 HW0
    obtain ⟨k, hkl, rfl, HW, HN, HG⟩ := hrel
    have i0 : (0 : Int) ≤ (k : Int) := by omega
    have HI := Lib.hid (hI.below HW.out)
    have n0 := blk_cell_J HN.out 0 rfl
    have n1 := blk_cell_J HN.out 1 rfl
    have n2 := blk_cell_J HN.out 2 rfl
    by_cases hlt : k < items.length
    · have i1 : (k : Int) < items.length := by omega
      obtain ⟨b, o, rfl, c0, c1, c2, c3⟩ := HIt.out.cell HI.out hlt
      have hd := okGo_drop (leaf := leaf) hlt
      have hsx := HS.out items[k] (List.getElem_mem hlt)
      obtain ⟨x, hx⟩ : ∃ x, x = items[k] := ⟨_, rfl⟩
      rw [← hx] at c0 c1 c2 c3 hd hsx
      have HG2 := Lib.hid (HG.out.trans hd)
      have HSX := Lib.hid hsx
      have HLT := Lib.hid hlt
      clear hd hsx hx n1 n2
      go_upto_region 4 with fail
      have HX0 := Lib.hid (show XBox (wr.alloc (.cells #[.string (strB x.key), .string (strB x.val), .int .i64 x.page, .int .i64 x.len] 55)) wr.heap.size x from heap_alloc_new wr _)
      have HN := Lib.hid (show NBox (wr.alloc (.cells #[.string (strB x.key), .string (strB x.val), .int .i64 x.page, .int .i64 x.len] 55)) nb leaf (.slice (some ⟨b, o, none⟩) items.length ci) (.slice Ak kids.length ck) from (Below.heap_alloc wr _ nb (Array.getElem?_eq_some_iff.1 HN.out).1).trans HN.out)
      have HW := Lib.hid (HW.out.alloc HW.out.size (.cells #[.string (strB x.key), .string (strB x.val), .int .i64 x.page, .int .i64 x.len] 55))
      generalize World.alloc wr _ = W at *
      generalize wr.heap.size = xb at *
      clear c0 c1 c2 c3 n0
      go_cut [33] (fun bv wx => bv = .bool (!(okItem x leaf && ahead (pv items k) x.key)) ∧ Hid (Below w.heap.size w wx) ∧ Hid (NBox wx nb leaf (.slice (some ⟨b, o, none⟩) items.length ci) (.slice Ak kids.length ck)))
      case first => as_aux_lemma =>
        have n0 := fun d os => Go.cell_regrown (blk_cell_J HN.out 0 rfl) d os
        have n1 := fun d os => Go.cell_regrown (blk_cell_J HN.out 1 rfl) d os
        have x0 := fun d os => Go.cell_regrown (blk_cell_J HX0.out 0 rfl) d os
        have x1 := fun d os => Go.cell_regrown (blk_cell_J HX0.out 1 rfl) d os
        have x2 := fun d os => Go.cell_regrown (blk_cell_J HX0.out 2 rfl) d os
        have x3 := fun d os => Go.cell_regrown (blk_cell_J HX0.out 3 rfl) d os
        have HC := Lib.hid (fun (d : Nat) (os : Array Obj) => Go.Calls.regrown_of (w := W) (d := d) (os := os) (item_calls x leaf _ HSX.out.1 HSX.out.2))
        cases hok : okItem x leaf with
        | false =>
          rw [hok] at HC
          have HBR := Lib.hid (show (!(okItem x leaf && ahead (pv items k) x.key)) = true from by simp [hok])
          refine wp_region_quiet_below (by kernel_rfl) (by kernel_rfl) ?_
          repeat (go_big_quiet_step ((go_at_call 53; exact HC.out _ _)))
          refine wpQuiet_nil ?_
          intro _ hw'
          obtain ⟨⟨dq, osq⟩, hw''⟩ := hw'
          subst hw''
          go_wp2_with fail
          go_meet
          case rel => exact ⟨by rw [HBR.out], HW.out.trans ((below_regrown W dq osq).mono HW.out.size), ((below_regrown W dq osq).block nb (Array.getElem?_eq_some_iff.1 HN.out).1).trans HN.out⟩
        | true =>
          rw [hok] at HC
          by_cases hk0 : k = 0
          · subst hk0
            have HBR := Lib.hid (show (!(okItem x leaf && ahead (pv items 0) x.key)) = false from by simp [hok, pv, ahead])
            refine wp_region_quiet_below (by kernel_rfl) (by kernel_rfl) ?_
            repeat (go_big_quiet_step ((go_at_call 53; exact HC.out _ _)))
            refine wpQuiet_nil ?_
            intro _ hw'
            obtain ⟨⟨dq, osq⟩, hw''⟩ := hw'
            subst hw''
            go_wp2_with fail
            go_meet
            case rel => exact ⟨by rw [HBR.out], HW.out.trans ((below_regrown W dq osq).mono HW.out.size), ((below_regrown W dq osq).block nb (Array.getElem?_eq_some_iff.1 HN.out).1).trans HN.out⟩
          · obtain ⟨m, hm⟩ : ∃ m, k = m + 1 := ⟨k - 1, by omega⟩
            have hltm : m < items.length := by omega
            obtain ⟨b7, o7, hA7, p0, -, -, -⟩ := HIt.out.cell (hI.below HW.out) hltm
            cases hA7
            have hpv : pv items k = some items[m].key := by rw [hm]; show items[m]?.map Cl.key = _; rw [List.getElem?_eq_getElem hltm]; rfl
            obtain ⟨pk, hpk⟩ : ∃ pk, pk = items[m].key := ⟨_, rfl⟩
            rw [← hpk] at p0 hpv
            have p0 := fun d os => Go.cell_regrown p0 d os
            have m0 : (0 : Int) < (k : Int) := by omega
            have m0b : decide ((0 : Int) < (k : Int)) = true := decide_eq_true m0
            have m0c : decide (0 < k) = true := decide_eq_true (by omega)
            have m0d : 0 < k := by omega
            have m1 : IntKind.i64.wrap ((k : Int) - 1) = m := by rw [IntKind.wrap_i64]; omega
            have m2 : IntKind.i64.wrap (m : Int) = m := by rw [IntKind.wrap_i64]; omega
            have m3 : (0 : Int) ≤ m := by omega
            have m4 : (m : Int) < items.length := by omega
            have hlb : Op.bytesLess (strB pk).toList (strB x.key).toList = lt8 pk x.key := by rw [strB_toList, strB_toList]; rfl
            have HPV := Lib.hid hpv
            clear hpv hpk hltm hm hk0
            cases hlx : lt8 pk x.key with
            | true =>
              rw [hlx] at hlb
              have HBR := Lib.hid (show (!(okItem x leaf && ahead (pv items k) x.key)) = false from by rw [hok, HPV.out]; show (!(true && lt8 pk x.key)) = false; rw [hlx]; rfl)
              clear hlx
              refine wp_region_quiet_below (by kernel_rfl) (by kernel_rfl) ?_
              repeat (go_big_quiet_step ((go_at_call 53; exact HC.out _ _)))
              refine wpQuiet_nil ?_
              intro _ hw'
              obtain ⟨⟨dq, osq⟩, hw''⟩ := hw'
              subst hw''
              go_wp2_with fail
              go_meet
              case rel => exact ⟨by rw [HBR.out], HW.out.trans ((below_regrown W dq osq).mono HW.out.size), ((below_regrown W dq osq).block nb (Array.getElem?_eq_some_iff.1 HN.out).1).trans HN.out⟩
            | false =>
              rw [hlx] at hlb
              have HBR := Lib.hid (show (!(okItem x leaf && ahead (pv items k) x.key)) = true from by rw [hok, HPV.out]; show (!(true && lt8 pk x.key)) = true; rw [hlx]; rfl)
              clear hlx
              refine wp_region_quiet_below (by kernel_rfl) (by kernel_rfl) ?_
              repeat (go_big_quiet_step ((go_at_call 53; exact HC.out _ _)))
              refine wpQuiet_nil ?_
              intro _ hw'
              obtain ⟨⟨dq, osq⟩, hw''⟩ := hw'
              subst hw''
              go_wp2_with fail
              go_meet
              case rel => exact ⟨by rw [HBR.out], HW.out.trans ((below_regrown W dq osq).mono HW.out.size), ((below_regrown W dq osq).block nb (Array.getElem?_eq_some_iff.1 HN.out).1).trans HN.out⟩
      case rest => as_aux_lemma =>
        clear HW HN HX0
        obtain ⟨rfl, HW, HN⟩ := hcut
        cases hb : (okItem x leaf && ahead (pv items k) x.key) with
        | true =>
          have HG3 := Lib.hid (show okGo leaf none items = okGo leaf (pv items (k + 1)) (items.drop (k + 1)) from by rw [HG2.out, hb]; rfl)
          go_wp2_with fail
          go_roundw
          case rel => exact ⟨k + 1, by omega, by go_num, HW, HN, HG3⟩
          case measure => simp [intOf] <;> omega
        | false =>
          have HR := Lib.hid (show right ⟨leaf, items, kids⟩ = false from by unfold right; rw [HG2.out, hb]; rfl)
          go_wp2_with fail
          go_ret
          exact ⟨by rw [HR.out]; rfl, HW.out⟩
    · obtain rfl : k = items.length := by omega
      have i1 : ¬ (items.length : Int) < items.length := by omega
      have HR := Lib.hid (show right ⟨leaf, items, kids⟩ = okKids ⟨leaf, items, kids⟩ from by unfold right; rw [HG.out, List.drop_of_length_le (Nat.le_refl _)]; rfl)
      have hw := HW.out
      cases leaf with
      | true =>
        by_cases hk0 : kids.length = 0
        · have HR2 := Lib.hid (show right ⟨true, items, kids⟩ = true from by rw [HR.out]; simp [okKids, List.eq_nil_of_length_eq_zero hk0])
          have e1 : (kids.length : Int) = 0 := by omega
          have e2 : ((kids.length : Int) == 0) = true := by simpa using hk0
          clear hk0
          go_wp2_with fail
          go_ret
          exact ⟨by rw [HR2.out]; simp_all, hw⟩
        · have HR2 := Lib.hid (show right ⟨true, items, kids⟩ = false from by rw [HR.out]; simp [okKids]; rintro rfl; exact hk0 rfl)
          have e2 : ((kids.length : Int) == 0) = false := by simpa using hk0
          go_wp2_with fail
          go_ret
          exact ⟨by rw [HR2.out]; simp_all, hw⟩
      | false =>
        by_cases hi0 : items.length = 0
        · have HR2 := Lib.hid (show right ⟨false, items, kids⟩ = false from by rw [HR.out]; simp [okKids, hi0])
          have e1 : ¬ (0 : Int) < items.length := by omega
          clear hi0
          go_wp2_with fail
          go_ret
          exact ⟨by rw [HR2.out]; rfl, hw⟩
        · have e1 : (0 : Int) < items.length := by omega
          by_cases hkl : kids.length = items.length + 1
          · have e2 : IntKind.i64.wrap ((items.length : Int) + 1) = kids.length := by rw [IntKind.wrap_i64]; omega
            have HR2 := Lib.hid (show right ⟨false, items, kids⟩ = kids.all okKid from by rw [HR.out]; simp [okKids, hkl]; omega)
            clear hi0 hkl
            go_wp2_with fail
            refine (kids_calls HI.out HKd.out).mono ?_
            rintro e w' ⟨rfl, rfl⟩
            go_wp2_with fail
            go_ret
            exact ⟨by rw [HR2.out]; simp, hw⟩
          · obtain ⟨s, hs⟩ : ∃ s, IntKind.i64.wrap ((items.length : Int) + 1) = s := ⟨_, rfl⟩
            have e3 : ¬ (kids.length : Int) = s := by rw [← hs, IntKind.wrap_i64]; omega
            have e4 : ((kids.length : Int) == s) = false := by simpa using e3
            have HR2 := Lib.hid (show right ⟨false, items, kids⟩ = false from by rw [HR.out]; simp [okKids, hkl])
            go_wp2_with fail
            go_ret
            exact ⟨by rw [HR2.out]; rfl, hw⟩
end Go.Proofs.Ytnnkgjaahmflmaa
