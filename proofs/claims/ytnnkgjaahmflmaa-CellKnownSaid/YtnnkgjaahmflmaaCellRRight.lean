/- What an item may be, as the document's Right asks it. -/
import Derived.Test.YtnnkgjaahmflmaaCellRight
namespace Go.Proofs.Ytnnkgjaahmflmaa
open Go.RowKit
set_option linter.unusedVariables false

def inl8 (x : Cl) : Bool := decide (x.page = 0) && decide (x.len = 0) && decide (x.val.length ≤ 32)
def chn8 (x : Cl) : Bool := decide (x.val = []) && decide (1 ≤ x.page) && decide (x.page ≤ 65535) && decide (1 ≤ x.len) && decide (x.len ≤ 4608)
def key8 (x : Cl) : Bool := decide (1 ≤ x.key.length) && decide (x.key.length ≤ 64)
def bad8 (x : Cl) (leaf : Bool) : Bool := (leaf && !inl8 x && !chn8 x) || (!leaf && (!decide (x.val = []) || !decide (x.page = 0) || !decide (x.len = 0)))
theorem okItem8 (x : Cl) (leaf : Bool) : okItem x leaf = (key8 x && !bad8 x leaf) := by
  unfold okItem key8 bad8 inl8 chn8
  by_cases h1 : x.key.length < 1
  · rw [if_pos (.inl h1)]; simp; intro h; omega
  · by_cases h2 : 64 < x.key.length
    · rw [if_pos (.inr h2)]; simp; intro h h'; omega
    · rw [if_neg (by omega)]
      have e1 : decide (1 ≤ x.key.length) = true := decide_eq_true (by omega)
      have e2 : decide (x.key.length ≤ 64) = true := decide_eq_true (by omega)
      rw [e1, e2]
      by_cases hp : x.page = 0 <;> by_cases hl : x.len = 0 <;> by_cases hv : x.val = [] <;> cases leaf <;> simp [hp, hl, hv]
      simp only [Bool.and_assoc]

theorem _root_.Go.RowKit.Below.drewsQ {B : Nat} {a w : World} (h : Below B a w) (n : Nat) : Below B a (w.drewN n) := ⟨h.os, h.tape, h.output, h.size, h.block⟩
set_option maxRecDepth 100000 in
set_option maxHeartbeats 4000000 in
theorem refRight_calls {J : Jm} {w : World} (hI : Inv J w) {v : Value} {n : Nd} (hn : NdV J v n) (hs : ∀ x ∈ n.items, x.key.length ≤ 9223372036854775807 ∧ x.val.length ≤ 9223372036854775807) :
    Calls Try.prog 26 #[v] w fun e w' => e = .returned (.bool (right n)) ∧ Below w.heap.size w w' := by
  obtain ⟨vi, vk, rfl, hi, hk⟩ := hn
  obtain ⟨Ai, ci, rfl, hni, hmi⟩ := hi.form
  obtain ⟨Ak, ck, rfl, hnk, hmk⟩ := hk.form
  unfold maxLen at hmi hmk
  have HIt := Lib.hid hi
  have HKd := Lib.hid hk
  have HS := Lib.hid hs
  obtain ⟨leaf, items, kids⟩ := n
  simp only at *
  clear hi hk hs
  go_enter Try.func26, Try.ntmps26
  go_wp2_with fail
  have HW0 := Lib.hid ((Below.refl w.heap.size w).alloc (Nat.le_refl _) (.cells #[.bool leaf, .slice Ai items.length ci, .slice Ak kids.length ck] 25))
  have HN0 : Hid (NBox (w.alloc (.cells #[.bool leaf, .slice Ai items.length ci, .slice Ak kids.length ck] 25)) w.heap.size leaf (.slice Ai items.length ci) (.slice Ak kids.length ck)) := heap_alloc_new w _
  generalize World.alloc w _ = W0 at *
  obtain ⟨nb, hnb⟩ : ∃ nb, nb = w.heap.size := ⟨_, rfl⟩
  rw [← hnb] at HN0 ⊢
  have HNB := Lib.hid hnb
  clear hnb
  go_loopw [3] (fun iv wr => ∃ k : Nat, k ≤ items.length ∧ iv = .int .i64 k ∧ Hid (Below w.heap.size w wr) ∧ Hid (NBox wr nb leaf (.slice Ai items.length ci) (.slice Ak kids.length ck)) ∧ Hid (okGo leaf none items = okGo leaf (pv items k) (items.drop k))) (fun iv _ => items.length - (intOf iv).toNat)
  case atStart => exact ⟨0, Nat.zero_le _, rfl, HW0, HN0, rfl⟩
  case round =>
    clear HN0 HW0
    obtain ⟨k, hkl, rfl, HW, HN, HG⟩ := hrel
    have i0 : (0 : Int) ≤ (k : Int) := by omega
    have HI := Lib.hid (hI.below HW.out)
    have n0 := blk_cell_J HN.out 0 rfl
    have n1 := blk_cell_J HN.out 1 rfl
    have n2 := blk_cell_J HN.out 2 rfl
    by_cases hlt : k < items.length
    · have i1 : (k : Int) < items.length := by omega
      obtain ⟨b, o, rfl, c0, c1, c2, c3⟩ := HIt.out.cell HI.out hlt
      have hd := okGo_drop (leaf := leaf) hlt
      have hsx := HS.out items[k] (List.getElem_mem hlt)
      obtain ⟨x, hx⟩ : ∃ x, x = items[k] := ⟨_, rfl⟩
      rw [← hx] at c0 c1 c2 c3 hd hsx
      have HG2 := Lib.hid (HG.out.trans hd)
      have HSX := Lib.hid hsx
      have HLT := Lib.hid hlt
      clear hd hx n2
      go_upto_region 5 with fail
      have HX0 := Lib.hid (show XBox (wr.alloc (.cells #[.string (strB x.key), .string (strB x.val), .int .i64 x.page, .int .i64 x.len] 55)) wr.heap.size x from heap_alloc_new wr _)
      have HN := Lib.hid (show NBox (wr.alloc (.cells #[.string (strB x.key), .string (strB x.val), .int .i64 x.page, .int .i64 x.len] 55)) nb leaf (.slice (some ⟨b, o, none⟩) items.length ci) (.slice Ak kids.length ck) from (Below.heap_alloc wr _ nb (Array.getElem?_eq_some_iff.1 HN.out).1).trans HN.out)
      have HW := Lib.hid (HW.out.alloc HW.out.size (.cells #[.string (strB x.key), .string (strB x.val), .int .i64 x.page, .int .i64 x.len] 55))
      generalize World.alloc wr _ = W at *
      generalize wr.heap.size = xb at *
      clear c0 c1 c2 c3 n0 n1
      go_cut [45] (fun bv wx => bv = .bool (!(key8 x && ahead (pv items k) x.key)) ∧ Hid (Below w.heap.size w wx) ∧ Hid (NBox wx nb leaf (.slice (some ⟨b, o, none⟩) items.length ci) (.slice Ak kids.length ck)) ∧ Hid (XBox wx xb x))
      case first => as_aux_lemma =>
        have n0 := blk_cell_J HN.out 0 rfl
        have n1 := blk_cell_J HN.out 1 rfl
        have x0 := blk_cell_J HX0.out 0 rfl
        have hks := strB_size x.key
        by_cases h1 : x.key.length < 1
        · have HBR := Lib.hid (show (!(key8 x && ahead (pv items k) x.key)) = true from by have : decide (1 ≤ x.key.length) = false := decide_eq_false (by omega); unfold key8; rw [this]; rfl)
          have e1 : (x.key.length : Int) < 1 := by omega
          go_wp2_with fail
          go_big_quiet (fail)
          go_wp2_with fail
          go_meet
          case rel => exact ⟨by rw [HBR.out], HW.out.drewsQ _, HN.out, HX0.out⟩
        · by_cases h2 : 64 < x.key.length
          · have HBR := Lib.hid (show (!(key8 x && ahead (pv items k) x.key)) = true from by have : decide (x.key.length ≤ 64) = false := decide_eq_false (by omega); unfold key8; rw [this]; simp)
            have e1 : decide ((x.key.length : Int) < 1) = false := decide_eq_false (by omega)
            have e2 : decide ((64 : Int) < x.key.length) = true := decide_eq_true (by omega)
            go_wp2_with fail
            go_big_quiet (fail)
            go_wp2_with fail
            go_meet
            case rel => exact ⟨by rw [HBR.out], HW.out.drewsQ _, HN.out, HX0.out⟩
          · have e1 : decide ((x.key.length : Int) < 1) = false := decide_eq_false (by omega)
            have e2 : decide ((64 : Int) < x.key.length) = false := decide_eq_false (by omega)
            have HK8 := Lib.hid (show key8 x = true from by unfold key8; rw [decide_eq_true (show 1 ≤ x.key.length by omega), decide_eq_true (show x.key.length ≤ 64 by omega)]; rfl)
            by_cases hk0 : k = 0
            · subst hk0
              have HBR := Lib.hid (show (!(key8 x && ahead (pv items 0) x.key)) = false from by simp [HK8.out, pv, ahead])
              go_wp2_with fail
              go_big_quiet (fail)
              go_wp2_with fail
              go_meet
              case rel => exact ⟨by rw [HBR.out], HW.out.drewsQ _, HN.out, HX0.out⟩
            · obtain ⟨m, hm⟩ : ∃ m, k = m + 1 := ⟨k - 1, by omega⟩
              have hltm : m < items.length := by omega
              obtain ⟨b7, o7, hA7, p0, -, -, -⟩ := HIt.out.cell (hI.below HW.out) hltm
              cases hA7
              have hpv : pv items k = some items[m].key := by rw [hm]; show items[m]?.map Cl.key = _; rw [List.getElem?_eq_getElem hltm]; rfl
              obtain ⟨pk, hpk⟩ : ∃ pk, pk = items[m].key := ⟨_, rfl⟩
              rw [← hpk] at p0 hpv
              have m0 : (0 : Int) < (k : Int) := by omega
              have m0b : decide ((0 : Int) < (k : Int)) = true := decide_eq_true m0
              have m0c : decide (0 < k) = true := decide_eq_true (by omega)
              have m0d : 0 < k := by omega
              have m1 : IntKind.i64.wrap ((k : Int) - 1) = m := by rw [IntKind.wrap_i64]; omega
              have m2 : IntKind.i64.wrap (m : Int) = m := by rw [IntKind.wrap_i64]; omega
              have m3 : (0 : Int) ≤ m := by omega
              have m4 : (m : Int) < items.length := by omega
              have hlb : Op.bytesLess (strB pk).toList (strB x.key).toList = lt8 pk x.key := by rw [strB_toList, strB_toList]; rfl
              have HPV := Lib.hid hpv
              clear hpv hpk hltm hm hk0
              cases hlx : lt8 pk x.key with
              | true =>
                rw [hlx] at hlb
                have HBR := Lib.hid (show (!(key8 x && ahead (pv items k) x.key)) = false from by rw [HK8.out, HPV.out]; show (!(true && lt8 pk x.key)) = false; rw [hlx]; rfl)
                clear hlx
                go_wp2_with fail
                go_big_quiet (fail)
                go_wp2_with fail
                go_meet
                case rel => exact ⟨by rw [HBR.out], HW.out.drewsQ _, HN.out, HX0.out⟩
              | false =>
                rw [hlx] at hlb
                have HBR := Lib.hid (show (!(key8 x && ahead (pv items k) x.key)) = true from by rw [HK8.out, HPV.out]; show (!(true && lt8 pk x.key)) = true; rw [hlx]; rfl)
                clear hlx
                go_wp2_with fail
                go_big_quiet (fail)
                go_wp2_with fail
                go_meet
                case rel => exact ⟨by rw [HBR.out], HW.out.drewsQ _, HN.out, HX0.out⟩
      case rest => as_aux_lemma =>
        clear HW HN HX0
        obtain ⟨rfl, HW, HN, HX0⟩ := hcut
        have hks := strB_size x.key
        have hvs := strB_size x.val
        have v0 : ((strB x.val).toList == []) = decide (x.val = []) := by rw [strB_toList]; by_cases h : x.val = [] <;> simp [h]
        have n0 := blk_cell_J HN.out 0 rfl
        have n1 := blk_cell_J HN.out 1 rfl
        have x1 := blk_cell_J HX0.out 1 rfl
        have x2 := blk_cell_J HX0.out 2 rfl
        have x3 := blk_cell_J HX0.out 3 rfl
        cases hb : (key8 x && ahead (pv items k) x.key) with
        | false =>
          have HR := Lib.hid (show right ⟨leaf, items, kids⟩ = false from by
            unfold right; rw [HG2.out, okItem8]
            cases h1 : key8 x <;> cases h2 : ahead (pv items k) x.key <;> simp_all)
          go_wp2_with fail
          go_ret
          exact ⟨by rw [HR.out]; rfl, HW.out⟩
        | true =>
          have HKA := Lib.hid hb
          clear hb
          go_upto_region 7 with fail
          go_cut [5] (fun bv wx => bv = .bool (inl8 x) ∧ wx = wc)
          case first => as_aux_lemma =>
            clear v0 n0 n1
            by_cases hp : x.page = 0
            · by_cases hl : x.len = 0
              · rw [hp] at x2
                rw [hl] at x3
                by_cases hv : x.val.length ≤ 32
                · have HBR := Lib.hid (show inl8 x = true from by simp [inl8, hp, hl, hv])
                  clear hp hl
                  go_wp2_with fail
                  go_meet
                  case rel => exact ⟨by first | (rw [HBR.out]; done) | (rw [HBR.out]; exact congrArg Value.bool (decide_eq_true (by omega))) | (rw [HBR.out]; exact congrArg Value.bool (decide_eq_false (by omega))), rfl⟩
                · have HBR := Lib.hid (show inl8 x = false from by simp [inl8, hv])
                  clear hp hl
                  go_wp2_with fail
                  go_meet
                  case rel => exact ⟨by first | (rw [HBR.out]; done) | (rw [HBR.out]; exact congrArg Value.bool (decide_eq_true (by omega))) | (rw [HBR.out]; exact congrArg Value.bool (decide_eq_false (by omega))), rfl⟩
              · have HBR := Lib.hid (show inl8 x = false from by simp [inl8, hl])
                have e4 : (x.len == 0) = false := by simpa using hl
                rw [hp] at x2
                clear hp
                go_wp2_with fail
                go_meet
                case rel => exact ⟨by first | (rw [HBR.out]; done) | (rw [HBR.out]; exact congrArg Value.bool (decide_eq_true (by omega))) | (rw [HBR.out]; exact congrArg Value.bool (decide_eq_false (by omega))), rfl⟩
            · have HBR := Lib.hid (show inl8 x = false from by simp [inl8, hp])
              have e4 : (x.page == 0) = false := by simpa using hp
              go_wp2_with fail
              go_meet
              case rel => exact ⟨by first | (rw [HBR.out]; done) | (rw [HBR.out]; exact congrArg Value.bool (decide_eq_true (by omega))) | (rw [HBR.out]; exact congrArg Value.bool (decide_eq_false (by omega))), rfl⟩
          case rest => as_aux_lemma =>
            obtain ⟨rfl, rfl⟩ := hcut
            have HIN := Lib.hid (show ∃ z, z = inl8 x from ⟨_, rfl⟩)
            go_upto_region 8 with fail
            go_cut [6] (fun bv wx => bv = .bool (chn8 x) ∧ wx = wc)
            case first => as_aux_lemma =>
              clear n0 n1
              by_cases hv : x.val = []
              · rw [decide_eq_true hv] at v0
                by_cases a1 : 1 ≤ x.page
                · by_cases a2 : x.page ≤ 65535
                  · by_cases a3 : 1 ≤ x.len
                    · by_cases a4 : x.len ≤ 4608
                      · have HBR := Lib.hid (show chn8 x = true from by simp [chn8, hv, a1, a2, a3, a4])
                        clear hv
                        go_wp2_with fail
                        go_meet
                        case rel => exact ⟨by first | (rw [HBR.out]; done) | (rw [HBR.out]; exact congrArg Value.bool (decide_eq_true (by omega))) | (rw [HBR.out]; exact congrArg Value.bool (decide_eq_false (by omega))), rfl⟩
                      · have HBR := Lib.hid (show chn8 x = false from by simp [chn8, a4])
                        clear hv
                        go_wp2_with fail
                        go_meet
                        case rel => exact ⟨by first | (rw [HBR.out]; done) | (rw [HBR.out]; exact congrArg Value.bool (decide_eq_true (by omega))) | (rw [HBR.out]; exact congrArg Value.bool (decide_eq_false (by omega))), rfl⟩
                    · have HBR := Lib.hid (show chn8 x = false from by simp [chn8, a3])
                      clear hv
                      go_wp2_with fail
                      go_meet
                      case rel => exact ⟨by first | (rw [HBR.out]; done) | (rw [HBR.out]; exact congrArg Value.bool (decide_eq_true (by omega))) | (rw [HBR.out]; exact congrArg Value.bool (decide_eq_false (by omega))), rfl⟩
                  · have HBR := Lib.hid (show chn8 x = false from by simp [chn8, a2])
                    clear hv
                    go_wp2_with fail
                    go_meet
                    case rel => exact ⟨by first | (rw [HBR.out]; done) | (rw [HBR.out]; exact congrArg Value.bool (decide_eq_true (by omega))) | (rw [HBR.out]; exact congrArg Value.bool (decide_eq_false (by omega))), rfl⟩
                · have HBR := Lib.hid (show chn8 x = false from by simp [chn8, a1])
                  clear hv
                  go_wp2_with fail
                  go_meet
                  case rel => exact ⟨by first | (rw [HBR.out]; done) | (rw [HBR.out]; exact congrArg Value.bool (decide_eq_true (by omega))) | (rw [HBR.out]; exact congrArg Value.bool (decide_eq_false (by omega))), rfl⟩
              · have HBR := Lib.hid (show chn8 x = false from by simp [chn8, hv])
                rw [decide_eq_false hv] at v0
                go_wp2_with fail
                go_meet
                case rel => exact ⟨by first | (rw [HBR.out]; done) | (rw [HBR.out]; exact congrArg Value.bool (decide_eq_true (by omega))) | (rw [HBR.out]; exact congrArg Value.bool (decide_eq_false (by omega))), rfl⟩
            case rest => as_aux_lemma =>
              obtain ⟨rfl, rfl⟩ := hcut
              obtain ⟨zi, hzi⟩ : ∃ z, z = inl8 x := ⟨_, rfl⟩
              obtain ⟨zc, hzc⟩ : ∃ z, z = chn8 x := ⟨_, rfl⟩
              rw [← hzi, ← hzc]
              have HBD := Lib.hid (show bad8 x leaf = ((leaf && !zi && !zc) || (!leaf && (!decide (x.val = []) || !decide (x.page = 0) || !decide (x.len = 0)))) from by rw [hzi, hzc]; rfl)
              have HOK := Lib.hid (show okItem x leaf = (key8 x && !bad8 x leaf) from okItem8 x leaf)
              have HNX := Lib.hid (show bad8 x leaf = false → okGo leaf none items = okGo leaf (pv items (k + 1)) (items.drop (k + 1)) from fun h => by
                rw [HG2.out, HOK.out, h]
                have := HKA.out
                cases h1 : key8 x <;> cases h2 : ahead (pv items k) x.key <;> simp_all)
              have HNO := Lib.hid (show bad8 x leaf = true → right ⟨leaf, items, kids⟩ = false from fun h => by unfold right; rw [HG2.out, HOK.out, h]; cases key8 x <;> rfl)
              clear hzi hzc
              cases leaf with
              | true =>
                cases zi with
                | true =>
                  have HGN := Lib.hid (HNX.out (by rw [HBD.out]; rfl))
                  go_wp2_with fail
                  go_roundw
                  case rel => exact ⟨k + 1, by omega, by go_num, HW, HN, HGN⟩
                  case measure => simp [intOf] <;> omega
                | false =>
                  cases zc with
                  | true =>
                    have HGN := Lib.hid (HNX.out (by rw [HBD.out]; rfl))
                    go_wp2_with fail
                    go_roundw
                    case rel => exact ⟨k + 1, by omega, by go_num, HW, HN, HGN⟩
                    case measure => simp [intOf] <;> omega
                  | false =>
                    have HR := Lib.hid (HNO.out (by rw [HBD.out]; rfl))
                    go_wp2_with fail
                    go_ret
                    exact ⟨by rw [HR.out]; rfl, HW.out⟩
              | false =>
                by_cases hv : x.val = []
                · rw [decide_eq_true hv] at v0
                  by_cases hp : x.page = 0
                  · rw [hp] at x2
                    by_cases hl : x.len = 0
                    · rw [hl] at x3
                      have HGN := Lib.hid (HNX.out (by rw [HBD.out]; simp [hv, hp, hl]))
                      clear hv hp hl
                      go_wp2_with fail
                      go_roundw
                      case rel => exact ⟨k + 1, by omega, by go_num, HW, HN, HGN⟩
                      case measure => simp [intOf] <;> omega
                    · have e4 : (x.len == 0) = false := by simpa using hl
                      have e5 : (x.len != 0) = true := by simpa using hl
                      have HR := Lib.hid (HNO.out (by rw [HBD.out]; simp [hl]))
                      clear hv hp
                      go_wp2_with fail
                      go_ret
                      exact ⟨by rw [HR.out]; rfl, HW.out⟩
                  · have e4 : (x.page == 0) = false := by simpa using hp
                    have e5 : (x.page != 0) = true := by simpa using hp
                    have HR := Lib.hid (HNO.out (by rw [HBD.out]; simp [hp]))
                    clear hv
                    go_wp2_with fail
                    go_ret
                    exact ⟨by rw [HR.out]; rfl, HW.out⟩
                · rw [decide_eq_false hv] at v0
                  have HR := Lib.hid (HNO.out (by rw [HBD.out]; simp [hv]))
                  go_wp2_with fail
                  go_ret
                  exact ⟨by rw [HR.out]; rfl, HW.out⟩
    · obtain rfl : k = items.length := by omega
      have i1 : ¬ (items.length : Int) < items.length := by omega
      have HR := Lib.hid (show right ⟨leaf, items, kids⟩ = okKids ⟨leaf, items, kids⟩ from by unfold right; rw [HG.out, List.drop_of_length_le (Nat.le_refl _)]; rfl)
      have hw := HW.out
      cases leaf with
      | true =>
        by_cases hk0 : kids.length = 0
        · have HR2 := Lib.hid (show right ⟨true, items, kids⟩ = true from by rw [HR.out]; simp [okKids, List.eq_nil_of_length_eq_zero hk0])
          have e1 : (kids.length : Int) = 0 := by omega
          have e2 : ((kids.length : Int) == 0) = true := by simpa using hk0
          clear hk0
          go_wp2_with fail
          go_ret
          exact ⟨by rw [HR2.out]; simp_all, hw⟩
        · have HR2 := Lib.hid (show right ⟨true, items, kids⟩ = false from by rw [HR.out]; simp [okKids]; rintro rfl; exact hk0 rfl)
          have e2 : ((kids.length : Int) == 0) = false := by simpa using hk0
          go_wp2_with fail
          go_ret
          exact ⟨by rw [HR2.out]; simp_all, hw⟩
      | false =>
        have HIW := Lib.hid (hI.below hw)
        go_wp2_with fail
        go_loopw [7] (fun jv wq => ∃ j : Nat, j ≤ kids.length ∧ jv = .int .i64 j ∧ wq = wr ∧ Hid ((kids.take j).all okKid = true)) (fun jv _ => kids.length - (intOf jv).toNat)
        case atStart => exact ⟨0, Nat.zero_le _, rfl, rfl, rfl⟩
        case round =>
          obtain ⟨j, hj, rfl, rfl, HA⟩ := hrel
          have j0 : (0 : Int) ≤ (j : Int) := by omega
          by_cases hjt : j < kids.length
          · have j1 : (j : Int) < kids.length := by omega
            obtain ⟨kb, ko, rfl, kc0⟩ := HKd.out.cell HIW.out hjt
            have HT := Lib.hid (all_take hjt HA.out)
            have HMem := Lib.hid (show kids[j] ∈ kids from List.getElem_mem hjt)
            obtain ⟨q, hq⟩ : ∃ q, q = kids[j] := ⟨_, rfl⟩
            rw [← hq] at kc0 HT HMem
            clear hq
            by_cases h1 : q < 1
            · have HR2 := Lib.hid (show right ⟨false, items, kids⟩ = false from by
                rw [HR.out]
                have : kids.all okKid = false := List.all_eq_false.2 ⟨q, HMem.out, by rw [show okKid q = false from decide_eq_false (by omega)]; decide⟩
                simp [okKids, this])
              have e1 : decide (q < 1) = true := decide_eq_true h1
              go_wp2_with fail
              go_ret
              exact ⟨by rw [HR2.out]; rfl, hw⟩
            · by_cases h2 : 65535 < q
              · have HR2 := Lib.hid (show right ⟨false, items, kids⟩ = false from by
                  rw [HR.out]
                  have : kids.all okKid = false := List.all_eq_false.2 ⟨q, HMem.out, by rw [show okKid q = false from decide_eq_false (by omega)]; decide⟩
                  simp [okKids, this])
                go_wp2_with fail
                go_ret
                exact ⟨by rw [HR2.out]; rfl, hw⟩
              · have HT2 := Lib.hid (HT.out.trans (show okKid q = true from decide_eq_true (by omega)))
                go_wp2_with fail
                go_roundw
                case rel => exact ⟨j + 1, by omega, by go_num, trivial, HT2⟩
                case measure => simp [intOf] <;> omega
          · obtain rfl : j = kids.length := by omega
            have j1 : ¬ (kids.length : Int) < kids.length := by omega
            have ha := HA.out
            rw [List.take_of_length_le (Nat.le_refl _)] at ha
            have HA2 := Lib.hid ha
            clear ha
            by_cases hi0 : items.length = 0
            · have HR2 := Lib.hid (show right ⟨false, items, kids⟩ = false from by rw [HR.out]; simp [okKids, hi0])
              have e1 : ¬ (1 : Int) ≤ items.length := by omega
              clear hi0
              go_wp2_with fail
              go_ret
              exact ⟨by rw [HR2.out]; rfl, hw⟩
            · have e1 : (1 : Int) ≤ items.length := by omega
              by_cases hkl : kids.length = items.length + 1
              · have e2 : IntKind.i64.wrap ((items.length : Int) + 1) = kids.length := by rw [IntKind.wrap_i64]; omega
                have HR2 := Lib.hid (show right ⟨false, items, kids⟩ = true from by rw [HR.out]; simp [okKids, hkl, HA2.out]; omega)
                clear hi0 hkl
                go_wp2_with fail
                go_ret
                exact ⟨by rw [HR2.out]; simp, hw⟩
              · obtain ⟨s, hs⟩ : ∃ s, IntKind.i64.wrap ((items.length : Int) + 1) = s := ⟨_, rfl⟩
                have e3 : ¬ (kids.length : Int) = s := by rw [← hs, IntKind.wrap_i64]; omega
                have e4 : ((kids.length : Int) == s) = false := by simpa using e3
                have HR2 := Lib.hid (show right ⟨false, items, kids⟩ = false from by rw [HR.out]; simp [okKids, hkl])
                go_wp2_with fail
                go_ret
                exact ⟨by rw [HR2.out]; rfl, hw⟩
end Go.Proofs.Ytnnkgjaahmflmaa
