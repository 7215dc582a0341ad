/- The statement LexStands. -/
import Derived.Test.YthfjeijhnikabaaLexSta
import Derived.Test.YthfjeijhnikabaaLexQuw
import Derived.Test.YthfjeijhnikabaaLexLong
import Derived.Test.YthfjeijhnikabaaLexSame
import Derived.Deep.CutBlock
import Derived.Deep.DeepCutAuto
namespace Go.Proofs.Ythfjeijhnikabaa
open Go.RowKit
set_option linter.unusedVariables false

theorem str_part {s t : List UInt8} {p : Nat} (h : t <+: s.drop p) : (strB s).extract p (p + t.length) = strB t := by
  obtain ⟨r, hr⟩ := h
  apply ByteArray.ext
  apply Array.ext'
  have h1 : ((strB s).extract p (p + t.length)).data.toList = (s.drop p).take t.length := by
    rw [ByteArray.data_extract, Array.toList_extract]
    simp [strB]
  rw [h1, ← hr]
  simp [strB]
set_option maxRecDepth 100000 in
set_option maxHeartbeats 8000000 in
theorem lexStands_walk {J : Jm} {w : World} (hI : Inv J w) (s : ByteArray) (hs : s.size ≤ 140737488351232) :
    Calls Try.prog 11 #[.string s] w fun e w' => e = .returned (.bool true) ∧ Below w.heap.size w w' := by
  go_enter Try.func11, Try.ntmps11
  go_wp2_with fail
  refine (works_calls hI).mono ?_
  rintro e w1 ⟨J1, rfl, hE⟩
  have HE := Lib.hid hE
  clear hE
  by_cases hl : 32768 < s.size
  · have HL := Lib.hid hl
    clear hl
    go_wp2_with fail
    refine (Lines_long HE.out.inv s HL.out hs).mono ?_
    rintro e w3 ⟨rfl, hE3⟩
    have HE := Lib.hid (HE.out.trans hE3)
    clear hE3
    unfold spot
    go_wp2_with fail
    go_ret
    exact ⟨rfl, (HE.out.alloc _).below⟩
  · obtain ⟨s, rfl⟩ : ∃ l, s = strB l := ⟨s.data.toList, (strB_of s).symm⟩
    have HSZ := strB_size s
    rw [HSZ] at hl hs
    have hs8 : s.length ≤ 1048576 := by omega
    have HS9 := Lib.hid (show True → ¬ 32768 < s.length from fun _ => hl)
    clear hl hs
    go_wp2_with fail
    refine (Lines_calls HE.out.inv s hs8).mono ?_
    intro e w3 h
    unfold LinesP at h
    rw [if_neg (HS9.out trivial)] at h
    cases hx : lexL s with
    | error x =>
      rw [hx] at h
      obtain ⟨rfl, J3, hE3⟩ := h
      have HE := Lib.hid ((HE.out.trans hE3).alloc (.cells #[.int .i64 6, .int .i64 x] 27))
      clear hE3
      unfold spot
      go_wp2_with fail
      go_ret
      exact ⟨rfl, HE.out.below⟩
    | ok ls =>
      rw [hx] at h
      obtain ⟨J3, v, c, M, B, rfl, hE3, hB, hO, hL⟩ := h
      obtain ⟨A3, cp3, rfl, -, -⟩ := hO.sl.form
      have HLN := Lib.hid (LsO.lns hO hL)
      have HRUN := Lib.hid (lexL_run hx)
      have hla : ls.length ≤ 1048576 := by have := (lexL_run hx).le.1; omega
      have HE := Lib.hid ((HE.out.trans hE3).alloc (.cells #[.int .i64 0, .int .i64 0] 27))
      clear hE3 hB hO hL hx
      unfold spot
      have hI3 := HE.out.inv
      have hz3 : (w3.alloc (.cells #[.int .i64 0, .int .i64 0] 27)).heap.size = w3.heap.size + 1 := by simp
      have HE0 := (Ext.refl hI3).litV 3 [.int .i64 0]
      have HO0 := Own.litN hI3 [0] (n := 1) rfl (by decide)
      have hlw := HE.out.below.size
      rw [hz3] at HE0 HO0 hlw
      have HJ0 := Lib.hid (HE0.le hI3)
      have HE0 := Lib.hid (HE.out.trans HE0)
      have HO0 := Lib.hid (HO0.lower hlw)
      clear hz3 hlw
      go_wp2_with fail
      go_loopw [5, 6] (fun v iv wr => ∃ (k : Nat) (v' : Value) (J' : Jm), k ≤ s.length ∧ iv = .int .i64 k ∧ v = v' ∧ Hid (Ext J w J' wr) ∧ Hid (J3.le J') ∧ Hid (Rn J' wr w.heap.size v' (st s k))) (fun _ iv _ => s.length - (intOf iv).toNat)
      case atStart => exact ⟨0, _, _, Nat.zero_le _, rfl, rfl, HE0, HJ0, HO0⟩
      case round =>
        obtain ⟨k, v', J', hk, rfl, rfl, HE, HJ, HO⟩ := hrel
        have i0 : (0 : Int) ≤ (k : Int) := by omega
        have hfl := st_le s k hk
        by_cases hlt : k < s.length
        · have i1 : (k : Int) < s.length := by omega
          obtain ⟨x, hx⟩ : ∃ x, s[k]? = some x := ⟨_, List.getElem?_eq_getElem (by omega)⟩
          have hx' := strB_at0 hx
          have HST := Lib.hid (show st s (k + 1) = if s[k]? = some 10 then st s k ++ [k + 1] else st s k from rfl)
          have HX := Lib.hid hx
          clear hx
          by_cases h10 : x = 10
          · subst h10
            have HS1 := Lib.hid (show st s (k + 1) = st s k ++ [k + 1] from by rw [HST.out, HX.out, if_pos rfl])
            obtain ⟨pre, hpre⟩ : ∃ pre, pre = st s k := ⟨_, rfl⟩
            rw [← hpre] at hfl HO HS1
            clear HST hpre
            go_wp2_with (at_builtin; go_must (refine wpList_append_lit (J := J') (s := .tmp 38) (x := .tmp 41) (t := 49) (e := 3) (base := w.heap.size) (v := u5) (n := pre.length) (xs := ncs pre) (m := 1) (news := ncs [k + 1]) rfl (.int .i64 0) 1 8 rfl Try.underlying49 info_int rfl rfl (HE.out.inv.alloc _) (HO.out.alloc _) rfl (heap_alloc_new _ _) rfl (ncs_one _) (by simp only [maxLen]; omega) (by omega) (by have := HE.out.below.size; simp; omega) ?_; intro v5 w5 J5 ho5 hg5 hv5; have HE5 := Lib.hid ((HE.out.alloc _).grew (HO.out.alloc _) hg5); have HO5 := Lib.hid ho5; have HV5 := Lib.hid hv5; have HG5 := Lib.hid hg5; clear ho5 hg5 hv5))
            have HO := Lib.hid (Rn.lit HO5.out rfl rfl)
            go_wp2_with fail
            go_roundw
            case rel => exact ⟨k + 1, _, _, by omega, by go_num, rfl, HE5, HJ.out.trans HG5.out.le, by rw [HS1.out]; exact HO⟩
            case measure => simp [intOf] <;> omega
          · have j10 : ¬ (x.toNat : Int) = 10 := byte_ne h10
            have HS1 := Lib.hid (show st s (k + 1) = st s k from by rw [HST.out, HX.out, if_neg (by simpa using h10)])
            go_wp2_with fail
            go_roundw
            case rel => exact ⟨k + 1, _, _, by omega, by go_num, rfl, HE, HJ, by rw [HS1.out]; exact HO⟩
            case measure => simp [intOf] <;> omega
        · obtain rfl : k = s.length := by omega
          have i1 : ¬ (s.length : Int) < s.length := by omega
          have HLN := Lib.hid (HLN.out.mono HJ.out)
          have HSL := Lib.hid HO.out.sl
          have HSN := Lib.hid (show (st s s.length).length ≤ s.length + 1 from hfl)
          obtain ⟨A5, cp5, rfl, hcp5, -⟩ := HO.out.sl.form
          have HST := Lib.hid (fun (p : Nat) (hp : p ≤ s.length) => st_at hp)
          obtain ⟨S, hS⟩ : ∃ S, S = st s s.length := ⟨_, rfl⟩
          rw [← hS] at HSL HSN HST hcp5 ⊢
          clear hS hfl HO HJ i0 hk
          go_wp2_with fail
          go_loopw [7, 8] (fun lv iv wq => ∃ (k lo : Nat) (lt : Int), k ≤ ls.length ∧ iv = .int .i64 k ∧ lv = .int .i64 lt ∧ -1 ≤ lt ∧ lt < lo ∧ Hid (RunL s lo (ls.drop k) s.length) ∧ Hid (Ext J w J' wq)) (fun _ iv _ => ls.length - (intOf iv).toNat)
          case atStart => exact ⟨0, 0, -1, Nat.zero_le _, rfl, rfl, by omega, by omega, HRUN, HE⟩
          case round =>
            clear HE
            obtain ⟨k, lo, lt, hk, rfl, rfl, hlt0, hlt1, HR, HE⟩ := hrel
            have i0 : (0 : Int) ≤ (k : Int) := by omega
            by_cases hlt : k < ls.length
            · have i1' : (k : Int) < ls.length := by omega
              rcases HR.out.drop with h0 | ⟨l, r, k0, mid, he, hlo, hne, ⟨hn1, hn2, hn3⟩, hrun, hrest⟩
              · have := congrArg List.length h0; simp at this; omega
              · have hlk : ls[k] = l := by
                  have h2 : (ls.drop k)[0]? = some l := by rw [he]; rfl
                  rw [List.getElem?_drop, Nat.add_zero, List.getElem?_eq_getElem hlt] at h2
                  exact Option.some.inj h2
                have hrk : ls.drop (k + 1) = r := by
                  have h2 := congrArg List.tail he
                  rwa [List.tail_drop] at h2
                obtain ⟨z0, zr, hz0⟩ := List.exists_cons_of_ne_nil hne
                obtain ⟨p0, hp0, hAt0, -⟩ : ∃ p, k0 ≤ p ∧ At s p z0 ∧ True := by rw [hz0] at hrun; obtain ⟨p, a, b, _⟩ := hrun; exact ⟨p, a, b, trivial⟩
                obtain ⟨hA1, hA2, hA3, -⟩ := hAt0
                have hk0 : k0 < s.length := by omega
                have hst := HST.out k0 (by omega)
                rw [hn2, Nat.sub_zero] at hst
                have hup := ln_up (s := s) hp0 (by omega)
                obtain ⟨m, hm⟩ : ∃ m, ln s k0 = m + 1 := ⟨ln s k0 - 1, by omega⟩
                obtain ⟨x, hx⟩ : ∃ x, s[k0]? = some x := ⟨_, List.getElem?_eq_getElem hk0⟩
                have hwl := hrun.le
                have HNL := Lib.hid (show l.ws.length ≤ 1048576 by have := hrest.le.1; omega)
                obtain ⟨b, o, wv, hAe, c0, c1, c2, hw⟩ := HLN.out.cell HE.out.inv hlt
                rw [hlk] at c0 c1 hw
                rw [hn1, hm] at c0
                rw [hn3, hx] at c1
                push_cast at c0
                obtain ⟨WA, wc, rfl, -, -⟩ := id hw.form
                obtain ⟨b', o', hAw, -, d1, -, -, -⟩ := ws_cell hw HE.out.inv (k := 0) (List.length_pos_iff.2 hne)
                simp only [hz0, List.getElem_cons_zero] at d1
                rw [hA1] at d1
                rw [hm, Nat.add_sub_cancel] at hst
                obtain ⟨g, go, hA5, s0⟩ := Sl.cell HSL.out HE.out.inv (j := m) (x := .int .i64 (k0 : Int)) (by rw [ncs_get, hst.1]; rfl)
                have HLK := Lib.hid hlk
                have HRK := Lib.hid hrk
                have HRN := Lib.hid hrun
                have HRS := Lib.hid hrest
                have hx' := strB_at0 hx
                have e1 : ¬ ((l.ws.length : Int) = 0) := by have := List.length_pos_iff.2 hne; omega
                have e1b : ((l.ws.length : Int) == 0) = false := by simpa using e1
                have e2 : ¬ ((m : Int) + 1 < 1) := by omega
                have e3 : ¬ ((ln s p0 : Int) < (m : Int) + 1) := by omega
                have e4 : IntKind.i64.wrap ((m : Int) + 1 - 1) = m := by rw [IntKind.wrap_i64]; have := hst.2.2.2; have := HSN.out; omega
                have e4b : IntKind.i64.wrap (m : Int) = m := by rw [IntKind.wrap_i64]; have := hst.2.2.2; have := HSN.out; omega
                have e5 : (m : Int) < S.length := by have := hst.2.2.2; omega
                have e6 : (0 : Int) ≤ m := by omega
                have e7 : (0 : Int) ≤ k0 := by omega
                have e8 : (k0 : Int) < s.length := by omega
                have e9 : (0 : Int) < l.ws.length := by have := List.length_pos_iff.2 hne; omega
                have HX := Lib.hid hx
                subst hAe hAw hA5
                clear he hne hn1 hn2 hn3 hrun hrest hlk hrk hz0 hA1 hA2 hA3 hst hup hm hx hwl hw
                go_upto_region 16 with fail
                go_cut [99] (fun bv wx => bv = .bool false ∧ Hid (Ext J w J' wx))
                case first => as_aux_lemma =>
                  by_cases h9 : x = 9
                  · subst h9
                    rw [show decide (some (9 : UInt8) = some 9) = true from rfl] at c1
                    go_big_quiet (fail)
                    go_wp2_with fail
                    go_meet
                    case rel => exact ⟨rfl, HE.out.drewN _⟩
                  · have h9' : ¬ (x.toNat : Int) = 9 := byte_ne h9
                    have h9b : ((x.toNat : Int) == 9) = false := by simpa using h9'
                    rw [show decide (some x = some 9) = false from by simpa using h9] at c1
                    go_big_quiet (fail)
                    go_wp2_with fail
                    go_meet
                    case rel => exact ⟨rfl, HE.out.drewN _⟩
                case rest => as_aux_lemma =>
                  clear HE c0 c1 c2 d1 s0 hx' e1 e1b e2 e3 e4 e4b e5 e6 e7 e8
                  obtain ⟨rfl, HE⟩ := hcut
                  obtain ⟨b9, o9, wv, hA9, -, -, c2, hw⟩ := HLN.out.cell HE.out.inv hlt
                  cases hA9
                  rw [HLK.out] at hw
                  obtain ⟨WA, wc2, rfl, -, -⟩ := id hw.form
                  have hl8 := HNL.out
                  go_wp2_with fail
                  go_loopw [7, 106] (fun lv qv wq => ∃ (q lo : Nat) (lt : Int), q ≤ l.ws.length ∧ qv = .int .i64 q ∧ lv = .int .i64 lt ∧ -1 ≤ lt ∧ lt < lo ∧ lo ≤ mid ∧ Hid (Run s lo (l.ws.drop q) mid) ∧ Hid (Ext J w J' wq)) (fun _ qv _ => l.ws.length - (intOf qv).toNat)
                  case atStart => exact ⟨0, k0, lt, Nat.zero_le _, rfl, rfl, hlt0, by omega, by have := HRN.out.le; omega, HRN, HE⟩
                  case round =>
                    clear HE c2
                    obtain ⟨q, lo, lt, hq, rfl, rfl, hlt0, hlt1, hlm, HQ, HE⟩ := hrel
                    have q0 : (0 : Int) ≤ (q : Int) := by omega
                    have hms := HRS.out.le.1
                    by_cases hql : q < l.ws.length
                    · have q1 : (q : Int) < l.ws.length := by omega
                      obtain ⟨z, hz⟩ : ∃ z, z = l.ws[q] := ⟨_, rfl⟩
                      have hdq : l.ws.drop q = z :: l.ws.drop (q + 1) := by rw [hz]; exact List.drop_eq_getElem_cons hql
                      have hrq := HQ.out
                      rw [hdq] at hrq
                      obtain ⟨p, hp, ⟨ha1, ha2, ha3, ha4⟩, hrq'⟩ := hrq
                      have HRQ := Lib.hid hrq'
                      have HA4 := Lib.hid ha4
                      have hst := HST.out p (by omega)
                      obtain ⟨b', o', rfl, d0, d1, d2, d3, d4⟩ := ws_cell hw HE.out.inv hql
                      rw [← hz] at d0 d1 d2 d3 d4
                      obtain ⟨m, hm⟩ : ∃ m, ln s p = m + 1 := ⟨ln s p - 1, by omega⟩
                      obtain ⟨C, hC⟩ : ∃ C, C = cl s p := ⟨_, rfl⟩
                      rw [← hC] at hst ha2
                      rw [hm, Nat.add_sub_cancel] at hst
                      obtain ⟨a, ha⟩ : ∃ a, a = p - C := ⟨_, rfl⟩
                      rw [← ha] at hst
                      have hpa : p = a + C := by omega
                      have HS1 := Lib.hid hst.1
                      rw [ha1, hm] at d1
                      push_cast at d1
                      rw [ha2] at d2
                      have HPL : Hid (placeV s (cutAt s.length (p : Int)) = .tuple #[.int .i64 ((m : Int) + 1), .int .i64 (C : Int)]) := by
                        have h1 : cutAt s.length (p : Int) = p := by unfold cutAt; rw [if_neg (by omega), if_pos (by omega)]; omega
                        rw [Hid, h1]; unfold placeV; rw [hm, ← hC]; push_cast; rfl
                      have hsn := HSN.out
                      have f1 : ¬ ((m : Int) + 1 < 1) := by omega
                      have f2 : ¬ ((S.length : Int) < (m : Int) + 1) := by omega
                      have f3 : ¬ ((C : Int) < 0) := by omega
                      have f4 : IntKind.i64.wrap ((m : Int) + 1 - 1) = m := by rw [IntKind.wrap_i64]; omega
                      have f5 : IntKind.i64.wrap (m : Int) = m := by rw [IntKind.wrap_i64]; omega
                      have f6 : (0 : Int) ≤ m := by omega
                      have f7 : (m : Int) < S.length := by omega
                      have f8 : IntKind.i64.wrap ((a : Int) + C) = (p : Int) := by rw [IntKind.wrap_i64]; omega
                      have f9 : ¬ ((p : Int) ≤ lt) := by omega
                      have f10 : ¬ ((s.length : Int) ≤ p) := by omega
                      have f11 : (p : Int) < s.length := by omega
                      have f12 : (0 : Int) ≤ p := by omega
                      obtain ⟨zt, hzt⟩ : ∃ zt, zt = z.text := ⟨_, rfl⟩
                      obtain ⟨zq, hzq⟩ : ∃ zq, zq = z.quoted := ⟨_, rfl⟩
                      obtain ⟨zm, hzm⟩ : ∃ zm, zm = z.mark := ⟨_, rfl⟩
                      rw [← hzt] at d0
                      rw [← hzq] at d3
                      rw [← hzm] at d4
                      rw [← hzt, ← hzq, ← hzm] at HA4
                      have hp9 : p + 1 ≤ mid := by have := hrq'.le; omega
                      have HMM := Lib.hid (show True → p < s.length ∧ lt < p ∧ s.length ≤ 1048576 from fun _ => ⟨ha3, by omega, hs8⟩)
                      clear hz hdq hrq' ha1 ha2 ha4 hst hm hC ha hpa hzt hzq hzm hlm hms hsn hp
                      go_upto_region 23 with fail
                      have HE := Lib.hid (HE.out.alloc (.cells #[.string (strB zt), .int .i64 ((m : Int) + 1), .int .i64 (C : Int), .bool zq, .bool zm] 35))
                      have HBX := Lib.hid (heap_alloc_new wr (.cells #[.string (strB zt), .int .i64 ((m : Int) + 1), .int .i64 (C : Int), .bool zq, .bool zm] 35))
                      generalize World.alloc wr _ = W at *
                      generalize wr.heap.size = xb at *
                      clear d0 d1 d2 d3 d4
                      obtain ⟨g, go, hA5, s0⟩ := Sl.cell HSL.out HE.out.inv (j := m) (x := .int .i64 (a : Int)) (by rw [ncs_get, HS1.out]; rfl)
                      cases hA5
                      have x1 := blk_cell_J HBX.out 1 rfl
                      have x2 := blk_cell_J HBX.out 2 rfl
                      go_cut [11] (fun av wx => av = .int .i64 p ∧ Hid (Ext J w J' wx) ∧ Hid (wx.heap[xb]? = some (.cells [.string (strB zt), .int .i64 ((m : Int) + 1), .int .i64 (C : Int), .bool zq, .bool zm].toArray 35 (0, 0))))
                      case first => as_aux_lemma =>
                        go_big_quiet (fail)
                        go_wp2_with fail
                        go_meet
                        case rel => exact ⟨rfl, HE.out.drewN _, HBX.out⟩
                      case rest => as_aux_lemma =>
                        clear HE HBX s0 x1 x2 f1 f2 f3 f4 f5 f6 f7 f8
                        obtain ⟨rfl, HE, HBX⟩ := hcut
                        have x0 := blk_cell_J HBX.out 0 rfl
                        have x1 := blk_cell_J HBX.out 1 rfl
                        have x2 := blk_cell_J HBX.out 2 rfl
                        have x3 := blk_cell_J HBX.out 3 rfl
                        have x4 := blk_cell_J HBX.out 4 rfl
                        go_wp2_with fail
                        refine (place_calls s (p : Int) _ (by omega) (by omega) (by omega)).mono ?_
                        rw [HPL.out]
                        rintro e w9 ⟨rfl, rfl⟩
                        cases zq with
                        | true =>
                          obtain ⟨h34, hzm⟩ : s[p]? = some 34 ∧ zm = false := HA4.out
                          subst hzm
                          have hx' := strB_at0 h34
                          clear h34
                          go_wp2_with fail
                          go_roundw
                          case rel => exact ⟨q + 1, p + 1, p, by omega, by go_num, rfl, by omega, by omega, hp9, HRQ, HE⟩
                          case measure => simp [intOf] <;> omega
                        | false =>
                          obtain ⟨h1, h2, h3, h4⟩ : zt ≠ [] ∧ zt <+: s.drop p ∧ (zm = decide (zt = [58] ∨ zt = [61])) ∧ (zm = false → plainB zt = true) := HA4.out
                          have hpl := h2.length_le
                          rw [List.length_drop] at hpl
                          have hmm := HMM.out trivial
                          have hzl := strB_size zt
                          have u1 : IntKind.i64.wrap ((s.length : Int) - p) = (s.length : Int) - p := by rw [IntKind.wrap_i64]; omega
                          have u2 : IntKind.i64.wrap ((p : Int) + zt.length) = ((p + zt.length : Nat) : Int) := by rw [IntKind.wrap_i64]; omega
                          have u3 : ¬ ((s.length : Int) - p < zt.length) := by omega
                          have u3b : decide ((s.length : Int) - p < zt.length) = false := decide_eq_false u3
                          have u4 : ((p + zt.length : Nat) : Int) ≤ s.length := by omega
                          have u5 : (p : Int) ≤ ((p + zt.length : Nat) : Int) := by omega
                          have u6 : (strB s).extract p (p + zt.length) = strB zt := str_part h2
                          have u7 : ((strB zt).toList == (strB zt).toList) = true := by simp
                          have u8 : ((strB zt).toList == []) = false := by rw [strB_toList]; simpa using h1
                          have u9 : ((strB zt).toList == (⟨#[]⟩ : ByteArray).toList) = false := by show ((strB zt).toList == (strB []).toList) = false; rw [strB_toList, strB_toList]; simpa using h1
                          have hz2 : ¬ strB zt = ByteArray.empty := fun e => h1 (by have := congrArg (fun b => b.data.toList) e; simpa using this)
                          have hz3 : ¬ strB zt = (⟨#[]⟩ : ByteArray) := hz2
                          have H3 := Lib.hid h3
                          have H4 := Lib.hid h4
                          obtain ⟨e, he⟩ : ∃ e, e = p + zt.length := ⟨_, rfl⟩
                          rw [← he] at u2 u4 u5 u6
                          clear h1 h2 h3 h4 hpl hmm he
                          cases zm with
                          | true =>
                            go_upto_region 30 with fail
                            go_cut [176] (fun bv wx => bv = .bool false ∧ Hid (Ext J w J' wx))
                            case first => as_aux_lemma =>
                              rcases of_decide_eq_true H3.out.symm with hk | hk
                              · have v1 : ((strB zt).toList == [58]) = true := by rw [hk, strB_toList]; rfl
                                have HK := Lib.hid hk
                                clear hk
                                go_big_quiet (fail)
                                go_wp2_with fail
                                go_meet
                                case rel => exact ⟨rfl, HE.out.drewN _⟩
                              · have v1 : ((strB zt).toList == [58]) = false := by rw [hk, strB_toList]; rfl
                                have v2 : ((strB zt).toList == [61]) = true := by rw [hk, strB_toList]; rfl
                                have HK := Lib.hid hk
                                clear hk
                                go_big_quiet (fail)
                                go_wp2_with fail
                                go_meet
                                case rel => exact ⟨rfl, HE.out.drewN _⟩
                            case rest => as_aux_lemma =>
                              clear HE HBX x0 x1 x2 x3 x4
                              obtain ⟨rfl, HE⟩ := hcut
                              go_wp2_with fail
                              go_roundw
                              case rel => exact ⟨q + 1, p + 1, p, by omega, by go_num, rfl, by omega, by omega, hp9, HRQ, HE⟩
                              case measure => simp [intOf] <;> omega
                          | false =>
                            go_upto_region 30 with fail
                            go_cut [176] (fun bv wx => bv = .bool false ∧ Hid (Ext J w J' wx))
                            case first => as_aux_lemma =>
                              have hnn := of_decide_eq_false H3.out.symm
                              have v1 : ((strB zt).toList == [58]) = false := by rw [strB_toList]; simpa using fun e => hnn (.inl e)
                              have v2 : ((strB zt).toList == [61]) = false := by rw [strB_toList]; simpa using fun e => hnn (.inr e)
                              have v3 : ((strB zt).toList == (⟨#[58]⟩ : ByteArray).toList) = false := by show ((strB zt).toList == (strB [58]).toList) = false; rw [strB_toList, strB_toList]; simpa using fun e => hnn (.inl e)
                              have v4 : ((strB zt).toList == (⟨#[61]⟩ : ByteArray).toList) = false := by show ((strB zt).toList == (strB [61]).toList) = false; rw [strB_toList, strB_toList]; simpa using fun e => hnn (.inr e)
                              have hp1 : plainB zt = true := H4.out trivial
                              have HP1 := Lib.hid (fun w : World => hp1 ▸ plainC zt w (by omega))
                              clear hnn hp1
                              go_big_quiet ((go_at_call 20; exact Calls.quiet_of_same (HP1.out _)))
                              go_wp2_with fail
                              go_meet
                              case rel => exact ⟨rfl, HE.out.drewN _⟩
                            case rest => as_aux_lemma =>
                              clear HE HBX x0 x1 x2 x3 x4
                              obtain ⟨rfl, HE⟩ := hcut
                              go_wp2_with fail
                              go_roundw
                              case rel => exact ⟨q + 1, p + 1, p, by omega, by go_num, rfl, by omega, by omega, hp9, HRQ, HE⟩
                              case measure => simp [intOf] <;> omega
                    · obtain rfl : q = l.ws.length := by omega
                      have q1 : ¬ (l.ws.length : Int) < l.ws.length := by omega
                      go_wp2_with fail
                      go_roundw
                      case rel => exact ⟨k + 1, mid, lt, by omega, by go_num, rfl, hlt0, by omega, by rw [HRK.out]; exact HRS, HE⟩
                      case measure => simp [intOf] <;> omega
            · obtain rfl : k = ls.length := by omega
              have i2 : ¬ (ls.length : Int) < ls.length := by omega
              go_wp2_with fail
              go_ret
              exact ⟨rfl, HE.out.below⟩
end Go.Proofs.Ythfjeijhnikabaa
