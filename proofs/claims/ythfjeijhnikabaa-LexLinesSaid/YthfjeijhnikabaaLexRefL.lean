/- The walk of the document's Lines. -/
import Derived.Test.YthfjeijhnikabaaLexRefS
import Derived.Test.YthfjeijhnikabaaFloat
import Derived.Deep.CutBlock
import Derived.Deep.DeepCutAuto
namespace Go.Proofs.Ythfjeijhnikabaa
open Go.RowKit

theorem ln_one (one : Ln) (v : Value) (hv : v.oneCell' = true) : ∀ u ∈ [Value.int .i64 (one.num : Int), .bool one.ind, v], u.oneCell' = true := by
  intro u hu
  simp only [List.mem_cons, List.not_mem_nil, or_false] at hu
  rcases hu with rfl | rfl | rfl
  · rfl
  · rfl
  · exact hv
theorem bodyPost_spot {R : Ending → World → Prop} {tmps : Array Value} {w : World} {b : Nat} {v : Value} {e x : Int} (h0 : w.cell? ⟨b, 0, none⟩ = some (.int .i64 e)) (h1 : w.cell? ⟨b, 1, none⟩ = some (.int .i64 x))
    (hv : tmps[2]?.getD undef = v) (hb : tmps[3]?.getD undef = .pointer (some ⟨b, 0, none⟩)) (hR : R (.returned (.tuple #[v, spot e x])) w) : bodyPost Try.prog Try.f15 R .ret ⟨tmps, []⟩ w := by
  refine ⟨rfl, _, ?_, hR⟩
  simp [results, Try.results15, go_sem, h0, h1, hv, hb, spot]
theorem keep_alloc {w : World} {a : Addr} {v : Value} (h : w.cell? a = some v) {o : Obj} : (w.alloc o).cell? a = some v := (((Below.refl w.heap.size w).alloc (Nat.le_refl _) o).cell (lt_of_cell h)).trans h
theorem keep_allocD {w : World} {a : Addr} {v : Value} (h : w.cell? a = some v) {o : Obj} : (w.alloc o).drew.cell? a = some v := keep_alloc h
theorem sl_take {J : Jm} {A : Option Addr} {c m : Nat} {T : List Tok} (h : Sl J 3 (.slice A m c) T.length (tcs T)) {q : Nat} (hq : q ≤ T.length) : Sl J 3 (.slice A q c) q (tcs (T.take q)) := by
  obtain ⟨hl, A', c', hv, hn, hm, h0, ha⟩ := h
  cases hv
  refine ⟨by rw [tcs_length, List.length_take]; congr 1; omega, A, c, rfl, by omega, hm, h0, fun a e => ?_⟩
  rcases ha a e with h | ⟨hs, hcs⟩
  · exact .inl (by omega)
  · refine .inr ⟨hs, ?_⟩
    have e1 : tcs T = tcs (T.take q) ++ tcs (T.drop q) := by rw [← tcs_append, List.take_append_drop]
    have e2 : (tcs (T.take q)).length = q * 3 := by rw [tcs_length, List.length_take]; congr 1; omega
    have e3 : (tcs T).take (q * 3) = tcs (T.take q) := by rw [e1, ← e2, List.take_left]
    rw [← e3, ← hcs, List.take_take]
    congr 1; omega
theorem build_word (ev : Operand → Value) (w : World) (x : Nat) {d : Option Nat} {ty : TypeId} {ps : String} {af : Array Edge} (X : Wd) (hx : ev (.tmp x) = .agg #[.string (strB X.text), .int .i64 (X.line : Int), .int .i64 (X.col : Int), .bool X.quoted, .bool X.mark]) :
    (execOp ev ⟨d, .buildSlice 31 1 #[(0, .tmp x)], ty, ps, af, none⟩).run Try.prog w = .ok (.value (.slice (some ⟨w.heap.size, 0, none⟩) 1 1)) (w.alloc (.cells (wcs X).toArray 35)) := by
  simp [hx, go_sem, wcs]
theorem kc_one (w : World) (z : Int) (x : UInt8) (hz : z = x.toNat) : (convert 38 9 (.slice (some ⟨w.heap.size, 0, none⟩) 1 1)).run Try.prog (w.alloc (.cells #[.int .u8 z] 5)).drew = .ok (.string (strB [x])) (w.alloc (.cells #[.int .u8 z] 5)).drew := by
  rw [run_convert_bytes_arg (P := Try.prog) _ 38 5 Try.underlying38 Try.underlying5 w.heap.size 0 1 1 [z] rfl (fun i hi => by
    obtain rfl : i = 0 := by omega
    exact blk_cell_J (heap_alloc_new w _) 0 rfl) 9 Try.underlying9]
  subst hz
  simp [strOfNums, strB]
set_option maxRecDepth 100000 in
set_option maxHeartbeats 8000000 in
theorem refLines_calls {J : Jm} {w : World} (hI : Inv J w) (s : List UInt8) (hs : s.length ≤ 1048576) :
    Calls Try.prog 15 #[.string (strB s)] w fun e w' => LinesP J w s w' e := by
  have HSZ := strB_size s
  unfold LinesP
  by_cases hl : 32768 < s.length
  · simp only [if_pos hl]
    have hl' : (32768 : Int) < s.length := by omega
    go_enter Try.func15, Try.ntmps15
    go_wp2_with fail
    simp [bodyPost, results, Try.results15, go_sem]
    exact ⟨rfl, (Ext.refl hI).alloc _⟩
  simp only [if_neg hl]
  have hl' : ¬ (32768 : Int) < s.length := by omega
  obtain ⟨T, hT, HX, HP, HBR, HN, HTL, HRL0⟩ := tk_all s
  go_enter Try.func15, Try.ntmps15
  go_wp2_with fail
  refine (bytes_calls (hI.alloc _) s hs).mono ?_
  rw [← hT]
  clear hT
  rintro e w1 ⟨vb, J1, rfl, hE, hO⟩
  have hD : Ds J w (w.heap.size + 1) [] J1 w1 (.slice none 0 0) [] := {
    ext := ((Ext.refl hI).alloc _).trans hE
    rb := (hE.below.block _ (by simp)).trans (heap_alloc_new w _)
    jr := (hE.old _ (by simp)).trans (hI.nil (Nat.le_refl _))
    ow := Own.nil _ _ _ _ _
    ls := .nil
    om := by intro b e; simp [Value.ownBlock] at e
    m1 := Nat.le_refl _
    m2 := by have := hE.below.size; simpa using this }
  have hB := hO.sl
  obtain ⟨A, cp, rfl, hn, hm⟩ := hB.form
  unfold maxLen at hm
  have HD := Lib.hid hD
  have HB := Lib.hid hB
  clear hO hD hB hE
  go_wp2_with fail
  go_loopw [5, 6] (fun ov fr wr => ∃ (fm f : Nat) (outs : List Ln) (J' : Jm) (oc : List Value) (M : Nat), fr = .int .i64 fm ∧ fm ≤ T.length + 1 ∧ outs.length ≤ fm ∧ T.length < f + fm ∧
      Hid (rl s f (T.drop fm) outs = lexL s) ∧ Hid (Ds J w M outs J' wr ov oc) ∧ Hid (J1.le J')) (fun _ fr _ => T.length + 1 - (intOf fr).toNat)
  case atStart => exact ⟨0, s.length + 1, [], J1, [], _, rfl, by omega, Nat.le_refl _, by omega, HRL0, HD, Jm.le_refl _⟩
  case round =>
    clear HD
    obtain ⟨fm, f, outs, J', oc, M, rfl, hfm, hol, hf, HR, HD, HLE⟩ := hrel
    have i0 : (0 : Int) ≤ (fm : Int) := by omega
    by_cases hlt : fm < T.length
    · have i1 : (fm : Int) < T.length := by omega
      obtain ⟨f, rfl⟩ : ∃ f', f = f' + 1 := ⟨f - 1, by omega⟩
      have hB := HB.out.mono HLE.out
      go_upto_block 2 with fail
      go_cut [7] (fun t7 wx => wx = wr ∧ ∃ q : Nat, t7 = .int .i64 q ∧ fm ≤ q ∧ q ≤ T.length ∧ Hid ((T.drop fm).takeWhile (fun t => decide (t.c ≠ 10)) = (T.take q).drop fm ∧ (T.drop fm).dropWhile (fun t => decide (t.c ≠ 10)) = T.drop q))
      case first => as_aux_lemma =>
        go_wp2_with fail
        go_loopw [7] (fun t7 wx => wx = wr ∧ ∃ q : Nat, t7 = .int .i64 q ∧ fm ≤ q ∧ q ≤ T.length ∧ Hid (Sg T fm q)) (fun t7 _ => T.length - (intOf t7).toNat)
        case atStart => exact ⟨rfl, fm, rfl, Nat.le_refl _, by omega, Sg.start T fm⟩
        case round =>
          obtain ⟨rfl, q, rfl, hfq, hqT, HS⟩ := hrel
          have j0 : (0 : Int) ≤ (q : Int) := by omega
          by_cases hq : q < T.length
          · have j1 : (q : Int) < T.length := by omega
            obtain ⟨b, o, hA, c0, c1, c2⟩ := tk_cell hB HD.out.ext.inv hq
            subst hA
            by_cases h10 : T[q].c = 10
            · have HE := Lib.hid (HS.out.end2 hq h10)
              rw [h10] at c0
              go_wp2_with fail
              go_meet
              case rel => exact ⟨rfl, q, rfl, hfq, hqT, HE⟩
            · have HE := Lib.hid (HS.out.step hfq hq h10)
              have k10 : ¬ (T[q].c.toNat : Int) = 10 := byte_ne h10
              go_wp2_with fail
              go_roundw
              case rel => exact ⟨trivial, q + 1, by go_num, by omega, by omega, HE⟩
              case measure => simp [intOf]; omega
          · have j1 : ¬ (q : Int) < T.length := by omega
            have HE := Lib.hid (HS.out.end1 (by omega))
            go_wp2_with fail
            go_meet
            case rel => exact ⟨rfl, q, rfl, hfq, hqT, HE⟩
      case rest => as_aux_lemma =>
        obtain ⟨rfl, q, rfl, hfq, hqT, HQ⟩ := hcut
        obtain ⟨R, hR⟩ : ∃ R, R = ll1 s ((T.drop fm).length + 1) ((T.take q).drop fm) ⟨ln s T[fm].pos, false, []⟩ := ⟨_, rfl⟩
        have HR1 : Hid (aft s f (T.drop (q + 1)) outs R = lexL s) := by rw [Hid, ← HR.out, rl_line hlt HQ.out.1 HQ.out.2, hR]
        have HR0 := Lib.hid hR
        clear hR
        clear HR HQ
        go_upto_region 11 with fail
        have HL := Lib.hid HD.out.line
        clear HD
        generalize wc.alloc _ = wl at *
        generalize wc.heap.size = lb at *
        obtain ⟨b, o, hA, c0, c1, c2⟩ := tk_cell hB HL.out.ds.ext.inv hlt
        subst hA
        have hps := HP.out fm hlt
        go_wp2_with fail
        refine (refPlace_calls s T[fm].pos _ (by omega) (by omega) (by omega)).mono ?_
        rw [cutAt_self (by omega)]
        unfold placeV
        rintro e w2 ⟨rfl, rfl⟩
        have d0 := blk_cell_J HL.out.b1 0 rfl
        have f0 := frozen_of_row _ lb 0 _ _ HL.out.b1
        go_upto_region 12 with fail
        have HL := Lib.hid (HL.out.num (ln s T[fm].pos))
        generalize World.setCell _ _ _ = wl at *
        clear c0 c1 c2 d0 f0
        have hB := HB.out.mono HLE.out
        go_upto_region 13 with fail
        go_cut [62] (fun b wx => wx = wl ∧ b = .bool (decide (fm < q) && decide (T[fm].c = 9)))
        case first => as_aux_lemma =>
          by_cases hq : fm < q
          · have j1 : (fm : Int) < q := by omega
            obtain ⟨b', o', hA, c0, c1, c2⟩ := tk_cell hB HL.out.ds.ext.inv hlt
            cases hA
            by_cases h9 : T[fm].c = 9
            · rw [h9] at c0
              go_wp2_with fail
              go_meet
              case rel => exact ⟨rfl, by rw [decide_eq_true hq, decide_eq_true h9]; rfl⟩
            · have k9 : ¬ (T[fm].c.toNat : Int) = 9 := byte_ne h9
              go_wp2_with fail
              go_meet
              case rel => exact ⟨rfl, by simp [hq, h9, k9]⟩
          · have j1 : ¬ (fm : Int) < q := by omega
            go_wp2_with fail
            go_meet
            case rel => exact ⟨rfl, by rw [decide_eq_false hq]; rfl⟩
        case rest => as_aux_lemma =>
          obtain ⟨rfl, rfl⟩ := hcut
          generalize hbd : (decide (fm < q) && decide (T[fm].c = 9)) = bd
          go_upto_if 62 with fail
          go_cut [9] (fun t9 wx => ∃ (i : Nat) (one : Ln), t9 = .int .i64 i ∧ fm ≤ i ∧ i ≤ q ∧ one.ws = [] ∧ Hid (ll s ((T.drop fm).length + 1) ((T.take q).drop i) one = R) ∧ Hid (Dl J w M lb outs one J' wx u5 (.slice none 0 0) oc))
          case first => as_aux_lemma =>
            cases bd with
            | false =>
              go_wp2_with fail
              go_meet
              case rel =>
                refine ⟨fm, ⟨ln s T[fm].pos, false, []⟩, rfl, Nat.le_refl _, hfq, rfl, ?_, HL⟩
                rw [Hid, HR0.out]
                refine (ll1_no ?_).symm
                intro t ht h9
                rcases Nat.lt_or_ge fm q with h | h
                · rw [seg_cons h hqT] at ht
                  simp only [List.head?_cons, Option.mem_some_iff] at ht
                  subst ht
                  simp [h, h9] at hbd
                · rw [seg_nil h] at ht
                  simp at ht
            | true =>
              have d1 := blk_cell_J HL.out.b1 1 rfl
              have f1 := frozen_of_row _ lb 1 _ _ HL.out.b1
              obtain ⟨hq, h9⟩ : fm < q ∧ T[fm].c = 9 := by simpa using hbd
              go_wp2_with fail
              go_meet
              case rel =>
                refine ⟨fm + 1, ⟨ln s T[fm].pos, true, []⟩, by go_num, by omega, by omega, rfl, ?_, HL.out.ind⟩
                rw [Hid, HR0.out, seg_cons hq hqT, ll1_tab h9]
          case rest => as_aux_lemma =>
            obtain ⟨i0, one0, rfl, hi0, hi0q, hone0, HLL0, HL⟩ := hcut
            go_upto_block 4 with fail
            go_cut [9] (fun _ wx => ∃ (one : Ln) (wv : Value) (J2 : Jm), one.ws.length ≤ q ∧ Hid (R = .ok one) ∧ Hid (Dl J w M lb outs one J2 wx u5 wv oc) ∧ Hid (J1.le J2))
            case first => as_aux_lemma =>
              go_wp2_with fail
              go_loopw [9] (fun t9 wx => ∃ (i g : Nat) (one : Ln) (wv : Value) (J2 : Jm), t9 = .int .i64 i ∧ fm ≤ i ∧ i ≤ q ∧ one.ws.length ≤ i ∧ q - i < g ∧ Hid (ll s g ((T.take q).drop i) one = R) ∧ Hid (Dl J w M lb outs one J2 wx u5 wv oc) ∧ Hid (J1.le J2)) (fun t9 _ => q - (intOf t9).toNat)
              case atStart => exact ⟨i0, (T.drop fm).length + 1, one0, _, J', rfl, hi0, hi0q, by rw [hone0]; exact Nat.zero_le _, by rw [List.length_drop]; omega, HLL0, HL, HLE⟩
              case round =>
                clear HL HLL0 HLE
                obtain ⟨i, g, one, wv, J2, rfl, hfi, hiq, hwl, hg, HLL, HL, HLE⟩ := hrel
                obtain ⟨g, rfl⟩ : ∃ g', g = g' + 1 := ⟨g - 1, by omega⟩
                have j0 : (0 : Int) ≤ (i : Int) := by omega
                by_cases hq : i < q
                · have hiT : i < T.length := by omega
                  have j1 : (i : Int) < q := by omega
                  have j2 : (i : Int) < T.length := by omega
                  have hB := HB.out.mono HLE.out
                  obtain ⟨b', o', hA, c0, c1, c2⟩ := tk_cell hB HL.out.ds.ext.inv hiT
                  cases hA
                  rw [seg_cons hq hqT, ll_cons] at HLL
                  by_cases h35 : T[i].c = 35
                  · have HE : Hid (R = .ok one) := by rw [Hid, ← HLL.out, if_pos h35]
                    rw [h35] at c0
                    go_wp2_with fail
                    go_meet
                    case rel => exact ⟨one, wv, J2, by omega, HE, HL, HLE⟩
                  rw [if_neg h35] at HLL
                  have k35 : ¬ (T[i].c.toNat : Int) = 35 := byte_ne h35
                  by_cases h32 : T[i].c = 32
                  · rw [if_pos h32] at HLL
                    rw [h32] at c0
                    go_wp2_with fail
                    go_roundw
                    case rel => exact ⟨i + 1, g, one, wv, J2, by go_num, by omega, by omega, by omega, by omega, HLL, HL, HLE⟩
                    case measure => simp [intOf]; omega
                  rw [if_neg h32] at HLL
                  have k32 : ¬ (T[i].c.toNat : Int) = 32 := byte_ne h32
                  by_cases hm : T[i].c = 58 ∨ T[i].c = 61
                  · rw [if_pos hm] at HLL
                    obtain ⟨cc, hcc, hcm⟩ : ∃ cc, T[i].c = cc ∧ (cc = 58 ∨ cc = 61) := ⟨_, rfl, hm⟩
                    rw [hcc] at HLL c0 k35 k32
                    clear hm hcc
                    go_upto_region 21 with fail
                    go_cut [93] (fun b wx => wx = wr ∧ b = .bool true)
                    case first => as_aux_lemma =>
                      rcases hcm with rfl | rfl
                      · go_wp2_with fail
                        go_meet
                        case rel => exact ⟨rfl, rfl⟩
                      · go_wp2_with fail
                        go_meet
                        case rel => exact ⟨rfl, rfl⟩
                    case rest => as_aux_lemma =>
                      clear hcm
                      obtain ⟨rfl, rfl⟩ := hcut
                      have HLN : Hid (ll s g ((T.take q).drop (i + 1)) (one.add ⟨[cc], ln s T[i].pos, cl s T[i].pos, false, true⟩) = R) := HLL
                      have kc := kc_one wc _ cc rfl
                      have d2 := blk_cell_J HL.out.b1 2 rfl
                      have f2 := frozen_of_row _ lb 2 _ _ HL.out.b1
                      have nlb := Nat.ne_of_lt (Array.getElem?_eq_some_iff.1 HL.out.b1).1
                      have hps := HP.out i hiT
                      obtain ⟨wA, wcp, hwv, -, -⟩ := HL.out.ww.sl.form
                      subst hwv
                      skip
                      have HC0 := Lib.hid c0
                      have HD2 := Lib.hid d2
                      go_upto_region 22 with fail
                      refine wp_region_float (S := fun w' => w'.cell? ⟨lb, 2, none⟩ = some (.slice wA one.ws.length wcp) ∧ w'.cell? ⟨b, o + i * 3, none⟩ = some (.int .u8 (cc.toNat : Int))) 9 4 (by kernel_rfl) (by kernel_rfl) ⟨cell_drew d2, cell_drew c0⟩ ?_
                      simp only [List.take_succ_cons, List.take_zero, List.drop_succ_cons, List.drop_zero]
                      repeat
                        refine wpStillIf_cons (v := ?_) (by rfl) ?_ ?_
                        rotate_left
                        · intro w' hS'
                          (try dsimp only at hS')
                          obtain ⟨s1, s2⟩ := hS'
                          go_simp
                          (try with_reducible rfl)
                        simp only [Act.put, List.setIfInBounds_toArray, List.set_cons_zero, List.set_cons_succ]
                      refine wpStillIf_nil ?_
                      refine wpListM_step rfl (fun K HK => ?_)
                      go_simp
                      refine HK.out _ _ ⟨keep_allocD HD2.out, keep_allocD HC0.out⟩ ?_
                      clear HK K
                      refine wpListM_step rfl (fun K HK => ?_)
                      go_simp
                      refine HK.out _ _ ⟨keep_allocD HD2.out, keep_allocD HC0.out⟩ ?_
                      clear HK K
                      refine wpListM_step rfl (fun K HK => ?_)
                      go_simp
                      refine (word_calls s [cc] T[i].pos false true _ (by omega) (by omega)).mono ?_
                      rintro e w5 ⟨rfl, hb5⟩
                      have he5 := ((Ext.refl HL.out.ds.ext.inv).alloc _).drew.step hb5
                      have HX5 := Lib.hid ((he5.below.cell (p := ⟨b, o + i * 3, none⟩) (lt_of_cell HC0.out)).trans HC0.out)
                      have HL5 := Lib.hid (HL.out.move he5)
                      have HD5 := Lib.hid (blk_cell_J HL5.out.b1 2 rfl)
                      clear hb5 he5
                      refine HK.out _ _ ⟨HD5.out, HX5.out⟩ ?_
                      clear HK K
                      refine wpListM_run rfl (build_word _ w5 119 ⟨[cc], ln s T[i].pos, cl s T[i].pos, false, true⟩ rfl) ⟨keep_alloc HD5.out, keep_alloc HX5.out⟩ ?_
                      simp only [Act.put, List.setIfInBounds_toArray, List.set_cons_zero, List.set_cons_succ]
                      refine wpListM_zero ?_
                      go_wp2_with (at_builtin; go_must (refine wpList_append_lit (J := J2) (s := .tmp 109) (x := .tmp 120) (t := 31) (e := 35) (base := lb + 1) (v := .slice wA one.ws.length wcp) (n := one.ws.length) (xs := wsC one.ws) (m := 1) (news := wcs ⟨[cc], ln s T[i].pos, cl s T[i].pos, false, true⟩) rfl (.agg #[.string ByteArray.empty, .int .i64 0, .int .i64 0, .bool false, .bool false]) 5 40 rfl Try.underlying31 infoWd rfl rfl (HL5.out.ds.ext.inv.alloc _) (HL5.out.ww.alloc _) rfl (heap_alloc_new _ _) rfl (wcs_one ⟨[cc], ln s T[i].pos, cl s T[i].pos, false, true⟩) (by simp only [maxLen]; omega) (by omega) (by have := (Array.getElem?_eq_some_iff.1 HL5.out.b1).1; simp; omega) ?_; intro v6 w6 J6 ho hgr hv; obtain ⟨A6, c6, rfl, -, -⟩ := ho.sl.form; have HA := Lib.hid (HL5.out.add ⟨[cc], ln s T[i].pos, cl s T[i].pos, false, true⟩ _ hgr ho); have k6 := blk_cell_J HA.out.1 2 rfl; have f6 := frozen_of_row _ lb 2 _ _ HA.out.1; have HLE6 := Lib.hid (HLE.out.trans hgr.le); clear ho hgr hv))
                      refine NoPanic.normal ?_
                      go_wp2_with fail
                      go_roundw
                      case rel => exact ⟨(i + 1), g, one.add ⟨[cc], ln s T[i].pos, cl s T[i].pos, false, true⟩, _, J6, by go_num, by omega, by omega, by simp [Ln.add]; omega, by omega, HLN, Lib.hid HA.out.2, HLE6⟩
                      case measure => simp [intOf]; omega
                  rw [if_neg hm] at HLL
                  have k58 : ¬ (T[i].c.toNat : Int) = 58 := byte_ne (fun e => hm (.inl e))
                  have k61 : ¬ (T[i].c.toNat : Int) = 61 := byte_ne (fun e => hm (.inr e))
                  clear hm
                  have b58 : ((T[i].c.toNat : Int) == 58) = false := by simpa using k58
                  have b61 : ((T[i].c.toNat : Int) == 61) = false := by simpa using k61
                  by_cases h34 : T[i].c = 34
                  · rw [if_pos h34] at HLL
                    rw [h34] at c0
                    have hTq : (T.take q).length = q := by rw [List.length_take]; omega
                    have hBq : Sl J2 3 (.slice (some ⟨b, o, none⟩) q cp) (T.take q).length (tcs (T.take q)) := by rw [hTq]; exact sl_take hB hqT
                    have hNq : ∀ t ∈ T.take q, t.n = 1 ∨ (t.n = 2 ∧ t.c = 32) := fun t ht => HN.out t (List.mem_of_mem_take ht)
                    have hiq : i < (T.take q).length := by omega
                    have hgi : (T.take q)[i] = T[i] := List.getElem_take
                    have hqc : (q : Int) ≤ cp := by omega
                    have HBq := Lib.hid hBq
                    have HNq := Lib.hid hNq
                    have HTq := Lib.hid hTq
                    have HGI := Lib.hid hgi
                    clear hBq hNq hTq hgi
                    cases hq34 : qt T[i].pos ((T.take q).drop (i + 1)) [] with
                    | error x =>
                      have HER : Hid (lexL s = .error x) := by rw [Hid, ← HR1.out, ← HLL.out, hq34]; rfl
                      have HQ34 := Lib.hid hq34
                      clear hq34
                      have r0 := blk_cell_J HL.out.ds.rb 0 rfl
                      have r1 := blk_cell_J HL.out.ds.rb 1 rfl
                      have z0 := frozen_of_row _ w.heap.size 0 _ _ HL.out.ds.rb
                      have z1 := frozen_of_row _ w.heap.size 1 _ _ HL.out.ds.rb
                      go_wp2_with fail
                      refine (refQuoted_calls HL.out.ds.ext.inv HBq.out (by have := HTq.out; omega) HNq.out hiq).mono ?_
                      rw [HGI.out, HQ34.out]
                      rintro e w5 ⟨rfl, hb5⟩
                      have HL := Lib.hid (HL.out.move (Ext.of_below HL.out.ds.ext.inv hb5))
                      clear hb5 r0 r1 z0 z1
                      have r0 := blk_cell_J HL.out.ds.rb 0 rfl
                      have r1 := blk_cell_J HL.out.ds.rb 1 rfl
                      have z0 := frozen_of_row _ w.heap.size 0 _ _ HL.out.ds.rb
                      have z1 := frozen_of_row _ w.heap.size 1 _ _ HL.out.ds.rb
                      have x0 : (0 : Int) ≤ (x : Int) := by omega
                      go_wp2_with fail
                      (try simp +zetaDelta only [Exit.inBlock, Exit.then])
                      obtain ⟨q0, q1, x9, y9, z9⟩ := HL.out.ds.spot 6 x
                      refine bodyPost_spot q0 q1 (by rfl) (by rfl) ?_
                      rw [HER.out]
                      exact ⟨rfl, J2, x9⟩
                    | ok tr =>
                      obtain ⟨txt, rest⟩ := tr
                      have hsuf := qt_suffix hq34
                      have hrl := qt_len hq34
                      rw [List.length_drop] at hrl
                      rw [hq34] at HLL
                      have HQ34 := Lib.hid hq34
                      clear hq34
                      obtain ⟨k, hk⟩ : ∃ k, k = q - rest.length := ⟨_, rfl⟩
                      have hrest : rest = (T.take q).drop k := by
                        obtain ⟨pre, hp⟩ := hsuf
                        have h1 := congrArg List.length hp
                        rw [List.length_append, List.length_drop] at h1
                        have h2 := congrArg (List.drop pre.length) hp
                        rw [List.drop_left, List.drop_drop] at h2
                        rw [h2]
                        congr 1
                        have := HTq.out
                        omega
                      have HLN : Hid (ll s g ((T.take q).drop k) (one.add ⟨txt, ln s T[i].pos, cl s T[i].pos, true, false⟩) = R) := by rw [← hrest]; exact HLL
                      have hki : i + 1 ≤ k ∧ k ≤ q := by have := HTq.out; omega
                      have hke : ((T.take q).length : Int) - (rest.length : Int) = (k : Int) := by have := HTq.out; omega
                      have HKE := Lib.hid hke
                      clear hke hrest hsuf hrl hk
                      obtain ⟨hki, hkq⟩ := hki
                      go_upto_region 28 with (go_at_call 35; go_must (refine (refQuoted_calls HL.out.ds.ext.inv HBq.out (by have := HTq.out; omega) HNq.out hiq).mono ?_; rw [HGI.out, HQ34.out]; unfold RQ; dsimp only; rw [HKE.out]; rintro e w4 ⟨rfl, hb4⟩; have HLq := Lib.hid (HL.out.move (Ext.of_below HL.out.ds.ext.inv hb4)); have c0q := (hb4.cell (lt_of_cell c0)).trans c0; clear hb4))
                      have HL := HLq
                      clear c0 c1 c2
                      have c0 := c0q
                      have d2 := blk_cell_J HL.out.b1 2 rfl
                      have f2 := frozen_of_row _ lb 2 _ _ HL.out.b1
                      have nlb := Nat.ne_of_lt (Array.getElem?_eq_some_iff.1 HL.out.b1).1
                      have hps := HP.out i hiT
                      obtain ⟨wA, wcp, hwv, -, -⟩ := HL.out.ww.sl.form
                      subst hwv
                      skip
                      have HC0 := Lib.hid c0
                      have HD2 := Lib.hid d2
                      go_upto_region 28 with fail
                      refine wp_region_float (S := fun w' => w'.cell? ⟨lb, 2, none⟩ = some (.slice wA one.ws.length wcp) ∧ w'.cell? ⟨b, o + i * 3, none⟩ = some (.int .u8 ((34:UInt8).toNat : Int))) 5 2 (by kernel_rfl) (by kernel_rfl) ⟨cell_drew d2, cell_drew c0⟩ ?_
                      simp only [List.take_succ_cons, List.take_zero, List.drop_succ_cons, List.drop_zero]
                      repeat
                        refine wpStillIf_cons (v := ?_) (by rfl) ?_ ?_
                        rotate_left
                        · intro w' hS'
                          (try dsimp only at hS')
                          obtain ⟨s1, s2⟩ := hS'
                          go_simp
                          (try with_reducible rfl)
                        simp only [Act.put, List.setIfInBounds_toArray, List.set_cons_zero, List.set_cons_succ]
                      refine wpStillIf_nil ?_
                      refine wpListM_step rfl (fun K HK => ?_)
                      go_simp
                      refine (word_calls s txt T[i].pos true false _ (by omega) (by omega)).mono ?_
                      rintro e w5 ⟨rfl, hb5⟩
                      have he5 := (Ext.refl HL.out.ds.ext.inv).drew.step hb5
                      have HX5 := Lib.hid ((he5.below.cell (p := ⟨b, o + i * 3, none⟩) (lt_of_cell HC0.out)).trans HC0.out)
                      have HL5 := Lib.hid (HL.out.move he5)
                      have HD5 := Lib.hid (blk_cell_J HL5.out.b1 2 rfl)
                      clear hb5 he5
                      refine HK.out _ _ ⟨HD5.out, HX5.out⟩ ?_
                      clear HK K
                      refine wpListM_run rfl (build_word _ w5 150 ⟨txt, ln s T[i].pos, cl s T[i].pos, true, false⟩ rfl) ⟨keep_alloc HD5.out, keep_alloc HX5.out⟩ ?_
                      simp only [Act.put, List.setIfInBounds_toArray, List.set_cons_zero, List.set_cons_succ]
                      refine wpListM_zero ?_
                      go_wp2_with (at_builtin; go_must (refine wpList_append_lit (J := J2) (s := .tmp 146) (x := .tmp 151) (t := 31) (e := 35) (base := lb + 1) (v := .slice wA one.ws.length wcp) (n := one.ws.length) (xs := wsC one.ws) (m := 1) (news := wcs ⟨txt, ln s T[i].pos, cl s T[i].pos, true, false⟩) rfl (.agg #[.string ByteArray.empty, .int .i64 0, .int .i64 0, .bool false, .bool false]) 5 40 rfl Try.underlying31 infoWd rfl rfl (HL5.out.ds.ext.inv.alloc _) (HL5.out.ww.alloc _) rfl (heap_alloc_new _ _) rfl (wcs_one ⟨txt, ln s T[i].pos, cl s T[i].pos, true, false⟩) (by simp only [maxLen]; omega) (by omega) (by have := (Array.getElem?_eq_some_iff.1 HL5.out.b1).1; simp; omega) ?_; intro v6 w6 J6 ho hgr hv; obtain ⟨A6, c6, rfl, -, -⟩ := ho.sl.form; have HA := Lib.hid (HL5.out.add ⟨txt, ln s T[i].pos, cl s T[i].pos, true, false⟩ _ hgr ho); have k6 := blk_cell_J HA.out.1 2 rfl; have f6 := frozen_of_row _ lb 2 _ _ HA.out.1; have HLE6 := Lib.hid (HLE.out.trans hgr.le); clear ho hgr hv))
                      refine NoPanic.normal ?_
                      go_wp2_with fail
                      go_roundw
                      case rel => exact ⟨k, g, one.add ⟨txt, ln s T[i].pos, cl s T[i].pos, true, false⟩, _, J6, by go_num, by omega, by omega, by simp [Ln.add]; omega, by omega, HLN, Lib.hid HA.out.2, HLE6⟩
                      case measure => simp [intOf]; omega
                  rw [if_neg h34] at HLL
                  have k34 : ¬ (T[i].c.toNat : Int) = 34 := byte_ne h34
                  by_cases hb : bareB T[i].c = true
                  · rw [if_pos hb] at HLL
                    have hTW : (T.take q).drop i = T[i] :: (T.take q).drop (i + 1) := seg_cons hq hqT
                    have HW0 : Hid (ll s g (((T.take q).drop i).dropWhile fun t => bareB t.c) (one.add ⟨(((T.take q).drop i).takeWhile fun t => bareB t.c).map Tok.c, ln s T[i].pos, cl s T[i].pos, false, false⟩) = R) := by
                      rw [Hid, hTW, List.dropWhile_cons_of_pos (p := fun t : Tok => bareB t.c) hb, List.takeWhile_cons_of_pos (p := fun t : Tok => bareB t.c) hb, List.map_cons]
                      exact HLL.out
                    clear hTW HLL
                    obtain ⟨pi, hpi⟩ : ∃ pi, T[i].pos = pi := ⟨_, rfl⟩
                    have hpis : pi < s.length := by rw [← hpi]; exact HP.out i hiT
                    go_upto_block 7 with (go_at_call 36; go_must (refine (refBareC _ _).mono ?_; rw [hb]; rintro e w5 ⟨rfl, rfl⟩))
                    go_cut [9, 10, 14] (fun t9 t10 t14 wx => wx = w5 ∧ t9 = .int .i64 i ∧ t10 = .int .i64 pi ∧ ∃ k : Nat, t14 = .int .i64 k ∧ i + 1 ≤ k ∧ k ≤ q ∧ pi + (k - i) ≤ s.length ∧
                      Hid (ll s g ((T.take q).drop k) (one.add ⟨(s.drop pi).take (k - i), ln s pi, cl s pi, false, false⟩) = R))
                    case first => as_aux_lemma =>
                      have HPI := Lib.hid hpi
                      clear hpi
                      go_wp2_with fail
                      go_loopw [14] (fun t14 wx => wx = w5 ∧ ∃ k : Nat, t14 = .int .i64 k ∧ i ≤ k ∧ k ≤ q ∧ pi + (k - i) ≤ s.length ∧ Hid (∀ h : k < T.length, T[k].pos = pi + (k - i)) ∧
                        Hid (ll s g (((T.take q).drop k).dropWhile fun t => bareB t.c) (one.add ⟨(s.drop pi).take (k - i) ++ (((T.take q).drop k).takeWhile fun t => bareB t.c).map Tok.c, ln s pi, cl s pi, false, false⟩) = R)) (fun t14 _ => q - (intOf t14).toNat)
                      case atStart => exact ⟨rfl, i, rfl, Nat.le_refl _, hiq, by omega, fun _ => by rw [HPI.out]; omega, by rw [Hid, Nat.sub_self, List.take_zero, List.nil_append, ← HPI.out]; exact HW0.out⟩
                      case round =>
                        clear c0 c1 c2
                        obtain ⟨rfl, k, rfl, hik, hkq, hks, HPK, HWK⟩ := hrel
                        have l0 : (0 : Int) ≤ (k : Int) := by omega
                        by_cases hk : k < q
                        · have hkT : k < T.length := by omega
                          have l1 : (k : Int) < q := by omega
                          have l2 : (k : Int) < T.length := by omega
                          obtain ⟨b2, o2, hA2, e0, e1, e2⟩ := tk_cell hB HL.out.ds.ext.inv hkT
                          cases hA2
                          have hTK : (T.take q).drop k = T[k] :: (T.take q).drop (k + 1) := seg_cons hk hqT
                          by_cases hd : bareB T[k].c = true
                          · obtain ⟨n1, n2⟩ := HBR.out k hkT hd
                            have n3 := HPK.out hkT
                            have HPK' : Hid (∀ h : k + 1 < T.length, T[k + 1].pos = pi + (k + 1 - i)) := fun h => by have := HX.out k h; rw [this, n3, n1]; omega
                            have n4 := HP.out k hkT
                            rw [n3] at n2 n4
                            have HWK' : Hid (ll s g (((T.take q).drop (k + 1)).dropWhile fun t => bareB t.c) (one.add ⟨(s.drop pi).take (k + 1 - i) ++ (((T.take q).drop (k + 1)).takeWhile fun t => bareB t.c).map Tok.c, ln s pi, cl s pi, false, false⟩) = R) := by
                              have h := HWK.out
                              rw [hTK, List.dropWhile_cons_of_pos (p := fun t : Tok => bareB t.c) hd, List.takeWhile_cons_of_pos (p := fun t : Tok => bareB t.c) hd, List.map_cons, ← List.singleton_append, ← List.append_assoc] at h
                              have h2 := take_more (s := s) (q := pi) (p := pi + (k - i)) (d := T[k].c) (by omega) n2
                              rw [show pi + (k - i) - pi = k - i by omega, show pi + (k - i) + 1 - pi = k + 1 - i by omega] at h2
                              rw [h2] at h
                              exact h
                            clear n1 n2 n3 hTK HWK HPK
                            go_wp2_with (go_at_call 36; go_must (refine (refBareC _ _).mono ?_; rw [hd]; rintro e w5 ⟨rfl, hw⟩; rw [hw]; clear hw w5))
                            go_roundw
                            case rel => exact ⟨trivial, k + 1, by go_num, by omega, by omega, by omega, HPK', HWK'⟩
                            case measure => simp [intOf]; omega
                          · have HE : Hid (ll s g ((T.take q).drop k) (one.add ⟨(s.drop pi).take (k - i), ln s pi, cl s pi, false, false⟩) = R) := by
                              have h := HWK.out
                              rw [hTK, List.dropWhile_cons_of_neg (p := fun t : Tok => bareB t.c) hd, List.takeWhile_cons_of_neg (p := fun t : Tok => bareB t.c) hd, List.map_nil, List.append_nil, ← hTK] at h
                              exact h
                            have hik1 : i + 1 ≤ k := by
                              rcases Nat.lt_or_ge i k with h | h
                              · exact h
                              · obtain rfl : k = i := by omega
                                exact absurd hb hd
                            clear hTK HWK HPK
                            go_wp2_with (go_at_call 36; go_must (refine (refBareC _ _).mono ?_; rw [Bool.eq_false_iff.2 hd]; rintro e w5 ⟨rfl, hw⟩; rw [hw]; clear hw w5))
                            go_meet
                            case rel => exact ⟨rfl, rfl, rfl, k, rfl, hik1, hkq, hks, HE⟩
                        · obtain rfl : k = q := by omega
                          have l1 : ¬ (k : Int) < k := by omega
                          have HE : Hid (ll s g ((T.take k).drop k) (one.add ⟨(s.drop pi).take (k - i), ln s pi, cl s pi, false, false⟩) = R) := by
                            have h := HWK.out
                            rw [seg_nil (Nat.le_refl _)] at h ⊢
                            rw [List.takeWhile_nil, List.dropWhile_nil, List.map_nil, List.append_nil] at h
                            exact h
                          go_wp2_with fail
                          go_meet
                          case rel => exact ⟨rfl, rfl, rfl, k, rfl, by omega, Nat.le_refl _, hks, HE⟩
                    case rest => as_aux_lemma =>
                      obtain ⟨rfl, rfl, rfl, k, rfl, hik, hkq, hks, HLN⟩ := hcut
                      clear hpi HW0
                      have HTX : (strB s).extract pi (pi + (k - i)) = strB ((s.drop pi).take (k - i)) := by
                        have h := strB_cut s (q := pi) (p := pi + (k - i)) (by omega) hks
                        rwa [show pi + (k - i) - pi = k - i by omega] at h
                      have v0 : (0 : Int) ≤ (pi : Int) := by omega
                      have v1 : IntKind.i64.wrap ((pi : Int) + (k : Int)) = (pi : Int) + (k : Int) := by rw [IntKind.wrap_i64]; omega
                      have v2 : IntKind.i64.wrap ((pi : Int) + (k : Int) - (i : Int)) = ((pi + (k - i) : Nat) : Int) := by rw [IntKind.wrap_i64]; omega
                      have v3 : (pi : Int) ≤ ((pi + (k - i) : Nat) : Int) := by omega
                      have v4 : ((pi + (k - i) : Nat) : Int) ≤ s.length := by omega
                      generalize pi + (k - i) = pe at *
                      have d2 := blk_cell_J HL.out.b1 2 rfl
                      have f2 := frozen_of_row _ lb 2 _ _ HL.out.b1
                      have nlb := Nat.ne_of_lt (Array.getElem?_eq_some_iff.1 HL.out.b1).1
                      have hps := HP.out i hiT
                      obtain ⟨wA, wcp, hwv, -, -⟩ := HL.out.ww.sl.form
                      subst hwv
                      skip
                      have HC0 := Lib.hid c0
                      have HD2 := Lib.hid d2
                      go_upto_region 34 with fail
                      refine wp_region_float (S := fun w' => w'.cell? ⟨lb, 2, none⟩ = some (.slice wA one.ws.length wcp) ∧ w'.cell? ⟨b, o + i * 3, none⟩ = some (.int .u8 (T[i].c.toNat : Int))) 12 2 (by kernel_rfl) (by kernel_rfl) ⟨cell_drew d2, cell_drew c0⟩ ?_
                      simp only [List.take_succ_cons, List.take_zero, List.drop_succ_cons, List.drop_zero]
                      repeat
                        refine wpStillIf_cons (v := ?_) (by rfl) ?_ ?_
                        rotate_left
                        · intro w' hS'
                          (try dsimp only at hS')
                          obtain ⟨s1, s2⟩ := hS'
                          go_simp
                          (try with_reducible rfl)
                        simp only [Act.put, List.setIfInBounds_toArray, List.set_cons_zero, List.set_cons_succ]
                      refine wpStillIf_nil ?_
                      refine wpListM_step rfl (fun K HK => ?_)
                      go_simp
                      refine (word_calls s ((s.drop pi).take (k - i)) pi false false _ (by omega) (by omega)).mono ?_
                      rintro e w5 ⟨rfl, hb5⟩
                      have he5 := (Ext.refl HL.out.ds.ext.inv).drew.step hb5
                      have HX5 := Lib.hid ((he5.below.cell (p := ⟨b, o + i * 3, none⟩) (lt_of_cell HC0.out)).trans HC0.out)
                      have HL5 := Lib.hid (HL.out.move he5)
                      have HD5 := Lib.hid (blk_cell_J HL5.out.b1 2 rfl)
                      clear hb5 he5
                      refine HK.out _ _ ⟨HD5.out, HX5.out⟩ ?_
                      clear HK K
                      refine wpListM_run rfl (build_word _ w5 188 ⟨(s.drop pi).take (k - i), ln s pi, cl s pi, false, false⟩ rfl) ⟨keep_alloc HD5.out, keep_alloc HX5.out⟩ ?_
                      simp only [Act.put, List.setIfInBounds_toArray, List.set_cons_zero, List.set_cons_succ]
                      refine wpListM_zero ?_
                      go_wp2_with (at_builtin; go_must (refine wpList_append_lit (J := J2) (s := .tmp 177) (x := .tmp 189) (t := 31) (e := 35) (base := lb + 1) (v := .slice wA one.ws.length wcp) (n := one.ws.length) (xs := wsC one.ws) (m := 1) (news := wcs ⟨(s.drop pi).take (k - i), ln s pi, cl s pi, false, false⟩) rfl (.agg #[.string ByteArray.empty, .int .i64 0, .int .i64 0, .bool false, .bool false]) 5 40 rfl Try.underlying31 infoWd rfl rfl (HL5.out.ds.ext.inv.alloc _) (HL5.out.ww.alloc _) rfl (heap_alloc_new _ _) rfl (wcs_one ⟨(s.drop pi).take (k - i), ln s pi, cl s pi, false, false⟩) (by simp only [maxLen]; omega) (by omega) (by have := (Array.getElem?_eq_some_iff.1 HL5.out.b1).1; simp; omega) ?_; intro v6 w6 J6 ho hgr hv; obtain ⟨A6, c6, rfl, -, -⟩ := ho.sl.form; have HA := Lib.hid (HL5.out.add ⟨(s.drop pi).take (k - i), ln s pi, cl s pi, false, false⟩ _ hgr ho); have k6 := blk_cell_J HA.out.1 2 rfl; have f6 := frozen_of_row _ lb 2 _ _ HA.out.1; have HLE6 := Lib.hid (HLE.out.trans hgr.le); clear ho hgr hv))
                      refine NoPanic.normal ?_
                      go_wp2_with fail
                      go_roundw
                      case rel => exact ⟨k, g, one.add ⟨(s.drop pi).take (k - i), ln s pi, cl s pi, false, false⟩, _, J6, by go_num, by omega, by omega, by simp [Ln.add]; omega, by omega, HLN, Lib.hid HA.out.2, HLE6⟩
                      case measure => simp [intOf]; omega
                  · rw [if_neg hb] at HLL
                    have HER : Hid (lexL s = .error T[i].pos) := by rw [Hid, ← HR1.out, ← HLL.out]; rfl
                    have r0 := blk_cell_J HL.out.ds.rb 0 rfl
                    have r1 := blk_cell_J HL.out.ds.rb 1 rfl
                    have z0 := frozen_of_row _ w.heap.size 0 _ _ HL.out.ds.rb
                    have z1 := frozen_of_row _ w.heap.size 1 _ _ HL.out.ds.rb
                    go_wp2_with (go_at_call 36; go_must (refine (refBareC _ _).mono ?_; rw [Bool.eq_false_iff.2 hb]; rintro e w5 ⟨rfl, rfl⟩))
                    (try simp +zetaDelta only [Exit.inBlock, Exit.then])
                    obtain ⟨q0, q1, x9, y9, z9⟩ := HL.out.ds.spot 6 T[i].pos
                    refine bodyPost_spot q0 q1 (by rfl) (by rfl) ?_
                    rw [HER.out]
                    exact ⟨rfl, J2, x9⟩
                · have j1 : ¬ (i : Int) < q := by omega
                  have HE : Hid (R = .ok one) := by
                    rw [seg_nil (by omega)] at HLL
                    rw [Hid, ← HLL.out]; rfl
                  go_wp2_with fail
                  go_meet
                  case rel => exact ⟨one, wv, J2, by omega, HE, HL, HLE⟩
            case rest => as_aux_lemma =>
              obtain ⟨one, wv, J2, hwl, HE, HL, HLE⟩ := hcut
              have HR2 : Hid (rl s f (T.drop (q + 1)) (fin outs one) = lexL s) := by rw [Hid, ← HR1.out, HE.out]; rfl
              have d2 := blk_cell_J HL.out.b1 2 rfl
              have hfl := fin_le outs one
              have j0 : (0 : Int) ≤ (q : Int) := by omega
              obtain ⟨wA, wc', rfl, -, -⟩ := HL.out.ww.sl.form
              by_cases h0 : one.ws = []
              · have hl0 : one.ws.length = 0 := by rw [h0]; rfl
                rw [fin_nil h0] at HR2
                rw [hl0] at d2
                go_wp2_with fail
                go_roundw
                case rel => exact ⟨q + 1, f, outs, J2, oc, M, by go_num, by omega, by omega, by omega, HR2, Lib.hid HL.out.ds, HLE⟩
                case measure => simp [intOf]; omega
              · have hlp : 0 < one.ws.length := List.length_pos_iff.2 h0
                rw [fin_cons h0] at HR2
                have d0 := blk_cell_J HL.out.b1 0 rfl
                have d1 := blk_cell_J HL.out.b1 1 rfl
                obtain ⟨oA, oc', hov, -, -⟩ := HL.out.ds.ow.sl.form
                subst hov
                have HON := Lib.hid (ln_one one (.slice wA one.ws.length wc') rfl)
                go_wp2_with (at_builtin; go_must (refine wpList_append_lit (J := J2) (s := .tmp 197) (x := .tmp 199) (t := 24) (e := 33) (base := w.heap.size + 1) (v := .slice oA outs.length oc') (n := outs.length) (xs := oc) (m := 1) (news := [.int .i64 (one.num : Int), .bool one.ind, .slice wA one.ws.length wc']) rfl (.agg #[.int .i64 0, .bool false, .slice none 0 0]) 3 40 rfl Try.underlying24 infoLn rfl rfl (HL.out.ds.ext.inv.alloc _) (HL.out.ds.ow.alloc _) rfl (heap_alloc_new _ _) rfl HON.out (by simp only [maxLen]; omega) (by omega) (by have := HL.out.ds.m1; have := HL.out.ds.m2; simp; omega) ?_; intro v4 w4 J4 ho hgr hv; have HDD := Lib.hid (HL.out.done _ hgr ho); have HLE4 := Lib.hid (HLE.out.trans hgr.le); clear ho hgr hv))
                go_roundw
                case rel => exact ⟨q + 1, f, outs ++ [one], J4, _, _, by go_num, by omega, by simp; omega, by omega, HR2, HDD, HLE4⟩
                case measure => simp [intOf]; omega
    · have i1 : ¬ (fm : Int) < T.length := by omega
      have HE : Hid (lexL s = .ok outs) := by rw [Hid, ← HR.out, List.drop_of_length_le (by omega)]; cases f <;> rfl
      have b0 := blk_cell_J HD.out.rb 0 rfl
      have b1 := blk_cell_J HD.out.rb 1 rfl
      have f0 := frozen_of_row wr w.heap.size 0 _ _ HD.out.rb
      have f1 := frozen_of_row wr w.heap.size 1 _ _ HD.out.rb
      go_wp2_with fail
      obtain ⟨q0, q1, x, y, z⟩ := HD.out.spot 0 0
      simp [bodyPost, results, Try.results15, go_sem, q0, q1]
      rw [HE.out]
      exact ⟨J', _, oc, M, _, rfl, x, Nat.le_succ _, y, z⟩
end Go.Proofs.Ythfjeijhnikabaa
