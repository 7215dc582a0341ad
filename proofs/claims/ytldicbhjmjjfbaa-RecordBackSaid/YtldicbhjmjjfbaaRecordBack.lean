/- The statement RecordBack: its walk. -/
import Derived.Test.YtldicbhjmjjfbaaRecordPuts
namespace Go.Proofs.Ytldicbhjmjjfbaa
open Go.RowKit
set_option linter.unusedVariables false

theorem bytesT_inj {t u : Trc} (h1 : rightT t = true) (h2 : rightT u = true) (h : bytesT t = bytesT u) : t = u := by
  have a := getT_bytes h1
  have b := getT_bytes h2
  rw [h, b] at a
  simpa using a.symm
set_option maxRecDepth 100000 in
set_option maxHeartbeats 8000000 in
theorem recordBack_walk {J : Jm} {w : World} (hI : Inv J w) {v v' : Value} {t u : Trc} (ht : TrV J v t) (hS : TrS t) (hu : TrV J v' u) (hSu : TrS u) (sb : ByteArray) (hsb : sb.size ≤ 140737488351232) :
    Calls Try.prog 7 #[v, v', .string sb] w fun e w' => e = .returned (.bool true) ∧ Below w.heap.size w w' := by
  obtain ⟨s, rfl⟩ : ∃ l, sb = strB l := ⟨sb.data.toList, (strB_of sb).symm⟩
  rw [strB_size] at hsb
  have hs := hsb
  obtain ⟨An, cn, Ao, co, rfl, hn, ho⟩ := ht.parts
  obtain ⟨Bn, dn, Bo, dO, rfl, gn, go⟩ := hu.parts
  have HV := Lib.hid (TrV.mk hn ho)
  have HW := Lib.hid (TrV.mk gn go)
  clear ht hn ho hu gn go
  obtain ⟨t0, t1, t2⟩ := two_tr w t u (.slice An t.needs.length cn) (.slice Ao t.outs.length co) (.slice Bn u.needs.length dn) (.slice Bo u.outs.length dO)
  go_enter Try.func7, Try.ntmps7
  go_upto_region 1 with fail
  have HE := Lib.hid (Ext.of_below hI t0)
  have HB := Lib.hid t1
  have HC := Lib.hid t2
  clear t0 t1 t2
  generalize World.alloc (World.alloc w _) _ = W at *
  generalize w.heap.size + 1 = ub at *
  generalize hg0 : w.heap.size = tb at HB ⊢
  clear hg0
  go_wp2_with fail
  refine (works_calls HE.out.inv).mono ?_
  rintro e w1 ⟨rfl, hb⟩
  have HE := Lib.hid (HE.out.step hb)
  have HB := Lib.hid (HB.out.below hb)
  have HC := Lib.hid (HC.out.below hb)
  clear hb
  have n0 := HB.out.c0
  have n1 := HB.out.c1
  have n2 := HB.out.c2
  have m0 := HC.out.c0
  have m1 := HC.out.c1
  have m2 := HC.out.c2
  cases hr : rightT t with
  | true =>
    have HBL : (bytesT t).length ≤ 140737488351232 := by
      have h1 := pre_le hr t.needs.length
      have h2 := ul_le hr
      rw [List.take_length] at h1
      rw [← bytesT_eq, List.length_append]; omega
    go_wp2_with fail
    refine (put_calls HE.out.inv HV.out hS hr).mono ?_
    rintro e w2 ⟨rfl, hb⟩
    have HE := Lib.hid (HE.out.step hb)
    have HB := Lib.hid (HB.out.below hb)
    have HC := Lib.hid (HC.out.below hb)
    clear hb n0 n1 n2 m0 m1 m2
    have n0 := HB.out.c0
    have n1 := HB.out.c1
    have n2 := HB.out.c2
    have m0 := HC.out.c0
    have m1 := HC.out.c1
    have m2 := HC.out.c2
    cases hru : rightT u with
    | true =>
      go_wp2_with fail
      refine (put_calls HE.out.inv HW.out hSu hru).mono ?_
      rintro e w3 ⟨rfl, hb⟩
      have HE := Lib.hid (HE.out.step hb)
      have HB := Lib.hid (HB.out.below hb)
      have HC := Lib.hid (HC.out.below hb)
      clear hb n0 n1 n2 m0 m1 m2
      have n0 := HB.out.c0
      have n1 := HB.out.c1
      have n2 := HB.out.c2
      have m0 := HC.out.c0
      have m1 := HC.out.c1
      have m2 := HC.out.c2
      go_wp2_with fail
      refine (Get_calls HE.out.inv (bytesT t) HBL).mono ?_
      rintro e w5 ⟨v5, J5, rfl, hE, hV⟩
      obtain ⟨g1, g2⟩ := gT_some (getT_bytes hr)
      rw [g1]
      rw [g2] at hV
      clear g1 g2
      obtain ⟨Cn, en, Co, eo, rfl, hn, ho⟩ := hV.parts
      have HX := Lib.hid (TrV.mk hn ho)
      have HV := Lib.hid (HV.out.mono (hE.le HE.out.inv))
      have HW := Lib.hid (HW.out.mono (hE.le HE.out.inv))
      have HB := Lib.hid (HB.out.ext hE)
      have HC := Lib.hid (HC.out.ext hE)
      have HE := Lib.hid (HE.out.trans hE)
      clear hE hV hn ho n0 n1 n2 m0 m1 m2
      go_upto_region 7 with fail
      have hx := (Ext.refl HE.out.inv).alloc (.cells #[.string (strB t.job), .slice Cn t.needs.length en, .slice Co t.outs.length eo] 26)
      have HD := Lib.hid (TBox.new w5 t (.slice Cn t.needs.length en) (.slice Co t.outs.length eo))
      have HB := Lib.hid (HB.out.ext hx)
      have HC := Lib.hid (HC.out.ext hx)
      have HE := Lib.hid (HE.out.trans hx)
      clear hx
      generalize World.alloc w5 _ = W5 at *
      generalize w5.heap.size = xb at HD ⊢
      have x0 := HD.out.c0
      have x1 := HD.out.c1
      have x2 := HD.out.c2
      have n0 := HB.out.c0
      have n1 := HB.out.c1
      have n2 := HB.out.c2
      have m0 := HC.out.c0
      have m1 := HC.out.c1
      have m2 := HC.out.c2
      go_wp2_with fail
      refine (same_calls HE.out.inv HX.out HV.out).mono ?_
      rw [decide_eq_true (rfl : t = t)]
      rintro e w6 ⟨rfl, hb⟩
      clear x0 x1 x2
      have HE := Lib.hid (HE.out.step hb)
      have HB := Lib.hid (HB.out.below hb)
      have HC := Lib.hid (HC.out.below hb)
      clear hb n0 n1 n2 m0 m1 m2
      have n0 := HB.out.c0
      have n1 := HB.out.c1
      have n2 := HB.out.c2
      have m0 := HC.out.c0
      have m1 := HC.out.c1
      have m2 := HC.out.c2
      go_wp2_with fail
      refine (same_calls HE.out.inv HV.out HW.out).mono ?_
      have hq := strB_beq (bytesT t) (bytesT u)
      by_cases htu : t = u
      · rw [decide_eq_true htu]
        have hq2 : (bytesT t == bytesT u) = true := by rw [htu]; simp
        rw [hq2] at hq
        clear htu hq2
        rintro e w7 ⟨rfl, hb⟩
        have HE := Lib.hid (HE.out.step hb)
        have HB := Lib.hid (HB.out.below hb)
        have HC := Lib.hid (HC.out.below hb)
        clear hb n0 n1 n2 m0 m1 m2
        have n0 := HB.out.c0
        have n1 := HB.out.c1
        have n2 := HB.out.c2
        have m0 := HC.out.c0
        have m1 := HC.out.c1
        have m2 := HC.out.c2
        go_wp2_with fail
        refine (Get_calls HE.out.inv s hs).mono ?_
        rintro e w8 ⟨v8, J8, rfl, hE, hV⟩
        have HE := Lib.hid (HE.out.trans hE)
        clear hE n0 n1 n2 m0 m1 m2
        cases hg : getT s with
        | none =>
          obtain ⟨g1, g2⟩ := gT_none hg
          rw [g1]
          clear hg g1 g2
          obtain ⟨Cn, en, Co, eo, rfl, hn, ho⟩ := hV.parts
          clear hV hn ho
          go_upto_region 12 with fail
          have HE := Lib.hid (HE.out.alloc (.cells #[.string (strB (gT s).job), .slice Cn (gT s).needs.length en, .slice Co (gT s).outs.length eo] 26))
          generalize World.alloc w8 _ = W8 at *
          go_wp2_with fail
          go_ret
          exact ⟨rfl, HE.out.below⟩
        | some x =>
          obtain ⟨g1, g2⟩ := gT_some hg
          obtain ⟨hrx, hby⟩ := getT_sound hg
          rw [g1]
          rw [g2] at hV
          clear hg g1 g2
          obtain ⟨Cn, en, Co, eo, rfl, hn, ho⟩ := hV.parts
          have HX := Lib.hid (TrV.mk hn ho)
          clear hV hn ho
          go_upto_region 12 with fail
          have HD := Lib.hid (TBox.new w8 x (.slice Cn x.needs.length en) (.slice Co x.outs.length eo))
          have HE := Lib.hid (HE.out.alloc (.cells #[.string (strB x.job), .slice Cn x.needs.length en, .slice Co x.outs.length eo] 26))
          generalize World.alloc w8 _ = W8 at *
          generalize w8.heap.size = xb at HD ⊢
          have x0 := HD.out.c0
          have x1 := HD.out.c1
          have x2 := HD.out.c2
          go_wp2_with fail
          refine (put_calls HE.out.inv HX.out (right_S hrx) hrx).mono ?_
          rw [hby]
          rintro e w9 ⟨rfl, hb⟩
          have HE := Lib.hid (HE.out.step hb)
          have hq8 : ((strB s).toList == (strB s).toList) = true := by simp
          go_wp2_with fail
          go_ret
          exact ⟨rfl, HE.out.below⟩
      · rw [decide_eq_false htu]
        have hq2 : (bytesT t == bytesT u) = false := by simpa using fun h => htu (bytesT_inj hr hru h)
        rw [hq2] at hq
        clear htu hq2
        rintro e w7 ⟨rfl, hb⟩
        have HE := Lib.hid (HE.out.step hb)
        have HB := Lib.hid (HB.out.below hb)
        have HC := Lib.hid (HC.out.below hb)
        clear hb n0 n1 n2 m0 m1 m2
        have n0 := HB.out.c0
        have n1 := HB.out.c1
        have n2 := HB.out.c2
        have m0 := HC.out.c0
        have m1 := HC.out.c1
        have m2 := HC.out.c2
        go_wp2_with fail
        refine (Get_calls HE.out.inv s hs).mono ?_
        rintro e w8 ⟨v8, J8, rfl, hE, hV⟩
        have HE := Lib.hid (HE.out.trans hE)
        clear hE n0 n1 n2 m0 m1 m2
        cases hg : getT s with
        | none =>
          obtain ⟨g1, g2⟩ := gT_none hg
          rw [g1]
          clear hg g1 g2
          obtain ⟨Cn, en, Co, eo, rfl, hn, ho⟩ := hV.parts
          clear hV hn ho
          go_upto_region 12 with fail
          have HE := Lib.hid (HE.out.alloc (.cells #[.string (strB (gT s).job), .slice Cn (gT s).needs.length en, .slice Co (gT s).outs.length eo] 26))
          generalize World.alloc w8 _ = W8 at *
          go_wp2_with fail
          go_ret
          exact ⟨rfl, HE.out.below⟩
        | some x =>
          obtain ⟨g1, g2⟩ := gT_some hg
          obtain ⟨hrx, hby⟩ := getT_sound hg
          rw [g1]
          rw [g2] at hV
          clear hg g1 g2
          obtain ⟨Cn, en, Co, eo, rfl, hn, ho⟩ := hV.parts
          have HX := Lib.hid (TrV.mk hn ho)
          clear hV hn ho
          go_upto_region 12 with fail
          have HD := Lib.hid (TBox.new w8 x (.slice Cn x.needs.length en) (.slice Co x.outs.length eo))
          have HE := Lib.hid (HE.out.alloc (.cells #[.string (strB x.job), .slice Cn x.needs.length en, .slice Co x.outs.length eo] 26))
          generalize World.alloc w8 _ = W8 at *
          generalize w8.heap.size = xb at HD ⊢
          have x0 := HD.out.c0
          have x1 := HD.out.c1
          have x2 := HD.out.c2
          go_wp2_with fail
          refine (put_calls HE.out.inv HX.out (right_S hrx) hrx).mono ?_
          rw [hby]
          rintro e w9 ⟨rfl, hb⟩
          have HE := Lib.hid (HE.out.step hb)
          have hq8 : ((strB s).toList == (strB s).toList) = true := by simp
          go_wp2_with fail
          go_ret
          exact ⟨rfl, HE.out.below⟩
    | false =>
      go_wp2_with fail
      refine (put_bad_calls HE.out.inv HW.out hSu hru).mono ?_
      rintro e w3 ⟨rfl, hb⟩
      have HE := Lib.hid (HE.out.step hb)
      have HB := Lib.hid (HB.out.below hb)
      have HC := Lib.hid (HC.out.below hb)
      clear hb n0 n1 n2 m0 m1 m2
      have n0 := HB.out.c0
      have n1 := HB.out.c1
      have n2 := HB.out.c2
      have m0 := HC.out.c0
      have m1 := HC.out.c1
      have m2 := HC.out.c2
      go_wp2_with fail
      refine (Get_calls HE.out.inv (bytesT t) HBL).mono ?_
      rintro e w5 ⟨v5, J5, rfl, hE, hV⟩
      obtain ⟨g1, g2⟩ := gT_some (getT_bytes hr)
      rw [g1]
      rw [g2] at hV
      clear g1 g2
      obtain ⟨Cn, en, Co, eo, rfl, hn, ho⟩ := hV.parts
      have HX := Lib.hid (TrV.mk hn ho)
      have HV := Lib.hid (HV.out.mono (hE.le HE.out.inv))
      have HW := Lib.hid (HW.out.mono (hE.le HE.out.inv))
      have HB := Lib.hid (HB.out.ext hE)
      have HC := Lib.hid (HC.out.ext hE)
      have HE := Lib.hid (HE.out.trans hE)
      clear hE hV hn ho n0 n1 n2 m0 m1 m2
      go_upto_region 7 with fail
      have hx := (Ext.refl HE.out.inv).alloc (.cells #[.string (strB t.job), .slice Cn t.needs.length en, .slice Co t.outs.length eo] 26)
      have HD := Lib.hid (TBox.new w5 t (.slice Cn t.needs.length en) (.slice Co t.outs.length eo))
      have HB := Lib.hid (HB.out.ext hx)
      have HC := Lib.hid (HC.out.ext hx)
      have HE := Lib.hid (HE.out.trans hx)
      clear hx
      generalize World.alloc w5 _ = W5 at *
      generalize w5.heap.size = xb at HD ⊢
      have x0 := HD.out.c0
      have x1 := HD.out.c1
      have x2 := HD.out.c2
      have n0 := HB.out.c0
      have n1 := HB.out.c1
      have n2 := HB.out.c2
      have m0 := HC.out.c0
      have m1 := HC.out.c1
      have m2 := HC.out.c2
      go_wp2_with fail
      refine (same_calls HE.out.inv HX.out HV.out).mono ?_
      rw [decide_eq_true (rfl : t = t)]
      rintro e w6 ⟨rfl, hb⟩
      clear x0 x1 x2
      have HE := Lib.hid (HE.out.step hb)
      have HB := Lib.hid (HB.out.below hb)
      have HC := Lib.hid (HC.out.below hb)
      clear hb n0 n1 n2 m0 m1 m2
      have n0 := HB.out.c0
      have n1 := HB.out.c1
      have n2 := HB.out.c2
      have m0 := HC.out.c0
      have m1 := HC.out.c1
      have m2 := HC.out.c2
      go_wp2_with fail
      refine (Get_calls HE.out.inv s hs).mono ?_
      rintro e w8 ⟨v8, J8, rfl, hE, hV⟩
      have HE := Lib.hid (HE.out.trans hE)
      clear hE n0 n1 n2 m0 m1 m2
      cases hg : getT s with
      | none =>
        obtain ⟨g1, g2⟩ := gT_none hg
        rw [g1]
        clear hg g1 g2
        obtain ⟨Cn, en, Co, eo, rfl, hn, ho⟩ := hV.parts
        clear hV hn ho
        go_upto_region 12 with fail
        have HE := Lib.hid (HE.out.alloc (.cells #[.string (strB (gT s).job), .slice Cn (gT s).needs.length en, .slice Co (gT s).outs.length eo] 26))
        generalize World.alloc w8 _ = W8 at *
        go_wp2_with fail
        go_ret
        exact ⟨rfl, HE.out.below⟩
      | some x =>
        obtain ⟨g1, g2⟩ := gT_some hg
        obtain ⟨hrx, hby⟩ := getT_sound hg
        rw [g1]
        rw [g2] at hV
        clear hg g1 g2
        obtain ⟨Cn, en, Co, eo, rfl, hn, ho⟩ := hV.parts
        have HX := Lib.hid (TrV.mk hn ho)
        clear hV hn ho
        go_upto_region 12 with fail
        have HD := Lib.hid (TBox.new w8 x (.slice Cn x.needs.length en) (.slice Co x.outs.length eo))
        have HE := Lib.hid (HE.out.alloc (.cells #[.string (strB x.job), .slice Cn x.needs.length en, .slice Co x.outs.length eo] 26))
        generalize World.alloc w8 _ = W8 at *
        generalize w8.heap.size = xb at HD ⊢
        have x0 := HD.out.c0
        have x1 := HD.out.c1
        have x2 := HD.out.c2
        go_wp2_with fail
        refine (put_calls HE.out.inv HX.out (right_S hrx) hrx).mono ?_
        rw [hby]
        rintro e w9 ⟨rfl, hb⟩
        have HE := Lib.hid (HE.out.step hb)
        have hq8 : ((strB s).toList == (strB s).toList) = true := by simp
        go_wp2_with fail
        go_ret
        exact ⟨rfl, HE.out.below⟩
  | false =>
    go_wp2_with fail
    refine (put_bad_calls HE.out.inv HV.out hS hr).mono ?_
    rintro e w2 ⟨rfl, hb⟩
    have HE := Lib.hid (HE.out.step hb)
    have HB := Lib.hid (HB.out.below hb)
    have HC := Lib.hid (HC.out.below hb)
    clear hb n0 n1 n2 m0 m1 m2
    have n0 := HB.out.c0
    have n1 := HB.out.c1
    have n2 := HB.out.c2
    have m0 := HC.out.c0
    have m1 := HC.out.c1
    have m2 := HC.out.c2
    cases hru : rightT u with
    | true =>
      go_wp2_with fail
      refine (put_calls HE.out.inv HW.out hSu hru).mono ?_
      rintro e w3 ⟨rfl, hb⟩
      have HE := Lib.hid (HE.out.step hb)
      have HB := Lib.hid (HB.out.below hb)
      have HC := Lib.hid (HC.out.below hb)
      clear hb n0 n1 n2 m0 m1 m2
      have n0 := HB.out.c0
      have n1 := HB.out.c1
      have n2 := HB.out.c2
      have m0 := HC.out.c0
      have m1 := HC.out.c1
      have m2 := HC.out.c2
      go_wp2_with fail
      refine (Get_calls HE.out.inv s hs).mono ?_
      rintro e w8 ⟨v8, J8, rfl, hE, hV⟩
      have HE := Lib.hid (HE.out.trans hE)
      clear hE n0 n1 n2 m0 m1 m2
      cases hg : getT s with
      | none =>
        obtain ⟨g1, g2⟩ := gT_none hg
        rw [g1]
        clear hg g1 g2
        obtain ⟨Cn, en, Co, eo, rfl, hn, ho⟩ := hV.parts
        clear hV hn ho
        go_upto_region 12 with fail
        have HE := Lib.hid (HE.out.alloc (.cells #[.string (strB (gT s).job), .slice Cn (gT s).needs.length en, .slice Co (gT s).outs.length eo] 26))
        generalize World.alloc w8 _ = W8 at *
        go_wp2_with fail
        go_ret
        exact ⟨rfl, HE.out.below⟩
      | some x =>
        obtain ⟨g1, g2⟩ := gT_some hg
        obtain ⟨hrx, hby⟩ := getT_sound hg
        rw [g1]
        rw [g2] at hV
        clear hg g1 g2
        obtain ⟨Cn, en, Co, eo, rfl, hn, ho⟩ := hV.parts
        have HX := Lib.hid (TrV.mk hn ho)
        clear hV hn ho
        go_upto_region 12 with fail
        have HD := Lib.hid (TBox.new w8 x (.slice Cn x.needs.length en) (.slice Co x.outs.length eo))
        have HE := Lib.hid (HE.out.alloc (.cells #[.string (strB x.job), .slice Cn x.needs.length en, .slice Co x.outs.length eo] 26))
        generalize World.alloc w8 _ = W8 at *
        generalize w8.heap.size = xb at HD ⊢
        have x0 := HD.out.c0
        have x1 := HD.out.c1
        have x2 := HD.out.c2
        go_wp2_with fail
        refine (put_calls HE.out.inv HX.out (right_S hrx) hrx).mono ?_
        rw [hby]
        rintro e w9 ⟨rfl, hb⟩
        have HE := Lib.hid (HE.out.step hb)
        have hq8 : ((strB s).toList == (strB s).toList) = true := by simp
        go_wp2_with fail
        go_ret
        exact ⟨rfl, HE.out.below⟩
    | false =>
      go_wp2_with fail
      refine (put_bad_calls HE.out.inv HW.out hSu hru).mono ?_
      rintro e w3 ⟨rfl, hb⟩
      have HE := Lib.hid (HE.out.step hb)
      have HB := Lib.hid (HB.out.below hb)
      have HC := Lib.hid (HC.out.below hb)
      clear hb n0 n1 n2 m0 m1 m2
      have n0 := HB.out.c0
      have n1 := HB.out.c1
      have n2 := HB.out.c2
      have m0 := HC.out.c0
      have m1 := HC.out.c1
      have m2 := HC.out.c2
      go_wp2_with fail
      refine (Get_calls HE.out.inv s hs).mono ?_
      rintro e w8 ⟨v8, J8, rfl, hE, hV⟩
      have HE := Lib.hid (HE.out.trans hE)
      clear hE n0 n1 n2 m0 m1 m2
      cases hg : getT s with
      | none =>
        obtain ⟨g1, g2⟩ := gT_none hg
        rw [g1]
        clear hg g1 g2
        obtain ⟨Cn, en, Co, eo, rfl, hn, ho⟩ := hV.parts
        clear hV hn ho
        go_upto_region 12 with fail
        have HE := Lib.hid (HE.out.alloc (.cells #[.string (strB (gT s).job), .slice Cn (gT s).needs.length en, .slice Co (gT s).outs.length eo] 26))
        generalize World.alloc w8 _ = W8 at *
        go_wp2_with fail
        go_ret
        exact ⟨rfl, HE.out.below⟩
      | some x =>
        obtain ⟨g1, g2⟩ := gT_some hg
        obtain ⟨hrx, hby⟩ := getT_sound hg
        rw [g1]
        rw [g2] at hV
        clear hg g1 g2
        obtain ⟨Cn, en, Co, eo, rfl, hn, ho⟩ := hV.parts
        have HX := Lib.hid (TrV.mk hn ho)
        clear hV hn ho
        go_upto_region 12 with fail
        have HD := Lib.hid (TBox.new w8 x (.slice Cn x.needs.length en) (.slice Co x.outs.length eo))
        have HE := Lib.hid (HE.out.alloc (.cells #[.string (strB x.job), .slice Cn x.needs.length en, .slice Co x.outs.length eo] 26))
        generalize World.alloc w8 _ = W8 at *
        generalize w8.heap.size = xb at HD ⊢
        have x0 := HD.out.c0
        have x1 := HD.out.c1
        have x2 := HD.out.c2
        go_wp2_with fail
        refine (put_calls HE.out.inv HX.out (right_S hrx) hrx).mono ?_
        rw [hby]
        rintro e w9 ⟨rfl, hb⟩
        have HE := Lib.hid (HE.out.step hb)
        have hq8 : ((strB s).toList == (strB s).toList) = true := by simp
        go_wp2_with fail
        go_ret
        exact ⟨rfl, HE.out.below⟩
end Go.Proofs.Ytldicbhjmjjfbaa
