/- The statement RecordPuts: its walk. -/
import Derived.Test.YtldicbhjmjjfbaaRecordGets
import Derived.Test.YtldicbhjmjjfbaaRecIn
namespace Go.Proofs.Ytldicbhjmjjfbaa
open Go.RowKit
set_option linter.unusedVariables false

set_option maxRecDepth 100000 in
set_option maxHeartbeats 8000000 in
theorem recordPuts_walk {J : Jm} {w : World} (hI : Inv J w) {v : Value} {t : Trc} (ht : TrV J v t) (hS : TrS t) :
    Calls Try.prog 5 #[v] w fun e w' => e = .returned (.bool true) ∧ Below w.heap.size w w' := by
  obtain ⟨An, cn, Ao, co, rfl, hn, ho⟩ := ht.parts
  have HV := Lib.hid (TrV.mk hn ho)
  clear ht hn ho
  have hX := (Ext.refl hI).alloc (.cells #[.string (strB t.job), .slice An t.needs.length cn, .slice Ao t.outs.length co] 26)
  have HB := Lib.hid (TBox.new w t (.slice An t.needs.length cn) (.slice Ao t.outs.length co))
  go_enter Try.func5, Try.ntmps5
  go_wp2_with fail
  refine (works_calls hX.inv).mono ?_
  rintro e w1 ⟨rfl, hb⟩
  have HE := Lib.hid (hX.step hb)
  have HB := Lib.hid (HB.out.below hb)
  clear hb hX
  generalize w.heap.size = tb at HB ⊢
  have n0 := HB.out.c0
  have n1 := HB.out.c1
  have n2 := HB.out.c2
  go_wp2_with fail
  refine (copied_calls HE.out.inv HV.out (by have := hS.nn; omega) (by have := hS.no; omega)).mono ?_
  rintro e w2 ⟨v2, J2, rfl, hE, hV⟩
  obtain ⟨Bn, dn, Bo, dO, rfl, hn, ho⟩ := hV.parts
  have HV := Lib.hid (HV.out.mono (hE.le HE.out.inv))
  have HB := Lib.hid (HB.out.ext hE)
  have HE := Lib.hid (HE.out.trans hE)
  have HW := Lib.hid (TrV.mk hn ho)
  clear hE hV hn ho n0 n1 n2
  go_upto_region 4 with fail
  have hx := (Ext.refl HE.out.inv).alloc (.cells #[.string (strB t.job), .slice Bn t.needs.length dn, .slice Bo t.outs.length dO] 26)
  have HB := Lib.hid (HB.out.ext hx)
  have HC := Lib.hid (TBox.new w2 t (.slice Bn t.needs.length dn) (.slice Bo t.outs.length dO))
  have HE := Lib.hid (HE.out.trans hx)
  clear hx
  generalize World.alloc w2 _ = W at *
  generalize w2.heap.size = cb at HC ⊢
  have n0 := HB.out.c0
  have n1 := HB.out.c1
  have n2 := HB.out.c2
  have m0 := HC.out.c0
  have m1 := HC.out.c1
  have m2 := HC.out.c2
  cases hr : rightT t with
  | true =>
    go_wp2_with fail
    refine (put_calls HE.out.inv HW.out hS hr).mono ?_
    rintro e w3 ⟨rfl, hb⟩
    have HE := Lib.hid (HE.out.step hb)
    have HB := Lib.hid (HB.out.below hb)
    have HC := Lib.hid (HC.out.below hb)
    clear hb n0 n1 n2 m0 m1 m2
    have n0 := HB.out.c0
    have n1 := HB.out.c1
    have n2 := HB.out.c2
    have m0 := HC.out.c0
    have m1 := HC.out.c1
    have m2 := HC.out.c2
    go_wp2_with fail
    refine (refRight_calls HE.out.inv HV.out hS).mono ?_
    rw [hr]
    rintro e w4 ⟨rfl, hb⟩
    have HE := Lib.hid (HE.out.step hb)
    have HB := Lib.hid (HB.out.below hb)
    have HC := Lib.hid (HC.out.below hb)
    clear hb n0 n1 n2 m0 m1 m2
    have n0 := HB.out.c0
    have n1 := HB.out.c1
    have n2 := HB.out.c2
    have m0 := HC.out.c0
    have m1 := HC.out.c1
    have m2 := HC.out.c2
    go_wp2_with fail
    refine (refSame_calls HE.out.inv HW.out HV.out).mono ?_
    rw [decide_eq_true (rfl : t = t)]
    rintro e w5 ⟨rfl, hb⟩
    have HE := Lib.hid (HE.out.step hb)
    have HB := Lib.hid (HB.out.below hb)
    have HC := Lib.hid (HC.out.below hb)
    clear hb n0 n1 n2 m0 m1 m2
    have n0 := HB.out.c0
    have n1 := HB.out.c1
    have n2 := HB.out.c2
    have m0 := HC.out.c0
    have m1 := HC.out.c1
    have m2 := HC.out.c2
    go_wp2_with fail
    refine (check_calls HE.out.inv HW.out hS).mono ?_
    rw [errT_yes hr]
    rintro e w6 ⟨rfl, hb⟩
    have HE := Lib.hid (HE.out.step hb)
    have HB := Lib.hid (HB.out.below hb)
    have HC := Lib.hid (HC.out.below hb)
    clear hb n0 n1 n2 m0 m1 m2
    have n0 := HB.out.c0
    have n1 := HB.out.c1
    have n2 := HB.out.c2
    have m0 := HC.out.c0
    have m1 := HC.out.c1
    have m2 := HC.out.c2
    go_wp2_with fail
    refine (refBytes_calls HE.out.inv HV.out hr).mono ?_
    rintro e w7 ⟨rfl, hb⟩
    have HE := Lib.hid (HE.out.step hb)
    have hq : ((strB (bytesT t)).toList == (strB (bytesT t)).toList) = true := by simp
    go_wp2_with fail
    go_ret
    exact ⟨rfl, HE.out.below⟩
  | false =>
    go_wp2_with fail
    refine (put_bad_calls HE.out.inv HW.out hS hr).mono ?_
    rintro e w3 ⟨rfl, hb⟩
    have HE := Lib.hid (HE.out.step hb)
    have HB := Lib.hid (HB.out.below hb)
    have HC := Lib.hid (HC.out.below hb)
    clear hb n0 n1 n2 m0 m1 m2
    have n0 := HB.out.c0
    have n1 := HB.out.c1
    have n2 := HB.out.c2
    have m0 := HC.out.c0
    have m1 := HC.out.c1
    have m2 := HC.out.c2
    go_wp2_with fail
    refine (refRight_calls HE.out.inv HV.out hS).mono ?_
    rw [hr]
    rintro e w4 ⟨rfl, hb⟩
    have HE := Lib.hid (HE.out.step hb)
    have HB := Lib.hid (HB.out.below hb)
    have HC := Lib.hid (HC.out.below hb)
    clear hb n0 n1 n2 m0 m1 m2
    have n0 := HB.out.c0
    have n1 := HB.out.c1
    have n2 := HB.out.c2
    have m0 := HC.out.c0
    have m1 := HC.out.c1
    have m2 := HC.out.c2
    go_wp2_with fail
    refine (refSame_calls HE.out.inv HW.out HV.out).mono ?_
    rw [decide_eq_true (rfl : t = t)]
    rintro e w5 ⟨rfl, hb⟩
    have HE := Lib.hid (HE.out.step hb)
    have HB := Lib.hid (HB.out.below hb)
    have HC := Lib.hid (HC.out.below hb)
    clear hb n0 n1 n2 m0 m1 m2
    have n0 := HB.out.c0
    have n1 := HB.out.c1
    have n2 := HB.out.c2
    have m0 := HC.out.c0
    have m1 := HC.out.c1
    have m2 := HC.out.c2
    go_wp2_with fail
    refine (check_calls HE.out.inv HW.out hS).mono ?_
    rw [errT_no hr]
    rintro e w6 ⟨rfl, hb⟩
    have HE := Lib.hid (HE.out.step hb)
    have HB := Lib.hid (HB.out.below hb)
    have HC := Lib.hid (HC.out.below hb)
    clear hb n0 n1 n2 m0 m1 m2
    have n0 := HB.out.c0
    have n1 := HB.out.c1
    have n2 := HB.out.c2
    have m0 := HC.out.c0
    have m1 := HC.out.c1
    have m2 := HC.out.c2
    go_wp2_with fail
    refine (check_calls HE.out.inv HW.out hS).mono ?_
    rw [errT_no hr]
    rintro e w7 ⟨rfl, hb⟩
    have HE := Lib.hid (HE.out.step hb)
    have hq := strB_empty []
    rw [decide_eq_true rfl] at hq
    go_wp2_with fail
    go_ret
    exact ⟨rfl, HE.out.below⟩
end Go.Proofs.Ytldicbhjmjjfbaa
