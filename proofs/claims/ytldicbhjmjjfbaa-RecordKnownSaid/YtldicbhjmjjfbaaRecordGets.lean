/- The statement RecordGets: its walk. -/
import Derived.Test.YtldicbhjmjjfbaaRecWorks
import Derived.Test.YtldicbhjmjjfbaaRecRight
namespace Go.Proofs.Ytldicbhjmjjfbaa
open Go.RowKit
set_option linter.unusedVariables false

theorem right_S {t : Trc} (h : rightT t = true) : TrS t := by
  obtain ⟨h1, h2, h3, h4, h5, h6⟩ := right_parts h
  exact ⟨by omega, fun n hn => by have := okNee_path (h5 n hn); omega, fun s hs => by have := h6 s hs; omega, by omega, by omega⟩
set_option maxRecDepth 100000 in
set_option maxHeartbeats 4000000 in
theorem recordGets_walk {J : Jm} {w : World} (hI : Inv J w) (s : ByteArray) (hs : s.size ≤ 140737488351232) :
    Calls Try.prog 3 #[.string s] w fun e w' => e = .returned (.bool true) ∧ Below w.heap.size w w' := by
  obtain ⟨l, rfl⟩ : ∃ l, s = strB l := ⟨s.data.toList, (strB_of s).symm⟩
  rw [strB_size] at hs
  go_enter Try.func3, Try.ntmps3
  go_wp2_with fail
  refine (works_calls hI).mono ?_
  rintro e w1 ⟨rfl, hb⟩
  have HE := Lib.hid (Ext.of_below hI hb)
  clear hb
  go_wp2_with fail
  refine (Get_calls HE.out.inv l hs).mono ?_
  rintro e w2 ⟨v2, J2, rfl, hE, hV⟩
  have HE := Lib.hid (HE.out.trans hE)
  clear hE
  cases hg : getT l with
  | none =>
    obtain ⟨g1, g2⟩ := gT_none hg
    rw [g1]
    rw [g2] at hV
    clear hg g1 g2
    obtain ⟨An, cn, Ao, co, rfl, hn, ho⟩ := hV.parts
    have HV := Lib.hid (TrV.mk hn ho)
    clear hV hn ho
    go_upto_region 4 with fail
    have HB := Lib.hid (TBox.new w2 zT (.slice An zT.needs.length cn) (.slice Ao zT.outs.length co))
    have HE := Lib.hid (HE.out.alloc (.cells #[.string (strB zT.job), .slice An zT.needs.length cn, .slice Ao zT.outs.length co] 26))
    generalize World.alloc w2 _ = W at *
    generalize w2.heap.size = tb at HB ⊢
    have n0 := HB.out.c0
    have n1 := HB.out.c1
    have n2 := HB.out.c2
    go_wp2_with fail
    refine (refSame_calls HE.out.inv HV.out (zeroT_V J2)).mono ?_
    rw [decide_eq_true (rfl : zT = ⟨[], [], []⟩)]
    rintro e w3 ⟨rfl, hb⟩
    have HE := Lib.hid (HE.out.step hb)
    go_wp2_with fail
    go_ret
    exact ⟨rfl, HE.out.below⟩
  | some t =>
    obtain ⟨g1, g2⟩ := gT_some hg
    obtain ⟨hr, hby⟩ := getT_sound hg
    rw [g1]
    rw [g2] at hV
    clear hg g1 g2
    obtain ⟨An, cn, Ao, co, rfl, hn, ho⟩ := hV.parts
    have HV := Lib.hid (TrV.mk hn ho)
    clear hV hn ho
    go_upto_region 4 with fail
    have HB := Lib.hid (TBox.new w2 t (.slice An t.needs.length cn) (.slice Ao t.outs.length co))
    have HE := Lib.hid (HE.out.alloc (.cells #[.string (strB t.job), .slice An t.needs.length cn, .slice Ao t.outs.length co] 26))
    generalize World.alloc w2 _ = W at *
    generalize w2.heap.size = tb at HB ⊢
    have n0 := HB.out.c0
    have n1 := HB.out.c1
    have n2 := HB.out.c2
    go_wp2_with fail
    refine (refRight_calls HE.out.inv HV.out (right_S hr)).mono ?_
    rw [hr]
    rintro e w3 ⟨rfl, hb⟩
    have HE := Lib.hid (HE.out.step hb)
    have HB := Lib.hid (HB.out.below hb)
    clear hb n0 n1 n2
    have n0 := HB.out.c0
    have n1 := HB.out.c1
    have n2 := HB.out.c2
    go_wp2_with fail
    refine (refBytes_calls HE.out.inv HV.out hr).mono ?_
    rw [hby]
    rintro e w4 ⟨rfl, hb⟩
    have HE := Lib.hid (HE.out.step hb)
    have hq : ((strB l).toList == (strB l).toList) = true := by simp
    go_wp2_with fail
    go_ret
    exact ⟨rfl, HE.out.below⟩
end Go.Proofs.Ytldicbhjmjjfbaa
