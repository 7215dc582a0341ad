/- works of the statements of package record. -/
import Derived.Test.YtldicbhjmjjfbaaRecCopy
import Derived.Test.YtldicbhjmjjfbaaRecPut
import Derived.Test.YtldicbhjmjjfbaaRecGet
import Derived.Test.YtldicbhjmjjfbaaRecSame
import Derived.Test.YtldicbhjmjjfbaaRecHold2
import Derived.Deep.RegionHeld3
namespace Go.Proofs.Ytldicbhjmjjfbaa
open Go.RowKit
set_option linter.unusedVariables false

theorem Mw.toExt {Z : Nat → Prop} {J J1 : Jm} {w w1 : World} (h : Mw Z J w J1 w1) (hz : ∀ b, ¬ Z b) : Ext J w J1 w1 :=
  ⟨⟨h.os, h.tape, h.output, h.size, fun k hk => h.block k hk (hz k)⟩, h.inv, fun b hb => h.old b hb (hz b)⟩
/-- a closure that writes nothing -/
def Sless (P : Jm → World → Prop) : Nat → (Nat → Prop) → Jm → World → Prop := fun _ Z J w => Inv J w ∧ (∀ b, ¬ Z b) ∧ P J w
theorem clo_of {n : Nat} {path : Nat → List UInt8} {F : List UInt8 → List UInt8 × Bool} {f : Nat} {cap : Array Value} {P : Jm → World → Prop}
    (he : ∀ args w, (callFunc f args).run Try.prog w = .ok (.enter f args) w) (hext : ∀ {J w J' w'}, P J w → Inv J w → Ext J w J' w' → P J' w')
    (h : ∀ k J w, k < n → Inv J w → P J w → Calls Try.prog f (#[.string (strB (path k))] ++ cap) w fun e w' => e = .returned (.tuple #[.string (strB (F (path k)).1), .bool (F (path k)).2]) ∧ Below w.heap.size w w') :
    Clo n path F f cap (Sless P) := by
  refine ⟨he, fun h => h.1, fun h hb => absurd hb (h.2.1 _), fun h e => ⟨e.inv, h.2.1, hext h.2.2 h.1 e⟩, fun k Z J w hk hs => ?_⟩
  refine (h k J w hk hs.1 hs.2.2).mono ?_
  rintro e w' ⟨rfl, hb⟩
  have hE := Ext.of_below hs.1 hb
  exact ⟨Z, J, rfl, ⟨hE.inv, hs.2.1, hext hs.2.2 hs.1 hE⟩, hE.mw hs.1 Z, fun b _ hz => hz⟩
def wkF : List UInt8 → List UInt8 × Bool := fun p => ([120], decide (p = [97]))
set_option maxHeartbeats 2000000 in
theorem wk_calls (p : List UInt8) (w : World) :
    Calls Try.prog 27 #[.string (strB p)] w fun e w' => e = .returned (.tuple #[.string (strB (wkF p).1), .bool (wkF p).2]) ∧ w' = w := by
  have q1 := strB_is p [97]
  have HF := Lib.hid (show wkF p = ([120], decide (p = [97])) from rfl)
  go_enter Try.func27, Try.ntmps27
  cases hd : decide (p = [97]) with
  | true =>
    rw [hd] at q1 HF
    go_wp2_with fail
    go_ret2
    rw [HF.out]
    exact ⟨rfl, rfl⟩
  | false =>
    rw [hd] at q1 HF
    go_wp2_with fail
    go_ret2
    rw [HF.out]
    exact ⟨rfl, rfl⟩
def exB : List UInt8 := [1, 1, 106, 2, 1, 97, 1, 1, 120, 1, 98, 0, 1, 1, 111]
theorem exT_right : rightT exT = true := by kernel_rfl
theorem exT_bytes : bytesT exT = exB := by kernel_rfl
theorem exT_get : gE exB = 0 ∧ gT exB = exT := gT_some (by rw [← exT_bytes]; exact getT_bytes exT_right)
theorem exT_S : TrS exT := by
  refine ⟨by decide, fun n hn => ?_, fun s hs => ?_, by decide, by decide⟩
  · simp only [exT, List.mem_cons, List.not_mem_nil, or_false] at hn
    rcases hn with rfl | rfl <;> decide
  · simp only [exT, List.mem_cons, List.not_mem_nil, or_false] at hs
    subst hs; decide
theorem exT_holds : holdsT exT [106] wkF = (1, false) := by decide
theorem wk_clo (n : Nat) (path : Nat → List UInt8) : Clo n path wkF 27 #[] (Sless fun _ _ => True) :=
  clo_of (enters_of Try.func27 (by kernel_rfl) rfl) (fun _ _ _ => trivial) (fun k J w _ hI _ => (wk_calls (path k) w).mono (by rintro e w' ⟨rfl, rfl⟩; exact ⟨rfl, Below.refl _ _⟩))
set_option maxRecDepth 100000 in
set_option maxHeartbeats 8000000 in
theorem works_calls {J : Jm} {w : World} (hI : Inv J w) :
    Calls Try.prog 9 #[] w fun e w' => e = .returned (.bool true) ∧ Below w.heap.size w w' := by
  go_enter Try.func9, Try.ntmps9
  go_wp2_with fail
  refine (example_calls hI).mono ?_
  rintro e w1 ⟨v1, J1, rfl, hE, hV⟩
  have HE := Lib.hid hE
  go_wp2_with fail
  refine (put_calls HE.out.inv hV exT_S exT_right).mono ?_
  rw [exT_bytes]
  rintro e w2 ⟨rfl, hb⟩
  have HE := Lib.hid (HE.out.step hb)
  clear hE hV hb
  go_wp2_with fail
  refine (Get_calls HE.out.inv exB (by decide)).mono ?_
  rintro e w3 ⟨v3, J3, rfl, hE, hV⟩
  rw [exT_get.1]
  rw [exT_get.2] at hV
  obtain ⟨An, cn, Ao, co, rfl, hn, ho⟩ := hV.parts
  have HV := Lib.hid (TrV.mk hn ho)
  have HE := Lib.hid (HE.out.trans hE)
  clear hE hn ho hV
  go_upto_region 3 with fail
  have HB := Lib.hid (TBox.new w3 exT (.slice An exT.needs.length cn) (.slice Ao exT.outs.length co))
  have HE := Lib.hid (HE.out.alloc (.cells #[.string (strB exT.job), .slice An exT.needs.length cn, .slice Ao exT.outs.length co] 26))
  generalize World.alloc w3 _ = W3 at *
  generalize w3.heap.size = tb at HB ⊢
  go_wp2_with fail
  refine (example_calls HE.out.inv).mono ?_
  rintro e w4 ⟨v4, J4, rfl, hE, hV⟩
  have HV := Lib.hid (HV.out.mono (hE.le HE.out.inv))
  have HB := Lib.hid (HB.out.ext hE)
  have HE := Lib.hid (HE.out.trans hE)
  have hV4 := hV
  clear hE hV
  go_wp2_with fail
  refine (holds_calls HE.out.inv hV4 exT_S [106] (wk_clo _ _) (Z := fun _ => False) ⟨HE.out.inv, fun _ h => h, trivial⟩).mono ?_
  rw [exT_holds]
  rintro e w5 ⟨Z5, J5, rfl, hs, hM, -⟩
  have hE := hM.toExt (fun _ h => h)
  have HV := Lib.hid (HV.out.mono (hE.le HE.out.inv))
  have HB := Lib.hid (HB.out.ext hE)
  have HE := Lib.hid (HE.out.trans hE)
  clear hE hM hs hV4
  go_upto_region 4 with fail
  have n0 : w5.drew.cell? ⟨tb, 0, none⟩ = some (.string (strB exT.job)) := HB.out.c0
  have n1 : w5.drew.cell? ⟨tb, 1, none⟩ = some (.slice An exT.needs.length cn) := HB.out.c1
  have n2 : w5.drew.cell? ⟨tb, 2, none⟩ = some (.slice Ao exT.outs.length co) := HB.out.c2
  have HE0 := Lib.hid HE.out.drew
  have HB0 := Lib.hid (show TBox w5.drew tb _ _ _ from HB.out)
  have hq : ((strB exB).toList == [1, 1, 106, 2, 1, 97, 1, 1, 120, 1, 98, 0, 1, 1, 111]) = true := by rw [strB_toList]; rfl
  go_region_held3 (fun w' => w'.cell? ⟨tb, 0, none⟩ = some (.string (strB exT.job)) ∧ w'.cell? ⟨tb, 1, none⟩ = some (.slice An exT.needs.length cn) ∧ w'.cell? ⟨tb, 2, none⟩ = some (.slice Ao exT.outs.length co))
    (first | go_keep | exact HQ1.out | exact HQ2.out)
    (first
      | (go_at_call 20; refine (example_calls HE0.out.inv).mono ?_; rintro e w6 ⟨v6, J6, rfl, hE6, hV6⟩; have HV6 := Lib.hid hV6; have HVV := Lib.hid (HV.out.mono (hE6.le HE0.out.inv)); have HB6 := Lib.hid (HB0.out.ext hE6); have HE6 := Lib.hid (HE0.out.trans hE6); clear hE6 hV6; have HQ1 : Hid (w6.cell? ⟨tb, 0, none⟩ = some (.string (strB exT.job)) ∧ w6.cell? ⟨tb, 1, none⟩ = some (.slice An exT.needs.length cn) ∧ w6.cell? ⟨tb, 2, none⟩ = some (.slice Ao exT.outs.length co)) := ⟨HB6.out.c0, HB6.out.c1, HB6.out.c2⟩)
      | (go_at_call 11; refine (refSame_calls HE6.out.inv HVV.out HV6.out).mono ?_; rw [decide_eq_true (rfl : exT = exT)]; rintro e w7 ⟨rfl, hb7⟩; have HE7 := Lib.hid (HE6.out.step hb7); have HB7 := Lib.hid (HB6.out.below hb7); clear hb7; have HQ2 : Hid (w7.cell? ⟨tb, 0, none⟩ = some (.string (strB exT.job)) ∧ w7.cell? ⟨tb, 1, none⟩ = some (.slice An exT.needs.length cn) ∧ w7.cell? ⟨tb, 2, none⟩ = some (.slice Ao exT.outs.length co)) := ⟨HB7.out.c0, HB7.out.c1, HB7.out.c2⟩))
  go_wp2_with fail
  go_ret
  exact ⟨rfl, HE7.out.below⟩
end Go.Proofs.Ytldicbhjmjjfbaa
