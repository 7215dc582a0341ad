/- slices.Clone of needs; the walks of copied and of example. -/
import Derived.Test.YtldicbhjmjjfbaaRecGetM
import Derived.Test.YtldicbhjmjjfbaaLStrClone
import Derived.WalkSpells
import Derived.Deep.RegionHeld3
namespace Go.Proofs.Ytldicbhjmjjfbaa
open Go.RowKit
set_option linter.unusedVariables false

set_option maxHeartbeats 1000000 in
theorem needClone_calls {J : Jm} {w : World} (hI : Inv J w) {v : Value} {l : List Nee} (hb : Ns J v l) (hl : l.length ≤ 3518437208883) :
    Calls Try.prog 40 #[v] w fun e w' => ∃ v' J', e = .returned v' ∧ Ext J w J' w' ∧ Own J' w' w.heap.size 38 3 v' l.length (ndC l) ∧ (v' = .slice none 0 0 ↔ v = .slice none 0 0) := by
  obtain ⟨A, c, rfl, hn, hm⟩ := hb.form
  have hm' := hm
  unfold maxLen at hm'
  cases A with
  | none =>
    have h0 : c = 0 := by obtain ⟨_, A, c', hv, _, _, h0, _⟩ := hb; cases hv; exact h0 rfl
    subst h0
    have hl0 : l = [] := List.eq_nil_of_length_eq_zero (by omega)
    subst hl0
    have hq := fun (W : World) => Lib.run_eql_slice_nil (P := Try.prog) W 23 38 none 0 0 0 0 Try.underlying23
    go_enter Try.func40, Try.ntmps40
    go_wp2
    go_ret
    exact ⟨_, J, rfl, Ext.refl hI, Own.nil _ _ _ _ _, by simp⟩
  | some a =>
    have hq := fun (W : World) => Lib.run_eql_slice_nil (P := Try.prog) W 23 38 (some a) l.length c 0 0 Try.underlying23
    go_enter Try.func40, Try.ntmps40
    go_wp2_with (first | (at_builtin; go_must (refine wpList_append_J (J := J) (s := .tmp 5) (x := .tmp 6) (t := 23) (e := 38) (base := w.heap.size) (v := .slice (some ⟨w.heap.size, 0, none⟩) 0 0) (n := 0) (xs := []) rfl (.agg #[.string ByteArray.empty, .bool false, .string ByteArray.empty]) 3 40 rfl Try.underlying23 info_need rfl rfl (hI.alloc _) (Own.made hI _ _ 3 #[] 0 (Nat.le_refl _) (by decide) rfl) rfl hb (ndC_one l) (by simp only [maxLen]; omega) (by omega) (by simp) ?_; intro v' w' J' ho hg hv')))
    go_ret
    have hE : Ext J w J' w' := ((Ext.refl hI).alloc _).grew (Own.made hI _ _ 3 #[] 0 (Nat.le_refl _) (by decide) rfl) hg
    refine ⟨v', J', rfl, hE, ?_, ?_⟩
    · simpa using ho
    · rw [hv']; simp
theorem bodyPost_copied {R : Ending → World → Prop} {tmps : Array Value} {w : World} {b : Nat} {t : Trc} {vn vo : Value} (h : TBox w b t vn vo)
    (h2 : tmps[2]?.getD undef = .pointer (some ⟨b, 0, none⟩)) (hR : R (.returned (.agg #[.string (strB t.job), vn, vo])) w) : bodyPost Try.prog Try.f18 R .ret ⟨tmps, []⟩ w := by
  have n0 := h.c0
  have n1 := h.c1
  have n2 := h.c2
  refine ⟨rfl, _, ?_, hR⟩
  simp [results, Try.results18, go_sem, n0, n1, n2, h2]
theorem bodyPost_example {R : Ending → World → Prop} {tmps : Array Value} {w : World} {b : Nat} {t : Trc} {vn vo : Value} (h : TBox w b t vn vo)
    (h2 : tmps[0]?.getD undef = .pointer (some ⟨b, 0, none⟩)) (hR : R (.returned (.agg #[.string (strB t.job), vn, vo])) w) : bodyPost Try.prog Try.f20 R .ret ⟨tmps, []⟩ w := by
  have n0 := h.c0
  have n1 := h.c1
  have n2 := h.c2
  refine ⟨rfl, _, ?_, hR⟩
  simp [results, Try.results20, go_sem, n0, n1, n2, h2]
theorem two_tz (w : World) (a : Trc) (vn vo : Value) :
    TBox ((w.alloc (.cells #[.string (strB a.job), vn, vo] 26)).alloc (.cells #[.string ⟨#[]⟩, .slice none 0 0, .slice none 0 0] 26)) w.heap.size a vn vo ∧
    TBox ((w.alloc (.cells #[.string (strB a.job), vn, vo] 26)).alloc (.cells #[.string ⟨#[]⟩, .slice none 0 0, .slice none 0 0] 26)) (w.heap.size + 1) zT (.slice none 0 0) (.slice none 0 0) := by
  refine ⟨(Below.heap_alloc _ _ w.heap.size (by simp)).trans (heap_alloc_new w _), ?_⟩
  have h := heap_alloc_new (w.alloc (.cells #[.string (strB a.job), vn, vo] 26)) (.cells #[.string ⟨#[]⟩, .slice none 0 0, .slice none 0 0] 26)
  rw [show (w.alloc (.cells #[.string (strB a.job), vn, vo] 26)).heap.size = w.heap.size + 1 by simp] at h
  exact h
set_option maxRecDepth 100000 in
set_option maxHeartbeats 8000000 in
theorem copied_calls {J : Jm} {w : World} (hI : Inv J w) {v : Value} {t : Trc} (ht : TrV J v t) (h1 : t.needs.length ≤ 3518437208883) (h2 : t.outs.length ≤ 8796093022208) :
    Calls Try.prog 18 #[v] w fun e w' => ∃ vt J', e = .returned vt ∧ Ext J w J' w' ∧ TrV J' vt t := by
  obtain ⟨vn, vo, rfl, hn, ho⟩ := ht
  obtain ⟨An, cn, rfl, hnc, hnm⟩ := hn.form
  obtain ⟨Ao, co, rfl, hoc, hom⟩ := ho.form
  unfold maxLen at hnm hom
  have HNs := Lib.hid hn
  have HOs := Lib.hid ho
  clear hn ho
  obtain ⟨t1, t2⟩ := two_tz w t (.slice An t.needs.length cn) (.slice Ao t.outs.length co)
  go_enter Try.func18, Try.ntmps18
  go_upto_region 1 with fail
  have HE0 := Lib.hid (((Ext.refl hI).alloc (.cells #[.string (strB t.job), .slice An t.needs.length cn, .slice Ao t.outs.length co] 26)).alloc (.cells #[.string ⟨#[]⟩, .slice none 0 0, .slice none 0 0] 26))
  have HNA := Lib.hid t1
  have HNB := Lib.hid t2
  clear t1 t2
  obtain ⟨nb, hnb⟩ : ∃ b, b = w.heap.size := ⟨_, rfl⟩
  obtain ⟨tb, htb⟩ : ∃ b, b = w.heap.size + 1 := ⟨_, rfl⟩
  have HTB := Lib.hid (show w.heap.size ≤ tb ∧ J tb = [] ∧ nb ≠ tb from ⟨by omega, hI.nil (by omega), by omega⟩)
  have hne : nb ≠ tb := HTB.out.2.2
  have hne2 : tb ≠ nb := fun h => hne h.symm
  rw [← htb] at HNB ⊢
  rw [← hnb] at HNA ⊢
  clear hnb htb
  generalize World.alloc (World.alloc w _) _ = W at *
  have n0 : W.drew.cell? ⟨nb, 0, none⟩ = some (.string (strB t.job)) := HNA.out.c0
  have n1 : W.drew.cell? ⟨nb, 1, none⟩ = some (.slice An t.needs.length cn) := HNA.out.c1
  have n2 : W.drew.cell? ⟨nb, 2, none⟩ = some (.slice Ao t.outs.length co) := HNA.out.c2
  have HE0 := Lib.hid HE0.out.drew
  have HNA := Lib.hid (show TBox W.drew nb _ _ _ from HNA.out)
  have HNB := Lib.hid (show TBox W.drew tb _ _ _ from HNB.out)
  go_region_held3 (fun w' => w'.cell? ⟨nb, 0, none⟩ = some (.string (strB t.job)) ∧ w'.cell? ⟨nb, 1, none⟩ = some (.slice An t.needs.length cn) ∧ w'.cell? ⟨nb, 2, none⟩ = some (.slice Ao t.outs.length co))
    (first | go_keep | exact HQ1.out | exact HQ2.out)
    (first
      | (go_at_call 40; refine (needClone_calls HE0.out.inv (HNs.out.mono (HE0.out.le hI)) h1).mono ?_; rintro e w5 ⟨v5, J5, rfl, hE5, hO5, -⟩; obtain ⟨A5, c5, rfl, -, -⟩ := hO5.sl.form; have HS5 := Lib.hid hO5.sl; have HJ5 := Lib.hid (show J5 tb = [] from (hE5.old tb HNB.out.lt).trans HTB.out.2.1); have HE5 := Lib.hid (HE0.out.trans hE5); have HA5 := Lib.hid (HNA.out.ext hE5); have HB5 := Lib.hid (HNB.out.ext hE5); clear hE5 hO5; have HQ1 : Hid (w5.cell? ⟨nb, 0, none⟩ = some (.string (strB t.job)) ∧ w5.cell? ⟨nb, 1, none⟩ = some (.slice An t.needs.length cn) ∧ w5.cell? ⟨nb, 2, none⟩ = some (.slice Ao t.outs.length co)) := ⟨HA5.out.c0, HA5.out.c1, HA5.out.c2⟩)
      | (go_at_call 41; refine (strclone_calls HE5.out.inv (HOs.out.mono (HE5.out.le hI)) h2).mono ?_; rintro e w6 ⟨v6, J6, rfl, hE6, hO6, -⟩; obtain ⟨A6, c6, rfl, -, -⟩ := hO6.sl.form; have HJ6 := Lib.hid (show J6 tb = [] from (hE6.old tb HB5.out.lt).trans HJ5.out); have HS6 := Lib.hid (HS5.out.mono (hE6.le HE5.out.inv)); have HE6 := Lib.hid (HE5.out.trans hE6); have HO6 := Lib.hid hO6.sl; have HA6 := Lib.hid (HA5.out.ext hE6); have HB6 := Lib.hid (HB5.out.ext hE6); clear hE6 hO6; have HQ2 : Hid (w6.cell? ⟨nb, 0, none⟩ = some (.string (strB t.job)) ∧ w6.cell? ⟨nb, 1, none⟩ = some (.slice An t.needs.length cn) ∧ w6.cell? ⟨nb, 2, none⟩ = some (.slice Ao t.outs.length co)) := ⟨HA6.out.c0, HA6.out.c1, HA6.out.c2⟩; have t0 := HB6.out.c0; have t1 := HB6.out.c1; have t2 := HB6.out.c2; have tf0 := frozen_of_row _ tb 0 _ _ HB6.out; have tf1 := frozen_of_row _ tb 1 _ _ HB6.out; have tf2 := frozen_of_row _ tb 2 _ _ HB6.out))
  go_wp2_with fail
  exact bodyPost_copied (put3_tr HB6.out t _ _) rfl ⟨_, J6, rfl, put3_ext HE6.out HTB.out.1 HJ6.out _ _ _, _, _, rfl, HS6.out, HO6.out⟩
/-- the document's trace -/
def exT : Trc := ⟨[106], [⟨[97], true, [120]⟩, ⟨[98], false, []⟩], [[111]]⟩
set_option maxHeartbeats 4000000 in
theorem example_calls {J : Jm} {w : World} (hI : Inv J w) :
    Calls Try.prog 20 #[] w fun e w' => ∃ v J', e = .returned v ∧ Ext J w J' w' ∧ TrV J' v exT := by
  have hX0 := (Ext.refl hI).alloc (.cells #[.string ⟨#[]⟩, .slice none 0 0, .slice none 0 0] 26)
  have hZ : TBox (w.alloc (.cells #[.string ⟨#[]⟩, .slice none 0 0, .slice none 0 0] 26)) w.heap.size zT (.slice none 0 0) (.slice none 0 0) := TBox.new w zT _ _
  go_enter Try.func20, Try.ntmps20
  go_upto_region 1 with fail
  have HX0 := Lib.hid hX0
  have HZ := Lib.hid hZ
  have HJZ := Lib.hid (hI.nil (Nat.le_refl w.heap.size))
  have HZL := Lib.hid (Nat.le_refl w.heap.size)
  clear hX0 hZ
  generalize World.alloc w _ = W at *
  obtain ⟨tb, htb⟩ : ∃ b, b = w.heap.size := ⟨_, rfl⟩
  rw [← htb] at HZ HJZ ⊢
  have HZL : Hid (w.heap.size ≤ tb) := Nat.le_of_eq htb.symm
  clear htb
  have hE1 := (Ext.refl HX0.out.inv).litV 38 (ndC exT.needs)
  have hE2 := (Ext.refl hE1.inv).litV 9 (scs exT.outs)
  have hN : Ns (J.put W.heap.size (ndC exT.needs)) (.slice (some ⟨W.heap.size, 0, none⟩) 2 2) exT.needs := Sl.of_block J rfl (by decide)
  have hs1 : (W.alloc (.cells (ndC exT.needs).toArray 38)).heap.size = W.heap.size + 1 := by simp
  have hO : Ss ((J.put W.heap.size (ndC exT.needs)).put (W.alloc (.cells (ndC exT.needs).toArray 38)).heap.size (scs exT.outs)) (.slice (some ⟨W.heap.size + 1, 0, none⟩) 1 1) exT.outs := by
    rw [hs1]; exact Sl.of_block _ rfl (by decide)
  have hN2 := hN.mono (hE2.le hE1.inv)
  have hE := hE1.trans hE2
  have HB := Lib.hid (HZ.out.ext hE)
  have HJ := Lib.hid ((hE.old tb HZ.out.lt).trans HJZ.out)
  have HE := Lib.hid (HX0.out.trans hE)
  have HN := Lib.hid hN2
  have HO := Lib.hid hO
  clear hE1 hE2 hN hO hN2 hE hs1
  generalize (J.put W.heap.size (ndC exT.needs)).put (W.alloc (.cells (ndC exT.needs).toArray 38)).heap.size (scs exT.outs) = J2 at *
  have HB : Hid (TBox ((W.alloc (.cells #[.string ⟨#[97]⟩, .bool true, .string ⟨#[120]⟩, .string ⟨#[98]⟩, .bool false, .string ⟨#[]⟩] 38)).alloc (.cells #[.string ⟨#[111]⟩] 9)) tb zT (.slice none 0 0) (.slice none 0 0)) := HB.out
  have HE : Hid (Ext J w J2 ((W.alloc (.cells #[.string ⟨#[97]⟩, .bool true, .string ⟨#[120]⟩, .string ⟨#[98]⟩, .bool false, .string ⟨#[]⟩] 38)).alloc (.cells #[.string ⟨#[111]⟩] 9))) := HE.out
  have t0 := HB.out.c0
  have t1 := HB.out.c1
  have t2 := HB.out.c2
  have tf0 := frozen_of_row _ tb 0 _ _ HB.out
  have tf1 := frozen_of_row _ tb 1 _ _ HB.out
  have tf2 := frozen_of_row _ tb 2 _ _ HB.out
  go_wp2_with fail
  exact bodyPost_example (put3_tr HB.out exT _ _) rfl ⟨_, rfl, J2, put3_ext HE.out HZL.out HJ.out _ _ _, _, _, rfl, HN.out, HO.out⟩
end Go.Proofs.Ytldicbhjmjjfbaa
