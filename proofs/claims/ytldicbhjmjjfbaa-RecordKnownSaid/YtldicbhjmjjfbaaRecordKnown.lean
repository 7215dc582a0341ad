/- The statement RecordKnown: its walk. -/
import Derived.Test.YtldicbhjmjjfbaaRecordPuts
import Derived.Deep.RegionHeld3
namespace Go.Proofs.Ytldicbhjmjjfbaa
open Go.RowKit
set_option linter.unusedVariables false

/-- the document's trace, its needs in a block that may still be written -/
def ExO (J : Jm) (w : World) (e : Ending) (w' : World) : Prop :=
  ∃ nb vo J', e = .returned (.agg #[.string (strB exT.job), .slice (some ⟨nb, 0, none⟩) 2 2, vo]) ∧ Ext J w J' w' ∧ w.heap.size ≤ nb ∧ w'.heap[nb]? = some (.cells (ndC exT.needs).toArray 38 (0, 0)) ∧ J' nb = [] ∧ Ss J' vo exT.outs ∧ ∃ A c, vo = .slice A 1 c
set_option maxHeartbeats 4000000 in
theorem exampleO_calls {J : Jm} {w : World} (hI : Inv J w) :
    Calls Try.prog 20 #[] w fun e w' => ExO J w e w' := by
  have hX0 := (Ext.refl hI).alloc (.cells #[.string ⟨#[]⟩, .slice none 0 0, .slice none 0 0] 26)
  have hZ : TBox (w.alloc (.cells #[.string ⟨#[]⟩, .slice none 0 0, .slice none 0 0] 26)) w.heap.size zT (.slice none 0 0) (.slice none 0 0) := TBox.new w zT _ _
  go_enter Try.func20, Try.ntmps20
  go_upto_region 1 with fail
  have HX0 := Lib.hid hX0
  have HZ := Lib.hid hZ
  have HJZ := Lib.hid (hI.nil (Nat.le_refl w.heap.size))
  clear hX0 hZ
  generalize World.alloc w _ = W at *
  obtain ⟨tb, htb⟩ : ∃ b, b = w.heap.size := ⟨_, rfl⟩
  rw [← htb] at HZ HJZ ⊢
  have HZL : Hid (w.heap.size ≤ tb) := Nat.le_of_eq htb.symm
  clear htb
  have hE1 := (Ext.refl HX0.out.inv).alloc (.cells (ndC exT.needs).toArray 38)
  have hE2 := (Ext.refl hE1.inv).litV 9 (scs exT.outs)
  have hs1 : (W.alloc (.cells (ndC exT.needs).toArray 38)).heap.size = W.heap.size + 1 := by simp
  have hO : Ss (J.put (W.alloc (.cells (ndC exT.needs).toArray 38)).heap.size (scs exT.outs)) (.slice (some ⟨W.heap.size + 1, 0, none⟩) 1 1) exT.outs := by
    rw [hs1]; exact Sl.of_block _ rfl (by decide)
  have hE := hE1.trans hE2
  have hNB := (hE2.below.block W.heap.size (by simp)).trans (heap_alloc_new W (.cells (ndC exT.needs).toArray 38))
  have HNJ := Lib.hid ((hE2.old W.heap.size (by simp)).trans (HX0.out.inv.nil (Nat.le_refl _)))
  have HB := Lib.hid (HZ.out.ext hE)
  have HJ := Lib.hid ((hE.old tb HZ.out.lt).trans HJZ.out)
  have HE := Lib.hid (HX0.out.trans hE)
  have HO := Lib.hid hO
  have HNL := Lib.hid (show w.heap.size ≤ W.heap.size ∧ tb < W.heap.size from ⟨HX0.out.below.size, HZ.out.lt⟩)
  clear hE1 hE2 hO hE hs1
  generalize J.put (W.alloc (.cells (ndC exT.needs).toArray 38)).heap.size (scs exT.outs) = J2 at *
  have HB : Hid (TBox ((W.alloc (.cells #[.string ⟨#[97]⟩, .bool true, .string ⟨#[120]⟩, .string ⟨#[98]⟩, .bool false, .string ⟨#[]⟩] 38)).alloc (.cells #[.string ⟨#[111]⟩] 9)) tb zT (.slice none 0 0) (.slice none 0 0)) := HB.out
  have HE : Hid (Ext J w J2 ((W.alloc (.cells #[.string ⟨#[97]⟩, .bool true, .string ⟨#[120]⟩, .string ⟨#[98]⟩, .bool false, .string ⟨#[]⟩] 38)).alloc (.cells #[.string ⟨#[111]⟩] 9))) := HE.out
  have HNB : Hid (((W.alloc (.cells #[.string ⟨#[97]⟩, .bool true, .string ⟨#[120]⟩, .string ⟨#[98]⟩, .bool false, .string ⟨#[]⟩] 38)).alloc (.cells #[.string ⟨#[111]⟩] 9)).heap[W.heap.size]? = _) := hNB
  clear hNB
  have t0 := HB.out.c0
  have t1 := HB.out.c1
  have t2 := HB.out.c2
  have tf0 := frozen_of_row _ tb 0 _ _ HB.out
  have tf1 := frozen_of_row _ tb 1 _ _ HB.out
  have tf2 := frozen_of_row _ tb 2 _ _ HB.out
  go_wp2_with fail
  have hfar : ∀ (w : World) (x y z : Value), (put3 w tb x y z).heap[W.heap.size]? = w.heap[W.heap.size]? := fun w x y z => by
    have h1 := Below.heap_setCell w ⟨tb, 0, none⟩ x W.heap.size (by have := HNL.out.2; show W.heap.size ≠ tb; omega)
    have h2 := Below.heap_setCell (w.setCell ⟨tb, 0, none⟩ x) ⟨tb, 1, none⟩ y W.heap.size (by have := HNL.out.2; show W.heap.size ≠ tb; omega)
    have h3 := Below.heap_setCell ((w.setCell ⟨tb, 0, none⟩ x).setCell ⟨tb, 1, none⟩ y) ⟨tb, 2, none⟩ z W.heap.size (by have := HNL.out.2; show W.heap.size ≠ tb; omega)
    exact h3.trans (h2.trans h1)
  exact bodyPost_example (put3_tr HB.out exT _ _) rfl ⟨W.heap.size, _, J2, rfl, put3_ext HE.out HZL.out HJ.out _ _ _, HNL.out.1, (hfar _ _ _ _).trans HNB.out, HNJ.out, HO.out, _, _, rfl⟩
def knF : List UInt8 → List UInt8 × Bool := fun p => if p = [97] then ([120], true) else ([], false)
set_option maxHeartbeats 2000000 in
theorem kn_calls (p : List UInt8) (w : World) :
    Calls Try.prog 21 #[.string (strB p)] w fun e w' => e = .returned (.tuple #[.string (strB (knF p).1), .bool (knF p).2]) ∧ w' = w := by
  have q1 := strB_is p [97]
  by_cases hp : p = [97]
  · have HF := Lib.hid (show knF p = ([120], true) from if_pos hp)
    rw [decide_eq_true hp] at q1
    clear hp
    go_enter Try.func21, Try.ntmps21
    go_wp2_with fail
    go_ret2
    rw [HF.out]
    exact ⟨rfl, rfl⟩
  · have HF := Lib.hid (show knF p = ([], false) from if_neg hp)
    rw [decide_eq_false hp] at q1
    clear hp
    go_enter Try.func21, Try.ntmps21
    go_wp2_with fail
    go_ret2
    rw [HF.out]
    exact ⟨rfl, rfl⟩
theorem kn_clo (n : Nat) (path : Nat → List UInt8) : Clo n path knF 21 #[] (Sless fun _ _ => True) :=
  clo_of (enters_of Try.func21 (by kernel_rfl) rfl) (fun _ _ _ => trivial) (fun k J w _ hI _ => (kn_calls (path k) w).mono (by rintro e w' ⟨rfl, rfl⟩; exact ⟨rfl, Below.refl _ _⟩))
theorem kn_h1 : holdsT exT [106] knF = (2, true) := by decide
theorem kn_h2 : holdsT exT [107] noF = (0, false) := by decide
theorem kn_h3 : holdsT exT [106] noF = (0, false) := by decide
theorem kn_g1 : getT (exB.take 14) = none := by kernel_rfl
theorem kn_g2 : getT (exB ++ [0]) = none := by kernel_rfl
/-- one path twice; no outs -/
def twT : Trc := ⟨[106], [⟨[97], true, [120]⟩, ⟨[97], false, []⟩], [[111]]⟩
def noT : Trc := ⟨[106], [⟨[97], true, [120]⟩, ⟨[98], false, []⟩], []⟩
theorem tw_right : rightT twT = false := by kernel_rfl
theorem no_right : rightT noT = false := by kernel_rfl
theorem tw_S : TrS twT := by
  refine ⟨by decide, fun n hn => ?_, fun s hs => ?_, by decide, by decide⟩
  · simp only [twT, List.mem_cons, List.not_mem_nil, or_false] at hn
    rcases hn with rfl | rfl <;> decide
  · simp only [twT, List.mem_cons, List.not_mem_nil, or_false] at hs
    subst hs; decide
theorem no_S : TrS noT := by
  refine ⟨by decide, fun n hn => ?_, fun s hs => ?_, by decide, by decide⟩
  · simp only [noT, List.mem_cons, List.not_mem_nil, or_false] at hn
    rcases hn with rfl | rfl <;> decide
  · simp only [noT, List.not_mem_nil] at hs
theorem run_cat (a b : List UInt8) (h : a.length + b.length ≤ 9223372036854775807) (W : World) : (binOp .add 9 (.string (strB a)) (.string (strB b))).run Try.prog W = .ok (.string (strB (a ++ b))) W := by
  have h2 : strB a ++ strB b = strB (a ++ b) := by unfold strB; apply ByteArray.ext; simp
  simp [go_sem, h2, h]
theorem ex_tw : ¬ exT = twT := by decide
theorem exB_len : exB.length = 15 := rfl
set_option maxRecDepth 100000 in
set_option maxHeartbeats 8000000 in
theorem recordKnown_walk {J : Jm} {w : World} (hI : Inv J w) :
    Calls Try.prog 6 #[] w fun e w' => e = .returned (.bool true) ∧ Below w.heap.size w w' := by
  go_enter Try.func6, Try.ntmps6
  go_wp2_with fail
  refine (works_calls hI).mono ?_
  rintro e w1 ⟨rfl, hb⟩
  have HE := Lib.hid (Ext.of_below hI hb)
  clear hb
  go_wp2_with fail
  refine (example_calls HE.out.inv).mono ?_
  rintro e w2 ⟨v2, J2, rfl, hE, hV⟩
  have HE := Lib.hid (HE.out.trans hE)
  clear hE
  go_wp2_with fail
  refine (put_calls HE.out.inv hV exT_S exT_right).mono ?_
  rw [exT_bytes]
  rintro e w3 ⟨rfl, hb⟩
  have HE := Lib.hid (HE.out.step hb)
  clear hb hV
  have hx1 := strB_extr exB 0 14
  have hsz := strB_size exB
  rw [exB_len] at hsz
  have hcat := fun W => run_cat exB [0] (by decide) W
  go_wp2_with fail
  refine (Get_calls HE.out.inv (List.take 14 exB) (by decide)).mono ?_
  rintro e w4 ⟨v4, J4, rfl, hE, hV⟩
  rw [(gT_none kn_g1).1]
  rw [(gT_none kn_g1).2] at hV
  obtain ⟨Cn4, en4, Co4, eo4, rfl, -, -⟩ := hV.parts
  have HE := Lib.hid (HE.out.trans hE)
  clear hE hV
  go_upto_region 5 with fail
  have HE := Lib.hid (HE.out.alloc (.cells #[.string (strB zT.job), .slice Cn4 zT.needs.length en4, .slice Co4 zT.outs.length eo4] 26))
  generalize World.alloc w4 _ = W4 at *
  go_wp2_with fail
  refine (Get_calls HE.out.inv (exB ++ [0]) (by decide)).mono ?_
  rintro e w5 ⟨v5, J5, rfl, hE, hV⟩
  rw [(gT_none kn_g2).1]
  rw [(gT_none kn_g2).2] at hV
  obtain ⟨Cn5, en5, Co5, eo5, rfl, -, -⟩ := hV.parts
  have HE := Lib.hid (HE.out.trans hE)
  clear hE hV
  go_upto_region 6 with fail
  have HE := Lib.hid (HE.out.alloc (.cells #[.string (strB zT.job), .slice Cn5 zT.needs.length en5, .slice Co5 zT.outs.length eo5] 26))
  generalize World.alloc w5 _ = W5 at *
  clear hx1 hsz hcat
  go_wp2_with fail
  have hw5 := HE.out.below.size
  refine (exampleO_calls HE.out.inv).mono ?_
  rintro e w6 ⟨nb, vo6, J6, rfl, hE6, hnb, hN6, hj6, hO6, A6, c6, rfl⟩
  go_wp2_with fail
  refine (example_calls hE6.inv).mono ?_
  rintro e w7 ⟨v7, J7, rfl, hE7, hV7⟩
  obtain ⟨Bn, dn, Bo, dO, rfl, gn, go⟩ := hV7.parts
  go_upto_region 7 with fail
  obtain ⟨t0, t1, t2⟩ := two_tr w7 exT exT (.slice (some ⟨nb, 0, none⟩) 2 2) (.slice A6 1 c6) (.slice Bn exT.needs.length dn) (.slice Bo exT.outs.length dO)
  have hlt6 := (Array.getElem?_eq_some_iff.1 hN6).1
  have hs7 := hE7.below.size
  have hx0 := Ext.of_below hE7.inv t0
  have HN := Lib.hid ((t0.block nb (by omega)).trans ((hE7.below.block nb hlt6).trans hN6))
  have HJN := Lib.hid ((hE7.old nb hlt6).trans hj6)
  have HE := Lib.hid (((HE.out.trans hE6).trans hE7).trans hx0)
  have HO6 := Lib.hid (hO6.mono (hE7.le hE6.inv))
  have HGN := Lib.hid gn
  have HT := Lib.hid t1
  have HU := Lib.hid t2
  have HNL := Lib.hid (show w.heap.size ≤ nb ∧ nb < w7.heap.size ∧ w.heap.size ≤ w7.heap.size + 1 from ⟨by omega, by omega, by omega⟩)
  have HJU := Lib.hid (hE7.inv.nil (show w7.heap.size ≤ w7.heap.size + 1 by omega))
  clear t0 t1 t2 hx0 hE6 hE7 hN6 hj6 hO6 hlt6 hnb hV7 go gn hs7 hw5
  generalize World.alloc (World.alloc w7 _) _ = W7 at *
  have htu : w7.heap.size < w7.heap.size + 1 := by omega
  generalize w7.heap.size + 1 = ub at *
  generalize w7.heap.size = tb at *
  have n1 := HT.out.c1
  have k3 := blk_cell_J HN.out 3 rfl
  have kf := frozen_of_row _ nb 3 _ _ HN.out
  go_upto_region 8 with fail
  have HN := Lib.hid (show (W7.setCell ⟨nb, 3, none⟩ (.string ⟨#[97]⟩)).heap[nb]? = some (.cells (ndC twT.needs).toArray 38 (0, 0)) from blk_set_J HN.out 3 (.string ⟨#[97]⟩))
  have HE := Lib.hid (HE.out.setCell (p := ⟨nb, 3, none⟩) HNL.out.1 HJN.out (.string ⟨#[97]⟩))
  have HT := Lib.hid (show TBox (W7.setCell ⟨nb, 3, none⟩ (.string ⟨#[97]⟩)) tb exT _ _ from (Below.heap_setCell W7 _ _ tb (by have := HNL.out.2.1; show tb ≠ nb; omega)).trans HT.out)
  have HU := Lib.hid (show TBox (W7.setCell ⟨nb, 3, none⟩ (.string ⟨#[97]⟩)) ub exT _ _ from (Below.heap_setCell W7 _ _ ub (by have := HNL.out.2.1; show ub ≠ nb; omega)).trans HU.out)
  clear n1 k3 kf
  generalize World.setCell W7 _ _ = W8 at *
  have u2 := HU.out.c2
  have uf := frozen_of_row _ ub 2 _ _ HU.out
  go_upto_region 9 with fail
  have HN := Lib.hid (show (W8.setCell ⟨ub, 2, none⟩ (.slice none 0 0)).heap[nb]? = _ from (Below.heap_setCell W8 _ _ nb (by have := HNL.out.2.1; show nb ≠ ub; omega)).trans HN.out)
  have HE := Lib.hid (HE.out.setCell (p := ⟨ub, 2, none⟩) HNL.out.2.2 HJU.out (.slice none 0 0))
  have HT := Lib.hid (show TBox (W8.setCell ⟨ub, 2, none⟩ (.slice none 0 0)) tb twT _ _ from (Below.heap_setCell W8 _ _ tb (by show tb ≠ ub; omega)).trans HT.out)
  have HU := Lib.hid (show TBox (W8.setCell ⟨ub, 2, none⟩ (.slice none 0 0)) ub noT (.slice Bn 2 dn) (.slice none 0 0) from blk_set_J HU.out 2 (.slice none 0 0))
  clear u2 uf
  generalize World.setCell W8 _ _ = W9 at *
  have hle : J7.le (J7.put nb (ndC twT.needs)) := Jm.le_put (by rw [HJN.out]; exact List.nil_prefix)
  have HV := Lib.hid (show TrV (J7.put nb (ndC twT.needs)) (.agg #[.string (strB twT.job), .slice (some ⟨nb, 0, none⟩) 2 2, .slice A6 1 c6]) twT from TrV.mk (t := twT) (Sl.of_block J7 rfl (by decide)) (HO6.out.mono hle))
  have HW := Lib.hid (show TrV (J7.put nb (ndC twT.needs)) (.agg #[.string (strB noT.job), .slice Bn 2 dn, .slice none 0 0]) noT from TrV.mk (t := noT) (HGN.out.mono hle) (Sl.nil _ _))
  have HE := Lib.hid (HE.out.put HNL.out.1 HN.out (List.prefix_refl _))
  clear hle HN HJN HO6 HGN HNL HJU htu
  generalize J7.put nb (ndC twT.needs) = J9 at *
  go_wp2_with fail
  refine (example_calls HE.out.inv).mono ?_
  rintro e w9 ⟨v9, J9, rfl, hx, hV⟩
  have HX := Lib.hid hV
  have hle := hx.le HE.out.inv
  clear hV
  have HV := Lib.hid (HV.out.mono hle)
  have HW := Lib.hid (HW.out.mono hle)
  have HT := Lib.hid (HT.out.ext hx)
  have HU := Lib.hid (HU.out.ext hx)
  have HE := Lib.hid (HE.out.trans hx)
  clear hx hle
  go_wp2_with fail
  refine (holds_calls HE.out.inv HX.out exT_S [106] (kn_clo _ _) (Z := fun _ => False) ⟨HE.out.inv, fun _ h => h, trivial⟩).mono ?_
  rw [kn_h1]
  rintro e w10 ⟨Z10, J10, rfl, hs, hM, -⟩
  have hx := hM.toExt (fun _ h => h)
  have hle := hx.le HE.out.inv
  clear hs hM
  have HV := Lib.hid (HV.out.mono hle)
  have HW := Lib.hid (HW.out.mono hle)
  have HT := Lib.hid (HT.out.ext hx)
  have HU := Lib.hid (HU.out.ext hx)
  have HE := Lib.hid (HE.out.trans hx)
  clear hx hle
  go_wp2_with fail
  refine (example_calls HE.out.inv).mono ?_
  rintro e w9 ⟨v9, J9, rfl, hx, hV⟩
  have HX := Lib.hid hV
  have hle := hx.le HE.out.inv
  clear hV
  have HV := Lib.hid (HV.out.mono hle)
  have HW := Lib.hid (HW.out.mono hle)
  have HT := Lib.hid (HT.out.ext hx)
  have HU := Lib.hid (HU.out.ext hx)
  have HE := Lib.hid (HE.out.trans hx)
  clear hx hle
  go_wp2_with fail
  refine (holdsNil_calls HE.out.inv HX.out [107]).mono ?_
  rw [kn_h2]
  rintro e w11 ⟨rfl, hb⟩
  have hx := Ext.of_below HE.out.inv hb
  have hle := hx.le HE.out.inv
  clear hb
  have HV := Lib.hid (HV.out.mono hle)
  have HW := Lib.hid (HW.out.mono hle)
  have HT := Lib.hid (HT.out.ext hx)
  have HU := Lib.hid (HU.out.ext hx)
  have HE := Lib.hid (HE.out.trans hx)
  clear hx hle
  go_wp2_with fail
  refine (example_calls HE.out.inv).mono ?_
  rintro e w9 ⟨v9, J9, rfl, hx, hV⟩
  have HX := Lib.hid hV
  have hle := hx.le HE.out.inv
  clear hV
  have HV := Lib.hid (HV.out.mono hle)
  have HW := Lib.hid (HW.out.mono hle)
  have HT := Lib.hid (HT.out.ext hx)
  have HU := Lib.hid (HU.out.ext hx)
  have HE := Lib.hid (HE.out.trans hx)
  clear hx hle
  go_wp2_with fail
  refine (holdsNil_calls HE.out.inv HX.out [106]).mono ?_
  rw [kn_h3]
  rintro e w12 ⟨rfl, hb⟩
  have hx := Ext.of_below HE.out.inv hb
  have hle := hx.le HE.out.inv
  clear hb
  have HV := Lib.hid (HV.out.mono hle)
  have HW := Lib.hid (HW.out.mono hle)
  have HT := Lib.hid (HT.out.ext hx)
  have HU := Lib.hid (HU.out.ext hx)
  have HE := Lib.hid (HE.out.trans hx)
  clear hx hle
  go_upto_region 12 with fail
  have HE0 := Lib.hid HE.out.drew
  have HT0 := Lib.hid (show TBox w12.drew tb twT _ _ from HT.out)
  have HU0 := Lib.hid (show TBox w12.drew ub noT _ _ from HU.out)
  have HV0 := HV
  have HW0 := HW
  have n0 := HT0.out.c0
  have n1 := HT0.out.c1
  have n2 := HT0.out.c2
  have m0 := HU0.out.c0
  have m1 := HU0.out.c1
  have m2 := HU0.out.c2
  go_region_held3 (fun w' => w'.cell? ⟨tb, 0, none⟩ = some (.string (strB twT.job)) ∧ w'.cell? ⟨tb, 1, none⟩ = some (.slice (some ⟨nb, 0, none⟩) 2 2) ∧ w'.cell? ⟨tb, 2, none⟩ = some (.slice A6 1 c6) ∧ w'.cell? ⟨ub, 0, none⟩ = some (.string (strB noT.job)) ∧ w'.cell? ⟨ub, 1, none⟩ = some (.slice Bn 2 dn) ∧ w'.cell? ⟨ub, 2, none⟩ = some (.slice none 0 0))
    (first | go_keep | exact HQ1.out | exact HQ2.out | exact HQ3.out | exact HQ4.out | exact HQ5.out | exact HQ6.out | exact HQ7.out | exact HQ8.out | exact HQ9.out)
    (first
    | (have mark := HE8; go_at_call 22; refine (same_calls HE8.out.inv HX8.out HV8.out).mono ?_; rw [decide_eq_false ex_tw]; rintro e wk9 ⟨rfl, hb⟩; have hx := Ext.of_below HE8.out.inv hb; have hle := hx.le HE8.out.inv; have HV9 := Lib.hid (HV8.out.mono hle); have HW9 := Lib.hid (HW8.out.mono hle); clear hb hle; have HT9 := Lib.hid (HT8.out.ext hx); have HU9 := Lib.hid (HU8.out.ext hx); have HE9 := Lib.hid (HE8.out.trans hx); clear hx; have HQ9 : Hid (wk9.cell? ⟨tb, 0, none⟩ = some (.string (strB twT.job)) ∧ wk9.cell? ⟨tb, 1, none⟩ = some (.slice (some ⟨nb, 0, none⟩) 2 2) ∧ wk9.cell? ⟨tb, 2, none⟩ = some (.slice A6 1 c6) ∧ wk9.cell? ⟨ub, 0, none⟩ = some (.string (strB noT.job)) ∧ wk9.cell? ⟨ub, 1, none⟩ = some (.slice Bn 2 dn) ∧ wk9.cell? ⟨ub, 2, none⟩ = some (.slice none 0 0)) := ⟨HT9.out.c0, HT9.out.c1, HT9.out.c2, HU9.out.c0, HU9.out.c1, HU9.out.c2⟩)
    | (have mark := HE7; go_at_call 20; refine (example_calls HE7.out.inv).mono ?_; rintro e wk8 ⟨vk8, Jk8, rfl, hx, hVx⟩; have hle := hx.le HE7.out.inv; have HV8 := Lib.hid (HV7.out.mono hle); have HW8 := Lib.hid (HW7.out.mono hle); have HX8 := Lib.hid hVx; clear hle hVx; have HT8 := Lib.hid (HT7.out.ext hx); have HU8 := Lib.hid (HU7.out.ext hx); have HE8 := Lib.hid (HE7.out.trans hx); clear hx; have HQ8 : Hid (wk8.cell? ⟨tb, 0, none⟩ = some (.string (strB twT.job)) ∧ wk8.cell? ⟨tb, 1, none⟩ = some (.slice (some ⟨nb, 0, none⟩) 2 2) ∧ wk8.cell? ⟨tb, 2, none⟩ = some (.slice A6 1 c6) ∧ wk8.cell? ⟨ub, 0, none⟩ = some (.string (strB noT.job)) ∧ wk8.cell? ⟨ub, 1, none⟩ = some (.slice Bn 2 dn) ∧ wk8.cell? ⟨ub, 2, none⟩ = some (.slice none 0 0)) := ⟨HT8.out.c0, HT8.out.c1, HT8.out.c2, HU8.out.c0, HU8.out.c1, HU8.out.c2⟩)
    | (have mark := HE6; go_at_call 22; refine (same_calls HE6.out.inv HX5b.out HX6.out).mono ?_; rw [decide_eq_true (rfl : exT = exT)]; rintro e wk7 ⟨rfl, hb⟩; have hx := Ext.of_below HE6.out.inv hb; have hle := hx.le HE6.out.inv; have HV7 := Lib.hid (HV6.out.mono hle); have HW7 := Lib.hid (HW6.out.mono hle); clear hb hle; have HT7 := Lib.hid (HT6.out.ext hx); have HU7 := Lib.hid (HU6.out.ext hx); have HE7 := Lib.hid (HE6.out.trans hx); clear hx; have HQ7 : Hid (wk7.cell? ⟨tb, 0, none⟩ = some (.string (strB twT.job)) ∧ wk7.cell? ⟨tb, 1, none⟩ = some (.slice (some ⟨nb, 0, none⟩) 2 2) ∧ wk7.cell? ⟨tb, 2, none⟩ = some (.slice A6 1 c6) ∧ wk7.cell? ⟨ub, 0, none⟩ = some (.string (strB noT.job)) ∧ wk7.cell? ⟨ub, 1, none⟩ = some (.slice Bn 2 dn) ∧ wk7.cell? ⟨ub, 2, none⟩ = some (.slice none 0 0)) := ⟨HT7.out.c0, HT7.out.c1, HT7.out.c2, HU7.out.c0, HU7.out.c1, HU7.out.c2⟩)
    | (have mark := HE5; go_at_call 20; refine (example_calls HE5.out.inv).mono ?_; rintro e wk6 ⟨vk6, Jk6, rfl, hx, hVx⟩; have hle := hx.le HE5.out.inv; have HV6 := Lib.hid (HV5.out.mono hle); have HW6 := Lib.hid (HW5.out.mono hle); have HX6 := Lib.hid hVx; have HX5b := Lib.hid (HX5.out.mono hle); clear hle hVx; have HT6 := Lib.hid (HT5.out.ext hx); have HU6 := Lib.hid (HU5.out.ext hx); have HE6 := Lib.hid (HE5.out.trans hx); clear hx; have HQ6 : Hid (wk6.cell? ⟨tb, 0, none⟩ = some (.string (strB twT.job)) ∧ wk6.cell? ⟨tb, 1, none⟩ = some (.slice (some ⟨nb, 0, none⟩) 2 2) ∧ wk6.cell? ⟨tb, 2, none⟩ = some (.slice A6 1 c6) ∧ wk6.cell? ⟨ub, 0, none⟩ = some (.string (strB noT.job)) ∧ wk6.cell? ⟨ub, 1, none⟩ = some (.slice Bn 2 dn) ∧ wk6.cell? ⟨ub, 2, none⟩ = some (.slice none 0 0)) := ⟨HT6.out.c0, HT6.out.c1, HT6.out.c2, HU6.out.c0, HU6.out.c1, HU6.out.c2⟩)
    | (have mark := HE4; go_at_call 20; refine (example_calls HE4.out.inv).mono ?_; rintro e wk5 ⟨vk5, Jk5, rfl, hx, hVx⟩; have hle := hx.le HE4.out.inv; have HV5 := Lib.hid (HV4.out.mono hle); have HW5 := Lib.hid (HW4.out.mono hle); have HX5 := Lib.hid hVx; clear hle hVx; have HT5 := Lib.hid (HT4.out.ext hx); have HU5 := Lib.hid (HU4.out.ext hx); have HE5 := Lib.hid (HE4.out.trans hx); clear hx; have HQ5 : Hid (wk5.cell? ⟨tb, 0, none⟩ = some (.string (strB twT.job)) ∧ wk5.cell? ⟨tb, 1, none⟩ = some (.slice (some ⟨nb, 0, none⟩) 2 2) ∧ wk5.cell? ⟨tb, 2, none⟩ = some (.slice A6 1 c6) ∧ wk5.cell? ⟨ub, 0, none⟩ = some (.string (strB noT.job)) ∧ wk5.cell? ⟨ub, 1, none⟩ = some (.slice Bn 2 dn) ∧ wk5.cell? ⟨ub, 2, none⟩ = some (.slice none 0 0)) := ⟨HT5.out.c0, HT5.out.c1, HT5.out.c2, HU5.out.c0, HU5.out.c1, HU5.out.c2⟩)
    | (have mark := HE3; go_at_call 14; refine (check_calls HE3.out.inv HX3.out exT_S).mono ?_; rw [errT_yes exT_right]; rintro e wk4 ⟨rfl, hb⟩; have hx := Ext.of_below HE3.out.inv hb; have hle := hx.le HE3.out.inv; have HV4 := Lib.hid (HV3.out.mono hle); have HW4 := Lib.hid (HW3.out.mono hle); clear hb hle; have HT4 := Lib.hid (HT3.out.ext hx); have HU4 := Lib.hid (HU3.out.ext hx); have HE4 := Lib.hid (HE3.out.trans hx); clear hx; have HQ4 : Hid (wk4.cell? ⟨tb, 0, none⟩ = some (.string (strB twT.job)) ∧ wk4.cell? ⟨tb, 1, none⟩ = some (.slice (some ⟨nb, 0, none⟩) 2 2) ∧ wk4.cell? ⟨tb, 2, none⟩ = some (.slice A6 1 c6) ∧ wk4.cell? ⟨ub, 0, none⟩ = some (.string (strB noT.job)) ∧ wk4.cell? ⟨ub, 1, none⟩ = some (.slice Bn 2 dn) ∧ wk4.cell? ⟨ub, 2, none⟩ = some (.slice none 0 0)) := ⟨HT4.out.c0, HT4.out.c1, HT4.out.c2, HU4.out.c0, HU4.out.c1, HU4.out.c2⟩)
    | (have mark := HE2; go_at_call 20; refine (example_calls HE2.out.inv).mono ?_; rintro e wk3 ⟨vk3, Jk3, rfl, hx, hVx⟩; have hle := hx.le HE2.out.inv; have HV3 := Lib.hid (HV2.out.mono hle); have HW3 := Lib.hid (HW2.out.mono hle); have HX3 := Lib.hid hVx; clear hle hVx; have HT3 := Lib.hid (HT2.out.ext hx); have HU3 := Lib.hid (HU2.out.ext hx); have HE3 := Lib.hid (HE2.out.trans hx); clear hx; have HQ3 : Hid (wk3.cell? ⟨tb, 0, none⟩ = some (.string (strB twT.job)) ∧ wk3.cell? ⟨tb, 1, none⟩ = some (.slice (some ⟨nb, 0, none⟩) 2 2) ∧ wk3.cell? ⟨tb, 2, none⟩ = some (.slice A6 1 c6) ∧ wk3.cell? ⟨ub, 0, none⟩ = some (.string (strB noT.job)) ∧ wk3.cell? ⟨ub, 1, none⟩ = some (.slice Bn 2 dn) ∧ wk3.cell? ⟨ub, 2, none⟩ = some (.slice none 0 0)) := ⟨HT3.out.c0, HT3.out.c1, HT3.out.c2, HU3.out.c0, HU3.out.c1, HU3.out.c2⟩)
    | (have mark := HE1; go_at_call 14; refine (check_calls HE1.out.inv HW1.out no_S).mono ?_; rw [errT_no no_right]; rintro e wk2 ⟨rfl, hb⟩; have hx := Ext.of_below HE1.out.inv hb; have hle := hx.le HE1.out.inv; have HV2 := Lib.hid (HV1.out.mono hle); have HW2 := Lib.hid (HW1.out.mono hle); clear hb hle; have HT2 := Lib.hid (HT1.out.ext hx); have HU2 := Lib.hid (HU1.out.ext hx); have HE2 := Lib.hid (HE1.out.trans hx); clear hx; have HQ2 : Hid (wk2.cell? ⟨tb, 0, none⟩ = some (.string (strB twT.job)) ∧ wk2.cell? ⟨tb, 1, none⟩ = some (.slice (some ⟨nb, 0, none⟩) 2 2) ∧ wk2.cell? ⟨tb, 2, none⟩ = some (.slice A6 1 c6) ∧ wk2.cell? ⟨ub, 0, none⟩ = some (.string (strB noT.job)) ∧ wk2.cell? ⟨ub, 1, none⟩ = some (.slice Bn 2 dn) ∧ wk2.cell? ⟨ub, 2, none⟩ = some (.slice none 0 0)) := ⟨HT2.out.c0, HT2.out.c1, HT2.out.c2, HU2.out.c0, HU2.out.c1, HU2.out.c2⟩)
    | (have mark := HE0; go_at_call 14; refine (check_calls HE0.out.inv HV0.out tw_S).mono ?_; rw [errT_no tw_right]; rintro e wk1 ⟨rfl, hb⟩; have hx := Ext.of_below HE0.out.inv hb; have hle := hx.le HE0.out.inv; have HV1 := Lib.hid (HV0.out.mono hle); have HW1 := Lib.hid (HW0.out.mono hle); clear hb hle; have HT1 := Lib.hid (HT0.out.ext hx); have HU1 := Lib.hid (HU0.out.ext hx); have HE1 := Lib.hid (HE0.out.trans hx); clear hx; have HQ1 : Hid (wk1.cell? ⟨tb, 0, none⟩ = some (.string (strB twT.job)) ∧ wk1.cell? ⟨tb, 1, none⟩ = some (.slice (some ⟨nb, 0, none⟩) 2 2) ∧ wk1.cell? ⟨tb, 2, none⟩ = some (.slice A6 1 c6) ∧ wk1.cell? ⟨ub, 0, none⟩ = some (.string (strB noT.job)) ∧ wk1.cell? ⟨ub, 1, none⟩ = some (.slice Bn 2 dn) ∧ wk1.cell? ⟨ub, 2, none⟩ = some (.slice none 0 0)) := ⟨HT1.out.c0, HT1.out.c1, HT1.out.c2, HU1.out.c0, HU1.out.c1, HU1.out.c2⟩))
  go_wp2_with fail
  go_ret
  exact ⟨rfl, HE9.out.below⟩
end Go.Proofs.Ytldicbhjmjjfbaa