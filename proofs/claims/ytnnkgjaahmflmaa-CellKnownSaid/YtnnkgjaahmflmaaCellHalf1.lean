/- What stands between two halves: the greater of their sizes. -/
import Derived.Test.YtnnkgjaahmflmaaCellRCut
namespace Go.Proofs.Ytnnkgjaahmflmaa
open Go.RowKit
set_option linter.unusedVariables false

theorem two_boxes {J : Jm} {w : World} (hI : Inv J w) (c1 c2 : Array Value) (T : TypeId) : Ext J w J ((w.alloc (.cells c1 T)).alloc (.cells c2 T)) ∧ ((w.alloc (.cells c1 T)).alloc (.cells c2 T)).heap[w.heap.size]? = some (.cells c1 T) ∧ ((w.alloc (.cells c1 T)).alloc (.cells c2 T)).heap[w.heap.size + 1]? = some (.cells c2 T) := by
  have hX1 := (Ext.refl hI).alloc (.cells c1 T)
  have hX2 := (Ext.refl hX1.inv).alloc (.cells c2 T)
  refine ⟨hX1.trans hX2, ?_, ?_⟩
  · rw [hX2.below.block _ (by simp)]; exact heap_alloc_new w _
  · have h := heap_alloc_new (w.alloc (.cells c1 T)) (.cells c2 T)
    rw [show (w.alloc (.cells c1 T)).heap.size = w.heap.size + 1 by simp] at h
    exact h
/-- what the operations of 'max(len(form(a)), len(form(b)))' yield -/
def szP (fa fb : Nat) (va vb : Value) : Nat → Value → Prop
  | 0, x => x = va
  | 1, x => ∃ A c, x = .slice A fa c
  | 2, x => x = .int .i64 fa
  | 3, x => x = vb
  | 4, x => ∃ A c, x = .slice A fb c
  | 5, x => x = .int .i64 fb
  | 6, x => x = .int .i64 (if (fb : Int) > fa then fb else fa)
  | _, _ => True
theorem max_if (a b : Nat) : (if (b : Int) > a then (b : Int) else a) = ((max a b : Nat) : Int) := by split <;> omega
theorem cut_len {n : Nd} {i : Nat} (hl : n.items.length ≤ 1048576) : (cutA n i).items.length ≤ 1048576 ∧ (cutB n i).items.length ≤ 1048576 := by
  unfold cutA cutB
  split <;> simp only [List.length_take, List.length_drop] <;> omega
theorem right_inner {n : Nd} (hr : right n = true) (hlf : n.leaf = false) : n.kids.length = n.items.length + 1 := by
  unfold right okKids at hr
  rw [hlf] at hr
  simp only [Bool.false_eq_true, if_false, Bool.and_eq_true, decide_eq_true_eq] at hr
  exact hr.2.1.2
theorem cut_ok {n : Nd} {i : Nat} (hr : right n = true) (h2 : i < lastN n) : i ≤ n.items.length ∧ (n.leaf = false → i + 1 ≤ n.items.length ∧ n.kids.length = n.items.length + 1) := by
  unfold lastN at h2
  refine ⟨by split at h2 <;> omega, fun h => ⟨?_, right_inner hr h⟩⟩
  rw [h] at h2
  simp only [Bool.false_eq_true, if_false] at h2
  omega
set_option maxRecDepth 100000 in
set_option maxHeartbeats 8000000 in
theorem great_calls {J : Jm} {w : World} (hI : Inv J w) {nb : Nat} {n : Nd} (hN : Nb J w nb n) (hr : right n = true) (i : Nat) (h1 : 1 ≤ i) (h2 : i < lastN n) (hl : n.items.length ≤ 1048576) :
    Calls Try.prog 50 #[.int .i64 i, .pointer (some ⟨nb, 0, none⟩)] w fun e w' => e = .returned (.int .i64 (szN n i)) ∧ Below w.heap.size w w' := by
  obtain ⟨Ai, ci, Ak, ck, hbx, hnv⟩ := hN
  have n0 := blk_cell_J hbx 0 rfl
  have n1 := blk_cell_J hbx 1 rfl
  have n2 := blk_cell_J hbx 2 rfl
  have HV := Lib.hid hnv
  obtain ⟨hra, hrb⟩ := right_cut hr h1 h2
  obtain ⟨hla, hlb⟩ := cut_len (i := i) hl
  have HCO := Lib.hid (cut_ok hr h2)
  have HR := Lib.hid (And.intro (And.intro hra hla) (And.intro hrb hlb))
  have HSZ := Lib.hid (show szN n i = max (form (cutA n i)).length (form (cutB n i)).length from rfl)
  clear hnv hbx hr hra hrb hla hlb h1 h2
  go_enter Try.func50, Try.ntmps50
  go_wp2_with fail
  refine (cutR_calls hI HV.out i HCO.out.1 hl HCO.out.2).mono ?_
  rintro e w1 ⟨va, vb, J1, rfl, hE1, hA, hB⟩
  have HA := Lib.hid hA
  have HB := Lib.hid hB
  obtain ⟨Aa, ca, Ka, da, rfl, -⟩ := hA.v.form
  obtain ⟨Ab, cb, Kb, db, rfl, -⟩ := hB.v.form
  clear hA hB n0 n1 n2
  go_upto_region 2 with fail
  generalize hfa : (form (cutA n i)).length = fa at HSZ
  have HFA := Lib.hid hfa
  generalize hfb : (form (cutB n i)).length = fb at HSZ
  have HFB := Lib.hid hfb
  clear hfa hfb
  have HE1 := Lib.hid hE1
  have HVA := Lib.hid (And.intro HA.out.v HR.out.1)
  have HVB := Lib.hid (And.intro HB.out.v HR.out.2)
  have hX := two_boxes hE1.inv #[.bool (cutA n i).leaf, .slice Aa (cutA n i).items.length ca, .slice Ka (cutA n i).kids.length da] #[.bool (cutB n i).leaf, .slice Ab (cutB n i).items.length cb, .slice Kb (cutB n i).kids.length db] 25
  have HBX := Lib.hid (show NBox _ w1.heap.size (cutA n i).leaf (.slice Aa (cutA n i).items.length ca) (.slice Ka (cutA n i).kids.length da) ∧ NBox _ (w1.heap.size + 1) (cutB n i).leaf (.slice Ab (cutB n i).items.length cb) (.slice Kb (cutB n i).kids.length db) from hX.2)
  have HX := Lib.hid (And.intro hX.1 trivial)
  clear hE1 hX
  generalize World.alloc (World.alloc w1 _) _ = W at *
  generalize hbb : w1.heap.size + 1 = bb at *
  generalize hab : w1.heap.size = ab at *
  refine wp_region_pool2 7 (RC J1 W (szP fa fb (.agg #[.bool (cutA n i).leaf, .slice Aa (cutA n i).items.length ca, .slice Ka (cutA n i).kids.length da]) (.agg #[.bool (cutB n i).leaf, .slice Ab (cutB n i).items.length cb, .slice Kb (cutB n i).kids.length db]))) (by kernel_rfl) (by kernel_rfl) (fun _ => undef) (RC.start HX.out.1.inv) ?_ ?_
  · intro q o hk ho L v w' F hc hL hw hout hdp
    have qa : F.tmps.getD 4 undef = .pointer (some ⟨ab, 0, none⟩) := hout 4 (by kernel_rfl)
    have qb : F.tmps.getD 5 undef = .pointer (some ⟨bb, 0, none⟩) := hout 5 (by kernel_rfl)
    have hkk : q = 0 ∨ q = 1 ∨ q = 2 ∨ q = 3 ∨ q = 4 ∨ q = 5 ∨ q = 6 := by omega
    rcases hkk with rfl | rfl | rfl | rfl | rfl | rfl | rfl
    · cases ho
      obtain ⟨J9, hE9⟩ := hc.ext
      have n0 := blk_cell_J ((HBX.out.1).ext hE9) 0 rfl
      have n1 := blk_cell_J ((HBX.out.1).ext hE9) 1 rfl
      have n2 := blk_cell_J ((HBX.out.1).ext hE9) 2 rfl
      refine wp_value (x := _) (w' := w') ?_ ⟨_, rfl, hc.put rfl hc.ext⟩
      clear hw hout hdp hc hE9
      unfold execOp
      simp only [Act.eval, qa]
      go_simp
    · cases ho
      have e12 := (hdp 0 12 (by kernel_rfl) (hw 0 (by kernel_rfl))).trans (hc.rd 0 (hw 0 (by kernel_rfl)))
      obtain ⟨J9, hE9⟩ := hc.ext
      have hcl := formC hE9.inv (HVA.out.1.mono (hE9.le HX.out.1.inv)) HVA.out.2.1 HVA.out.2.2
      have HCC := Lib.hid hc
      clear hw hout hdp hc
      unfold Oper.wp execOp
      go_simp
      refine hcl.mono ?_
      rintro e5 w5 ⟨v5, J5, rfl, hE5, hO5⟩
      obtain ⟨A5, c5, rfl, -, -⟩ := hO5.sl.form
      exact ⟨_, rfl, HCC.out.put ⟨A5, c5, by rw [HFA.out]⟩ ⟨J5, hE9.trans hE5⟩⟩
    · cases ho
      obtain ⟨A5, c5, h5⟩ := hc.rd 1 (hw 1 (by kernel_rfl))
      have e13 := (hdp 1 13 (by kernel_rfl) (hw 1 (by kernel_rfl))).trans h5
      refine wp_value (x := _) (w' := w') ?_ ⟨_, rfl, hc.put rfl hc.ext⟩
      clear hw hout hdp hc
      unfold execOp
      go_simp
    · cases ho
      obtain ⟨J9, hE9⟩ := hc.ext
      have n0 := blk_cell_J ((HBX.out.2).ext hE9) 0 rfl
      have n1 := blk_cell_J ((HBX.out.2).ext hE9) 1 rfl
      have n2 := blk_cell_J ((HBX.out.2).ext hE9) 2 rfl
      refine wp_value (x := _) (w' := w') ?_ ⟨_, rfl, hc.put rfl hc.ext⟩
      clear hw hout hdp hc hE9
      unfold execOp
      simp only [Act.eval, qb]
      go_simp
    · cases ho
      have e15 := (hdp 3 15 (by kernel_rfl) (hw 3 (by kernel_rfl))).trans (hc.rd 3 (hw 3 (by kernel_rfl)))
      obtain ⟨J9, hE9⟩ := hc.ext
      have hcl := formC hE9.inv (HVB.out.1.mono (hE9.le HX.out.1.inv)) HVB.out.2.1 HVB.out.2.2
      have HCC := Lib.hid hc
      clear hw hout hdp hc
      unfold Oper.wp execOp
      go_simp
      refine hcl.mono ?_
      rintro e5 w5 ⟨v5, J5, rfl, hE5, hO5⟩
      obtain ⟨A5, c5, rfl, -, -⟩ := hO5.sl.form
      exact ⟨_, rfl, HCC.out.put ⟨A5, c5, by rw [HFB.out]⟩ ⟨J5, hE9.trans hE5⟩⟩
    · cases ho
      obtain ⟨A5, c5, h5⟩ := hc.rd 4 (hw 4 (by kernel_rfl))
      have e16 := (hdp 4 16 (by kernel_rfl) (hw 4 (by kernel_rfl))).trans h5
      refine wp_value (x := _) (w' := w') ?_ ⟨_, rfl, hc.put rfl hc.ext⟩
      clear hw hout hdp hc
      unfold execOp
      go_simp
    · cases ho
      have e14 := (hdp 2 14 (by kernel_rfl) (hw 2 (by kernel_rfl))).trans (hc.rd 2 (hw 2 (by kernel_rfl)))
      have e17 := (hdp 5 17 (by kernel_rfl) (hw 5 (by kernel_rfl))).trans (hc.rd 5 (hw 5 (by kernel_rfl)))
      refine wp_value (x := _) (w' := w') ?_ ⟨_, rfl, hc.put rfl hc.ext⟩
      clear hw hout hdp hc
      unfold execOp
      go_simp
  · intro L v w' F hall hc hF hFd hout hdp
    have e18 := (hdp 6 18 (by kernel_rfl)).trans (hc.rd 6 (hall 6 (by omega)))
    obtain ⟨J9, hE9⟩ := hc.ext
    have psz : F.tmps.size = 19 := by rw [hF, fill_size]; rfl
    have pd : F.defers = [] := hFd
    simp only [List.drop_succ_cons, List.drop_zero]
    refine wpList_value (x := .int .i64 (if (fb : Int) > fa then fb else fa)) (w' := w') rfl (by unfold execOp; simp only [Act.eval, e18]; go_simp) ?_
    refine wpList_nil ?_
    change Exit.then _ _ .normal (F.put (some 3) _) _
    go_step
    go_step
    go_step
    refine ⟨pd, _, ?_, by rw [HSZ.out, ← max_if], (HE1.out.trans (HX.out.1.trans hE9)).below⟩
    simp [results, Try.results50, go_sem, psz]
end Go.Proofs.Ytnnkgjaahmflmaa
