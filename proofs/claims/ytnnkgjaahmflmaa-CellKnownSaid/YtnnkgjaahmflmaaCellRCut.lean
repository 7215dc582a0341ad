/- The walk of the document's cut. -/
import Derived.Test.YtnnkgjaahmflmaaCellRS
namespace Go.Proofs.Ytnnkgjaahmflmaa
open Go.RowKit
set_option linter.unusedVariables false

def cstL (nb : Nat) (Ai Ak S : Option Addr) (len kl ci ck i k0 sl sc : Nat) : Nat → Option Value
  | 0 => some (.pointer (some ⟨nb, 1, none⟩))
  | 1 => some (.slice Ai len ci)
  | 2 => some (.int .i64 i)
  | 3 => some (.slice Ai i ci)
  | 4 => some (.agg #[.bool true, .slice Ai i ci, .slice none 0 0])
  | 5 => some (.pointer (some ⟨nb, 1, none⟩))
  | 6 => some (.slice Ai len ci)
  | 7 => some (.int .i64 i)
  | 8 => some (.slice S (sl) (sc))
  | 9 => some (.agg #[.bool true, .slice S (sl) (sc), .slice none 0 0])
  | _ => none
def cstI (nb : Nat) (Ai Ak S : Option Addr) (len kl ci ck i k0 sl sc : Nat) : Nat → Option Value
  | 0 => some (.pointer (some ⟨nb, 1, none⟩))
  | 1 => some (.slice Ai len ci)
  | 2 => some (.int .i64 i)
  | 3 => some (.slice Ai i ci)
  | 4 => some (.pointer (some ⟨nb, 2, none⟩))
  | 5 => some (.slice Ak kl ck)
  | 6 => some (.int .i64 i)
  | 7 => some (.int .i64 k0)
  | 8 => some (.slice Ak k0 ck)
  | 9 => some (.agg #[.bool false, .slice Ai i ci, .slice Ak k0 ck])
  | 10 => some (.pointer (some ⟨nb, 1, none⟩))
  | 11 => some (.slice Ai len ci)
  | 12 => some (.int .i64 i)
  | 13 => some (.int .i64 k0)
  | 14 => some (.slice S (sl) (sc))
  | 15 => some (.pointer (some ⟨nb, 2, none⟩))
  | 16 => some (.slice Ak kl ck)
  | 17 => some (.int .i64 i)
  | 18 => some (.int .i64 k0)
  | 19 => some (.slice (Ak.map (·.add k0)) (kl - k0) (ck - k0))
  | 20 => some (.agg #[.bool false, .slice S (sl) (sc), .slice (Ak.map (·.add k0)) (kl - k0) (ck - k0)])
  | _ => none
theorem bodyPost_rcut {R : Ending → World → Prop} {F : Act} {w : World} {b4 b5 : Nat} {l l' : Bool} {vi vk vi' vk' : Value} (hd : F.defers = []) (h : NBox w b4 l vi vk) (h' : NBox w b5 l' vi' vk')
    (h4 : F.tmps.getD 4 undef = .pointer (some ⟨b4, 0, none⟩)) (h5 : F.tmps.getD 5 undef = .pointer (some ⟨b5, 0, none⟩)) (hR : R (.returned (.tuple #[.agg #[.bool l, vi, vk], .agg #[.bool l', vi', vk']])) w) : bodyPost Try.prog Try.f52 R .ret F w := by
  have n0 := blk_cell_J h 0 rfl
  have n1 := blk_cell_J h 1 rfl
  have n2 := blk_cell_J h 2 rfl
  have m0 := blk_cell_J h' 0 rfl
  have m1 := blk_cell_J h' 1 rfl
  have m2 := blk_cell_J h' 2 rfl
  rw [Array.getD_eq_getD_getElem?] at h4 h5
  obtain ⟨tmps, defers⟩ := F
  simp only at hd h4 h5
  subst hd
  refine ⟨rfl, _, ?_, hR⟩
  simp [results, Try.results52, go_sem, n0, n1, n2, m0, m1, m2, h4, h5]
set_option maxRecDepth 100000 in
set_option maxHeartbeats 8000000 in
theorem refCut_calls {J : Jm} {w : World} (hI : Inv J w) {v : Value} {n : Nd} (hn : NdV J v n) (i : Nat) (hi : i ≤ n.items.length) (hl : n.items.length ≤ 1048576) (hik : n.leaf = false → i + 1 ≤ n.items.length ∧ n.kids.length = n.items.length + 1) :
    Calls Try.prog 52 #[v, .int .i64 i] w fun e w' => ∃ va vb, e = .returned (.tuple #[va, vb]) ∧ Ext J w J w' ∧ NdV J va (cutA n i) ∧ NdV J vb (cutB n i) := by
  obtain ⟨vi, vk, rfl, hci, hck⟩ := hn
  obtain ⟨Ai, ci, rfl, hni, hmi⟩ := hci.form
  obtain ⟨Ak, ck, rfl, hnk, hmk⟩ := hck.form
  unfold maxLen at hmi hmk
  have HTO := Lib.hid (show Cls J (.slice Ai i ci) (n.items.take i) from by
    have h := Sl.to hci hi
    rw [← clC_take] at h
    have hlt : (n.items.take i).length = i := by rw [List.length_take]; omega
    show Sl J 4 _ (n.items.take i).length _
    rw [hlt]; exact h)
  have i0 : (0 : Int) ≤ (i : Int) := by omega
  have i1 : (i : Int) ≤ n.items.length := by omega
  have i2 : (i : Int) ≤ ci := by omega
  have HCI := Lib.hid hci
  have HCK := Lib.hid hck
  have HIK := Lib.hid hik
  have HIL := Lib.hid (And.intro hi hl)
  clear hci hck hik hl
  go_enter Try.func52, Try.ntmps52
  go_upto_region 1 with fail
  have HEa := Lib.hid (((Ext.refl hI).alloc (.cells #[.bool n.leaf, .slice Ai n.items.length ci, .slice Ak n.kids.length ck] 25)))
  have HNa := Lib.hid (show NBox (w.alloc (.cells #[.bool n.leaf, .slice Ai n.items.length ci, .slice Ak n.kids.length ck] 25)) w.heap.size n.leaf (.slice Ai n.items.length ci) (.slice Ak n.kids.length ck) from heap_alloc_new w _)
  have hs1 : (w.alloc (.cells #[.bool n.leaf, .slice Ai n.items.length ci, .slice Ak n.kids.length ck] 25)).heap.size = w.heap.size + 1 := by simp
  have hs2 : ((w.alloc (.cells #[.bool n.leaf, .slice Ai n.items.length ci, .slice Ak n.kids.length ck] 25)).alloc (.cells #[.bool false, .slice none 0 0, .slice none 0 0] 25)).heap.size = w.heap.size + 1 + 1 := by simp
  have HX1 := (Ext.refl HEa.out.inv).alloc (.cells #[.bool false, .slice none 0 0, .slice none 0 0] 25)
  have HX2 := (Ext.refl HX1.inv).alloc (.cells #[.bool false, .slice none 0 0, .slice none 0 0] 25)
  have F4a := ((Fr.new (J0 := J) (B := w.heap.size) HEa.out.inv HEa.out.below.size false (.slice none 0 0) (.slice none 0 0)).ext HX2)
  have F5a := (Fr.new (J0 := J) (B := w.heap.size) HX1.inv (Nat.le_trans HEa.out.below.size HX1.below.size) false (.slice none 0 0) (.slice none 0 0))
  rw [hs1] at F4a
  rw [hs2] at F5a
  have HN := Lib.hid ((HNa.out.ext HX1).ext HX2)
  have HE := Lib.hid ((HEa.out.trans HX1).trans HX2)
  have HL45 := Lib.hid (show w.heap.size ≤ w.heap.size + 1 ∧ w.heap.size ≤ w.heap.size + 1 + 1 from ⟨F4a.lo, F5a.lo⟩)
  have HJ45 := Lib.hid (show J (w.heap.size + 1) = [] ∧ J (w.heap.size + 1 + 1) = [] from ⟨F4a.jb, F5a.jb⟩)
  have F4 := Lib.hid F4a.bx
  have F5 := Lib.hid F5a.bx
  clear hs1 hs2 HX1 HX2 HEa HNa F4a F5a
  generalize World.alloc (World.alloc (World.alloc w _) _) _ = W at *
  have HNE := Lib.hid (show w.heap.size ≠ w.heap.size + 1 ∧ w.heap.size + 1 ≠ w.heap.size + 1 + 1 ∧ w.heap.size + 1 + 1 ≠ w.heap.size + 1 from by omega)
  generalize h5 : w.heap.size + 1 + 1 = b5 at *
  generalize h4 : w.heap.size + 1 = b4 at *
  generalize h0 : w.heap.size = nb at HN F4 F5 HNE ⊢
  clear h0 h4 h5
  have n0 := blk_cell_J HN.out 0 rfl
  cases hlf : n.leaf with
  | true =>
    rw [hlf] at n0 HN
    have hbh := Sl.behind HCI.out hi
    rw [← clC_drop] at hbh
    have hdl : (n.items.drop i).length = n.items.length - i := by rw [List.length_drop]
    obtain ⟨k0, hk0⟩ : ∃ k0, k0 = i := ⟨_, rfl⟩
    clear hk0
    have HNA := Lib.hid (show NdV J (.agg #[.bool true, .slice Ai i ci, .slice none 0 0]) (cutA n i) from ⟨_, _, by unfold cutA; rw [hlf], HTO.out, by unfold cutA; rw [hlf]; exact Sl.nil _ _⟩)
    go_upto_region 2 with fail
    clear n0
    by_cases hcn : i = ci
    · rw [if_pos hcn.symm] at hbh
      have hz : n.items.length - i = 0 := by omega
      have HNB := Lib.hid (show NdV J (.agg #[.bool true, .slice Ai 0 0, .slice none 0 0]) (cutB n i) from ⟨_, _, by unfold cutB; rw [hlf]; rfl, by unfold cutB; rw [hlf]; show Sl J 4 _ (n.items.drop i).length _; rw [hdl, hz]; rw [show ci - i = 0 by omega, hz] at hbh; exact hbh, by unfold cutB; rw [hlf]; exact Sl.nil _ _⟩)
      clear hbh hz hdl
      subst hcn
      refine wp_region_pool2 11 (RS (cstL nb Ai Ak Ai n.items.length n.kids.length i ck i k0 (0) (0)) 10 W.drew (put3 W.drew b4 (.bool true) (.slice Ai i i) (.slice none 0 0))) (by kernel_rfl) (by kernel_rfl) (fun _ => undef) RS.start ?_ ?_
      · intro q o hk ho L v w' F hc hL hw hout hdp
        have q1 : F.tmps.getD 1 undef = .int .i64 i := hout 1 (by kernel_rfl)
        have q2 : F.tmps.getD 2 undef = .pointer (some ⟨nb, 0, none⟩) := hout 2 (by kernel_rfl)
        have q4 : F.tmps.getD 4 undef = .pointer (some ⟨b4, 0, none⟩) := hout 4 (by kernel_rfl)
        have hn : NBox w' nb n.leaf (.slice Ai n.items.length i) (.slice Ak n.kids.length ck) := by rw [hlf]; exact hc.all (P := fun X => NBox X nb _ _ _) HN.out (put3_nb _ _ _ HN.out HNE.out.1)
        have hkk : q = 0 ∨ q = 1 ∨ q = 2 ∨ q = 3 ∨ q = 4 ∨ q = 5 ∨ q = 6 ∨ q = 7 ∨ q = 8 ∨ q = 9 ∨ q = 10 := by omega
        rcases hkk with rfl | rfl | rfl | rfl | rfl | rfl | rfl | rfl | rfl | rfl | rfl
        · cases ho
          refine wp_value (x := .pointer (some ⟨nb, 1, none⟩)) (w' := w') ?_ ⟨_, rfl, hc.read rfl (by decide)⟩
          clear hw hout hdp hc hn
          unfold execOp
          simp only [Act.eval, q2]
          go_simp
        · cases ho
          have e8 := (hdp 0 8 (by kernel_rfl) (hw 0 (by kernel_rfl))).trans (hc.rd 0 _ rfl (hw 0 (by kernel_rfl)))
          have n1 := blk_cell_J hn 1 rfl
          have n2 := blk_cell_J hn 2 rfl
          refine wp_value (x := .slice Ai n.items.length i) (w' := w') ?_ ⟨_, rfl, hc.read rfl (by decide)⟩
          clear hw hout hdp hc hn
          unfold execOp
          simp only [Act.eval, e8]
          go_simp
        · cases ho
          refine wp_value (x := .int .i64 i) (w' := w') ?_ ⟨_, rfl, hc.read rfl (by decide)⟩
          clear hw hout hdp hc hn
          unfold execOp
          simp only [Act.eval, q1]
          go_simp
        · cases ho
          have e9 := (hdp 1 9 (by kernel_rfl) (hw 1 (by kernel_rfl))).trans (hc.rd 1 _ rfl (hw 1 (by kernel_rfl)))
          have e10 := (hdp 2 10 (by kernel_rfl) (hw 2 (by kernel_rfl))).trans (hc.rd 2 _ rfl (hw 2 (by kernel_rfl)))
          refine wp_value (x := .slice Ai i i) (w' := w') ?_ ⟨_, rfl, hc.read rfl (by decide)⟩
          clear hw hout hdp hc hn
          unfold execOp
          simp only [Act.eval, e9]
          go_simp
        · cases ho
          have e11 := (hdp 3 11 (by kernel_rfl) (hw 3 (by kernel_rfl))).trans (hc.rd 3 _ rfl (hw 3 (by kernel_rfl)))
          refine wp_value (x := .agg #[.bool true, .slice Ai i i, .slice none 0 0]) (w' := w') ?_ ⟨_, rfl, hc.read rfl (by decide)⟩
          clear hw hout hdp hc hn
          unfold execOp
          rw [Array.getD_eq_getD_getElem?] at e11
          go_simp
        · cases ho
          refine wp_value (x := .pointer (some ⟨nb, 1, none⟩)) (w' := w') ?_ ⟨_, rfl, hc.read rfl (by decide)⟩
          clear hw hout hdp hc hn
          unfold execOp
          simp only [Act.eval, q2]
          go_simp
        · cases ho
          have e13 := (hdp 5 13 (by kernel_rfl) (hw 5 (by kernel_rfl))).trans (hc.rd 5 _ rfl (hw 5 (by kernel_rfl)))
          have n1 := blk_cell_J hn 1 rfl
          have n2 := blk_cell_J hn 2 rfl
          refine wp_value (x := .slice Ai n.items.length i) (w' := w') ?_ ⟨_, rfl, hc.read rfl (by decide)⟩
          clear hw hout hdp hc hn
          unfold execOp
          simp only [Act.eval, e13]
          go_simp
        · cases ho
          refine wp_value (x := .int .i64 i) (w' := w') ?_ ⟨_, rfl, hc.read rfl (by decide)⟩
          clear hw hout hdp hc hn
          unfold execOp
          simp only [Act.eval, q1]
          go_simp
        · cases ho
          have e14 := (hdp 6 14 (by kernel_rfl) (hw 6 (by kernel_rfl))).trans (hc.rd 6 _ rfl (hw 6 (by kernel_rfl)))
          have e15 := (hdp 7 15 (by kernel_rfl) (hw 7 (by kernel_rfl))).trans (hc.rd 7 _ rfl (hw 7 (by kernel_rfl)))
          refine wp_value (x := .slice Ai (0) (0)) (w' := w') ?_ ⟨_, rfl, hc.read rfl (by decide)⟩
          clear hw hout hdp hc hn
          unfold execOp
          simp only [Act.eval, e14]
          go_simp
        · cases ho
          have e16 := (hdp 8 16 (by kernel_rfl) (hw 8 (by kernel_rfl))).trans (hc.rd 8 _ rfl (hw 8 (by kernel_rfl)))
          refine wp_value (x := .agg #[.bool true, .slice Ai (0) (0), .slice none 0 0]) (w' := w') ?_ ⟨_, rfl, hc.read rfl (by decide)⟩
          clear hw hout hdp hc hn
          unfold execOp
          rw [Array.getD_eq_getD_getElem?] at e16
          go_simp
        · cases ho
          have hb := hc.before hL
          have e12 := (hdp 4 12 (by kernel_rfl) (hw 4 (by kernel_rfl))).trans (hc.rd 4 _ rfl (hw 4 (by kernel_rfl)))
          refine wp_skip (w' := put3 w' b4 (.bool true) (.slice Ai i i) (.slice none 0 0)) (run_store3 rfl q4 e12 (by rw [hb]; exact F4.out)) ⟨undef, rfl, ?_⟩
          rw [hb]
          exact hc.store rfl undef
      · intro L v w' F hall hc hF hFd hout hdp
        have q4 : F.tmps.getD 4 undef = .pointer (some ⟨b4, 0, none⟩) := hout 4 (by kernel_rfl)
        have q5 : F.tmps.getD 5 undef = .pointer (some ⟨b5, 0, none⟩) := hout 5 (by kernel_rfl)
        have e5 := (hdp 9 17 (by kernel_rfl)).trans (hc.rd 9 _ rfl (hall 9 (by omega)))
        have hb := hc.behind (hall 10 (by omega))
        have pd : F.defers = [] := hFd
        have G5 : NBox w' b5 false (.slice none 0 0) (.slice none 0 0) := by rw [hb]; exact put3_nb _ _ _ F5.out HNE.out.2.2
        have hFA : NBox (put3 w' b5 (.bool true) (.slice Ai (0) (0)) (.slice none 0 0)) b4 true (.slice Ai i i) (.slice none 0 0) := by rw [hb]; exact put3_nb _ _ _ (put3_at F4.out) HNE.out.2.1
        have hFB : NBox (put3 w' b5 (.bool true) (.slice Ai (0) (0)) (.slice none 0 0)) b5 true (.slice Ai (0) (0)) (.slice none 0 0) := put3_at G5
        have hFE : Ext J w J (put3 w' b5 (.bool true) (.slice Ai (0) (0)) (.slice none 0 0)) := by rw [hb]; exact put3_e (put3_e HE.out.drew HL45.out.1 HJ45.out.1 _ _ _) HL45.out.2 HJ45.out.2 _ _ _
        clear hF hFd hout hdp hc hall
        simp only [List.drop_succ_cons, List.drop_zero]
        refine wpList_skip rfl (run_store3 rfl q5 e5 G5) ?_
        refine wpList_nil ?_
        change Exit.then _ _ .normal F _
        go_step
        go_step
        go_step
        go_step
        exact bodyPost_rcut pd hFA hFB q4 q5 ⟨_, _, rfl, hFE, HNA.out, HNB.out⟩
    · rw [if_neg (fun e => hcn e.symm)] at hbh
      have hcn2 : ¬ ci = i := fun e => hcn e.symm
      have HNB := Lib.hid (show NdV J (.agg #[.bool true, .slice (Ai.map (·.add (i * 4))) (n.items.length - i) (ci - i), .slice none 0 0]) (cutB n i) from ⟨_, _, by unfold cutB; rw [hlf]; rfl, by unfold cutB; rw [hlf]; show Sl J 4 _ (n.items.drop i).length _; rw [hdl]; exact hbh, by unfold cutB; rw [hlf]; exact Sl.nil _ _⟩)
      clear hbh hdl
      refine wp_region_pool2 11 (RS (cstL nb Ai Ak (Ai.map (·.add (i * 4))) n.items.length n.kids.length ci ck i k0 (n.items.length - i) (ci - i)) 10 W.drew (put3 W.drew b4 (.bool true) (.slice Ai i ci) (.slice none 0 0))) (by kernel_rfl) (by kernel_rfl) (fun _ => undef) RS.start ?_ ?_
      · intro q o hk ho L v w' F hc hL hw hout hdp
        have q1 : F.tmps.getD 1 undef = .int .i64 i := hout 1 (by kernel_rfl)
        have q2 : F.tmps.getD 2 undef = .pointer (some ⟨nb, 0, none⟩) := hout 2 (by kernel_rfl)
        have q4 : F.tmps.getD 4 undef = .pointer (some ⟨b4, 0, none⟩) := hout 4 (by kernel_rfl)
        have hn : NBox w' nb n.leaf (.slice Ai n.items.length ci) (.slice Ak n.kids.length ck) := by rw [hlf]; exact hc.all (P := fun X => NBox X nb _ _ _) HN.out (put3_nb _ _ _ HN.out HNE.out.1)
        have hkk : q = 0 ∨ q = 1 ∨ q = 2 ∨ q = 3 ∨ q = 4 ∨ q = 5 ∨ q = 6 ∨ q = 7 ∨ q = 8 ∨ q = 9 ∨ q = 10 := by omega
        rcases hkk with rfl | rfl | rfl | rfl | rfl | rfl | rfl | rfl | rfl | rfl | rfl
        · cases ho
          refine wp_value (x := .pointer (some ⟨nb, 1, none⟩)) (w' := w') ?_ ⟨_, rfl, hc.read rfl (by decide)⟩
          clear hw hout hdp hc hn
          unfold execOp
          simp only [Act.eval, q2]
          go_simp
        · cases ho
          have e8 := (hdp 0 8 (by kernel_rfl) (hw 0 (by kernel_rfl))).trans (hc.rd 0 _ rfl (hw 0 (by kernel_rfl)))
          have n1 := blk_cell_J hn 1 rfl
          have n2 := blk_cell_J hn 2 rfl
          refine wp_value (x := .slice Ai n.items.length ci) (w' := w') ?_ ⟨_, rfl, hc.read rfl (by decide)⟩
          clear hw hout hdp hc hn
          unfold execOp
          simp only [Act.eval, e8]
          go_simp
        · cases ho
          refine wp_value (x := .int .i64 i) (w' := w') ?_ ⟨_, rfl, hc.read rfl (by decide)⟩
          clear hw hout hdp hc hn
          unfold execOp
          simp only [Act.eval, q1]
          go_simp
        · cases ho
          have e9 := (hdp 1 9 (by kernel_rfl) (hw 1 (by kernel_rfl))).trans (hc.rd 1 _ rfl (hw 1 (by kernel_rfl)))
          have e10 := (hdp 2 10 (by kernel_rfl) (hw 2 (by kernel_rfl))).trans (hc.rd 2 _ rfl (hw 2 (by kernel_rfl)))
          refine wp_value (x := .slice Ai i ci) (w' := w') ?_ ⟨_, rfl, hc.read rfl (by decide)⟩
          clear hw hout hdp hc hn
          unfold execOp
          simp only [Act.eval, e9]
          go_simp
        · cases ho
          have e11 := (hdp 3 11 (by kernel_rfl) (hw 3 (by kernel_rfl))).trans (hc.rd 3 _ rfl (hw 3 (by kernel_rfl)))
          refine wp_value (x := .agg #[.bool true, .slice Ai i ci, .slice none 0 0]) (w' := w') ?_ ⟨_, rfl, hc.read rfl (by decide)⟩
          clear hw hout hdp hc hn
          unfold execOp
          rw [Array.getD_eq_getD_getElem?] at e11
          go_simp
        · cases ho
          refine wp_value (x := .pointer (some ⟨nb, 1, none⟩)) (w' := w') ?_ ⟨_, rfl, hc.read rfl (by decide)⟩
          clear hw hout hdp hc hn
          unfold execOp
          simp only [Act.eval, q2]
          go_simp
        · cases ho
          have e13 := (hdp 5 13 (by kernel_rfl) (hw 5 (by kernel_rfl))).trans (hc.rd 5 _ rfl (hw 5 (by kernel_rfl)))
          have n1 := blk_cell_J hn 1 rfl
          have n2 := blk_cell_J hn 2 rfl
          refine wp_value (x := .slice Ai n.items.length ci) (w' := w') ?_ ⟨_, rfl, hc.read rfl (by decide)⟩
          clear hw hout hdp hc hn
          unfold execOp
          simp only [Act.eval, e13]
          go_simp
        · cases ho
          refine wp_value (x := .int .i64 i) (w' := w') ?_ ⟨_, rfl, hc.read rfl (by decide)⟩
          clear hw hout hdp hc hn
          unfold execOp
          simp only [Act.eval, q1]
          go_simp
        · cases ho
          have e14 := (hdp 6 14 (by kernel_rfl) (hw 6 (by kernel_rfl))).trans (hc.rd 6 _ rfl (hw 6 (by kernel_rfl)))
          have e15 := (hdp 7 15 (by kernel_rfl) (hw 7 (by kernel_rfl))).trans (hc.rd 7 _ rfl (hw 7 (by kernel_rfl)))
          refine wp_value (x := .slice (Ai.map (·.add (i * 4))) (n.items.length - i) (ci - i)) (w' := w') ?_ ⟨_, rfl, hc.read rfl (by decide)⟩
          clear hw hout hdp hc hn
          unfold execOp
          simp only [Act.eval, e14]
          go_simp
        · cases ho
          have e16 := (hdp 8 16 (by kernel_rfl) (hw 8 (by kernel_rfl))).trans (hc.rd 8 _ rfl (hw 8 (by kernel_rfl)))
          refine wp_value (x := .agg #[.bool true, .slice (Ai.map (·.add (i * 4))) (n.items.length - i) (ci - i), .slice none 0 0]) (w' := w') ?_ ⟨_, rfl, hc.read rfl (by decide)⟩
          clear hw hout hdp hc hn
          unfold execOp
          rw [Array.getD_eq_getD_getElem?] at e16
          go_simp
        · cases ho
          have hb := hc.before hL
          have e12 := (hdp 4 12 (by kernel_rfl) (hw 4 (by kernel_rfl))).trans (hc.rd 4 _ rfl (hw 4 (by kernel_rfl)))
          refine wp_skip (w' := put3 w' b4 (.bool true) (.slice Ai i ci) (.slice none 0 0)) (run_store3 rfl q4 e12 (by rw [hb]; exact F4.out)) ⟨undef, rfl, ?_⟩
          rw [hb]
          exact hc.store rfl undef
      · intro L v w' F hall hc hF hFd hout hdp
        have q4 : F.tmps.getD 4 undef = .pointer (some ⟨b4, 0, none⟩) := hout 4 (by kernel_rfl)
        have q5 : F.tmps.getD 5 undef = .pointer (some ⟨b5, 0, none⟩) := hout 5 (by kernel_rfl)
        have e5 := (hdp 9 17 (by kernel_rfl)).trans (hc.rd 9 _ rfl (hall 9 (by omega)))
        have hb := hc.behind (hall 10 (by omega))
        have pd : F.defers = [] := hFd
        have G5 : NBox w' b5 false (.slice none 0 0) (.slice none 0 0) := by rw [hb]; exact put3_nb _ _ _ F5.out HNE.out.2.2
        have hFA : NBox (put3 w' b5 (.bool true) (.slice (Ai.map (·.add (i * 4))) (n.items.length - i) (ci - i)) (.slice none 0 0)) b4 true (.slice Ai i ci) (.slice none 0 0) := by rw [hb]; exact put3_nb _ _ _ (put3_at F4.out) HNE.out.2.1
        have hFB : NBox (put3 w' b5 (.bool true) (.slice (Ai.map (·.add (i * 4))) (n.items.length - i) (ci - i)) (.slice none 0 0)) b5 true (.slice (Ai.map (·.add (i * 4))) (n.items.length - i) (ci - i)) (.slice none 0 0) := put3_at G5
        have hFE : Ext J w J (put3 w' b5 (.bool true) (.slice (Ai.map (·.add (i * 4))) (n.items.length - i) (ci - i)) (.slice none 0 0)) := by rw [hb]; exact put3_e (put3_e HE.out.drew HL45.out.1 HJ45.out.1 _ _ _) HL45.out.2 HJ45.out.2 _ _ _
        clear hF hFd hout hdp hc hall
        simp only [List.drop_succ_cons, List.drop_zero]
        refine wpList_skip rfl (run_store3 rfl q5 e5 G5) ?_
        refine wpList_nil ?_
        change Exit.then _ _ .normal F _
        go_step
        go_step
        go_step
        go_step
        exact bodyPost_rcut pd hFA hFB q4 q5 ⟨_, _, rfl, hFE, HNA.out, HNB.out⟩
  | false =>
    rw [hlf] at n0 HN
    obtain ⟨hk1, hk2⟩ := HIK.out hlf
    obtain ⟨k0, hk0⟩ : ∃ k0, k0 = i + 1 := ⟨_, rfl⟩
    rw [← hk0] at hk1
    have hbh := Sl.behind HCI.out hk1
    rw [← clC_drop] at hbh
    have hdl : (n.items.drop k0).length = n.items.length - k0 := by rw [List.length_drop]
    have hkt : Sl J 1 (.slice Ak k0 ck) (n.kids.take k0).length (kcs (n.kids.take k0)) := by
      have h := Sl.to HCK.out (show k0 ≤ n.kids.length by omega)
      rw [Nat.mul_one, ← kcs_take] at h
      have hl : (n.kids.take k0).length = k0 := by rw [List.length_take]; omega
      rw [hl]
      exact h
    have HKB := Lib.hid (show Sl J 1 (.slice (Ak.map (·.add k0)) (n.kids.length - k0) (ck - k0)) (n.kids.drop k0).length (kcs (n.kids.drop k0)) from by
      have h := Sl.behind HCK.out (show k0 ≤ n.kids.length by omega)
      rw [Nat.mul_one, ← kcs_drop, if_neg (by omega)] at h
      have hl : (n.kids.drop k0).length = n.kids.length - k0 := by rw [List.length_drop]
      rw [hl]
      exact h)
    have HNA := Lib.hid (show NdV J (.agg #[.bool false, .slice Ai i ci, .slice Ak k0 ck]) (cutA n i) from ⟨_, _, by unfold cutA; rw [hlf], HTO.out, by unfold cutA; rw [hlf]; simp only [Bool.false_eq_true, if_false]; rw [← hk0]; exact hkt⟩)
    have kw : IntKind.i64.wrap ((i : Int) + 1) = k0 := by rw [IntKind.wrap_i64]; omega
    have k1 : (0 : Int) ≤ (k0 : Int) := by omega
    have k2 : (k0 : Int) ≤ n.items.length := by omega
    have k3 : (k0 : Int) ≤ ci := by omega
    have k4 : (k0 : Int) ≤ n.kids.length := by omega
    have k5 : (k0 : Int) ≤ ck := by omega
    have k6 : ck ≠ k0 := by omega
    have HK0 := Lib.hid hk0
    clear hk0 hkt
    go_upto_region 3 with fail
    clear n0
    by_cases hcn : k0 = ci
    · rw [if_pos hcn.symm] at hbh
      have hz : n.items.length - k0 = 0 := by omega
      have HNB := Lib.hid (show NdV J (.agg #[.bool false, .slice Ai 0 0, .slice (Ak.map (·.add k0)) (n.kids.length - k0) (ck - k0)]) (cutB n i) from ⟨_, _, by unfold cutB; rw [hlf]; rfl, by unfold cutB; rw [hlf]; simp only [Bool.false_eq_true, if_false]; rw [← HK0.out]; show Sl J 4 _ (n.items.drop k0).length _; rw [hdl, hz]; rw [show ci - k0 = 0 by omega, hz] at hbh; exact hbh, by unfold cutB; rw [hlf]; simp only [Bool.false_eq_true, if_false]; rw [← HK0.out]; exact HKB.out⟩)
      clear hbh hz hdl hk1 hk2
      subst hcn
      refine wp_region_pool2 22 (RS (cstI nb Ai Ak Ai n.items.length n.kids.length k0 ck i k0 (0) (0)) 21 W.drew (put3 W.drew b4 (.bool false) (.slice Ai i k0) (.slice Ak k0 ck))) (by kernel_rfl) (by kernel_rfl) (fun _ => undef) RS.start ?_ ?_
      · intro q o hk ho L v w' F hc hL hw hout hdp
        have q1 : F.tmps.getD 1 undef = .int .i64 i := hout 1 (by kernel_rfl)
        have q2 : F.tmps.getD 2 undef = .pointer (some ⟨nb, 0, none⟩) := hout 2 (by kernel_rfl)
        have q4 : F.tmps.getD 4 undef = .pointer (some ⟨b4, 0, none⟩) := hout 4 (by kernel_rfl)
        have hn : NBox w' nb n.leaf (.slice Ai n.items.length k0) (.slice Ak n.kids.length ck) := by rw [hlf]; exact hc.all (P := fun X => NBox X nb _ _ _) HN.out (put3_nb _ _ _ HN.out HNE.out.1)
        have hkk : q = 0 ∨ q = 1 ∨ q = 2 ∨ q = 3 ∨ q = 4 ∨ q = 5 ∨ q = 6 ∨ q = 7 ∨ q = 8 ∨ q = 9 ∨ q = 10 ∨ q = 11 ∨ q = 12 ∨ q = 13 ∨ q = 14 ∨ q = 15 ∨ q = 16 ∨ q = 17 ∨ q = 18 ∨ q = 19 ∨ q = 20 ∨ q = 21 := by omega
        rcases hkk with rfl | rfl | rfl | rfl | rfl | rfl | rfl | rfl | rfl | rfl | rfl | rfl | rfl | rfl | rfl | rfl | rfl | rfl | rfl | rfl | rfl | rfl
        · cases ho
          refine wp_value (x := .pointer (some ⟨nb, 1, none⟩)) (w' := w') ?_ ⟨_, rfl, hc.read rfl (by decide)⟩
          clear hw hout hdp hc hn
          unfold execOp
          simp only [Act.eval, q2]
          go_simp
        · cases ho
          have e18 := (hdp 0 18 (by kernel_rfl) (hw 0 (by kernel_rfl))).trans (hc.rd 0 _ rfl (hw 0 (by kernel_rfl)))
          have n1 := blk_cell_J hn 1 rfl
          have n2 := blk_cell_J hn 2 rfl
          refine wp_value (x := .slice Ai n.items.length k0) (w' := w') ?_ ⟨_, rfl, hc.read rfl (by decide)⟩
          clear hw hout hdp hc hn
          unfold execOp
          simp only [Act.eval, e18]
          go_simp
        · cases ho
          refine wp_value (x := .int .i64 i) (w' := w') ?_ ⟨_, rfl, hc.read rfl (by decide)⟩
          clear hw hout hdp hc hn
          unfold execOp
          simp only [Act.eval, q1]
          go_simp
        · cases ho
          have e19 := (hdp 1 19 (by kernel_rfl) (hw 1 (by kernel_rfl))).trans (hc.rd 1 _ rfl (hw 1 (by kernel_rfl)))
          have e20 := (hdp 2 20 (by kernel_rfl) (hw 2 (by kernel_rfl))).trans (hc.rd 2 _ rfl (hw 2 (by kernel_rfl)))
          refine wp_value (x := .slice Ai i k0) (w' := w') ?_ ⟨_, rfl, hc.read rfl (by decide)⟩
          clear hw hout hdp hc hn
          unfold execOp
          simp only [Act.eval, e19]
          go_simp
        · cases ho
          refine wp_value (x := .pointer (some ⟨nb, 2, none⟩)) (w' := w') ?_ ⟨_, rfl, hc.read rfl (by decide)⟩
          clear hw hout hdp hc hn
          unfold execOp
          simp only [Act.eval, q2]
          go_simp
        · cases ho
          have e22 := (hdp 4 22 (by kernel_rfl) (hw 4 (by kernel_rfl))).trans (hc.rd 4 _ rfl (hw 4 (by kernel_rfl)))
          have n1 := blk_cell_J hn 1 rfl
          have n2 := blk_cell_J hn 2 rfl
          refine wp_value (x := .slice Ak n.kids.length ck) (w' := w') ?_ ⟨_, rfl, hc.read rfl (by decide)⟩
          clear hw hout hdp hc hn
          unfold execOp
          simp only [Act.eval, e22]
          go_simp
        · cases ho
          refine wp_value (x := .int .i64 i) (w' := w') ?_ ⟨_, rfl, hc.read rfl (by decide)⟩
          clear hw hout hdp hc hn
          unfold execOp
          simp only [Act.eval, q1]
          go_simp
        · cases ho
          have e24 := (hdp 6 24 (by kernel_rfl) (hw 6 (by kernel_rfl))).trans (hc.rd 6 _ rfl (hw 6 (by kernel_rfl)))
          refine wp_value (x := .int .i64 k0) (w' := w') ?_ ⟨_, rfl, hc.read rfl (by decide)⟩
          clear hw hout hdp hc hn
          unfold execOp
          simp only [Act.eval, e24]
          go_simp
        · cases ho
          have e23 := (hdp 5 23 (by kernel_rfl) (hw 5 (by kernel_rfl))).trans (hc.rd 5 _ rfl (hw 5 (by kernel_rfl)))
          have e25 := (hdp 7 25 (by kernel_rfl) (hw 7 (by kernel_rfl))).trans (hc.rd 7 _ rfl (hw 7 (by kernel_rfl)))
          refine wp_value (x := .slice Ak k0 ck) (w' := w') ?_ ⟨_, rfl, hc.read rfl (by decide)⟩
          clear hw hout hdp hc hn
          unfold execOp
          simp only [Act.eval, e23]
          go_simp
        · cases ho
          have e21 := (hdp 3 21 (by kernel_rfl) (hw 3 (by kernel_rfl))).trans (hc.rd 3 _ rfl (hw 3 (by kernel_rfl)))
          have e26 := (hdp 8 26 (by kernel_rfl) (hw 8 (by kernel_rfl))).trans (hc.rd 8 _ rfl (hw 8 (by kernel_rfl)))
          refine wp_value (x := .agg #[.bool false, .slice Ai i k0, .slice Ak k0 ck]) (w' := w') ?_ ⟨_, rfl, hc.read rfl (by decide)⟩
          clear hw hout hdp hc hn
          unfold execOp
          rw [Array.getD_eq_getD_getElem?] at e21 e26
          go_simp
        · cases ho
          refine wp_value (x := .pointer (some ⟨nb, 1, none⟩)) (w' := w') ?_ ⟨_, rfl, hc.read rfl (by decide)⟩
          clear hw hout hdp hc hn
          unfold execOp
          simp only [Act.eval, q2]
          go_simp
        · cases ho
          have e28 := (hdp 10 28 (by kernel_rfl) (hw 10 (by kernel_rfl))).trans (hc.rd 10 _ rfl (hw 10 (by kernel_rfl)))
          have n1 := blk_cell_J hn 1 rfl
          have n2 := blk_cell_J hn 2 rfl
          refine wp_value (x := .slice Ai n.items.length k0) (w' := w') ?_ ⟨_, rfl, hc.read rfl (by decide)⟩
          clear hw hout hdp hc hn
          unfold execOp
          simp only [Act.eval, e28]
          go_simp
        · cases ho
          refine wp_value (x := .int .i64 i) (w' := w') ?_ ⟨_, rfl, hc.read rfl (by decide)⟩
          clear hw hout hdp hc hn
          unfold execOp
          simp only [Act.eval, q1]
          go_simp
        · cases ho
          have e30 := (hdp 12 30 (by kernel_rfl) (hw 12 (by kernel_rfl))).trans (hc.rd 12 _ rfl (hw 12 (by kernel_rfl)))
          refine wp_value (x := .int .i64 k0) (w' := w') ?_ ⟨_, rfl, hc.read rfl (by decide)⟩
          clear hw hout hdp hc hn
          unfold execOp
          simp only [Act.eval, e30]
          go_simp
        · cases ho
          have e29 := (hdp 11 29 (by kernel_rfl) (hw 11 (by kernel_rfl))).trans (hc.rd 11 _ rfl (hw 11 (by kernel_rfl)))
          have e31 := (hdp 13 31 (by kernel_rfl) (hw 13 (by kernel_rfl))).trans (hc.rd 13 _ rfl (hw 13 (by kernel_rfl)))
          refine wp_value (x := .slice Ai (0) (0)) (w' := w') ?_ ⟨_, rfl, hc.read rfl (by decide)⟩
          clear hw hout hdp hc hn
          unfold execOp
          simp only [Act.eval, e29]
          go_simp
        · cases ho
          refine wp_value (x := .pointer (some ⟨nb, 2, none⟩)) (w' := w') ?_ ⟨_, rfl, hc.read rfl (by decide)⟩
          clear hw hout hdp hc hn
          unfold execOp
          simp only [Act.eval, q2]
          go_simp
        · cases ho
          have e33 := (hdp 15 33 (by kernel_rfl) (hw 15 (by kernel_rfl))).trans (hc.rd 15 _ rfl (hw 15 (by kernel_rfl)))
          have n1 := blk_cell_J hn 1 rfl
          have n2 := blk_cell_J hn 2 rfl
          refine wp_value (x := .slice Ak n.kids.length ck) (w' := w') ?_ ⟨_, rfl, hc.read rfl (by decide)⟩
          clear hw hout hdp hc hn
          unfold execOp
          simp only [Act.eval, e33]
          go_simp
        · cases ho
          refine wp_value (x := .int .i64 i) (w' := w') ?_ ⟨_, rfl, hc.read rfl (by decide)⟩
          clear hw hout hdp hc hn
          unfold execOp
          simp only [Act.eval, q1]
          go_simp
        · cases ho
          have e35 := (hdp 17 35 (by kernel_rfl) (hw 17 (by kernel_rfl))).trans (hc.rd 17 _ rfl (hw 17 (by kernel_rfl)))
          refine wp_value (x := .int .i64 k0) (w' := w') ?_ ⟨_, rfl, hc.read rfl (by decide)⟩
          clear hw hout hdp hc hn
          unfold execOp
          simp only [Act.eval, e35]
          go_simp
        · cases ho
          have e34 := (hdp 16 34 (by kernel_rfl) (hw 16 (by kernel_rfl))).trans (hc.rd 16 _ rfl (hw 16 (by kernel_rfl)))
          have e36 := (hdp 18 36 (by kernel_rfl) (hw 18 (by kernel_rfl))).trans (hc.rd 18 _ rfl (hw 18 (by kernel_rfl)))
          refine wp_value (x := .slice (Ak.map (·.add k0)) (n.kids.length - k0) (ck - k0)) (w' := w') ?_ ⟨_, rfl, hc.read rfl (by decide)⟩
          clear hw hout hdp hc hn
          unfold execOp
          simp only [Act.eval, e34]
          go_simp
        · cases ho
          have e32 := (hdp 14 32 (by kernel_rfl) (hw 14 (by kernel_rfl))).trans (hc.rd 14 _ rfl (hw 14 (by kernel_rfl)))
          have e37 := (hdp 19 37 (by kernel_rfl) (hw 19 (by kernel_rfl))).trans (hc.rd 19 _ rfl (hw 19 (by kernel_rfl)))
          refine wp_value (x := .agg #[.bool false, .slice Ai (0) (0), .slice (Ak.map (·.add k0)) (n.kids.length - k0) (ck - k0)]) (w' := w') ?_ ⟨_, rfl, hc.read rfl (by decide)⟩
          clear hw hout hdp hc hn
          unfold execOp
          rw [Array.getD_eq_getD_getElem?] at e32 e37
          go_simp
        · cases ho
          have hb := hc.before hL
          have e27 := (hdp 9 27 (by kernel_rfl) (hw 9 (by kernel_rfl))).trans (hc.rd 9 _ rfl (hw 9 (by kernel_rfl)))
          refine wp_skip (w' := put3 w' b4 (.bool false) (.slice Ai i k0) (.slice Ak k0 ck)) (run_store3 rfl q4 e27 (by rw [hb]; exact F4.out)) ⟨undef, rfl, ?_⟩
          rw [hb]
          exact hc.store rfl undef
      · intro L v w' F hall hc hF hFd hout hdp
        have q4 : F.tmps.getD 4 undef = .pointer (some ⟨b4, 0, none⟩) := hout 4 (by kernel_rfl)
        have q5 : F.tmps.getD 5 undef = .pointer (some ⟨b5, 0, none⟩) := hout 5 (by kernel_rfl)
        have e5 := (hdp 20 38 (by kernel_rfl)).trans (hc.rd 20 _ rfl (hall 20 (by omega)))
        have hb := hc.behind (hall 21 (by omega))
        have pd : F.defers = [] := hFd
        have G5 : NBox w' b5 false (.slice none 0 0) (.slice none 0 0) := by rw [hb]; exact put3_nb _ _ _ F5.out HNE.out.2.2
        have hFA : NBox (put3 w' b5 (.bool false) (.slice Ai (0) (0)) (.slice (Ak.map (·.add k0)) (n.kids.length - k0) (ck - k0))) b4 false (.slice Ai i k0) (.slice Ak k0 ck) := by rw [hb]; exact put3_nb _ _ _ (put3_at F4.out) HNE.out.2.1
        have hFB : NBox (put3 w' b5 (.bool false) (.slice Ai (0) (0)) (.slice (Ak.map (·.add k0)) (n.kids.length - k0) (ck - k0))) b5 false (.slice Ai (0) (0)) (.slice (Ak.map (·.add k0)) (n.kids.length - k0) (ck - k0)) := put3_at G5
        have hFE : Ext J w J (put3 w' b5 (.bool false) (.slice Ai (0) (0)) (.slice (Ak.map (·.add k0)) (n.kids.length - k0) (ck - k0))) := by rw [hb]; exact put3_e (put3_e HE.out.drew HL45.out.1 HJ45.out.1 _ _ _) HL45.out.2 HJ45.out.2 _ _ _
        clear hF hFd hout hdp hc hall
        simp only [List.drop_succ_cons, List.drop_zero]
        refine wpList_skip rfl (run_store3 rfl q5 e5 G5) ?_
        refine wpList_nil ?_
        change Exit.then _ _ .normal F _
        go_step
        go_step
        go_step
        go_step
        exact bodyPost_rcut pd hFA hFB q4 q5 ⟨_, _, rfl, hFE, HNA.out, HNB.out⟩
    · rw [if_neg (fun e => hcn e.symm)] at hbh
      have hcn2 : ¬ ci = k0 := fun e => hcn e.symm
      have HNB := Lib.hid (show NdV J (.agg #[.bool false, .slice (Ai.map (·.add (k0 * 4))) (n.items.length - k0) (ci - k0), .slice (Ak.map (·.add k0)) (n.kids.length - k0) (ck - k0)]) (cutB n i) from ⟨_, _, by unfold cutB; rw [hlf]; rfl, by unfold cutB; rw [hlf]; simp only [Bool.false_eq_true, if_false]; rw [← HK0.out]; show Sl J 4 _ (n.items.drop k0).length _; rw [hdl]; exact hbh, by unfold cutB; rw [hlf]; simp only [Bool.false_eq_true, if_false]; rw [← HK0.out]; exact HKB.out⟩)
      clear hbh hdl hk1 hk2
      refine wp_region_pool2 22 (RS (cstI nb Ai Ak (Ai.map (·.add (k0 * 4))) n.items.length n.kids.length ci ck i k0 (n.items.length - k0) (ci - k0)) 21 W.drew (put3 W.drew b4 (.bool false) (.slice Ai i ci) (.slice Ak k0 ck))) (by kernel_rfl) (by kernel_rfl) (fun _ => undef) RS.start ?_ ?_
      · intro q o hk ho L v w' F hc hL hw hout hdp
        have q1 : F.tmps.getD 1 undef = .int .i64 i := hout 1 (by kernel_rfl)
        have q2 : F.tmps.getD 2 undef = .pointer (some ⟨nb, 0, none⟩) := hout 2 (by kernel_rfl)
        have q4 : F.tmps.getD 4 undef = .pointer (some ⟨b4, 0, none⟩) := hout 4 (by kernel_rfl)
        have hn : NBox w' nb n.leaf (.slice Ai n.items.length ci) (.slice Ak n.kids.length ck) := by rw [hlf]; exact hc.all (P := fun X => NBox X nb _ _ _) HN.out (put3_nb _ _ _ HN.out HNE.out.1)
        have hkk : q = 0 ∨ q = 1 ∨ q = 2 ∨ q = 3 ∨ q = 4 ∨ q = 5 ∨ q = 6 ∨ q = 7 ∨ q = 8 ∨ q = 9 ∨ q = 10 ∨ q = 11 ∨ q = 12 ∨ q = 13 ∨ q = 14 ∨ q = 15 ∨ q = 16 ∨ q = 17 ∨ q = 18 ∨ q = 19 ∨ q = 20 ∨ q = 21 := by omega
        rcases hkk with rfl | rfl | rfl | rfl | rfl | rfl | rfl | rfl | rfl | rfl | rfl | rfl | rfl | rfl | rfl | rfl | rfl | rfl | rfl | rfl | rfl | rfl
        · cases ho
          refine wp_value (x := .pointer (some ⟨nb, 1, none⟩)) (w' := w') ?_ ⟨_, rfl, hc.read rfl (by decide)⟩
          clear hw hout hdp hc hn
          unfold execOp
          simp only [Act.eval, q2]
          go_simp
        · cases ho
          have e18 := (hdp 0 18 (by kernel_rfl) (hw 0 (by kernel_rfl))).trans (hc.rd 0 _ rfl (hw 0 (by kernel_rfl)))
          have n1 := blk_cell_J hn 1 rfl
          have n2 := blk_cell_J hn 2 rfl
          refine wp_value (x := .slice Ai n.items.length ci) (w' := w') ?_ ⟨_, rfl, hc.read rfl (by decide)⟩
          clear hw hout hdp hc hn
          unfold execOp
          simp only [Act.eval, e18]
          go_simp
        · cases ho
          refine wp_value (x := .int .i64 i) (w' := w') ?_ ⟨_, rfl, hc.read rfl (by decide)⟩
          clear hw hout hdp hc hn
          unfold execOp
          simp only [Act.eval, q1]
          go_simp
        · cases ho
          have e19 := (hdp 1 19 (by kernel_rfl) (hw 1 (by kernel_rfl))).trans (hc.rd 1 _ rfl (hw 1 (by kernel_rfl)))
          have e20 := (hdp 2 20 (by kernel_rfl) (hw 2 (by kernel_rfl))).trans (hc.rd 2 _ rfl (hw 2 (by kernel_rfl)))
          refine wp_value (x := .slice Ai i ci) (w' := w') ?_ ⟨_, rfl, hc.read rfl (by decide)⟩
          clear hw hout hdp hc hn
          unfold execOp
          simp only [Act.eval, e19]
          go_simp
        · cases ho
          refine wp_value (x := .pointer (some ⟨nb, 2, none⟩)) (w' := w') ?_ ⟨_, rfl, hc.read rfl (by decide)⟩
          clear hw hout hdp hc hn
          unfold execOp
          simp only [Act.eval, q2]
          go_simp
        · cases ho
          have e22 := (hdp 4 22 (by kernel_rfl) (hw 4 (by kernel_rfl))).trans (hc.rd 4 _ rfl (hw 4 (by kernel_rfl)))
          have n1 := blk_cell_J hn 1 rfl
          have n2 := blk_cell_J hn 2 rfl
          refine wp_value (x := .slice Ak n.kids.length ck) (w' := w') ?_ ⟨_, rfl, hc.read rfl (by decide)⟩
          clear hw hout hdp hc hn
          unfold execOp
          simp only [Act.eval, e22]
          go_simp
        · cases ho
          refine wp_value (x := .int .i64 i) (w' := w') ?_ ⟨_, rfl, hc.read rfl (by decide)⟩
          clear hw hout hdp hc hn
          unfold execOp
          simp only [Act.eval, q1]
          go_simp
        · cases ho
          have e24 := (hdp 6 24 (by kernel_rfl) (hw 6 (by kernel_rfl))).trans (hc.rd 6 _ rfl (hw 6 (by kernel_rfl)))
          refine wp_value (x := .int .i64 k0) (w' := w') ?_ ⟨_, rfl, hc.read rfl (by decide)⟩
          clear hw hout hdp hc hn
          unfold execOp
          simp only [Act.eval, e24]
          go_simp
        · cases ho
          have e23 := (hdp 5 23 (by kernel_rfl) (hw 5 (by kernel_rfl))).trans (hc.rd 5 _ rfl (hw 5 (by kernel_rfl)))
          have e25 := (hdp 7 25 (by kernel_rfl) (hw 7 (by kernel_rfl))).trans (hc.rd 7 _ rfl (hw 7 (by kernel_rfl)))
          refine wp_value (x := .slice Ak k0 ck) (w' := w') ?_ ⟨_, rfl, hc.read rfl (by decide)⟩
          clear hw hout hdp hc hn
          unfold execOp
          simp only [Act.eval, e23]
          go_simp
        · cases ho
          have e21 := (hdp 3 21 (by kernel_rfl) (hw 3 (by kernel_rfl))).trans (hc.rd 3 _ rfl (hw 3 (by kernel_rfl)))
          have e26 := (hdp 8 26 (by kernel_rfl) (hw 8 (by kernel_rfl))).trans (hc.rd 8 _ rfl (hw 8 (by kernel_rfl)))
          refine wp_value (x := .agg #[.bool false, .slice Ai i ci, .slice Ak k0 ck]) (w' := w') ?_ ⟨_, rfl, hc.read rfl (by decide)⟩
          clear hw hout hdp hc hn
          unfold execOp
          rw [Array.getD_eq_getD_getElem?] at e21 e26
          go_simp
        · cases ho
          refine wp_value (x := .pointer (some ⟨nb, 1, none⟩)) (w' := w') ?_ ⟨_, rfl, hc.read rfl (by decide)⟩
          clear hw hout hdp hc hn
          unfold execOp
          simp only [Act.eval, q2]
          go_simp
        · cases ho
          have e28 := (hdp 10 28 (by kernel_rfl) (hw 10 (by kernel_rfl))).trans (hc.rd 10 _ rfl (hw 10 (by kernel_rfl)))
          have n1 := blk_cell_J hn 1 rfl
          have n2 := blk_cell_J hn 2 rfl
          refine wp_value (x := .slice Ai n.items.length ci) (w' := w') ?_ ⟨_, rfl, hc.read rfl (by decide)⟩
          clear hw hout hdp hc hn
          unfold execOp
          simp only [Act.eval, e28]
          go_simp
        · cases ho
          refine wp_value (x := .int .i64 i) (w' := w') ?_ ⟨_, rfl, hc.read rfl (by decide)⟩
          clear hw hout hdp hc hn
          unfold execOp
          simp only [Act.eval, q1]
          go_simp
        · cases ho
          have e30 := (hdp 12 30 (by kernel_rfl) (hw 12 (by kernel_rfl))).trans (hc.rd 12 _ rfl (hw 12 (by kernel_rfl)))
          refine wp_value (x := .int .i64 k0) (w' := w') ?_ ⟨_, rfl, hc.read rfl (by decide)⟩
          clear hw hout hdp hc hn
          unfold execOp
          simp only [Act.eval, e30]
          go_simp
        · cases ho
          have e29 := (hdp 11 29 (by kernel_rfl) (hw 11 (by kernel_rfl))).trans (hc.rd 11 _ rfl (hw 11 (by kernel_rfl)))
          have e31 := (hdp 13 31 (by kernel_rfl) (hw 13 (by kernel_rfl))).trans (hc.rd 13 _ rfl (hw 13 (by kernel_rfl)))
          refine wp_value (x := .slice (Ai.map (·.add (k0 * 4))) (n.items.length - k0) (ci - k0)) (w' := w') ?_ ⟨_, rfl, hc.read rfl (by decide)⟩
          clear hw hout hdp hc hn
          unfold execOp
          simp only [Act.eval, e29]
          go_simp
        · cases ho
          refine wp_value (x := .pointer (some ⟨nb, 2, none⟩)) (w' := w') ?_ ⟨_, rfl, hc.read rfl (by decide)⟩
          clear hw hout hdp hc hn
          unfold execOp
          simp only [Act.eval, q2]
          go_simp
        · cases ho
          have e33 := (hdp 15 33 (by kernel_rfl) (hw 15 (by kernel_rfl))).trans (hc.rd 15 _ rfl (hw 15 (by kernel_rfl)))
          have n1 := blk_cell_J hn 1 rfl
          have n2 := blk_cell_J hn 2 rfl
          refine wp_value (x := .slice Ak n.kids.length ck) (w' := w') ?_ ⟨_, rfl, hc.read rfl (by decide)⟩
          clear hw hout hdp hc hn
          unfold execOp
          simp only [Act.eval, e33]
          go_simp
        · cases ho
          refine wp_value (x := .int .i64 i) (w' := w') ?_ ⟨_, rfl, hc.read rfl (by decide)⟩
          clear hw hout hdp hc hn
          unfold execOp
          simp only [Act.eval, q1]
          go_simp
        · cases ho
          have e35 := (hdp 17 35 (by kernel_rfl) (hw 17 (by kernel_rfl))).trans (hc.rd 17 _ rfl (hw 17 (by kernel_rfl)))
          refine wp_value (x := .int .i64 k0) (w' := w') ?_ ⟨_, rfl, hc.read rfl (by decide)⟩
          clear hw hout hdp hc hn
          unfold execOp
          simp only [Act.eval, e35]
          go_simp
        · cases ho
          have e34 := (hdp 16 34 (by kernel_rfl) (hw 16 (by kernel_rfl))).trans (hc.rd 16 _ rfl (hw 16 (by kernel_rfl)))
          have e36 := (hdp 18 36 (by kernel_rfl) (hw 18 (by kernel_rfl))).trans (hc.rd 18 _ rfl (hw 18 (by kernel_rfl)))
          refine wp_value (x := .slice (Ak.map (·.add k0)) (n.kids.length - k0) (ck - k0)) (w' := w') ?_ ⟨_, rfl, hc.read rfl (by decide)⟩
          clear hw hout hdp hc hn
          unfold execOp
          simp only [Act.eval, e34]
          go_simp
        · cases ho
          have e32 := (hdp 14 32 (by kernel_rfl) (hw 14 (by kernel_rfl))).trans (hc.rd 14 _ rfl (hw 14 (by kernel_rfl)))
          have e37 := (hdp 19 37 (by kernel_rfl) (hw 19 (by kernel_rfl))).trans (hc.rd 19 _ rfl (hw 19 (by kernel_rfl)))
          refine wp_value (x := .agg #[.bool false, .slice (Ai.map (·.add (k0 * 4))) (n.items.length - k0) (ci - k0), .slice (Ak.map (·.add k0)) (n.kids.length - k0) (ck - k0)]) (w' := w') ?_ ⟨_, rfl, hc.read rfl (by decide)⟩
          clear hw hout hdp hc hn
          unfold execOp
          rw [Array.getD_eq_getD_getElem?] at e32 e37
          go_simp
        · cases ho
          have hb := hc.before hL
          have e27 := (hdp 9 27 (by kernel_rfl) (hw 9 (by kernel_rfl))).trans (hc.rd 9 _ rfl (hw 9 (by kernel_rfl)))
          refine wp_skip (w' := put3 w' b4 (.bool false) (.slice Ai i ci) (.slice Ak k0 ck)) (run_store3 rfl q4 e27 (by rw [hb]; exact F4.out)) ⟨undef, rfl, ?_⟩
          rw [hb]
          exact hc.store rfl undef
      · intro L v w' F hall hc hF hFd hout hdp
        have q4 : F.tmps.getD 4 undef = .pointer (some ⟨b4, 0, none⟩) := hout 4 (by kernel_rfl)
        have q5 : F.tmps.getD 5 undef = .pointer (some ⟨b5, 0, none⟩) := hout 5 (by kernel_rfl)
        have e5 := (hdp 20 38 (by kernel_rfl)).trans (hc.rd 20 _ rfl (hall 20 (by omega)))
        have hb := hc.behind (hall 21 (by omega))
        have pd : F.defers = [] := hFd
        have G5 : NBox w' b5 false (.slice none 0 0) (.slice none 0 0) := by rw [hb]; exact put3_nb _ _ _ F5.out HNE.out.2.2
        have hFA : NBox (put3 w' b5 (.bool false) (.slice (Ai.map (·.add (k0 * 4))) (n.items.length - k0) (ci - k0)) (.slice (Ak.map (·.add k0)) (n.kids.length - k0) (ck - k0))) b4 false (.slice Ai i ci) (.slice Ak k0 ck) := by rw [hb]; exact put3_nb _ _ _ (put3_at F4.out) HNE.out.2.1
        have hFB : NBox (put3 w' b5 (.bool false) (.slice (Ai.map (·.add (k0 * 4))) (n.items.length - k0) (ci - k0)) (.slice (Ak.map (·.add k0)) (n.kids.length - k0) (ck - k0))) b5 false (.slice (Ai.map (·.add (k0 * 4))) (n.items.length - k0) (ci - k0)) (.slice (Ak.map (·.add k0)) (n.kids.length - k0) (ck - k0)) := put3_at G5
        have hFE : Ext J w J (put3 w' b5 (.bool false) (.slice (Ai.map (·.add (k0 * 4))) (n.items.length - k0) (ci - k0)) (.slice (Ak.map (·.add k0)) (n.kids.length - k0) (ck - k0))) := by rw [hb]; exact put3_e (put3_e HE.out.drew HL45.out.1 HJ45.out.1 _ _ _) HL45.out.2 HJ45.out.2 _ _ _
        clear hF hFd hout hdp hc hall
        simp only [List.drop_succ_cons, List.drop_zero]
        refine wpList_skip rfl (run_store3 rfl q5 e5 G5) ?_
        refine wpList_nil ?_
        change Exit.then _ _ .normal F _
        go_step
        go_step
        go_step
        go_step
        exact bodyPost_rcut pd hFA hFB q4 q5 ⟨_, _, rfl, hFE, HNA.out, HNB.out⟩
end Go.Proofs.Ytnnkgjaahmflmaa
