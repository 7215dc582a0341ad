/- The walk of Get. -/
import Derived.Test.YtnnkgjaahmflmaaCellGetM
import Derived.Test.YtnnkgjaahmflmaaLEqual
import Derived.Test.YtnnkgjaahmflmaaFloat
import Derived.WalkMore
import Derived.Deep.CutBlock
import Derived.Deep.DeepCutAuto
namespace Go.Proofs.Ytnnkgjaahmflmaa
open Go.RowKit
set_option linter.unusedVariables false

def gE (b : List UInt8) : Int := if (getN b).isSome = true then 0 else 7
def gN (b : List UInt8) : Nd := (getN b).getD ⟨false, [], []⟩
def GetP (J : Jm) (w : World) (b : List UInt8) (e : Ending) (w' : World) : Prop := ∃ vn J', e = .returned (.tuple #[vn, .int .i64 (gE b)]) ∧ Ext J w J' w' ∧ NdO J' w' w.heap.size vn (gN b)
theorem gN_none {b : List UInt8} (h : getN b = none) : gE b = 7 ∧ gN b = ⟨false, [], []⟩ := by unfold gE gN; rw [h]; exact ⟨rfl, rfl⟩
theorem GetP.no {J J' : Jm} {w w' : World} {b : List UInt8} (h : getN b = none) (hE : Ext J w J' w') : GetP J w b (.returned (.tuple #[.agg #[.bool false, .slice none 0 0, .slice none 0 0], .int .i64 7])) w' := by
  obtain ⟨h1, h2⟩ := gN_none h
  refine ⟨_, J', by rw [h1], hE, _, _, by rw [h2], ?_, ?_⟩
  · rw [h2]; exact Own.nil _ _ _ _ _
  · rw [h2]; exact Own.nil _ _ _ _ _
theorem bodyPost_get {R : Ending → World → Prop} {tmps : Array Value} {w : World} {b : Nat} {l : Bool} {vi vk : Value} {e : Int} (h : NBox w b l vi vk)
    (h2 : tmps[2]?.getD undef = .pointer (some ⟨b, 0, none⟩)) (h3 : tmps[3]?.getD undef = .int .i64 e) (hR : R (.returned (.tuple #[.agg #[.bool l, vi, vk], .int .i64 e])) w) : bodyPost Try.prog Try.f22 R .ret ⟨tmps, []⟩ w := by
  have n0 := blk_cell_J h 0 rfl
  have n1 := blk_cell_J h 1 rfl
  have n2 := blk_cell_J h 2 rfl
  refine ⟨rfl, _, ?_, hR⟩
  simp [results, Try.results22, go_sem, n0, n1, n2, h2, h3]
def TBox (w : World) (b : Nat) : Prop := NBox w b false (.slice none 0 0) (.slice none 0 0)
set_option maxRecDepth 100000 in
set_option maxHeartbeats 8000000 in
theorem Get_short {J : Jm} {w : World} (hI : Inv J w) {v : Value} {b : List UInt8} (hb : Bs J v b) (hl : b.length ≤ 9223372036854775807) (hn : ¬ b.length = 240) :
    Calls Try.prog 22 #[v] w fun e w' => GetP J w b e w' := by
  obtain ⟨A, c, rfl, hnc, hm⟩ := hb.form
  unfold maxLen at hm
  have hG : getN b = none := by
    unfold getN
    split
    · rfl
    · rw [if_neg (fun h => hn h.1)]
  have HG := Lib.hid hG
  have e1 : ((b.length : Int) != 240) = true := by simp; omega
  have e2 : ¬ (b.length : Int) = 240 := by omega
  clear hG hb hn
  go_enter Try.func22, Try.ntmps22
  go_wp2_with fail
  go_step3
  go_wp2_with fail
  rw [Exit.noGoto_ret]
  exact bodyPost_get (heap_alloc_new w _) rfl rfl (GetP.no HG.out ((Ext.refl hI).alloc _))
set_option maxRecDepth 100000 in
set_option maxHeartbeats 8000000 in
theorem Get_odd {J : Jm} {w : World} (hI : Inv J w) {v : Value} {h : UInt8} {l : List UInt8} (hb : Bs J v (h :: l)) (hl : l.length + 1 = 240) (h1 : h ≠ 1) (h2 : h ≠ 2) :
    Calls Try.prog 22 #[v] w fun e w' => GetP J w (h :: l) e w' := by
  obtain ⟨A, c, rfl, hnc, hm⟩ := hb.form
  unfold maxLen at hm
  have HG := Lib.hid (show getN (h :: l) = none from by
    unfold getN
    simp only []
    rw [if_neg (fun q => by rcases q.2 with q | q; exact h1 q; exact h2 q)])
  obtain ⟨ab, ao, rfl, c0⟩ := (hb.mono (Jm.le_refl _)).cell (hI.alloc (.cells #[.bool false, .slice none 0 0, .slice none 0 0] 25)) (j := 0) (by simp)
  simp only [List.getElem_cons_zero, Nat.add_zero] at c0
  rw [List.length_cons, hl]
  have e1 : ((h.toNat : Int) != 1) = true := by simp; intro q; exact h1 (UInt8.toNat_inj.1 (by simpa using (by omega : h.toNat = 1)))
  have e2 : ((h.toNat : Int) != 2) = true := by simp; intro q; exact h2 (UInt8.toNat_inj.1 (by simpa using (by omega : h.toNat = 2)))
  clear hb
  go_enter Try.func22, Try.ntmps22
  go_wp2_with fail
  go_step3
  go_wp2_with fail
  rw [Exit.noGoto_ret]
  exact bodyPost_get (heap_alloc_new w _) rfl rfl (GetP.no HG.out ((Ext.refl hI).alloc _))
theorem key_calls {J : Jm} {w : World} (hI : Inv J w) {rb : Nat} {s : Rst} (hr : Rdr J w rb (rNum 64 s).2) :
    Calls Try.prog 47 #[.pointer (some ⟨rb, 0, none⟩), .int .i64 ((rNum 64 s).1 : Nat)] w fun e w' => e = .returned (.string (strB (rKey s).1)) ∧ Mv (· = rb) J w J w' ∧ Rdr J w' rb (rKey s).2 :=
  text_calls hI hr _ (by have := (rNum_len 64 s).1; omega)
theorem textI_calls {J : Jm} {w : World} (hI : Inv J w) {rb : Nat} {s : Rst} (hr : Rdr J w rb s) (x : Int) (n : Nat) (hx : x = n) (hn : n ≤ 9223372036854775807) :
    Calls Try.prog 47 #[.pointer (some ⟨rb, 0, none⟩), .int .i64 x] w fun e w' => e = .returned (.string (strB (rTxt n s).1)) ∧ Mv (· = rb) J w J w' ∧ Rdr J w' rb (rTxt n s).2 := by
  subst hx; exact text_calls hI hr n hn
theorem getN_eq {h : UInt8} {leaf : Bool} {l : List UInt8} {n : Nd} {ok : Bool} (hl : l.length + 1 = 240) (hh : h = 1 ∨ h = 2) (hd : decide (h = 1) = leaf) (hr : rNode leaf l = (n, ok)) :
    getN (h :: l) = if ok = true ∧ wrong n = 0 ∧ page n = h :: l then some n else none := by
  unfold getN
  simp only []
  rw [if_pos ⟨by rw [List.length_cons]; exact hl, hh⟩, hd, hr]
theorem rLeaf_eq {s s2 s3 : Rst} {key : List UInt8} {k : Nat} (h1 : rKey s = (key, s2)) (h2 : rNum 9217 s2 = (k, s3)) :
    rLeaf s = (if k % 2 = 1 then (⟨key, [], (rTwo s3).1, ((k / 2 : Nat) : Int)⟩, (rTwo s3).2) else (⟨key, (rTxt (k / 2) s3).1, 0, 0⟩, (rTxt (k / 2) s3).2)) := by
  unfold rLeaf; simp only [h1, h2]
theorem put3_box {w : World} {b : Nat} {l : Bool} {vi vk : Value} (h : NBox w b l vi vk) (l' : Bool) (vi' vk' : Value) : NBox (((w.setCell ⟨b, 0, none⟩ (.bool l')).setCell ⟨b, 1, none⟩ vi').setCell ⟨b, 2, none⟩ vk') b l' vi' vk' :=
  blk_set_J (blk_set_J (blk_set_J h 0 (.bool l')) 1 vi') 2 vk'
theorem put3_ext {J J9 : Jm} {w w9 : World} (h : Ext J w J9 w9) {b : Nat} (hb : w.heap.size ≤ b) (hJ : J9 b = []) (x y z : Value) : Ext J w J9 (((w9.setCell ⟨b, 0, none⟩ x).setCell ⟨b, 1, none⟩ y).setCell ⟨b, 2, none⟩ z) :=
  ((h.setCell (p := ⟨b, 0, none⟩) hb hJ x).setCell (p := ⟨b, 1, none⟩) hb hJ y).setCell (p := ⟨b, 2, none⟩) hb hJ z
theorem put3_node {J9 : Jm} {w9 : World} {B B' b : Nat} {v : Value} {n : Nd} (h : NdO J9 w9 B v n) (hb : b < B) (hB : B' ≤ B) (x y z : Value) : NdO J9 (((w9.setCell ⟨b, 0, none⟩ x).setCell ⟨b, 1, none⟩ y).setCell ⟨b, 2, none⟩ z) B' v n := by
  obtain ⟨vi, vk, h0, h1, h2⟩ := h
  have key : ∀ {T : TypeId} {size n : Nat} {v : Value} {cs : List Value} (hq : Own J9 w9 B T size v n cs), Own J9 (((w9.setCell ⟨b, 0, none⟩ x).setCell ⟨b, 1, none⟩ y).setCell ⟨b, 2, none⟩ z) B' T size v n cs := fun hq => by
    have hne : ∀ i : Nat, _ ≠ some (Addr.block ⟨b, i, none⟩) := fun i e => by have := (hq.lt _ e).1; simp only at this; omega
    exact (own_set (own_set (own_set hq (hne 0) x) (hne 1) y) (hne 2) z).lower hB
  exact ⟨vi, vk, h0, key h1, key h2⟩
theorem GetP.yes {J J' : Jm} {w w' : World} {b : List UInt8} {v : Value} {n : Nd} (h : getN b = some n) (hE : Ext J w J' w') (hn : NdO J' w' w.heap.size v n) : GetP J w b (.returned (.tuple #[v, .int .i64 0])) w' := by
  refine ⟨v, J', by unfold gE; rw [h]; rfl, hE, by unfold gN; rw [h]; exact hn⟩
set_option maxRecDepth 100000 in
set_option maxHeartbeats 8000000 in
theorem Get_leaf {J : Jm} {w : World} (hI : Inv J w) {v : Value} {l : List UInt8} (hb : Bs J v (1 :: l)) (hl : l.length + 1 = 240) :
    Calls Try.prog 22 #[v] w fun e w' => GetP J w (1 :: l) e w' := by
  obtain ⟨A, c, rfl, hnc, hm⟩ := hb.form
  unfold maxLen at hm
  obtain ⟨ab, ao, rfl, c00⟩ := hb.cell hI (j := 0) (by simp)
  simp only [List.getElem_cons_zero, Nat.add_zero] at c00
  have HC0 := Lib.hid c00
  have HB := Lib.hid (show Bs J (.slice (some ⟨ab, ao, none⟩) 240 c) (1 :: l) from by have h := hb; rw [List.length_cons, hl] at h; exact h)
  have hsub := hb.from' 1 (by simp)
  rw [List.length_cons, hl] at hsub hnc ⊢
  rw [if_neg (show ¬ c = 1 by omega)] at hsub
  have HSB := Lib.hid (show Bs J (.slice (some ⟨ab, ao + 1, none⟩) l.length (c - 1)) l from by
    have h2 := hsub
    rw [show 240 - 1 = l.length by omega] at h2
    exact h2)
  have hc1 : ¬ c = 1 := by omega
  have hc1i : ¬ (c : Int) = 1 := by omega
  clear hb hsub c00
  go_enter Try.func22, Try.ntmps22
  go_wp2_with fail
  have HE0 := Lib.hid ((Ext.refl hI).alloc (.cells #[.bool false, .slice none 0 0, .slice none 0 0] 25))
  have HT0 := Lib.hid (show TBox (w.alloc (.cells #[.bool false, .slice none 0 0, .slice none 0 0] 25)) w.heap.size from heap_alloc_new w _)
  have c0 := below_held HE0.out.below HC0.out
  have hlt0 : w.heap.size < (w.alloc (.cells #[.bool false, .slice none 0 0, .slice none 0 0] 25)).heap.size := by simp
  generalize World.alloc w _ = W at *
  obtain ⟨b2, hb2⟩ : ∃ b, b = w.heap.size := ⟨_, rfl⟩
  rw [← hb2] at HT0 hlt0 ⊢
  have HB2 := Lib.hid (show w.heap.size ≤ b2 ∧ b2 < W.heap.size ∧ J b2 = [] from ⟨by omega, hlt0, hI.nil (by omega)⟩)
  clear hb2 hlt0
  go_step3
  go_upto_region 4 with fail
  have HE1 := Lib.hid ((Ext.refl HE0.out.inv).alloc (.cells #[.bool true, .slice none 0 0, .slice none 0 0] 25))
  have HN1 := Lib.hid (show NBox (W.alloc (.cells #[.bool true, .slice none 0 0, .slice none 0 0] 25)) W.heap.size true (.slice none 0 0) (.slice none 0 0) from heap_alloc_new W _)
  generalize World.alloc W _ = W1 at *
  have c0 := below_held (HE0.out.trans HE1.out).below HC0.out
  go_upto_region 5 with fail
  have h239 : l.length = 239 := by omega
  have HG := Lib.hid (show GS J W W.heap.size W1.heap.size true (.slice none 0 0) (.slice none 0 0) [] [] ⟨l, true⟩ J (W1.alloc (.cells #[.slice (some ⟨ab, ao + 1, none⟩) 239 (c - 1), .bool true] 71)) from by
    have hlt := (Array.getElem?_eq_some_iff.1 HN1.out).1
    refine ⟨HE1.out.alloc _, (Below.heap_alloc W1 _ _ hlt).trans HN1.out, HE0.out.inv.nil (Nat.le_refl _), Own.nil _ _ _ _ _, Own.nil _ _ _ _ _, ⟨some ⟨ab, ao + 1, none⟩, c - 1, ?_, HSB.out, HE1.out.inv.nil (Nat.le_refl _), by unfold maxLen; omega⟩, Nat.le_refl _, hlt⟩
    show _ = some (Obj.cells [.slice (some ⟨ab, ao + 1, none⟩) l.length (c - 1), .bool true].toArray _ _)
    rw [h239]
    exact heap_alloc_new W1 _)
  generalize World.alloc W1 _ = W2 at *
  generalize W.heap.size = nb at *
  generalize W1.heap.size = rb at *
  clear HN1 HE1
  go_wp2_with fail
  refine (number_calls HG.out.ext.inv HG.out.rd 240 (by omega)).mono ?_
  rintro e w3 ⟨rfl, hM, hR⟩
  have HG := Lib.hid (HG.out.read hM hR)
  have hcn := (rNum_len 240 ⟨l, true⟩).1
  have HRN := Lib.hid (show rNode true l = (⟨true, (rLeafs (rNum 240 ⟨l, true⟩).1 (rNum 240 ⟨l, true⟩).2 []).1, []⟩, (rLeafs (rNum 240 ⟨l, true⟩).1 (rNum 240 ⟨l, true⟩).2 []).2.ok) from rfl)
  clear hM hR
  generalize (rNum 240 ⟨l, true⟩).1 = cnt at *
  generalize (rNum 240 ⟨l, true⟩).2 = s1 at *
  have n0 := blk_cell_J HG.out.nbx 0 rfl
  go_wp2_with fail
  go_step3
  go_upto_block 0 with fail
  go_cut [49] (fun iv wx => ∃ vi vk I s J', Hid (GS J W nb rb true vi vk I [] s J' wx) ∧ Hid (rNode true l = (⟨true, I, []⟩, s.ok)))
  case first => as_aux_lemma =>
    go_wp2_with fail
    go_loopw [49] (fun jv wr => ∃ (j : Nat) (vi vk : Value) (I : List Cl) (s : Rst) (J' : Jm), j ≤ cnt ∧ jv = .int .i64 j ∧ Hid (GS J W nb rb true vi vk I [] s J' wr) ∧ Hid (rLeafs (cnt - j) s I = rLeafs cnt s1 []) ∧ Hid (I.length ≤ j)) (fun jv _ => cnt - (intOf jv).toNat)
    case atStart => exact ⟨0, _, _, [], s1, J, Nat.zero_le _, rfl, HG, rfl, Nat.zero_le _⟩
    case round =>
      clear HG n0
      obtain ⟨j, vi, vk, I, s, J', hj, rfl, HG, HRL, HIL⟩ := hrel
      have j0 : (0 : Int) ≤ (j : Int) := by omega
      by_cases hlt : j < cnt
      · have j1 : (j : Int) < cnt := by omega
        obtain ⟨d, hd⟩ : ∃ d, cnt - j = d + 1 := ⟨cnt - j - 1, by omega⟩
        have HL := Lib.hid (show (if (rLeaf s).2.ok = true then rLeafs d (rLeaf s).2 (I ++ [(rLeaf s).1]) else (I, (rLeaf s).2)) = rLeafs cnt s1 [] from by have h := HRL.out; rw [hd] at h; exact h)
        have HD := Lib.hid (show d = cnt - (j + 1) from by omega)
        clear hd
        go_wp2_with fail
        refine (number_calls HG.out.ext.inv HG.out.rd 64 (by omega)).mono ?_
        rintro e w4 ⟨rfl, hM, hR⟩
        have HG := Lib.hid (HG.out.read hM hR)
        have hk64 := (rNum_len 64 s).1
        clear hM hR
        go_wp2_with fail
        refine (key_calls HG.out.ext.inv HG.out.rd).mono ?_
        obtain ⟨key, s2, hks⟩ : ∃ key s2, rKey s = (key, s2) := ⟨_, _, rfl⟩
        rw [hks]
        rintro e w5 ⟨rfl, hM, hR⟩
        have HG := Lib.hid (HG.out.read hM hR)
        obtain ⟨k, s3, hk3⟩ : ∃ k s3, rNum 9217 s2 = (k, s3) := ⟨_, _, rfl⟩
        have HLE := Lib.hid (rLeaf_eq hks hk3)
        have HKS := Lib.hid hks
        have HK3 := Lib.hid hk3
        have hk9 : k ≤ 9217 := by have := (rNum_len 9217 s2).1; rw [hk3] at this; exact this
        clear hM hR hks hk3
        go_upto_region 11 with fail
        have HX := Lib.hid (GX.new HG.out ⟨key, [], 0, 0⟩ (.cells #[.string (strB key), .string ⟨#[]⟩, .int .i64 0, .int .i64 0] 55) rfl)
        have HG := Lib.hid (HG.out.step ((Ext.refl HG.out.ext.inv).alloc (.cells #[.string (strB key), .string ⟨#[]⟩, .int .i64 0, .int .i64 0] 55)))
        generalize World.alloc w5 _ = Wx at *
        generalize w5.heap.size = xb at *
        have n0 := blk_cell_J HG.out.nbx 0 rfl
        go_wp2_with fail
        refine (number_calls HG.out.ext.inv HG.out.rd 9217 (by omega)).mono ?_
        rw [HK3.out]
        rintro e w6 ⟨rfl, hM, hR⟩
        have HG := Lib.hid (HG.out.read hM hR)
        have HX := Lib.hid (HX.out.read hM)
        clear hM hR n0
        have k0 : (0 : Int) ≤ (k : Int) := by omega
        by_cases hk1 : k % 2 = 1
        · have HLF := Lib.hid (show rLeaf s = (⟨key, [], (rTwo s3).1, (k : Int) / 2⟩, (rTwo s3).2) from by rw [HLE.out, if_pos hk1]; rfl)
          have hk1i : (k : Int) % 2 = 1 := by omega
          clear hk1
          go_wp2_with fail
          refine (rdTwo_calls HG.out.ext.inv HG.out.rd).mono ?_
          obtain ⟨pg, s4, ht⟩ : ∃ pg s4, rTwo s3 = (pg, s4) := ⟨_, _, rfl⟩
          rw [ht] at HLF ⊢
          rintro e w7 ⟨rfl, hM, hR⟩
          have HG := Lib.hid (HG.out.read hM hR)
          have HX := Lib.hid (HX.out.read hM)
          clear hM hR
          have f2 := frozen_of_row _ xb 2 _ _ HX.out.bx
          have f3 := frozen_of_row _ xb 3 _ _ HX.out.bx
          have x2 := blk_cell_J HX.out.bx 2 rfl
          have x3 := blk_cell_J HX.out.bx 3 rfl
          go_upto_region 17 with fail
          have hx3 := HX.out.set 3 (.int .i64 ((k : Int) / 2)) ⟨key, [], 0, (k : Int) / 2⟩ rfl
          have hg3 := HG.out.xset HX.out 3 (.int .i64 ((k : Int) / 2))
          have HX := Lib.hid (hx3.set 2 (.int .i64 pg) ⟨key, [], pg, (k : Int) / 2⟩ rfl)
          have HG := Lib.hid (hg3.xset hx3 2 (.int .i64 pg))
          clear hx3 hg3 f2 f3 x2 x3
          obtain ⟨y, hy⟩ : ∃ y : Cl, y = ⟨key, [], pg, (k : Int) / 2⟩ := ⟨_, rfl⟩
          rw [← hy] at HX HLF
          clear hy
          generalize World.setCell (World.setCell w7 _ _) _ _ = Wy at *
          have hil := HIL.out
          obtain ⟨rA, rc, hrh, -, -, -⟩ := HG.out.rd
          have r1 := blk_cell_J hrh 1 rfl
          clear hrh
          cases hok : s4.ok with
          | false =>
            have HRF := Lib.hid (show rNode true l = (⟨true, I, []⟩, s4.ok) from by rw [HRN.out, ← HL.out, HLF.out, hok]; simp [hok])
            rw [hok] at r1
            go_wp2_with fail
            go_meet
            case rel => exact ⟨vi, vk, I, s4, J', HG, HRF⟩
          | true =>
            rw [hok] at r1
            have HRF := Lib.hid (show rLeafs (cnt - (j + 1)) s4 (I ++ [y]) = rLeafs cnt s1 [] from by rw [← HL.out, HLF.out, ← HD.out]; simp [hok])
            have HIL2 := Lib.hid (show (I ++ [y]).length ≤ j + 1 from by rw [List.length_append]; have := HIL.out; simp; omega)
            have n1 := blk_cell_J HG.out.nbx 1 rfl
            have x0 := blk_cell_J HX.out.bx 0 rfl
            have x1 := blk_cell_J HX.out.bx 1 rfl
            have x2 := blk_cell_J HX.out.bx 2 rfl
            have x3 := blk_cell_J HX.out.bx 3 rfl
            have hrl := HG.out.rd.lt
            go_wp2_with (at_builtin; go_must (refine wpList_append_lit (J := J') (s := .tmp 87) (x := .tmp 89) (t := 22) (e := 55) (base := rb + 1) (v := vi) (n := I.length) (xs := clC I) (m := 1) (news := clC [y]) rfl (.agg #[.string ByteArray.empty, .string ByteArray.empty, .int .i64 0, .int .i64 0]) 4 48 rfl Try.underlying22 info_cell rfl rfl (HG.out.ext.inv.alloc _) (HG.out.oi.alloc _) rfl (heap_alloc_new _ _) rfl (clC_one _) (by simp only [maxLen]; omega) (by omega) (by simp; omega) ?_; intro v8 w8 J8 ho8 hg8 hv8; obtain ⟨A8, c8, rfl, -, -⟩ := ho8.sl.form; have HG8 := Lib.hid (HG.out.step ((Ext.refl HG.out.ext.inv).alloc (.cells (clC [y]).toArray 55))); have HNB8 := Lib.hid (HG8.out.nb_item hg8); have HO8 := Lib.hid ho8; have HGR8 := Lib.hid hg8; clear ho8 hg8 hv8; have n81 := blk_cell_J HNB8.out 1 rfl; have n8f := frozen_of_row _ nb 1 _ _ HNB8.out))
            go_roundw
            case rel => exact ⟨j + 1, _, vk, I ++ [y], s4, J8, by omega, by go_num, Lib.hid (HG8.out.item HO8.out HGR8.out), HRF, HIL2⟩
            case measure => simp [intOf] <;> omega
        · have HLF := Lib.hid (show rLeaf s = (⟨key, (rTxt (k / 2) s3).1, 0, 0⟩, (rTxt (k / 2) s3).2) from by rw [HLE.out, if_neg hk1])
          have hk1i : ¬ (k : Int) % 2 = 1 := by omega
          clear hk1
          go_wp2_with fail
          refine (textI_calls HG.out.ext.inv HG.out.rd ((k : Int) / 2) (k / 2) (Int.natCast_ediv k 2).symm (by omega)).mono ?_
          obtain ⟨vl, s4, ht⟩ : ∃ vl s4, rTxt (k / 2) s3 = (vl, s4) := ⟨_, _, rfl⟩
          rw [ht] at HLF ⊢
          rintro e w7 ⟨rfl, hM, hR⟩
          have HG := Lib.hid (HG.out.read hM hR)
          have HX := Lib.hid (HX.out.read hM)
          clear hM hR
          have f1 := frozen_of_row _ xb 1 _ _ HX.out.bx
          have x1 := blk_cell_J HX.out.bx 1 rfl
          go_upto_region 17 with fail
          have hx3 := HX.out
          have hg3 := HG.out
          have HX := Lib.hid (hx3.set 1 (.string (strB vl)) ⟨key, vl, 0, 0⟩ rfl)
          have HG := Lib.hid (hg3.xset hx3 1 (.string (strB vl)))
          clear hx3 hg3 f1 x1
          obtain ⟨y, hy⟩ : ∃ y : Cl, y = ⟨key, vl, 0, 0⟩ := ⟨_, rfl⟩
          rw [← hy] at HX HLF
          clear hy
          generalize World.setCell w7 _ _ = Wy at *
          have hil := HIL.out
          obtain ⟨rA, rc, hrh, -, -, -⟩ := HG.out.rd
          have r1 := blk_cell_J hrh 1 rfl
          clear hrh
          cases hok : s4.ok with
          | false =>
            have HRF := Lib.hid (show rNode true l = (⟨true, I, []⟩, s4.ok) from by rw [HRN.out, ← HL.out, HLF.out, hok]; simp [hok])
            rw [hok] at r1
            go_wp2_with fail
            go_meet
            case rel => exact ⟨vi, vk, I, s4, J', HG, HRF⟩
          | true =>
            rw [hok] at r1
            have HRF := Lib.hid (show rLeafs (cnt - (j + 1)) s4 (I ++ [y]) = rLeafs cnt s1 [] from by rw [← HL.out, HLF.out, ← HD.out]; simp [hok])
            have HIL2 := Lib.hid (show (I ++ [y]).length ≤ j + 1 from by rw [List.length_append]; have := HIL.out; simp; omega)
            have n1 := blk_cell_J HG.out.nbx 1 rfl
            have x0 := blk_cell_J HX.out.bx 0 rfl
            have x1 := blk_cell_J HX.out.bx 1 rfl
            have x2 := blk_cell_J HX.out.bx 2 rfl
            have x3 := blk_cell_J HX.out.bx 3 rfl
            have hrl := HG.out.rd.lt
            go_wp2_with (at_builtin; go_must (refine wpList_append_lit (J := J') (s := .tmp 87) (x := .tmp 89) (t := 22) (e := 55) (base := rb + 1) (v := vi) (n := I.length) (xs := clC I) (m := 1) (news := clC [y]) rfl (.agg #[.string ByteArray.empty, .string ByteArray.empty, .int .i64 0, .int .i64 0]) 4 48 rfl Try.underlying22 info_cell rfl rfl (HG.out.ext.inv.alloc _) (HG.out.oi.alloc _) rfl (heap_alloc_new _ _) rfl (clC_one _) (by simp only [maxLen]; omega) (by omega) (by simp; omega) ?_; intro v8 w8 J8 ho8 hg8 hv8; obtain ⟨A8, c8, rfl, -, -⟩ := ho8.sl.form; have HG8 := Lib.hid (HG.out.step ((Ext.refl HG.out.ext.inv).alloc (.cells (clC [y]).toArray 55))); have HNB8 := Lib.hid (HG8.out.nb_item hg8); have HO8 := Lib.hid ho8; have HGR8 := Lib.hid hg8; clear ho8 hg8 hv8; have n81 := blk_cell_J HNB8.out 1 rfl; have n8f := frozen_of_row _ nb 1 _ _ HNB8.out))
            go_roundw
            case rel => exact ⟨j + 1, _, vk, I ++ [y], s4, J8, by omega, by go_num, Lib.hid (HG8.out.item HO8.out HGR8.out), HRF, HIL2⟩
            case measure => simp [intOf] <;> omega
      · obtain rfl : j = cnt := by omega
        have j1 : ¬ (j : Int) < j := by omega
        have HRF := Lib.hid (show rNode true l = (⟨true, I, []⟩, s.ok) from by rw [HRN.out, ← HRL.out, Nat.sub_self]; rfl)
        go_wp2_with fail
        go_meet
        case rel => exact ⟨vi, vk, I, s, J', HG, HRF⟩
  case rest => as_aux_lemma =>
    clear HG n0
    obtain ⟨vi, vk, I, s, J', HG, HRR⟩ := hcut
    obtain ⟨Ai, ci, rfl, -, -⟩ := HG.out.oi.sl.form
    obtain ⟨Ak, ck, rfl, -, -⟩ := HG.out.ok.sl.form
    have HPN := Lib.hid (getN_eq (h := 1) (leaf := true) hl (by decide) rfl HRR.out)
    have HNS := Lib.hid (show NdS ⟨true, I, []⟩ from by have h := rNode_S true l (by omega); rw [HRR.out] at h; exact h)
    have HNO := Lib.hid (show NdO J' wc (rb + 1) (.agg #[.bool true, .slice Ai I.length ci, .slice Ak (List.length (α := Int) []) ck]) ⟨true, I, []⟩ from ⟨_, _, rfl, HG.out.oi, HG.out.ok⟩)
    have n0 := blk_cell_J HG.out.nbx 0 rfl
    have n1 := blk_cell_J HG.out.nbx 1 rfl
    have n2 := blk_cell_J HG.out.nbx 2 rfl
    go_wp2_with fail
    refine (Put_calls HG.out.ext.inv HNO.out.v HNS.out).mono ?_
    rintro e w9 ⟨v9, J9, rfl, hE9, hO9⟩
    have HG := Lib.hid (HG.out.step hE9)
    have HNO := Lib.hid (HNO.out.ext hE9)
    have HO9 := Lib.hid hO9
    obtain ⟨rA, rc, hrh, -, -, -⟩ := HG.out.rd
    have r1 := blk_cell_J hrh 1 rfl
    clear hE9 hO9 hrh n0 n1 n2
    have hlo := HG.out.lo
    have HTC := Lib.hid (show TBox w9 b2 from (HG.out.ext.below.block b2 (Array.getElem?_eq_some_iff.1 HT0.out).1).trans HT0.out)
    have HEE := Lib.hid (HE0.out.trans HG.out.ext)
    have HJB := Lib.hid (show J9 b2 = [] from (HG.out.ext.old b2 (Array.getElem?_eq_some_iff.1 HT0.out).1).trans HB2.out.2.2)
    have t0 := blk_cell_J HTC.out 0 rfl
    have t1 := blk_cell_J HTC.out 1 rfl
    have t2 := blk_cell_J HTC.out 2 rfl
    have tf0 := frozen_of_row _ b2 0 _ _ HTC.out
    have tf1 := frozen_of_row _ b2 1 _ _ HTC.out
    have tf2 := frozen_of_row _ b2 2 _ _ HTC.out
    cases hok : s.ok with
    | false =>
      rw [hok] at r1
      have HGN := Lib.hid (show getN (1 :: l) = none from by rw [HPN.out, if_neg (fun q => by rw [hok] at q; cases q.1)])
      go_wp2_with fail
      rw [Exit.noGoto_ret]
      exact bodyPost_get (put3_box HTC.out _ _ _) rfl rfl (GetP.no HGN.out (put3_ext HEE.out HB2.out.1 HJB.out _ _ _))
    | true =>
      rw [hok] at r1
      by_cases hw0 : wrong ⟨true, I, []⟩ = 0
      · have HOP := Lib.hid (show outP ⟨true, I, []⟩ = page ⟨true, I, []⟩ from if_pos hw0)
        have HBS := Lib.hid (show Bs J9 v9 (page ⟨true, I, []⟩) from by have := HO9.out; rw [HOP.out] at this; exact Own.bs this)
        have HW0 := Lib.hid hw0
        rw [hw0]
        go_wp2_with fail
        refine (equal_calls HG.out.ext.inv HBS.out (HB.out.mono (HEE.out.le hI))).mono ?_
        by_cases hpb : page ⟨true, I, []⟩ = 1 :: l
        · rw [show (page ⟨true, I, []⟩ == 1 :: l) = true from by simp [hpb]]
          rintro e w10 ⟨rfl, rfl⟩
          have HGN := Lib.hid (show getN (1 :: l) = some ⟨true, I, []⟩ from by rw [HPN.out, if_pos ⟨hok, HW0.out, hpb⟩])
          have n0 := blk_cell_J HG.out.nbx 0 rfl
          have n1 := blk_cell_J HG.out.nbx 1 rfl
          have n2 := blk_cell_J HG.out.nbx 2 rfl
          go_wp2_with fail
          rw [Exit.noGoto_ret]
          exact bodyPost_get (put3_box HTC.out _ _ _) rfl rfl (GetP.yes HGN.out (put3_ext HEE.out HB2.out.1 HJB.out _ _ _) (put3_node HNO.out (by have := (Array.getElem?_eq_some_iff.1 HT0.out).1; omega) (by have := (Array.getElem?_eq_some_iff.1 HT0.out).1; have := HB2.out.1; omega) _ _ _))
        · rw [show (page ⟨true, I, []⟩ == 1 :: l) = false from by simp [hpb]]
          rintro e w10 ⟨rfl, rfl⟩
          have HGN := Lib.hid (show getN (1 :: l) = none from by rw [HPN.out, if_neg (fun q => hpb q.2.2)])
          go_wp2_with fail
          rw [Exit.noGoto_ret]
          exact bodyPost_get (put3_box HTC.out _ _ _) rfl rfl (GetP.no HGN.out (put3_ext HEE.out HB2.out.1 HJB.out _ _ _))
      · have HGN := Lib.hid (show getN (1 :: l) = none from by rw [HPN.out, if_neg (fun q => hw0 q.2.1)])
        obtain ⟨z, hz⟩ : ∃ z, z = wrong ⟨true, I, []⟩ := ⟨_, rfl⟩
        rw [← hz]
        have e7 : ((z : Int) != 0) = true := by simp; omega
        have e8 : ¬ (z : Int) = 0 := by omega
        clear hz hw0
        go_wp2_with fail
        rw [Exit.noGoto_ret]
        exact bodyPost_get (put3_box HTC.out _ _ _) rfl rfl (GetP.no HGN.out (put3_ext HEE.out HB2.out.1 HJB.out _ _ _))
set_option maxRecDepth 100000 in
set_option maxHeartbeats 8000000 in
theorem Get_inner {J : Jm} {w : World} (hI : Inv J w) {v : Value} {l : List UInt8} (hb : Bs J v (2 :: l)) (hl : l.length + 1 = 240) :
    Calls Try.prog 22 #[v] w fun e w' => GetP J w (2 :: l) e w' := by
  obtain ⟨A, c, rfl, hnc, hm⟩ := hb.form
  unfold maxLen at hm
  obtain ⟨ab, ao, rfl, c00⟩ := hb.cell hI (j := 0) (by simp)
  simp only [List.getElem_cons_zero, Nat.add_zero] at c00
  have HC0 := Lib.hid c00
  have HB := Lib.hid (show Bs J (.slice (some ⟨ab, ao, none⟩) 240 c) (2 :: l) from by have h := hb; rw [List.length_cons, hl] at h; exact h)
  have hsub := hb.from' 1 (by simp)
  rw [List.length_cons, hl] at hsub hnc ⊢
  rw [if_neg (show ¬ c = 1 by omega)] at hsub
  have HSB := Lib.hid (show Bs J (.slice (some ⟨ab, ao + 1, none⟩) l.length (c - 1)) l from by
    have h2 := hsub
    rw [show 240 - 1 = l.length by omega] at h2
    exact h2)
  have hc1 : ¬ c = 1 := by omega
  have hc1i : ¬ (c : Int) = 1 := by omega
  clear hb hsub c00
  go_enter Try.func22, Try.ntmps22
  go_wp2_with fail
  have HE0 := Lib.hid ((Ext.refl hI).alloc (.cells #[.bool false, .slice none 0 0, .slice none 0 0] 25))
  have HT0 := Lib.hid (show TBox (w.alloc (.cells #[.bool false, .slice none 0 0, .slice none 0 0] 25)) w.heap.size from heap_alloc_new w _)
  have c0 := below_held HE0.out.below HC0.out
  have hlt0 : w.heap.size < (w.alloc (.cells #[.bool false, .slice none 0 0, .slice none 0 0] 25)).heap.size := by simp
  generalize World.alloc w _ = W at *
  obtain ⟨b2, hb2⟩ : ∃ b, b = w.heap.size := ⟨_, rfl⟩
  rw [← hb2] at HT0 hlt0 ⊢
  have HB2 := Lib.hid (show w.heap.size ≤ b2 ∧ b2 < W.heap.size ∧ J b2 = [] from ⟨by omega, hlt0, hI.nil (by omega)⟩)
  clear hb2 hlt0
  go_step3
  go_upto_region 4 with fail
  have HE1 := Lib.hid ((Ext.refl HE0.out.inv).alloc (.cells #[.bool false, .slice none 0 0, .slice none 0 0] 25))
  have HN1 := Lib.hid (show NBox (W.alloc (.cells #[.bool false, .slice none 0 0, .slice none 0 0] 25)) W.heap.size false (.slice none 0 0) (.slice none 0 0) from heap_alloc_new W _)
  generalize World.alloc W _ = W1 at *
  have c0 := below_held (HE0.out.trans HE1.out).below HC0.out
  go_upto_region 5 with fail
  have h239 : l.length = 239 := by omega
  have HG := Lib.hid (show GS J W W.heap.size W1.heap.size false (.slice none 0 0) (.slice none 0 0) [] [] ⟨l, true⟩ J (W1.alloc (.cells #[.slice (some ⟨ab, ao + 1, none⟩) 239 (c - 1), .bool true] 71)) from by
    have hlt := (Array.getElem?_eq_some_iff.1 HN1.out).1
    refine ⟨HE1.out.alloc _, (Below.heap_alloc W1 _ _ hlt).trans HN1.out, HE0.out.inv.nil (Nat.le_refl _), Own.nil _ _ _ _ _, Own.nil _ _ _ _ _, ⟨some ⟨ab, ao + 1, none⟩, c - 1, ?_, HSB.out, HE1.out.inv.nil (Nat.le_refl _), by unfold maxLen; omega⟩, Nat.le_refl _, hlt⟩
    show _ = some (Obj.cells [.slice (some ⟨ab, ao + 1, none⟩) l.length (c - 1), .bool true].toArray _ _)
    rw [h239]
    exact heap_alloc_new W1 _)
  generalize World.alloc W1 _ = W2 at *
  generalize W.heap.size = nb at *
  generalize W1.heap.size = rb at *
  clear HN1 HE1
  go_wp2_with fail
  refine (number_calls HG.out.ext.inv HG.out.rd 240 (by omega)).mono ?_
  rintro e w3 ⟨rfl, hM, hR⟩
  have HG := Lib.hid (HG.out.read hM hR)
  have hcn := (rNum_len 240 ⟨l, true⟩).1
  have HRN := Lib.hid (show rNode false l = (⟨false, (rInns (rNum 240 ⟨l, true⟩).1 (rTwo (rNum 240 ⟨l, true⟩).2).2 [] [(rTwo (rNum 240 ⟨l, true⟩).2).1]).1, (rInns (rNum 240 ⟨l, true⟩).1 (rTwo (rNum 240 ⟨l, true⟩).2).2 [] [(rTwo (rNum 240 ⟨l, true⟩).2).1]).2.1⟩, (rInns (rNum 240 ⟨l, true⟩).1 (rTwo (rNum 240 ⟨l, true⟩).2).2 [] [(rTwo (rNum 240 ⟨l, true⟩).2).1]).2.2.ok) from rfl)
  clear hM hR
  generalize (rNum 240 ⟨l, true⟩).1 = cnt at *
  generalize (rNum 240 ⟨l, true⟩).2 = s0 at *
  have n0 := blk_cell_J HG.out.nbx 0 rfl
  have n2 := blk_cell_J HG.out.nbx 2 rfl
  have hil : ([] : List Int).length = 0 := rfl
  have hrl : rb < w3.heap.size := HG.out.rd.lt
  go_upto_region 7 with fail
  obtain ⟨k0, s1, ht⟩ : ∃ k0 s1, rTwo s0 = (k0, s1) := ⟨_, _, rfl⟩
  rw [ht] at HRN
  refine wp_region_float (S := fun w' => w'.cell? ⟨nb, 2, none⟩ = some (.slice none 0 0)) 3 2 (by kernel_rfl) (by kernel_rfl) (cell_drew n2) ?_
  simp only [List.take_succ_cons, List.take_zero, List.drop_succ_cons, List.drop_zero]
  repeat
    refine wpStillIf_cons (v := ?_) (by rfl) ?_ ?_
    rotate_left
    · intro w' hS'
      (try dsimp only at hS')
      go_simp
      (try with_reducible rfl)
    simp only [Act.put, List.setIfInBounds_toArray, List.set_cons_zero, List.set_cons_succ]
  refine wpStillIf_nil ?_
  skip
  have HG := Lib.hid (HG.out.step ((Ext.refl HG.out.ext.inv).drew))
  refine wpListM_step rfl (fun K HK => ?_)
  go_simp
  refine (rdTwo_calls HG.out.ext.inv HG.out.rd).mono ?_
  rw [ht]
  rintro e w6 ⟨rfl, hM, hR⟩
  skip
  have HG := Lib.hid (HG.out.read hM hR)
  have hrl : rb < w6.heap.size := HG.out.rd.lt
  clear hM hR
  have HN2 := Lib.hid (blk_cell_J HG.out.nbx 2 rfl)
  refine HK.out _ _ HN2.out ?_
  clear HK K
  skip
  have HG8 := Lib.hid (HG.out.step ((Ext.refl HG.out.ext.inv).alloc (.cells (kcs [k0]).toArray 3)))
  have HN3 := Lib.hid (blk_cell_J HG8.out.nbx 2 rfl)
  refine wpListM_step rfl (fun K HK => ?_)
  go_simp
  refine HK.out _ _ HN3.out ?_
  clear HK K
  (try simp only [Act.put, List.setIfInBounds_toArray, List.set_cons_zero, List.set_cons_succ])
  refine wpListM_zero ?_
  go_wp2_with (at_builtin; go_must (refine wpList_append_lit (s := .tmp 42) (x := .tmp 45) (t := 23) (e := 3) (base := rb + 1) (v := .slice none 0 0) (n := 0) (xs := kcs ([] : List Int)) (m := 1) (news := kcs [k0]) rfl (.int .i64 0) 1 8 rfl Try.underlying23 info_int rfl rfl HG8.out.ext.inv HG8.out.ok rfl (heap_alloc_new _ _) rfl (kcs_one _) (by simp only [maxLen]; omega) (by omega) (by simp; omega) ?_; intro v8 w8 J8 ho8 hg8 hv8; obtain ⟨A8, c8, rfl, -, -⟩ := ho8.sl.form; have HNB8 := Lib.hid (HG8.out.nb_kid hg8); have HO8 := Lib.hid ho8; have HGR8 := Lib.hid hg8; clear ho8 hg8 hv8; have n82 := blk_cell_J HNB8.out 2 rfl; have n8f := frozen_of_row _ nb 2 _ _ HNB8.out))
  refine NoPanic.normal ?_
  go_wp2_with fail
  have HG := Lib.hid (HG8.out.kid HO8.out HGR8.out)
  generalize World.setCell w8 _ _ = wl at *
  have n0 := blk_cell_J HG.out.nbx 0 rfl
  go_step3
  go_upto_block 0 with fail
  go_cut [49] (fun iv wx => ∃ vi vk I KV s J', Hid (GS J W nb rb false vi vk I KV s J' wx) ∧ Hid (rNode false l = (⟨false, I, KV⟩, s.ok)))
  case first => as_aux_lemma =>
    go_wp2_with fail
    go_loopw [49] (fun jv wr => ∃ (j : Nat) (vi vk : Value) (I : List Cl) (KV : List Int) (s : Rst) (J' : Jm), j ≤ cnt ∧ jv = .int .i64 j ∧ Hid (GS J W nb rb false vi vk I KV s J' wr) ∧ Hid (rInns (cnt - j) s I KV = rInns cnt s1 [] [k0]) ∧ Hid (I.length ≤ j ∧ KV.length ≤ j + 1)) (fun jv _ => cnt - (intOf jv).toNat)
    case atStart => exact ⟨0, _, _, [], [k0], s1, J8, Nat.zero_le _, rfl, HG, rfl, Lib.hid ⟨Nat.zero_le _, Nat.le_refl _⟩⟩
    case round =>
      clear HG n0
      obtain ⟨j, vi, vk, I, KV, s, J', hj, rfl, HG, HRL, HIL⟩ := hrel
      have j0 : (0 : Int) ≤ (j : Int) := by omega
      by_cases hlt : j < cnt
      · have j1 : (j : Int) < cnt := by omega
        obtain ⟨d, hd⟩ : ∃ d, cnt - j = d + 1 := ⟨cnt - j - 1, by omega⟩
        have HL := Lib.hid (show (if (rTwo (rKey s).2).2.ok = true then rInns d (rTwo (rKey s).2).2 (I ++ [⟨(rKey s).1, [], 0, 0⟩]) (KV ++ [(rTwo (rKey s).2).1]) else (I, KV ++ [(rTwo (rKey s).2).1], (rTwo (rKey s).2).2)) = rInns cnt s1 [] [k0] from by have h := HRL.out; rw [hd] at h; exact h)
        have HD := Lib.hid (show d = cnt - (j + 1) from by omega)
        clear hd
        go_wp2_with fail
        refine (number_calls HG.out.ext.inv HG.out.rd 64 (by omega)).mono ?_
        rintro e w4 ⟨rfl, hM, hR⟩
        have HG := Lib.hid (HG.out.read hM hR)
        have hk64 := (rNum_len 64 s).1
        clear hM hR
        go_wp2_with fail
        refine (key_calls HG.out.ext.inv HG.out.rd).mono ?_
        obtain ⟨key, s2, hks⟩ : ∃ key s2, rKey s = (key, s2) := ⟨_, _, rfl⟩
        rw [hks]
        rintro e w5 ⟨rfl, hM, hR⟩
        have HG := Lib.hid (HG.out.read hM hR)
        have hl2 := HL.out
        rw [hks] at hl2
        simp only [] at hl2
        have HL := Lib.hid hl2
        clear hM hR hks hl2
        go_upto_region 11 with fail
        have HX := Lib.hid (GX.new HG.out ⟨key, [], 0, 0⟩ (.cells #[.string (strB key), .string ⟨#[]⟩, .int .i64 0, .int .i64 0] 55) rfl)
        have HG := Lib.hid (HG.out.step ((Ext.refl HG.out.ext.inv).alloc (.cells #[.string (strB key), .string ⟨#[]⟩, .int .i64 0, .int .i64 0] 55)))
        generalize World.alloc w5 _ = Wx at *
        generalize w5.heap.size = xb at *
        obtain ⟨Ak, ck, rfl, -, -⟩ := HG.out.ok.sl.form
        have n0 := blk_cell_J HG.out.nbx 0 rfl
        have n2 := blk_cell_J HG.out.nbx 2 rfl
        have hil := HIL.out
        have hrl : rb < Wx.heap.size := HG.out.rd.lt
        go_upto_region 16 with fail
        obtain ⟨kd, s4, ht⟩ : ∃ kd s4, rTwo s2 = (kd, s4) := ⟨_, _, rfl⟩
        have hl2 := HL.out
        rw [ht] at hl2
        simp only [] at hl2
        have HL := Lib.hid hl2
        clear hl2
        refine wp_region_float (S := fun w' => w'.cell? ⟨nb, 2, none⟩ = some (.slice Ak KV.length ck)) 3 2 (by kernel_rfl) (by kernel_rfl) (cell_drew n2) ?_
        simp only [List.take_succ_cons, List.take_zero, List.drop_succ_cons, List.drop_zero]
        repeat
          refine wpStillIf_cons (v := ?_) (by rfl) ?_ ?_
          rotate_left
          · intro w' hS'
            (try dsimp only at hS')
            go_simp
            (try with_reducible rfl)
          simp only [Act.put, List.setIfInBounds_toArray, List.set_cons_zero, List.set_cons_succ]
        refine wpStillIf_nil ?_
        (have HX := Lib.hid (HX.out.step ((Ext.refl HG.out.ext.inv).drew)))
        have HG := Lib.hid (HG.out.step ((Ext.refl HG.out.ext.inv).drew))
        refine wpListM_step rfl (fun K HK => ?_)
        go_simp
        refine (rdTwo_calls HG.out.ext.inv HG.out.rd).mono ?_
        rw [ht]
        rintro e w6 ⟨rfl, hM, hR⟩
        (have HX := Lib.hid (HX.out.read hM))
        have HG := Lib.hid (HG.out.read hM hR)
        have hrl : rb < w6.heap.size := HG.out.rd.lt
        clear hM hR
        have HN2 := Lib.hid (blk_cell_J HG.out.nbx 2 rfl)
        refine HK.out _ _ HN2.out ?_
        clear HK K
        (have HX := Lib.hid (HX.out.step ((Ext.refl HG.out.ext.inv).alloc (.cells (kcs [kd]).toArray 3))))
        have HG8 := Lib.hid (HG.out.step ((Ext.refl HG.out.ext.inv).alloc (.cells (kcs [kd]).toArray 3)))
        have HN3 := Lib.hid (blk_cell_J HG8.out.nbx 2 rfl)
        refine wpListM_step rfl (fun K HK => ?_)
        go_simp
        refine HK.out _ _ HN3.out ?_
        clear HK K
        (try simp only [Act.put, List.setIfInBounds_toArray, List.set_cons_zero, List.set_cons_succ])
        refine wpListM_zero ?_
        go_wp2_with (at_builtin; go_must (refine wpList_append_lit (s := .tmp 75) (x := .tmp 78) (t := 23) (e := 3) (base := rb + 1) (v := .slice Ak KV.length ck) (n := KV.length) (xs := kcs KV) (m := 1) (news := kcs [kd]) rfl (.int .i64 0) 1 8 rfl Try.underlying23 info_int rfl rfl HG8.out.ext.inv HG8.out.ok rfl (heap_alloc_new _ _) rfl (kcs_one _) (by simp only [maxLen]; omega) (by omega) (by simp; omega) ?_; intro v8 w8 J8 ho8 hg8 hv8; obtain ⟨A8, c8, rfl, -, -⟩ := ho8.sl.form; have HNB8 := Lib.hid (HG8.out.nb_kid hg8); have HO8 := Lib.hid ho8; have HGR8 := Lib.hid hg8; clear ho8 hg8 hv8; have n82 := blk_cell_J HNB8.out 2 rfl; have n8f := frozen_of_row _ nb 2 _ _ HNB8.out))
        refine NoPanic.normal ?_
        have HG := Lib.hid (HG8.out.kid HO8.out HGR8.out)
        have HX := Lib.hid (HX.out.kid HGR8.out HG8.out.lo.2)
        obtain ⟨y, hy⟩ : ∃ y : Cl, y = ⟨key, [], 0, 0⟩ := ⟨_, rfl⟩
        rw [← hy] at HX HL
        clear hy
        go_upto_region 17 with fail
        generalize World.setCell w8 _ _ = Wy at *
        obtain ⟨rA, rc, hrh, -, -, -⟩ := HG.out.rd
        have r1 := blk_cell_J hrh 1 rfl
        clear hrh
        cases hok : s4.ok with
        | false =>
          have HRF := Lib.hid (show rNode false l = (⟨false, I, KV ++ [kd]⟩, s4.ok) from by rw [HRN.out, ← HL.out, hok]; simp [hok])
          rw [hok] at r1
          go_wp2_with fail
          go_meet
          case rel => exact ⟨vi, _, I, KV ++ [kd], s4, J8, HG, HRF⟩
        | true =>
          rw [hok] at r1
          have HRF := Lib.hid (show rInns (cnt - (j + 1)) s4 (I ++ [y]) (KV ++ [kd]) = rInns cnt s1 [] [k0] from by rw [← HL.out, ← HD.out]; simp [hok])
          have HIL2 := Lib.hid (show (I ++ [y]).length ≤ j + 1 ∧ (KV ++ [kd]).length ≤ j + 1 + 1 from by rw [List.length_append, List.length_append]; have := HIL.out; simp; omega)
          obtain ⟨Aii, cii, rfl, -, -⟩ := HG.out.oi.sl.form
          have n1 := blk_cell_J HG.out.nbx 1 rfl
          have x0 := blk_cell_J HX.out.bx 0 rfl
          have x1 := blk_cell_J HX.out.bx 1 rfl
          have x2 := blk_cell_J HX.out.bx 2 rfl
          have x3 := blk_cell_J HX.out.bx 3 rfl
          have hrl := HG.out.rd.lt
          go_wp2_with (at_builtin; go_must (refine wpList_append_lit (J := J8) (s := .tmp 87) (x := .tmp 89) (t := 22) (e := 55) (base := rb + 1) (v := .slice Aii I.length cii) (n := I.length) (xs := clC I) (m := 1) (news := clC [y]) rfl (.agg #[.string ByteArray.empty, .string ByteArray.empty, .int .i64 0, .int .i64 0]) 4 48 rfl Try.underlying22 info_cell rfl rfl (HG.out.ext.inv.alloc _) (HG.out.oi.alloc _) rfl (heap_alloc_new _ _) rfl (clC_one _) (by simp only [maxLen]; omega) (by omega) (by simp; omega) ?_; intro v9 w9 J9 ho9 hg9 hv9; obtain ⟨A9, c9, rfl, -, -⟩ := ho9.sl.form; have HG9 := Lib.hid (HG.out.step ((Ext.refl HG.out.ext.inv).alloc (.cells (clC [y]).toArray 55))); have HNB9 := Lib.hid (HG9.out.nb_item hg9); have HO9 := Lib.hid ho9; have HGR9 := Lib.hid hg9; clear ho9 hg9 hv9; have n91 := blk_cell_J HNB9.out 1 rfl; have n9f := frozen_of_row _ nb 1 _ _ HNB9.out))
          go_roundw
          case rel => exact ⟨j + 1, _, _, I ++ [y], KV ++ [kd], s4, J9, by omega, by go_num, Lib.hid (HG9.out.item HO9.out HGR9.out), HRF, HIL2⟩
          case measure => simp [intOf] <;> omega
      · obtain rfl : j = cnt := by omega
        have j1 : ¬ (j : Int) < j := by omega
        have HRF := Lib.hid (show rNode false l = (⟨false, I, KV⟩, s.ok) from by rw [HRN.out, ← HRL.out, Nat.sub_self]; rfl)
        go_wp2_with fail
        go_meet
        case rel => exact ⟨vi, vk, I, KV, s, J', HG, HRF⟩
  case rest => as_aux_lemma =>
    clear HG n0
    obtain ⟨vi, vk, I, KV, s, J', HG, HRR⟩ := hcut
    obtain ⟨Ai, ci, rfl, -, -⟩ := HG.out.oi.sl.form
    obtain ⟨Ak, ck, rfl, -, -⟩ := HG.out.ok.sl.form
    have HPN := Lib.hid (getN_eq (h := 2) (leaf := false) hl (by decide) rfl HRR.out)
    have HNS := Lib.hid (show NdS ⟨false, I, KV⟩ from by have h := rNode_S false l (by omega); rw [HRR.out] at h; exact h)
    have HNO := Lib.hid (show NdO J' wc (rb + 1) (.agg #[.bool false, .slice Ai I.length ci, .slice Ak (List.length (α := Int) KV) ck]) ⟨false, I, KV⟩ from ⟨_, _, rfl, HG.out.oi, HG.out.ok⟩)
    have n0 := blk_cell_J HG.out.nbx 0 rfl
    have n1 := blk_cell_J HG.out.nbx 1 rfl
    have n2 := blk_cell_J HG.out.nbx 2 rfl
    go_wp2_with fail
    refine (Put_calls HG.out.ext.inv HNO.out.v HNS.out).mono ?_
    rintro e w9 ⟨v9, J9, rfl, hE9, hO9⟩
    have HG := Lib.hid (HG.out.step hE9)
    have HNO := Lib.hid (HNO.out.ext hE9)
    have HO9 := Lib.hid hO9
    obtain ⟨rA, rc, hrh, -, -, -⟩ := HG.out.rd
    have r1 := blk_cell_J hrh 1 rfl
    clear hE9 hO9 hrh n0 n1 n2
    have hlo := HG.out.lo
    have HTC := Lib.hid (show TBox w9 b2 from (HG.out.ext.below.block b2 (Array.getElem?_eq_some_iff.1 HT0.out).1).trans HT0.out)
    have HEE := Lib.hid (HE0.out.trans HG.out.ext)
    have HJB := Lib.hid (show J9 b2 = [] from (HG.out.ext.old b2 (Array.getElem?_eq_some_iff.1 HT0.out).1).trans HB2.out.2.2)
    have t0 := blk_cell_J HTC.out 0 rfl
    have t1 := blk_cell_J HTC.out 1 rfl
    have t2 := blk_cell_J HTC.out 2 rfl
    have tf0 := frozen_of_row _ b2 0 _ _ HTC.out
    have tf1 := frozen_of_row _ b2 1 _ _ HTC.out
    have tf2 := frozen_of_row _ b2 2 _ _ HTC.out
    cases hok : s.ok with
    | false =>
      rw [hok] at r1
      have HGN := Lib.hid (show getN (2 :: l) = none from by rw [HPN.out, if_neg (fun q => by rw [hok] at q; cases q.1)])
      go_wp2_with fail
      rw [Exit.noGoto_ret]
      exact bodyPost_get (put3_box HTC.out _ _ _) rfl rfl (GetP.no HGN.out (put3_ext HEE.out HB2.out.1 HJB.out _ _ _))
    | true =>
      rw [hok] at r1
      by_cases hw0 : wrong ⟨false, I, KV⟩ = 0
      · have HOP := Lib.hid (show outP ⟨false, I, KV⟩ = page ⟨false, I, KV⟩ from if_pos hw0)
        have HBS := Lib.hid (show Bs J9 v9 (page ⟨false, I, KV⟩) from by have := HO9.out; rw [HOP.out] at this; exact Own.bs this)
        have HW0 := Lib.hid hw0
        rw [hw0]
        go_wp2_with fail
        refine (equal_calls HG.out.ext.inv HBS.out (HB.out.mono (HEE.out.le hI))).mono ?_
        by_cases hpb : page ⟨false, I, KV⟩ = 2 :: l
        · rw [show (page ⟨false, I, KV⟩ == 2 :: l) = true from by simp [hpb]]
          rintro e w10 ⟨rfl, rfl⟩
          have HGN := Lib.hid (show getN (2 :: l) = some ⟨false, I, KV⟩ from by rw [HPN.out, if_pos ⟨hok, HW0.out, hpb⟩])
          have n0 := blk_cell_J HG.out.nbx 0 rfl
          have n1 := blk_cell_J HG.out.nbx 1 rfl
          have n2 := blk_cell_J HG.out.nbx 2 rfl
          go_wp2_with fail
          rw [Exit.noGoto_ret]
          exact bodyPost_get (put3_box HTC.out _ _ _) rfl rfl (GetP.yes HGN.out (put3_ext HEE.out HB2.out.1 HJB.out _ _ _) (put3_node HNO.out (by have := (Array.getElem?_eq_some_iff.1 HT0.out).1; omega) (by have := (Array.getElem?_eq_some_iff.1 HT0.out).1; have := HB2.out.1; omega) _ _ _))
        · rw [show (page ⟨false, I, KV⟩ == 2 :: l) = false from by simp [hpb]]
          rintro e w10 ⟨rfl, rfl⟩
          have HGN := Lib.hid (show getN (2 :: l) = none from by rw [HPN.out, if_neg (fun q => hpb q.2.2)])
          go_wp2_with fail
          rw [Exit.noGoto_ret]
          exact bodyPost_get (put3_box HTC.out _ _ _) rfl rfl (GetP.no HGN.out (put3_ext HEE.out HB2.out.1 HJB.out _ _ _))
      · have HGN := Lib.hid (show getN (2 :: l) = none from by rw [HPN.out, if_neg (fun q => hw0 q.2.1)])
        obtain ⟨z, hz⟩ : ∃ z, z = wrong ⟨false, I, KV⟩ := ⟨_, rfl⟩
        rw [← hz]
        have e7 : ((z : Int) != 0) = true := by simp; omega
        have e8 : ¬ (z : Int) = 0 := by omega
        clear hz hw0
        go_wp2_with fail
        rw [Exit.noGoto_ret]
        exact bodyPost_get (put3_box HTC.out _ _ _) rfl rfl (GetP.no HGN.out (put3_ext HEE.out HB2.out.1 HJB.out _ _ _))
theorem Get_calls {J : Jm} {w : World} (hI : Inv J w) {v : Value} {b : List UInt8} (hb : Bs J v b) (hl : b.length ≤ 9223372036854775807) :
    Calls Try.prog 22 #[v] w fun e w' => GetP J w b e w' := by
  by_cases hn : b.length = 240
  · match b, hb, hn with
    | h :: l, hb, hn =>
      have hl' : l.length + 1 = 240 := by simpa using hn
      by_cases h1 : h = 1
      · subst h1; exact Get_leaf hI hb hl'
      · by_cases h2 : h = 2
        · subst h2; exact Get_inner hI hb hl'
        · exact Get_odd hI hb hl' h1 h2
  · exact Get_short hI hb hl hn
end Go.Proofs.Ytnnkgjaahmflmaa
