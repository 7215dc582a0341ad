/- The document's examples: what is said of them, plainly. -/
import Derived.Test.YtnnkgjaahmflmaaCellRJoin
namespace Go.Proofs.Ytnnkgjaahmflmaa
open Go.RowKit
set_option linter.unusedVariables false
def strsV (ks : List (List UInt8)) : List Value := ks.map fun k => .string (strB k)
def leafC (k : List UInt8) : Cl := ⟨k, [120], 0, 0⟩
def leafI (ks : List (List UInt8)) : List Cl := ks.map leafC
def leafN (ks : List (List UInt8)) : Nd := ⟨true, leafI ks, []⟩
theorem leafI_take {ks : List (List UInt8)} {k : Nat} (h : k < ks.length) : leafI (ks.take (k + 1)) = leafI (ks.take k) ++ [leafC ks[k]] := by
  unfold leafI
  rw [List.take_succ_eq_append_getElem h, List.map_append]
  rfl
theorem bodyPost_leaf {R : Ending → World → Prop} {F : Act} {w : World} {b2 : Nat} {l : Bool} {vi vk : Value} (hd : F.defers = []) (h : NBox w b2 l vi vk)
    (h2 : F.tmps.getD 2 undef = .pointer (some ⟨b2, 0, none⟩)) (hR : R (.returned (.agg #[.bool l, vi, vk])) w) : bodyPost Try.prog Try.f32 R .ret F w := by
  have n0 := blk_cell_J h 0 rfl
  have n1 := blk_cell_J h 1 rfl
  have n2 := blk_cell_J h 2 rfl
  rw [Array.getD_eq_getD_getElem?] at h2
  obtain ⟨tmps, defers⟩ := F
  simp only at hd h2
  subst hd
  refine ⟨rfl, _, ?_, hR⟩
  simp [results, Try.results32, go_sem, n0, n1, n2, h2]
def LeafP (J : Jm) (w : World) (ks : List (List UInt8)) (e : Ending) (w' : World) : Prop := ∃ vn J', e = .returned vn ∧ Ext J w J' w' ∧ NdO J' w' w.heap.size vn (leafN ks)
set_option maxRecDepth 100000 in
set_option maxHeartbeats 8000000 in
theorem leaf_calls {J : Jm} {w : World} (hI : Inv J w) {v : Value} {ks : List (List UInt8)} (hb : Sl J 1 v ks.length (strsV ks)) (hl : ks.length ≤ 1048576) :
    Calls Try.prog 32 #[v] w (LeafP J w ks) := by
  obtain ⟨A, c, rfl, hn, hm⟩ := hb.form
  unfold maxLen at hm
  have HB := Lib.hid hb
  clear hb
  go_enter Try.func32, Try.ntmps32
  go_upto_region 1 with fail
  have HE := Lib.hid ((Ext.refl hI).alloc (.cells #[.bool false, .slice none 0 0, .slice none 0 0] 25))
  have F2 := Lib.hid (show NBox (w.alloc (.cells #[.bool false, .slice none 0 0, .slice none 0 0] 25)) w.heap.size false (.slice none 0 0) (.slice none 0 0) from heap_alloc_new w _)
  have HJ2 := Lib.hid (hI.nil (Nat.le_refl w.heap.size))
  generalize World.alloc w _ = W at *
  obtain ⟨b2, hb2⟩ : ∃ b2, b2 = w.heap.size := ⟨_, rfl⟩
  have F2 := Lib.hid (show NBox W b2 _ _ _ from by rw [hb2]; exact F2.out)
  have HLO := Lib.hid (show w.heap.size ≤ b2 from by omega)
  have HJ2 := Lib.hid (show J b2 = [] from by rw [hb2]; exact HJ2.out)
  rw [← hb2]
  clear hb2
  have HF2 := F2
  go_upto_region 2 with fail
  have HG0 := Lib.hid (show Jn J W W.heap.size true (.slice none 0 0) (.slice none 0 0) [] [] J (W.alloc (.cells #[.bool true, .slice none 0 0, .slice none 0 0] 25)) from
    ⟨(Ext.refl HE.out.inv).alloc _, heap_alloc_new W _, HE.out.inv.nil (Nat.le_refl _), Own.nil _ _ _ _ _, Own.nil _ _ _ _ _, Nat.le_refl _⟩)
  obtain ⟨nb, hnb⟩ : ∃ nb, nb = W.heap.size := ⟨_, rfl⟩
  have HG0 := Lib.hid (show Jn J W nb true (.slice none 0 0) (.slice none 0 0) [] [] J (W.alloc (.cells #[.bool true, .slice none 0 0, .slice none 0 0] 25)) from by rw [hnb]; exact HG0.out)
  rw [← hnb]
  generalize World.alloc W _ = W0 at *
  clear hnb
  go_wp2_with fail
  go_loopw [9] (fun iv wr => ∃ (k : Nat) (A1 : Option Addr) (c1 : Nat) (J1 : Jm), k ≤ ks.length ∧ iv = .int .i64 k ∧ Hid (Jn J W nb true (.slice A1 k c1) (.slice none 0 0) (leafI (ks.take k)) [] J1 wr)) (fun iv _ => ks.length - (intOf iv).toNat)
  case atStart => exact ⟨0, none, 0, J, by omega, rfl, HG0⟩
  case round =>
    obtain ⟨k, A1, c1, J1, hk, rfl, HG⟩ := hrel
    have k0 : (0 : Int) ≤ (k : Int) := by omega
    have k9 : (k : Int) ≤ 1048576 := by omega
    by_cases hlt : k < ks.length
    · have h1 : (k : Int) < ks.length := by omega
      have HLE := Lib.hid (HG.out.ext.le HE.out.inv)
      obtain ⟨xb, xo, rfl, x0⟩ := Sl.cell (Sl.mono HB.out HLE.out) HG.out.ext.inv (j := k) (x := .string (strB ks[k])) (by unfold strsV; rw [List.getElem?_map, List.getElem?_eq_getElem hlt]; rfl)
      have HT := Lib.hid (leafI_take hlt)
      generalize ks[k] = q at x0 HT
      have hil : (leafI (ks.take k)).length = k := by unfold leafI; rw [List.length_map, List.length_take]; omega
      have HIL := Lib.hid hil
      clear hil
      have k1 := blk_cell_J HG.out.nbx 1 rfl
      have HJl := Lib.hid (HG.out.step ((Ext.refl HG.out.ext.inv).alloc (.cells (clC [leafC q]).toArray 55)))
      go_wp2_with (at_builtin; go_must (refine wpList_append_lit (J := J1) (s := .tmp 14) (x := .tmp 17) (t := 22) (e := 55) (base := W.heap.size) (v := .slice A1 k c1) (n := k) (xs := clC (leafI (ks.take k))) (m := 1) (news := clC [leafC q]) rfl (.agg #[.string ByteArray.empty, .string ByteArray.empty, .int .i64 0, .int .i64 0]) 4 48 rfl Try.underlying22 info_cell rfl rfl (HG.out.ext.inv.alloc _) (by have h := HG.out.oi.alloc (.cells (clC [leafC q]).toArray 55); rw [HIL.out] at h; exact h) rfl (heap_alloc_new _ _) rfl (clC_one _) (by simp only [maxLen]; omega) (by omega) (by have := HG.out.ext.below.size; simp; omega) ?_; intro v8 w8 J8 ho8 hg8 hv8; obtain ⟨A8, c8, rfl, -, -⟩ := ho8.sl.form; have HNB8 := Lib.hid (HJl.out.box_i hg8); have HO8 := Lib.hid ho8; have HGR8 := Lib.hid hg8; clear ho8 hg8 hv8; have n81 := blk_cell_J HNB8.out 1 rfl; have n8f := frozen_of_row _ nb 1 _ _ HNB8.out))
      go_roundw
      case rel => exact ⟨k + 1, A8, c8, J8, by omega, by go_num, by rw [HT.out]; exact Lib.hid (HJl.out.item (L := [leafC q]) rfl (by rw [HIL.out]; exact HO8.out) HGR8.out)⟩
      case measure => simp [intOf] <;> omega
    · obtain rfl : k = ks.length := by omega
      have h1 : ¬ (ks.length : Int) < ks.length := by omega
      have HG := Lib.hid (show Jn J W nb true (.slice A1 ks.length c1) (.slice none 0 0) (leafI ks) [] J1 wr from by have h := HG.out; rw [List.take_of_length_le (Nat.le_refl _)] at h; exact h)
      have F2 := Lib.hid (F2.out.ext HG.out.ext)
      have k0 := blk_cell_J HG.out.nbx 0 rfl
      have k1 := blk_cell_J HG.out.nbx 1 rfl
      have k2 := blk_cell_J HG.out.nbx 2 rfl
      have f0 := blk_cell_J F2.out 0 rfl
      have f1 := blk_cell_J F2.out 1 rfl
      have f2 := blk_cell_J F2.out 2 rfl
      have f0f := frozen_of_row _ b2 0 _ _ F2.out
      have f1f := frozen_of_row _ b2 1 _ _ F2.out
      have f2f := frozen_of_row _ b2 2 _ _ F2.out
      go_wp2_with fail
      have hFA := put3_at (l' := true) (vi' := .slice A1 ks.length c1) (vk' := .slice none 0 0) F2.out
      refine bodyPost_leaf rfl hFA rfl ?_
      exact ⟨_, J1, rfl, put3_e (HE.out.trans HG.out.ext) HLO.out ((HG.out.ext.old b2 (Array.getElem?_eq_some_iff.1 HF2.out).1).trans HJ2.out) _ _ _, put3_node HG.out.node (Array.getElem?_eq_some_iff.1 HF2.out).1 HE.out.below.size _ _ _⟩
theorem kn_get240 : gE (List.replicate 240 0) = 7 := by kernel_rfl
theorem kn_get255 : gE (List.replicate 255 0) = 7 := by kernel_rfl
theorem kn_find1 : fI (leafN [[97], [99]]) [98] = 1 ∧ fB (leafN [[97], [99]]) [98] = false := by constructor <;> kernel_rfl
theorem kn_find2 : fI wN [98] = 1 ∧ fB wN [98] = true := by constructor <;> kernel_rfl
theorem kn_find3 : fI wN [97] = 0 ∧ fB wN [97] = false := by constructor <;> kernel_rfl
theorem kn_right3 : right (leafN [[97], [98], [99]]) = true := by kernel_rfl
theorem kn_half3 : halfAt (leafN [[97], [98], [99]]) = 1 := by kernel_rfl
theorem kn_ok3 : hOk (leafN [[97], [98], [99]]) := ⟨kn_right3, by rw [kn_half3]; decide⟩
theorem kn_h3 : hA (leafN [[97], [98], [99]]) = leafN [[97]] ∧ hB (leafN [[97], [98], [99]]) = leafN [[98], [99]] ∧ hK (leafN [[97], [98], [99]]) = [98] ∧ hE (leafN [[97], [98], [99]]) = 0 := by
  unfold hA hB hK hE
  rw [if_pos kn_ok3, if_pos kn_ok3, if_pos kn_ok3, if_pos kn_right3, kn_half3]
  exact ⟨rfl, rfl, rfl, rfl⟩
theorem kn_h1 : hE (leafN [[97]]) = 4 := by
  unfold hE
  rw [if_pos (show right (leafN [[97]]) = true from by kernel_rfl), if_pos (show halfAt (leafN [[97]]) = 0 from by kernel_rfl)]
theorem kn_j1 : jE (leafN [[97]]) [98] (leafN [[98], [99]]) = 0 ∧ jN (leafN [[97]]) [98] (leafN [[98], [99]]) = leafN [[97], [98], [99]] := by
  have h : jE (leafN [[97]]) [98] (leafN [[98], [99]]) = 0 := by kernel_rfl
  refine ⟨h, ?_⟩
  unfold jN
  rw [if_pos h]
  rfl
theorem kn_j2 : jE (leafN [[97]]) [97] (leafN [[98]]) = 2 := by kernel_rfl
theorem kn_s0 : sizeN (leafN []) = 2 := by kernel_rfl
def kN : Nd := ⟨true, [⟨[97], [120, 121], 0, 0⟩], []⟩
theorem kn_s1 : sizeN kN = 7 := by kernel_rfl
theorem kn_c0 : wrong zN = 2 ∧ sizeN zN = 0 := by constructor <;> kernel_rfl
theorem leafN_S {ks : List (List UInt8)} (h : ks.length ≤ 1048576) (hk : ∀ k ∈ ks, k.length ≤ 9223372036854775807) : NdS (leafN ks) := by
  refine ⟨by unfold leafN leafI; simp only [List.length_map]; exact h, fun x hx => ?_⟩
  unfold leafN leafI at hx
  simp only [List.mem_map] at hx
  obtain ⟨k, hk1, rfl⟩ := hx
  exact ⟨hk k hk1, by simp [leafC]⟩
theorem leafS1 (a : List UInt8) (ha : a.length = 1) : NdS (leafN [a]) := leafN_S (by simp) (by intro k hk; simp at hk; subst hk; omega)
theorem leafS2 (a b : List UInt8) (ha : a.length = 1) (hb : b.length = 1) : NdS (leafN [a, b]) := leafN_S (by simp) (by intro k hk; simp at hk; rcases hk with rfl | rfl <;> omega)
theorem leafS3 (a b c : List UInt8) (ha : a.length = 1) (hb : b.length = 1) (hc : c.length = 1) : NdS (leafN [a, b, c]) := leafN_S (by simp) (by intro k hk; simp at hk; rcases hk with rfl | rfl | rfl <;> omega)
theorem kN_S : NdS kN := ⟨by decide, fun x hx => by
  have : x = ⟨[97], [120, 121], 0, 0⟩ := by simpa [kN] using hx
  subst this; exact ⟨by decide, by decide⟩⟩
end Go.Proofs.Ytnnkgjaahmflmaa
