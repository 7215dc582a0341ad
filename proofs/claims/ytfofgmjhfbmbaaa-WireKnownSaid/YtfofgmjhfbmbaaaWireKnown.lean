/- The statement WireKnown: the document's examples. -/
import Derived.Test.YtfofgmjhfbmbaaaWireWorks
import Derived.Test.YtfofgmjhfbmbaaaLEqual
import Derived.Deep.RegionHeld3
namespace Go.Proofs.Ytfofgmjhfbmbaaa
open Go.RowKit

/-- a row of the statement's table: the bytes, the most, what is asked -/
def RowOk (J : Jm) (v : Value) (l : List UInt8) (m n x : Nat) : Prop :=
  Bs J v l ∧ l.length ≤ 10 ∧ m < 18446744073709551616 ∧ ((askU l m = .error x ∧ n = 0 ∧ x ≠ 0) ∨ (∃ c, askU l m = .ok (n, c) ∧ x = 0))
theorem uvM : uv 18446744073709551615 = [255, 255, 255, 255, 255, 255, 255, 255, 255, 1] := by
  rw [uv_ge (by decide +kernel), uv_ge (by decide +kernel), uv_ge (by decide), uv_ge (by decide +kernel), uv_ge (by decide +kernel), uv_ge (by decide), uv_ge (by decide +kernel), uv_ge (by decide +kernel), uv_ge (by decide), uv_lt (by decide)]; decide +kernel
theorem uv128 : uv 128 = [128, 1] := by rw [uv_ge (by decide), uv_lt (by decide)]; decide
theorem uv0 : uv 0 = [0] := by rw [uv_lt (by decide)]; decide
theorem utAb : ut [97, 98] = [2, 97, 98] := by simp only [ut, List.length_cons, List.length_nil]; rw [uv_lt (by decide)]; decide
theorem ulNil : ul [] = [0] := by simp only [ul, uts, List.length_nil, List.map_nil, List.flatten_nil]; rw [uv_lt (by decide)]; decide
theorem ask1 : askU [172, 2, 255] 1000 = .ok (300, 2) := by kernel_rfl
theorem ask2 : askU [128, 0] 1000 = .error 7 := by kernel_rfl
theorem ask3 : askU [128] 1000 = .error 7 := by kernel_rfl
theorem ask4 : askU [] 1000 = .error 7 := by kernel_rfl
theorem ask5 : askU [255, 255, 255, 255, 255, 255, 255, 255, 255, 2] 1000 = .error 7 := by kernel_rfl
theorem ask6 : askU [172, 2] 299 = .error 3 := by kernel_rfl
theorem text1 : rdT [2, 97] 9 = .error 7 := by kernel_rfl
theorem text2 : rdT [2, 97] 1 = .error 3 := by kernel_rfl
theorem text3 : rdT [2, 97, 98, 99] 9 = .ok ([97, 98], 3) := by kernel_rfl
theorem list4 : rdL [3, 0, 0] 9 9 = .error 7 := by kernel_rfl
theorem list5 : rdL [2, 1, 97, 0] 1 9 = .error 3 := by kernel_rfl
theorem list6 : rdL [2, 1, 97, 0] 9 0 = .error 3 := by kernel_rfl
/-- the table's cells -/
def tcells (w : World) : List Value := [(.slice (some ⟨w.heap.size, 0, none⟩) 3 3), .int .u64 1000, .int .u64 300, .int .i64 0, (.slice (some ⟨w.heap.size + 1, 0, none⟩) 2 2), .int .u64 1000, .int .u64 0, .int .i64 7, (.slice (some ⟨w.heap.size + 1 + 1, 0, none⟩) 1 1), .int .u64 1000, .int .u64 0, .int .i64 7, (.slice none 0 0), .int .u64 1000, .int .u64 0, .int .i64 7, (.slice (some ⟨w.heap.size + 1 + 1 + 1, 0, none⟩) 10 10), .int .u64 1000, .int .u64 0, .int .i64 7, (.slice (some ⟨w.heap.size + 1 + 1 + 1 + 1, 0, none⟩) 2 2), .int .u64 299, .int .u64 0, .int .i64 3]
/-- the world behind the table -/
def tab (w : World) : World := ((((((w.alloc (.cells (bcs [172, 2, 255]).toArray 5)).alloc (.cells (bcs [128, 0]).toArray 5)).alloc (.cells (bcs [128]).toArray 5)).alloc (.cells (bcs [255, 255, 255, 255, 255, 255, 255, 255, 255, 2]).toArray 5)).alloc (.cells (bcs [172, 2]).toArray 5)).alloc (.cells (tcells w).toArray 30))
theorem size_alloc (w : World) (o : Obj) : (w.alloc o).heap.size = w.heap.size + 1 := by simp
theorem table {J0 J : Jm} {w0 w : World} (h : Ext J0 w0 J w) : ∃ J5, Ext J0 w0 J5 (tab w) ∧ ∀ j, j < 6 → ∃ (v : Value) (l : List UInt8) (m n x : Nat),
    (tab w).cell? ⟨w.heap.size + 1 + 1 + 1 + 1 + 1, j * 4, none⟩ = some v ∧ (tab w).cell? ⟨w.heap.size + 1 + 1 + 1 + 1 + 1, j * 4 + 1, none⟩ = some (.int .u64 m) ∧
    (tab w).cell? ⟨w.heap.size + 1 + 1 + 1 + 1 + 1, j * 4 + 2, none⟩ = some (.int .u64 n) ∧ (tab w).cell? ⟨w.heap.size + 1 + 1 + 1 + 1 + 1, j * 4 + 3, none⟩ = some (.int .i64 x) ∧ RowOk J5 v l m n x := by
  have e1 := h.lit 5 [172, 2, 255]
  have l1 := ((Ext.refl h.inv).lit 5 [172, 2, 255]).le h.inv
  have e2 := e1.lit 5 [128, 0]
  have l2 := ((Ext.refl e1.inv).lit 5 [128, 0]).le e1.inv
  have e3 := e2.lit 5 [128]
  have l3 := ((Ext.refl e2.inv).lit 5 [128]).le e2.inv
  have e4 := e3.lit 5 [255, 255, 255, 255, 255, 255, 255, 255, 255, 2]
  have l4 := ((Ext.refl e3.inv).lit 5 [255, 255, 255, 255, 255, 255, 255, 255, 255, 2]).le e3.inv
  have e5 := e4.lit 5 [172, 2]
  have l5 := ((Ext.refl e4.inv).lit 5 [172, 2]).le e4.inv
  have e6 := e5.litV 30 (tcells w)
  have l6 := ((Ext.refl e5.inv).litV 30 (tcells w)).le e5.inv
  have b1 := (Bs.of_block (l := [172, 2, 255]) _ (n := 3) rfl (by decide)).mono (l2.trans (l3.trans (l4.trans (l5.trans l6))))
  have b2 := (Bs.of_block (l := [128, 0]) _ (n := 2) rfl (by decide)).mono (l3.trans (l4.trans (l5.trans l6)))
  have b3 := (Bs.of_block (l := [128]) _ (n := 1) rfl (by decide)).mono (l4.trans (l5.trans l6))
  have b4 := (Bs.of_block (l := [255, 255, 255, 255, 255, 255, 255, 255, 255, 2]) _ (n := 10) rfl (by decide)).mono (l5.trans l6)
  have b5 := (Bs.of_block (l := [172, 2]) _ (n := 2) rfl (by decide)).mono l6
  have hb := heap_alloc_new (((((w.alloc (.cells (bcs [172, 2, 255]).toArray 5)).alloc (.cells (bcs [128, 0]).toArray 5)).alloc (.cells (bcs [128]).toArray 5)).alloc (.cells (bcs [255, 255, 255, 255, 255, 255, 255, 255, 255, 2]).toArray 5)).alloc (.cells (bcs [172, 2]).toArray 5)) (.cells (tcells w).toArray 30)
  simp only [size_alloc] at b1 b2 b3 b4 b5 hb e6
  refine ⟨_, e6, fun j hj => ?_⟩
  obtain rfl | rfl | rfl | rfl | rfl | rfl : j = 0 ∨ j = 1 ∨ j = 2 ∨ j = 3 ∨ j = 4 ∨ j = 5 := by omega
  · exact ⟨_, [172, 2, 255], 1000, 300, 0, blk_cell_J hb 0 rfl, blk_cell_J hb 1 rfl, blk_cell_J hb 2 rfl, blk_cell_J hb 3 rfl, b1, by decide, by decide, .inr ⟨2, ask1, rfl⟩⟩
  · exact ⟨_, [128, 0], 1000, 0, 7, blk_cell_J hb 4 rfl, blk_cell_J hb 5 rfl, blk_cell_J hb 6 rfl, blk_cell_J hb 7 rfl, b2, by decide, by decide, .inl ⟨ask2, rfl, by decide⟩⟩
  · exact ⟨_, [128], 1000, 0, 7, blk_cell_J hb 8 rfl, blk_cell_J hb 9 rfl, blk_cell_J hb 10 rfl, blk_cell_J hb 11 rfl, b3, by decide, by decide, .inl ⟨ask3, rfl, by decide⟩⟩
  · exact ⟨_, [], 1000, 0, 7, blk_cell_J hb 12 rfl, blk_cell_J hb 13 rfl, blk_cell_J hb 14 rfl, blk_cell_J hb 15 rfl, (Sl.nil _ 1), by decide, by decide, .inl ⟨ask4, rfl, by decide⟩⟩
  · exact ⟨_, [255, 255, 255, 255, 255, 255, 255, 255, 255, 2], 1000, 0, 7, blk_cell_J hb 16 rfl, blk_cell_J hb 17 rfl, blk_cell_J hb 18 rfl, blk_cell_J hb 19 rfl, b4, by decide, by decide, .inl ⟨ask5, rfl, by decide⟩⟩
  · exact ⟨_, [172, 2], 299, 0, 3, blk_cell_J hb 20 rfl, blk_cell_J hb 21 rfl, blk_cell_J hb 22 rfl, blk_cell_J hb 23 rfl, b5, by decide, by decide, .inl ⟨ask6, rfl, by decide⟩⟩
set_option maxRecDepth 100000 in
set_option maxHeartbeats 8000000 in
theorem wireKnown_walk {J : Jm} {w : World} (hI : Inv J w) :
    Calls Try.prog 3 #[] w fun e w' => e = .returned (.bool true) ∧ Below w.heap.size w w' := by
  go_enter Try.func3, Try.ntmps3
  go_wp2_with fail
  refine (works_calls hI).mono ?_
  rintro e w1 ⟨J1, rfl, hE⟩
  have HE := Lib.hid hE
  clear hE
  go_wp2_with fail
  refine (putUint_calls HE.out.inv 0 (by decide)).mono ?_
  rintro e w2 ⟨v2, J2, rfl, hE, hO⟩
  rw [uv0] at hO
  have HE := Lib.hid (HE.out.trans hE)
  have HB := Lib.hid (show Bs J2 v2 [0] from hO.bs)
  clear hE hO
  go_wp2_with fail
  have hE1 := HE.out.lit 5 [0]
  have hx := (Ext.refl HE.out.inv).lit 5 [0]
  refine (equal_calls hE1.inv (l := [0]) (k := [0]) (HB.out.mono (hx.le HE.out.inv)) (Bs.of_block (l := [0]) _ rfl (by decide))).mono ?_
  rw [show (([0] : List UInt8) == [0]) = true by decide]
  rintro e w3 ⟨rfl, hw⟩
  rw [hw] at hE1
  clear hw
  have HE := Lib.hid hE1
  clear hE1 hx HB
  go_wp2_with fail
  refine (putUint_calls HE.out.inv 128 (by decide)).mono ?_
  rintro e w2 ⟨v2, J2, rfl, hE, hO⟩
  rw [uv128] at hO
  have HE := Lib.hid (HE.out.trans hE)
  have HB := Lib.hid (show Bs J2 v2 [128,1] from hO.bs)
  clear hE hO
  go_wp2_with fail
  have hE1 := HE.out.lit 5 [128,1]
  have hx := (Ext.refl HE.out.inv).lit 5 [128,1]
  refine (equal_calls hE1.inv (l := [128,1]) (k := [128,1]) (HB.out.mono (hx.le HE.out.inv)) (Bs.of_block (l := [128,1]) _ rfl (by decide))).mono ?_
  rw [show (([128,1] : List UInt8) == [128,1]) = true by decide]
  rintro e w3 ⟨rfl, hw⟩
  rw [hw] at hE1
  clear hw
  have HE := Lib.hid hE1
  clear hE1 hx HB
  go_wp2_with fail
  refine (putUint_calls HE.out.inv 18446744073709551615 (by decide)).mono ?_
  rintro e w2 ⟨v2, J2, rfl, hE, hO⟩
  rw [uvM] at hO
  have HE := Lib.hid (HE.out.trans hE)
  have HB := Lib.hid (show Bs J2 v2 [255,255,255,255,255,255,255,255,255,1] from hO.bs)
  clear hE hO
  go_wp2_with fail
  have hE1 := HE.out.lit 5 [255,255,255,255,255,255,255,255,255,1]
  have hx := (Ext.refl HE.out.inv).lit 5 [255,255,255,255,255,255,255,255,255,1]
  refine (equal_calls hE1.inv (l := [255,255,255,255,255,255,255,255,255,1]) (k := [255,255,255,255,255,255,255,255,255,1]) (HB.out.mono (hx.le HE.out.inv)) (Bs.of_block (l := [255,255,255,255,255,255,255,255,255,1]) _ rfl (by decide))).mono ?_
  rw [show (([255,255,255,255,255,255,255,255,255,1] : List UInt8) == [255,255,255,255,255,255,255,255,255,1]) = true by decide]
  rintro e w3 ⟨rfl, hw⟩
  rw [hw] at hE1
  clear hw
  have HE := Lib.hid hE1
  clear hE1 hx HB
  go_wp2_with fail
  refine (putText_calls HE.out.inv [97,98] (by decide)).mono ?_
  rintro e w2 ⟨v2, J2, rfl, hE, hO⟩
  rw [utAb] at hO
  have HE := Lib.hid (HE.out.trans hE)
  have HB := Lib.hid (show Bs J2 v2 [2,97,98] from hO.bs)
  clear hE hO
  go_wp2_with fail
  have hE1 := HE.out.lit 5 [2,97,98]
  have hx := (Ext.refl HE.out.inv).lit 5 [2,97,98]
  refine (equal_calls hE1.inv (l := [2,97,98]) (k := [2,97,98]) (HB.out.mono (hx.le HE.out.inv)) (Bs.of_block (l := [2,97,98]) _ rfl (by decide))).mono ?_
  rw [show (([2,97,98] : List UInt8) == [2,97,98]) = true by decide]
  rintro e w3 ⟨rfl, hw⟩
  rw [hw] at hE1
  clear hw
  have HE := Lib.hid hE1
  clear hE1 hx HB
  go_wp2_with fail
  refine (putList_calls HE.out.inv (v:=.slice none 0 0) (ls:=[]) (Sl.nil J2 1) (by rw [ulNil];decide)).mono ?_
  rintro e w2 ⟨v2, J2, rfl, hE, hO⟩
  rw [ulNil] at hO
  have HE := Lib.hid (HE.out.trans hE)
  have HB := Lib.hid (show Bs J2 v2 [0] from hO.bs)
  clear hE hO
  go_wp2_with fail
  have hE1 := HE.out.lit 5 [0]
  have hx := (Ext.refl HE.out.inv).lit 5 [0]
  refine (equal_calls hE1.inv (l := [0]) (k := [0]) (HB.out.mono (hx.le HE.out.inv)) (Bs.of_block (l := [0]) _ rfl (by decide))).mono ?_
  rw [show (([0] : List UInt8) == [0]) = true by decide]
  rintro e w3 ⟨rfl, hw⟩
  rw [hw] at hE1
  clear hw
  have HE := Lib.hid hE1
  clear hE1 hx HB
  go_wp2_with fail
  obtain ⟨J5, hE5, hrow⟩ := table HE.out
  generalize hWd : World.alloc (World.alloc (World.alloc (World.alloc (World.alloc (World.alloc w3 _) _) _) _) _) _ = w5
  have hW : tab w3 = w5 := by rw [← hWd]; rfl
  rw [hW] at hE5 hrow
  have hg5 : w5.heap[w3.heap.size + 1 + 1 + 1 + 1 + 1]? = some (.cells (tcells w3).toArray 30) := by
    rw [← hW]
    have hb := heap_alloc_new (((((w3.alloc (.cells (bcs [172, 2, 255]).toArray 5)).alloc (.cells (bcs [128, 0]).toArray 5)).alloc (.cells (bcs [128]).toArray 5)).alloc (.cells (bcs [255, 255, 255, 255, 255, 255, 255, 255, 255, 2]).toArray 5)).alloc (.cells (bcs [172, 2]).toArray 5)) (.cells (tcells w3).toArray 30)
    simp only [size_alloc] at hb
    exact hb
  have HG5 := Lib.hid hg5
  clear hWd hW hg5
  have HE5 := Lib.hid hE5
  have HR := Lib.hid hrow
  clear hE5 hrow HE
  go_loopw [69] (fun i wr => ∃ (j : Nat) (J' : Jm), j ≤ 6 ∧ i = .int .i64 j ∧ Hid (Ext J5 w5 J' wr)) (fun i _ => 6 - (intOf i).toNat)
  case atStart => exact ⟨0, J5, by omega, rfl, Ext.refl HE5.out.inv⟩
  case round =>
    obtain ⟨j, J', hj, rfl, HE⟩ := hrel
    by_cases hlt : j < 6
    · obtain ⟨v, l, m, n, x, c0, c1, c2, c3, hok⟩ := HR.out j hlt
      have c0 := (HE.out.below.cell (Array.getElem?_eq_some_iff.1 HG5.out).1).trans c0
      have c1 := (HE.out.below.cell (Array.getElem?_eq_some_iff.1 HG5.out).1).trans c1
      have c2 := (HE.out.below.cell (Array.getElem?_eq_some_iff.1 HG5.out).1).trans c2
      have c3 := (HE.out.below.cell (Array.getElem?_eq_some_iff.1 HG5.out).1).trans c3
      obtain ⟨hb, hl10, hm64, hans⟩ := hok
      obtain ⟨vA, vc, rfl, hvn, hvm⟩ := id hb.form
      have HBS := Lib.hid (hb.mono (HE.out.le HE5.out.inv))
      clear hb
      have HB0 : Hid (∀ b, b < w5.heap.size → b < wr.heap.size) := fun b hb => Nat.lt_of_lt_of_le hb HE.out.below.size
      have i0 : (0 : Int) ≤ (j : Int) := by omega
      have i1 : (j : Int) < 6 := by omega
      rcases hans with ⟨hr, rfl, hx0⟩ | ⟨c, hr, rfl⟩
      ·
        have c2 : wr.cell? ⟨w3.heap.size + 1 + 1 + 1 + 1 + 1, j * 4 + 2, none⟩ = some (.int .u64 0) := c2
        have c3 : wr.cell? ⟨w3.heap.size + 1 + 1 + 1 + 1 + 1, j * 4 + 3, none⟩ = some (.int .i64 (x:Int)) := c3
        go_wp2_with fail
        have hE1 := HE.out.alloc (.cells #[.slice vA l.length vc, .int .u64 (m : Int), .int .u64 0, .int .i64 (x:Int)] 30)
        have hsz : wr.heap.size < (wr.alloc (.cells #[.slice vA l.length vc, .int .u64 (m : Int), .int .u64 0, .int .i64 (x:Int)] 30)).heap.size := by simp [go_sem]
        have d0 : (wr.alloc (.cells #[.slice vA l.length vc, .int .u64 (m : Int), .int .u64 0, .int .i64 (x:Int)] 30)).cell? ⟨wr.heap.size, 0, none⟩ = some (.slice vA l.length vc) := by simp [go_sem]
        have d1 : (wr.alloc (.cells #[.slice vA l.length vc, .int .u64 (m : Int), .int .u64 0, .int .i64 (x:Int)] 30)).cell? ⟨wr.heap.size, 1, none⟩ = some (.int .u64 (m : Int)) := by simp [go_sem]
        have d2 : (wr.alloc (.cells #[.slice vA l.length vc, .int .u64 (m : Int), .int .u64 0, .int .i64 (x:Int)] 30)).cell? ⟨wr.heap.size, 2, none⟩ = some (.int .u64 0) := by simp [go_sem]
        have d3 : (wr.alloc (.cells #[.slice vA l.length vc, .int .u64 (m : Int), .int .u64 0, .int .i64 (x:Int)] 30)).cell? ⟨wr.heap.size, 3, none⟩ = some (.int .i64 (x:Int)) := by simp [go_sem]
        generalize wr.alloc (.cells #[.slice vA l.length vc, .int .u64 (m : Int), .int .u64 0, .int .i64 (x:Int)] 30) = w7 at *
        have d0 : w7.drew.cell? ⟨wr.heap.size, 0, none⟩ = some (.slice vA l.length vc) := d0
        have d1 : w7.drew.cell? ⟨wr.heap.size, 1, none⟩ = some (.int .u64 (m : Int)) := d1
        have d2 : w7.drew.cell? ⟨wr.heap.size, 2, none⟩ = some (.int .u64 0) := d2
        have d3 : w7.drew.cell? ⟨wr.heap.size, 3, none⟩ = some (.int .i64 (x:Int)) := d3
        have hsz' : wr.heap.size < w7.drew.heap.size := hsz
        go_region_held3 (fun w' => w'.cell? ⟨wr.heap.size, 0, none⟩ = some (.slice vA l.length vc) ∧ w'.cell? ⟨wr.heap.size, 1, none⟩ = some (.int .u64 (m : Int)))
          (first | go_keep | exact HK2.out | exact HK1.out)
          (first
            | (go_at_call 14; refine (new_calls hE1.inv.drew HBS.out (by omega)).mono ?_; rintro e w8 ⟨g, rfl, hg, hX, hC⟩; have HK1 : Hid (w8.cell? ⟨wr.heap.size, 0, none⟩ = some (.slice vA l.length vc) ∧ w8.cell? ⟨wr.heap.size, 1, none⟩ = some (.int .u64 (m : Int))) := ⟨(hX.below.cell hsz').trans d0, (hX.below.cell hsz').trans d1⟩; have HE2 := Lib.hid (hE1.drew.trans hX); have HC2 := Lib.hid hC; have HG2 : Hid (w7.drew.heap.size ≤ g) := hg; have HB2 := Lib.hid hX.below; clear hX hC hg)
            | (go_at_call 15; refine (Uint_calls HE2.out.inv HC2.out m hm64).mono ?_; rw [show l.drop 0 = l from rfl, hr]; rintro e w9 ⟨k', ⟨rfl,hk⟩, hM, hC⟩; have HK2 : Hid (w9.cell? ⟨wr.heap.size, 0, none⟩ = some (.slice vA l.length vc) ∧ w9.cell? ⟨wr.heap.size, 1, none⟩ = some (.int .u64 (m : Int))) := ⟨hM.cell HK1.out.1 (Nat.lt_of_lt_of_le hsz' HB2.out.size) (show ¬ wr.heap.size = g from Nat.ne_of_lt (Nat.lt_of_lt_of_le hsz' HG2.out)), hM.cell HK1.out.2 (Nat.lt_of_lt_of_le hsz' HB2.out.size) (show ¬ wr.heap.size = g from Nat.ne_of_lt (Nat.lt_of_lt_of_le hsz' HG2.out))⟩; have f2 : w9.cell? ⟨wr.heap.size, 2, none⟩ = some (.int .u64 0) := hM.cell ((HB2.out.cell hsz').trans d2) (Nat.lt_of_lt_of_le hsz' HB2.out.size) (show ¬ wr.heap.size = g from Nat.ne_of_lt (Nat.lt_of_lt_of_le hsz' HG2.out)); have f3 : w9.cell? ⟨wr.heap.size, 3, none⟩ = some (.int .i64 (x:Int)) := hM.cell ((HB2.out.cell hsz').trans d3) (Nat.lt_of_lt_of_le hsz' HB2.out.size) (show ¬ wr.heap.size = g from Nat.ne_of_lt (Nat.lt_of_lt_of_le hsz' HG2.out)); have HE3 := Lib.hid (HE2.out.moved hM (by intro b h1 h2; have := HG2.out; have := HB0.out b h1; omega)); clear hM hC))
        go_wp2_with fail
        go_roundw
        case rel => exact ⟨j + 1, J', by omega, by go_num, HE3⟩
        case measure => simp [intOf] <;> omega
      ·
        have c2 : wr.cell? ⟨w3.heap.size + 1 + 1 + 1 + 1 + 1, j * 4 + 2, none⟩ = some (.int .u64 (n:Int)) := c2
        have c3 : wr.cell? ⟨w3.heap.size + 1 + 1 + 1 + 1 + 1, j * 4 + 3, none⟩ = some (.int .i64 0) := c3
        go_wp2_with fail
        have hE1 := HE.out.alloc (.cells #[.slice vA l.length vc, .int .u64 (m : Int), .int .u64 (n:Int), .int .i64 0] 30)
        have hsz : wr.heap.size < (wr.alloc (.cells #[.slice vA l.length vc, .int .u64 (m : Int), .int .u64 (n:Int), .int .i64 0] 30)).heap.size := by simp [go_sem]
        have d0 : (wr.alloc (.cells #[.slice vA l.length vc, .int .u64 (m : Int), .int .u64 (n:Int), .int .i64 0] 30)).cell? ⟨wr.heap.size, 0, none⟩ = some (.slice vA l.length vc) := by simp [go_sem]
        have d1 : (wr.alloc (.cells #[.slice vA l.length vc, .int .u64 (m : Int), .int .u64 (n:Int), .int .i64 0] 30)).cell? ⟨wr.heap.size, 1, none⟩ = some (.int .u64 (m : Int)) := by simp [go_sem]
        have d2 : (wr.alloc (.cells #[.slice vA l.length vc, .int .u64 (m : Int), .int .u64 (n:Int), .int .i64 0] 30)).cell? ⟨wr.heap.size, 2, none⟩ = some (.int .u64 (n:Int)) := by simp [go_sem]
        have d3 : (wr.alloc (.cells #[.slice vA l.length vc, .int .u64 (m : Int), .int .u64 (n:Int), .int .i64 0] 30)).cell? ⟨wr.heap.size, 3, none⟩ = some (.int .i64 0) := by simp [go_sem]
        generalize wr.alloc (.cells #[.slice vA l.length vc, .int .u64 (m : Int), .int .u64 (n:Int), .int .i64 0] 30) = w7 at *
        have d0 : w7.drew.cell? ⟨wr.heap.size, 0, none⟩ = some (.slice vA l.length vc) := d0
        have d1 : w7.drew.cell? ⟨wr.heap.size, 1, none⟩ = some (.int .u64 (m : Int)) := d1
        have d2 : w7.drew.cell? ⟨wr.heap.size, 2, none⟩ = some (.int .u64 (n:Int)) := d2
        have d3 : w7.drew.cell? ⟨wr.heap.size, 3, none⟩ = some (.int .i64 0) := d3
        have hsz' : wr.heap.size < w7.drew.heap.size := hsz
        go_region_held3 (fun w' => w'.cell? ⟨wr.heap.size, 0, none⟩ = some (.slice vA l.length vc) ∧ w'.cell? ⟨wr.heap.size, 1, none⟩ = some (.int .u64 (m : Int)))
          (first | go_keep | exact HK2.out | exact HK1.out)
          (first
            | (go_at_call 14; refine (new_calls hE1.inv.drew HBS.out (by omega)).mono ?_; rintro e w8 ⟨g, rfl, hg, hX, hC⟩; have HK1 : Hid (w8.cell? ⟨wr.heap.size, 0, none⟩ = some (.slice vA l.length vc) ∧ w8.cell? ⟨wr.heap.size, 1, none⟩ = some (.int .u64 (m : Int))) := ⟨(hX.below.cell hsz').trans d0, (hX.below.cell hsz').trans d1⟩; have HE2 := Lib.hid (hE1.drew.trans hX); have HC2 := Lib.hid hC; have HG2 : Hid (w7.drew.heap.size ≤ g) := hg; have HB2 := Lib.hid hX.below; clear hX hC hg)
            | (go_at_call 15; refine (Uint_calls HE2.out.inv HC2.out m hm64).mono ?_; rw [show l.drop 0 = l from rfl, hr]; rintro e w9 ⟨k', ⟨rfl,hk⟩, hM, hC⟩; have HK2 : Hid (w9.cell? ⟨wr.heap.size, 0, none⟩ = some (.slice vA l.length vc) ∧ w9.cell? ⟨wr.heap.size, 1, none⟩ = some (.int .u64 (m : Int))) := ⟨hM.cell HK1.out.1 (Nat.lt_of_lt_of_le hsz' HB2.out.size) (show ¬ wr.heap.size = g from Nat.ne_of_lt (Nat.lt_of_lt_of_le hsz' HG2.out)), hM.cell HK1.out.2 (Nat.lt_of_lt_of_le hsz' HB2.out.size) (show ¬ wr.heap.size = g from Nat.ne_of_lt (Nat.lt_of_lt_of_le hsz' HG2.out))⟩; have f2 : w9.cell? ⟨wr.heap.size, 2, none⟩ = some (.int .u64 (n:Int)) := hM.cell ((HB2.out.cell hsz').trans d2) (Nat.lt_of_lt_of_le hsz' HB2.out.size) (show ¬ wr.heap.size = g from Nat.ne_of_lt (Nat.lt_of_lt_of_le hsz' HG2.out)); have f3 : w9.cell? ⟨wr.heap.size, 3, none⟩ = some (.int .i64 0) := hM.cell ((HB2.out.cell hsz').trans d3) (Nat.lt_of_lt_of_le hsz' HB2.out.size) (show ¬ wr.heap.size = g from Nat.ne_of_lt (Nat.lt_of_lt_of_le hsz' HG2.out)); have HE3 := Lib.hid (HE2.out.moved hM (by intro b h1 h2; have := HG2.out; have := HB0.out b h1; omega)); clear hM hC))
        go_wp2_with fail
        go_roundw
        case rel => exact ⟨j + 1, J', by omega, by go_num, HE3⟩
        case measure => simp [intOf] <;> omega
    · obtain rfl : j = 6 := by omega
      have HE := Lib.hid (HE5.out.trans HE.out)
      clear HR HG5
      have hab : strB [97, 98] = (⟨#[97, 98]⟩ : ByteArray) := rfl
      go_wp2_with fail
      have hE1 := HE.out.lit 5 [2,97]
      refine (new_calls hE1.inv (Bs.of_block (l := [2,97]) _ rfl (by decide)) (by decide)).mono ?_
      rintro e w1 ⟨g, rfl, hg, hE, hC⟩
      have HG : Hid (w.heap.size ≤ g) := by { have h1 := hE1.below.size; rw [Hid]; omega }
      have HE := Lib.hid (hE1.trans hE)
      have HC := Lib.hid hC
      clear hE hC hE1 hg
      go_wp2_with fail
      refine (Text_calls HE.out.inv HC.out 9 (by decide) (by decide)).mono ?_
      rw [show ([2,97] : List UInt8).drop 0 = [2,97] from rfl, text1]
      rintro e w2 ⟨k', ⟨rfl,hk⟩, hM, hC⟩
      have hk := hk.symm
      subst hk
      have HE := Lib.hid (HE.out.moved hM (by intro b h1 h2; have := HG.out; omega))
      clear hM hC HC HG
      go_wp2_with fail
      have hE1 := HE.out.lit 5 [2,97]
      refine (new_calls hE1.inv (Bs.of_block (l := [2,97]) _ rfl (by decide)) (by decide)).mono ?_
      rintro e w1 ⟨g, rfl, hg, hE, hC⟩
      have HG : Hid (w.heap.size ≤ g) := by { have h1 := hE1.below.size; rw [Hid]; omega }
      have HE := Lib.hid (hE1.trans hE)
      have HC := Lib.hid hC
      clear hE hC hE1 hg
      go_wp2_with fail
      refine (Text_calls HE.out.inv HC.out 1 (by decide) (by decide)).mono ?_
      rw [show ([2,97] : List UInt8).drop 0 = [2,97] from rfl, text2]
      rintro e w2 ⟨k', ⟨rfl,hk⟩, hM, hC⟩
      have hk := hk.symm
      subst hk
      have HE := Lib.hid (HE.out.moved hM (by intro b h1 h2; have := HG.out; omega))
      clear hM hC HC HG
      go_wp2_with fail
      have hE1 := HE.out.lit 5 [2,97,98,99]
      refine (new_calls hE1.inv (Bs.of_block (l := [2,97,98,99]) _ rfl (by decide)) (by decide)).mono ?_
      rintro e w1 ⟨g, rfl, hg, hE, hC⟩
      have HG : Hid (w.heap.size ≤ g) := by { have h1 := hE1.below.size; rw [Hid]; omega }
      have HE := Lib.hid (hE1.trans hE)
      have HC := Lib.hid hC
      clear hE hC hE1 hg
      go_wp2_with fail
      refine (Text_calls HE.out.inv HC.out 9 (by decide) (by decide)).mono ?_
      rw [show ([2,97,98,99] : List UInt8).drop 0 = [2,97,98,99] from rfl, text3]
      rintro e w2 ⟨k', ⟨rfl,hk⟩, hM, hC⟩
      have hk := hk.symm
      subst hk
      have HE := Lib.hid (HE.out.moved hM (by intro b h1 h2; have := HG.out; omega))
      clear hM hC HC HG
      go_wp2_with fail
      have hE1 := HE.out.lit 5 [3,0,0]
      refine (new_calls hE1.inv (Bs.of_block (l := [3,0,0]) _ rfl (by decide)) (by decide)).mono ?_
      rintro e w1 ⟨g, rfl, hg, hE, hC⟩
      have HG : Hid (w.heap.size ≤ g) := by { have h1 := hE1.below.size; rw [Hid]; omega }
      have HE := Lib.hid (hE1.trans hE)
      have HC := Lib.hid hC
      clear hE hC hE1 hg
      go_wp2_with fail
      refine (List_calls HE.out.inv HC.out (by decide) 9 9 (by decide) (by decide) (by decide) (by decide)).mono ?_
      rw [show ([3,0,0] : List UInt8).drop 0 = [3,0,0] from rfl, list4]
      rintro e w2 ⟨k', J2, ⟨rfl,hk⟩, hM, hC⟩
      have hk := hk.symm
      subst hk
      have HE := Lib.hid (HE.out.moved hM (by intro b h1 h2; have := HG.out; omega))
      clear hM hC HC HG
      go_wp2_with fail
      have hE1 := HE.out.lit 5 [2,1,97,0]
      refine (new_calls hE1.inv (Bs.of_block (l := [2,1,97,0]) _ rfl (by decide)) (by decide)).mono ?_
      rintro e w1 ⟨g, rfl, hg, hE, hC⟩
      have HG : Hid (w.heap.size ≤ g) := by { have h1 := hE1.below.size; rw [Hid]; omega }
      have HE := Lib.hid (hE1.trans hE)
      have HC := Lib.hid hC
      clear hE hC hE1 hg
      go_wp2_with fail
      refine (List_calls HE.out.inv HC.out (by decide) 1 9 (by decide) (by decide) (by decide) (by decide)).mono ?_
      rw [show ([2,1,97,0] : List UInt8).drop 0 = [2,1,97,0] from rfl, list5]
      rintro e w2 ⟨k', J2, ⟨rfl,hk⟩, hM, hC⟩
      have hk := hk.symm
      subst hk
      have HE := Lib.hid (HE.out.moved hM (by intro b h1 h2; have := HG.out; omega))
      clear hM hC HC HG
      go_wp2_with fail
      have hE1 := HE.out.lit 5 [2,1,97,0]
      refine (new_calls hE1.inv (Bs.of_block (l := [2,1,97,0]) _ rfl (by decide)) (by decide)).mono ?_
      rintro e w1 ⟨g, rfl, hg, hE, hC⟩
      have HG : Hid (w.heap.size ≤ g) := by { have h1 := hE1.below.size; rw [Hid]; omega }
      have HE := Lib.hid (hE1.trans hE)
      have HC := Lib.hid hC
      clear hE hC hE1 hg
      go_wp2_with fail
      refine (List_calls HE.out.inv HC.out (by decide) 9 0 (by decide) (by decide) (by decide) (by decide)).mono ?_
      rw [show ([2,1,97,0] : List UInt8).drop 0 = [2,1,97,0] from rfl, list6]
      rintro e w2 ⟨k', J2, ⟨rfl,hk⟩, hM, hC⟩
      have hk := hk.symm
      subst hk
      have HE := Lib.hid (HE.out.moved hM (by intro b h1 h2; have := HG.out; omega))
      clear hM hC HC HG
      go_wp2_with fail
      refine (Uint_nil 1 _ HE.out.inv).mono ?_
      rintro e w1 ⟨rfl, hE⟩
      have HE := Lib.hid (HE.out.trans hE)
      go_wp2_with fail
      refine (Text_nil 1 _ HE.out.inv).mono ?_
      rintro e w1 ⟨rfl, hE⟩
      have HE := Lib.hid (HE.out.trans hE)
      go_wp2_with fail
      refine (List_nil 1 1 _ HE.out.inv).mono ?_
      rintro e w1 ⟨rfl, hE⟩
      have HE := Lib.hid (HE.out.trans hE)
      go_wp2_with fail
      refine (at_nil _).mono ?_
      rintro e w1 ⟨rfl, rfl⟩
      go_wp2_with fail
      refine (left_nil _).mono ?_
      rintro e w1 ⟨rfl, rfl⟩
      go_wp2_with fail
      go_ret
      exact ⟨rfl, HE.out.below⟩
end Go.Proofs.Ytfofgmjhfbmbaaa
