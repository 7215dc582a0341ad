/- The statement LexTwo. -/
import Derived.Test.YthfjeijhnikabaaLexTwoP
import Derived.Test.YthfjeijhnikabaaLexAlike
import Derived.Test.YthfjeijhnikabaaLexQuw
import Derived.Deep.CutBlock
import Derived.Deep.DeepCutAuto
namespace Go.Proofs.Ythfjeijhnikabaa
open Go.RowKit
set_option linter.unusedVariables false

theorem two_cat (a b : List UInt8) : strB a ++ (⟨#[10]⟩ : ByteArray) ++ strB b = strB (a ++ 10 :: b) := by
  apply ByteArray.ext; apply Array.ext'; simp [strB, ByteArray.data_append]
/-- what the three answers are -/
theorem an_two (a b : List UInt8) (hl : a.length + b.length < 32768) (h : a.getLast? ≠ some 92) :
    (∃ x, an a = (6, x, []) ∧ an (a ++ 10 :: b) = (6, x, [])) ∨ (∃ la, an a = (0, 0, la) ∧ ((∃ y : Nat, y ≤ b.length ∧ an b = (6, (y : Int), []) ∧ an (a ++ 10 :: b) = (6, (y : Int) + a.length + 1, [])) ∨
      ∃ lb, an b = (0, 0, lb) ∧ an (a ++ 10 :: b) = (0, 0, la ++ lb.map (Ln.sh (lc a).1)))) := by
  unfold an
  have h1 : ¬ 32768 < a.length := by omega
  have h2 : ¬ 32768 < b.length := by omega
  have h3 : ¬ 32768 < (a ++ 10 :: b).length := by rw [List.length_append, List.length_cons]; omega
  simp only [if_neg h1, if_neg h2, if_neg h3, lexL_two a b h]
  cases lexL a with
  | error x => exact .inl ⟨x, rfl, rfl⟩
  | ok la =>
    refine .inr ⟨la, rfl, ?_⟩
    cases hb : lexL b with
    | error y => exact .inl ⟨y, lexL_err hb, rfl, by simp only []; congr 2⟩
    | ok lb => exact .inr ⟨lb, rfl, rfl⟩
def TwoSt (J : Jm) (w : World) (B4 : Nat) (A4 : Option Addr) (cp4 : Nat) (c4 : List Value) (M B5 : Nat) (A5 : Option Addr) (cp5 : Nat) (c5 : List Value) (M5 : Nat) (lu : List Ln) (n : Nat) (L : List Ln) (wr : World) : Prop :=
  ∃ J', Ext J w J' wr ∧ M ≤ wr.heap.size ∧ Own J' wr B4 33 3 (.slice A4 n cp4) n c4 ∧ LsO J' wr B4 M L c4 ∧ Own J' wr B5 33 3 (.slice A5 lu.length cp5) lu.length c5 ∧ LsO J' wr B5 M5 lu c5
section
variable {J : Jm} {w : World} {B4 : Nat} {A4 : Option Addr} {cp4 : Nat} {c4 : List Value} {M B5 : Nat} {A5 : Option Addr} {cp5 : Nat} {c5 : List Value} {M5 : Nat} {lu : List Ln} {n : Nat} {L : List Ln} {wr : World}
theorem TwoSt.word (h : TwoSt J w B4 A4 cp4 c4 M B5 A5 cp5 c5 M5 lu n L wr) {i : Nat} (hi : i < L.length) {g m cap : Nat} (hc : c4[i * 3 + 2]? = some (.slice (some ⟨g, 0, none⟩) m cap)) {k : Nat} (hk : k < L[i].ws.length) :
    wr.cell? ⟨g, k * 5, none⟩ = some (.string (strB L[i].ws[k].text)) ∧ wr.cell? ⟨g, k * 5 + 1, none⟩ = some (.int .i64 (L[i].ws[k].line : Int)) ∧ wr.cell? ⟨g, k * 5 + 2, none⟩ = some (.int .i64 (L[i].ws[k].col : Int)) ∧
      wr.cell? ⟨g, k * 5 + 3, none⟩ = some (.bool L[i].ws[k].quoted) ∧ wr.cell? ⟨g, k * 5 + 4, none⟩ = some (.bool L[i].ws[k].mark) ∧ wr.frozen? ⟨g, k * 5 + 1, none⟩ = false := by
  obtain ⟨J', h1, h2, h3, h4, h5, h6⟩ := h
  obtain ⟨wv, e0, e1, e2, hO, hM⟩ := h4.at hi
  rw [hc] at e2
  cases e2
  obtain ⟨A, cc, hv, _⟩ := hO.sl.form
  cases hv
  obtain ⟨b, o, hA, k0, k1, k2, k3, k4⟩ := ws_cell hO.sl h1.inv hk
  cases hA
  simp only [Nat.zero_add] at k0 k1 k2 k3 k4
  refine ⟨k0, k1, k2, k3, k4, ?_⟩
  rcases hO.1.2 with ⟨h, _⟩ | ⟨g', cap', cur, h, _, hg, _⟩
  · cases h
  · cases h; exact frozen_of_row _ _ _ _ _ hg
theorem TwoSt.other (h : TwoSt J w B4 A4 cp4 c4 M B5 A5 cp5 c5 M5 lu n L wr) {p : Nat} (hp : p < lu.length) {A : Option Addr} {m cap : Nat} (hc : c5[p * 3 + 2]? = some (.slice A m cap)) {k : Nat} (hk : k < lu[p].ws.length) :
    ∃ b o, A = some ⟨b, o, none⟩ ∧ wr.cell? ⟨b, o + k * 5, none⟩ = some (.string (strB lu[p].ws[k].text)) ∧ wr.cell? ⟨b, o + k * 5 + 1, none⟩ = some (.int .i64 (lu[p].ws[k].line : Int)) ∧ wr.cell? ⟨b, o + k * 5 + 2, none⟩ = some (.int .i64 (lu[p].ws[k].col : Int)) ∧
      wr.cell? ⟨b, o + k * 5 + 3, none⟩ = some (.bool lu[p].ws[k].quoted) ∧ wr.cell? ⟨b, o + k * 5 + 4, none⟩ = some (.bool lu[p].ws[k].mark) := by
  obtain ⟨J', h1, h2, h3, h4, h5, h6⟩ := h
  obtain ⟨wv, e0, e1, e2, hO, hM⟩ := h6.at hp
  rw [hc] at e2
  cases e2
  obtain ⟨A', cc, hv, _⟩ := hO.sl.form
  cases hv
  exact ws_cell hO.sl h1.inv hk
theorem TwoSt.write (h : TwoSt J w B4 A4 cp4 c4 M B5 A5 cp5 c5 M5 lu n L wr) (hd : Dst c4) (hMB : M ≤ B5) (hw : w.heap.size ≤ B4) {i : Nat} (hi : i < L.length) {g m cap : Nat} (hc : c4[i * 3 + 2]? = some (.slice (some ⟨g, 0, none⟩) m cap)) {k : Nat} (hk : k < L[i].ws.length) (l : Nat) :
    TwoSt J w B4 A4 cp4 c4 M B5 A5 cp5 c5 M5 lu n (L.set i (L[i].with (L[i].ws.set k (L[i].ws[k].at l)))) (wr.setCell ⟨g, k * 5 + 1, none⟩ (.int .i64 (l : Int))) := by
  obtain ⟨J', h1, h2, h3, h4, h5, h6⟩ := h
  obtain ⟨wv, e0, e1, e2, hO, hM⟩ := h4.at hi
  rw [hc] at e2
  cases e2
  obtain ⟨hL, hI'⟩ := h4.write h1.inv hd hi hc hk l
  have hgl := hO.lt g rfl
  have hgM := hM g rfl
  refine ⟨_, h1.write (by omega) hI', by simpa using h2, h3.writeOther (fun e => ?_) _, hL, h5.writeOther (fun e => ?_) _, h6.writeOther (by omega) _⟩
  · rcases h3.1.2 with ⟨h, _⟩ | ⟨g1, cap1, cur1, h, _, hg1, _⟩
    · rw [h] at e; simp [Value.ownBlock] at e
    · rw [h] at e
      simp [Value.ownBlock] at e
      subst e
      rcases hO.1.2 with ⟨h', _⟩ | ⟨g2, cap2, cur2, h', _, hg2, _⟩
      · cases h'
      · cases h'
        rw [hg1] at hg2
        simp at hg2
  · have := h5.lt g e; omega
end
theorem TwoSt.below {J : Jm} {w : World} {B4 : Nat} {A4 : Option Addr} {cp4 : Nat} {c4 : List Value} {M B5 : Nat} {A5 : Option Addr} {cp5 : Nat} {c5 : List Value} {M5 : Nat} {lu : List Ln} {n : Nat} {L : List Ln} {wr wr' : World}
    (h : TwoSt J w B4 A4 cp4 c4 M B5 A5 cp5 c5 M5 lu n L wr) (hb : Below wr.heap.size wr wr') : TwoSt J w B4 A4 cp4 c4 M B5 A5 cp5 c5 M5 lu n L wr' := by
  obtain ⟨J', h1, h2, h3, h4, h5, h6⟩ := h
  have X := Ext.of_below h1.inv hb
  exact ⟨J', h1.trans X, Nat.le_trans h2 hb.size, h3.ext X, h4.imp (fun _ _ _ o _ => o.ext X) (Nat.le_refl _), h5.ext X, h6.imp (fun _ _ _ o _ => o.ext X) (Nat.le_refl _)⟩
theorem below_two (w : World) (o1 o2 : Obj) : Below w.heap.size w ((w.alloc o1).alloc o2).drew :=
  (((Below.refl w.heap.size w).alloc (Nat.le_refl _) o1).alloc (by simp) o2).drew
theorem heap_two_old (w : World) (o1 o2 : Obj) : ((w.alloc o1).alloc o2).drew.heap[w.heap.size]? = (w.alloc o1).heap[w.heap.size]? := Below.heap_alloc (w.alloc o1) o2 _ (by simp)
theorem heap_two_new (w : World) (o1 o2 : Obj) : ((w.alloc o1).alloc o2).drew.heap[w.heap.size + 1]? = some o2 := by
  have h := heap_alloc_new (w.alloc o1) o2
  have e : (w.alloc o1).heap.size = w.heap.size + 1 := by simp
  rw [e] at h
  exact h
set_option maxRecDepth 100000 in
set_option maxHeartbeats 8000000 in
theorem lexTwo_walk {J : Jm} {w : World} (hI : Inv J w) (a : ByteArray) (ha : a.size ≤ 140737488351232) (b : ByteArray) (hb : b.size ≤ 140737488351232) :
    Calls Try.prog 4 #[.string a, .string b] w fun e w' => e = .returned (.bool true) ∧ Below w.heap.size w w' := by
  go_enter Try.func4, Try.ntmps4
  go_wp2_with fail
  refine (works_calls hI).mono ?_
  rintro e w1 ⟨J1, rfl, hE⟩
  have HE := Lib.hid hE
  clear hE
  obtain ⟨a, rfl⟩ : ∃ l, a = strB l := ⟨a.data.toList, (strB_of a).symm⟩
  obtain ⟨b, rfl⟩ : ∃ l, b = strB l := ⟨b.data.toList, (strB_of b).symm⟩
  have HSA := strB_size a
  have HSB := strB_size b
  rw [HSA] at ha
  rw [HSB] at hb
  by_cases hl : 32768 ≤ a.length + b.length
  · have hl' : (32768 : Int) ≤ (a.length : Int) + b.length := by omega
    have a0 : (0 : Int) ≤ a.length := by omega
    have b0 : (0 : Int) ≤ b.length := by omega
    have a1 : (a.length : Int) ≤ 140737488351232 := by omega
    have b1 : (b.length : Int) ≤ 140737488351232 := by omega
    clear hl ha hb
    go_wp2_with fail
    go_ret
    exact ⟨rfl, HE.out.below⟩
  · have hl' : ¬ (32768 : Int) ≤ (a.length : Int) + b.length := by omega
    have a0 : (0 : Int) ≤ a.length := by omega
    have b0 : (0 : Int) ≤ b.length := by omega
    have a1 : (a.length : Int) < 32768 := by omega
    have b1 : (b.length : Int) < 32768 := by omega
    have HLE := Lib.hid hl
    clear hl ha hb
    by_cases hq : a.getLast? = some 92
    · have hz : 0 < a.length := by
        cases a with
        | nil => simp at hq
        | cons c r => simp
      rw [List.getLast?_eq_getElem?] at hq
      have hq' := strB_at0 hq
      obtain ⟨m, hm⟩ : ∃ m, a.length = m + 1 := ⟨a.length - 1, by omega⟩
      have hq2 : ∀ hh, (strB a)[m]'hh = 92 := by have e : a.length - 1 = m := by omega
                                                 rw [e] at hq'; exact hq'
      clear hq' hq hz
      rw [hm] at hl' a0 a1 HSA
      push_cast at hl' a0 a1
      have m0 : (0 : Int) ≤ m := by omega
      have m1 : (0 : Int) < (m : Int) + 1 := by omega
      have m2 : (m : Int) < (m : Int) + 1 := by omega
      have m3 : (m : Int) + 1 - 1 = m := by omega
      go_wp2_with fail
      go_ret
      exact ⟨rfl, HE.out.below⟩
    · have HAN := Lib.hid (an_two a b (by have := HLE.out; omega) hq)
      have HQ := Lib.hid hq
      have HLC := Lib.hid (lc_count a)
      have hcat := two_cat a b
      clear hq
      go_upto_region 3 with fail
      go_cut [37] (fun c wx => wx = w1 ∧ c = .bool false)
      case first => as_aux_lemma =>
        by_cases hz : a.length = 0
        · rw [hz] at HSA hl' a0 a1
          clear HAN HQ HLC hcat
          go_wp2_with fail
          go_meet
          case rel => exact ⟨rfl, congrArg Value.bool (decide_eq_false (by omega))⟩
        · obtain ⟨m, hm⟩ : ∃ m, a.length = m + 1 := ⟨a.length - 1, by omega⟩
          obtain ⟨x, hx⟩ : ∃ x, a[m]? = some x := ⟨_, List.getElem?_eq_getElem (by omega)⟩
          have hx2 := strB_at0 hx
          have hx3 : x ≠ 92 := fun e => HQ.out (by rw [List.getLast?_eq_getElem?, hm, Nat.add_sub_cancel, hx, e])
          have hx4 : ¬ (x.toNat : Int) = 92 := fun e => hx3 (UInt8.toNat_inj.1 (by have : x.toNat = 92 := by omega
                                                                                   simpa using this))
          have hx5 : ((x.toNat : Int) == 92) = false := by simpa using hx4
          clear HAN HQ HLC hcat hz hx hx3
          rw [hm] at hl' a0 a1 HSA
          push_cast at hl' a0 a1
          have m0 : (0 : Int) ≤ m := by omega
          have m1 : (0 : Int) < (m : Int) + 1 := by omega
          have m2 : (m : Int) < (m : Int) + 1 := by omega
          have m3 : (m : Int) + 1 - 1 = m := by omega
          go_wp2_with fail
          go_meet
          case rel => exact ⟨rfl, congrArg Value.bool (decide_eq_false (by omega))⟩
      case rest =>
        obtain ⟨rfl, rfl⟩ := hcut
        have HE0 := HE
        obtain ⟨⟨er3, ax3, la⟩, ha3⟩ : ∃ t, an a = t := ⟨_, rfl⟩
        obtain ⟨⟨er4, ax4, lb⟩, ha4⟩ : ∃ t, an b = t := ⟨_, rfl⟩
        obtain ⟨⟨er5, ax5, lu⟩, ha5⟩ : ∃ t, an (a ++ 10 :: b) = t := ⟨_, rfl⟩
        have HR3 := Lib.hid (an_run (s := a))
        have HR4 := Lib.hid (an_run (s := b))
        have HR5 := Lib.hid (an_run (s := a ++ 10 :: b))
        rw [ha3] at HR3
        rw [ha4] at HR4
        rw [ha5] at HR5
        rw [ha3, ha4, ha5] at HAN
        have H3 := Lib.hid ha3
        have H4 := Lib.hid ha4
        have H5 := Lib.hid ha5
        clear ha3 ha4 ha5
        go_wp2_with fail
        refine (Lines_calls HE.out.inv a (by first | omega | (simp; omega))).mono ?_
        intro e w3 h
        obtain ⟨v3, J3, B3, M3, c3, he, hE3, hB3, hO3, hL3⟩ := h.uni
        rw [H3.out] at he hO3 hL3
        dsimp only at he hO3 hL3
        subst he
        unfold spot
        obtain ⟨A3, cp3, rfl, -, -⟩ := hO3.sl.form
        have HO3 := Lib.hid hO3
        have HL3 := Lib.hid hL3
        have HG3 := Lib.hid hB3
        have HE3 := Lib.hid hE3
        have HE := Lib.hid ((HE.out.trans hE3).alloc (.cells #[.int .i64 er3, .int .i64 ax3] 27))
        have HB3 := Lib.hid (heap_alloc_new w3 (.cells #[.int .i64 er3, .int .i64 ax3] 27))
        clear hE3 hB3 hO3 hL3 h
        go_wp2_with fail
        refine (Lines_calls HE.out.inv b (by first | omega | (simp; omega))).mono ?_
        intro e w4 h
        obtain ⟨v4, J4, B4, M4, c4, he, hE4, hB4, hO4, hL4⟩ := h.uni
        rw [H4.out] at he hO4 hL4
        dsimp only at he hO4 hL4
        subst he
        unfold spot
        obtain ⟨A4, cp4, rfl, -, -⟩ := hO4.sl.form
        have HO4 := Lib.hid hO4
        have HL4 := Lib.hid hL4
        have HG4 := Lib.hid hB4
        have HE4 := Lib.hid hE4
        have HE := Lib.hid ((HE.out.trans hE4).alloc (.cells #[.int .i64 er4, .int .i64 ax4] 27))
        have HB4 := Lib.hid (heap_alloc_new w4 (.cells #[.int .i64 er4, .int .i64 ax4] 27))
        clear hE4 hB4 hO4 hL4 h
        have HB3 := Lib.hid ((HE4.out.below.block _ (Array.getElem?_eq_some_iff.1 HB3.out).1).trans HB3.out)
        have HB3 := Lib.hid ((Below.heap_alloc w4 (.cells #[.int .i64 er4, .int .i64 ax4] 27) _ (Array.getElem?_eq_some_iff.1 HB3.out).1).trans HB3.out)
        go_wp2_with fail
        refine (Lines_calls HE.out.inv (a ++ 10 :: b) (by first | omega | (simp; omega))).mono ?_
        intro e w5 h
        obtain ⟨v5, J5, B5, M5, c5, he, hE5, hB5, hO5, hL5⟩ := h.uni
        rw [H5.out] at he hO5 hL5
        dsimp only at he hO5 hL5
        subst he
        unfold spot
        obtain ⟨A5, cp5, rfl, -, -⟩ := hO5.sl.form
        have HO5 := Lib.hid hO5
        have HL5 := Lib.hid hL5
        have HG5 := Lib.hid hB5
        have HE5 := Lib.hid hE5
        have HE := Lib.hid ((HE.out.trans hE5).alloc (.cells #[.int .i64 er5, .int .i64 ax5] 27))
        have HB5 := Lib.hid (heap_alloc_new w5 (.cells #[.int .i64 er5, .int .i64 ax5] 27))
        clear hE5 hB5 hO5 hL5 h
        have HB3 := Lib.hid ((HE5.out.below.block _ (Array.getElem?_eq_some_iff.1 HB3.out).1).trans HB3.out)
        have HB3 := Lib.hid ((Below.heap_alloc w5 (.cells #[.int .i64 er5, .int .i64 ax5] 27) _ (Array.getElem?_eq_some_iff.1 HB3.out).1).trans HB3.out)
        have HB4 := Lib.hid ((HE5.out.below.block _ (Array.getElem?_eq_some_iff.1 HB4.out).1).trans HB4.out)
        have HB4 := Lib.hid ((Below.heap_alloc w5 (.cells #[.int .i64 er5, .int .i64 ax5] 27) _ (Array.getElem?_eq_some_iff.1 HB4.out).1).trans HB4.out)
        have hl3 := HR3.out.le.1
        have hl4 := HR4.out.le.1
        have hle := HLE.out
        have HM := Lib.hid (show True → la.length ≤ 32768 ∧ lb.length ≤ 32768 ∧ a.length + b.length < 32768 from fun _ => ⟨by omega, by omega, by omega⟩)
        clear hle HLE
        have hz4 := HE4.out.below.size
        have hz5 := HE5.out.below.size
        simp at hz4 hz5
        have HZ4 := Lib.hid hz4
        have HZ5 := Lib.hid hz5
        clear a0 b0 a1 b1 hl'
        clear hl3 hl4 hz4 hz5
        have s0 := blk_cell_J HB3.out 0 rfl
        have s1 := blk_cell_J HB3.out 1 rfl
        have t0 := blk_cell_J HB4.out 0 rfl
        have t1 := blk_cell_J HB4.out 1 rfl
        have u0 := blk_cell_J HB5.out 0 rfl
        have u1 := blk_cell_J HB5.out 1 rfl
        rcases HAN.out with ⟨x, h3, h5⟩ | ⟨la', h3, ⟨y, hyl, h4, h5⟩ | ⟨lb', h4, h5⟩⟩
        · cases h3; cases h5
          go_wp2_with fail
          go_ret
          exact ⟨rfl, HE.out.below⟩
        · cases h3; cases h4; cases h5
          have hz := HM.out trivial
          have y0 : (0 : Int) ≤ y := by omega
          have y1 : IntKind.i64.wrap ((y : Int) + a.length) = (y : Int) + a.length := by rw [IntKind.wrap_i64]; omega
          have y2 : IntKind.i64.wrap ((y : Int) + a.length + 1) = (y : Int) + a.length + 1 := by rw [IntKind.wrap_i64]; omega
          clear hyl hz
          go_wp2_with fail
          go_ret
          exact ⟨rfl, HE.out.below⟩
        · cases h3; cases h4; cases h5
          have hz := HM.out trivial
          have HEW := Lib.hid (HE5.out.alloc (.cells #[.int .i64 0, .int .i64 0] 27))
          obtain ⟨n, hn⟩ : ∃ n, n = la.length + lb.length := ⟨_, rfl⟩
          have z1 : IntKind.i64.wrap ((la.length : Int) + lb.length) = (n : Int) := by rw [IntKind.wrap_i64]; omega
          have z2 : (la.length : Int) ≤ n := by omega
          have z3 : (0 : Int) ≤ la.length := by omega
          have hlu : (la ++ lb.map (Ln.sh (lc a).1)).length = la.length + lb.length := by simp
          have HMAP := Lib.hid (show (la ++ lb.map (Ln.sh (lc a).1)).take la.length = la from by simp)
          rw [hlu, ← hn] at HO5 ⊢
          obtain ⟨lu, hlud⟩ : ∃ lu, lu = la ++ lb.map (Ln.sh (lc a).1) := ⟨_, rfl⟩
          rw [← hlud] at hlu HL5 HMAP HR5 H5
          rw [← hn] at hlu
          obtain ⟨_, _, hv5, hc5, _⟩ := HO5.out.sl.form
          cases hv5
          have z4 : (n : Int) ≤ cp5 := by omega
          have z5 : (la.length : Int) ≤ cp5 := by omega
          clear hc5
          have HNS := Lib.hid (show la.length ≤ lu.length by omega)
          have HO5X := Lib.hid (show Own J5 w5 B5 33 3 (.slice A5 lu.length cp5) lu.length c5 from by rw [hlu]; exact HO5.out)
          have LA := Lib.hid ((LsO.lns HO3.out HL3.out).mono (((((Ext.refl HE3.out.inv).alloc (.cells #[.int .i64 0, .int .i64 0] 27)).trans HE4.out).alloc (.cells #[.int .i64 0, .int .i64 0] 27)).trans HE5.out |>.le HE3.out.inv))
          have HWL := Lib.hid (show ∀ l ∈ la, l.ws.length ≤ 1048576 from fun l hl => by have := HR3.out.le.2 l hl; have := (HM.out trivial); omega)
          have LA5 := Lib.hid (show Lns J5 (.slice A5 la.length cp5) la from by have h := Lns.head (LsO.lns HO5X.out HL5.out) rfl HNS.out; rw [HMAP.out] at h; exact h)
          have HN := Lib.hid hn
          have HLU := Lib.hid hlu
          have HLD := Lib.hid hlud
          clear hz hlu hlud hn
          go_wp2_with fail
          refine (same_calls HE.out.inv (A := la) (B := la) LA5.out LA.out (by have := (HM.out trivial).1; omega) HWL.out).mono ?_
          rw [decide_eq_true rfl]
          rintro e w6 ⟨rfl, hb6⟩
          have X56 := Lib.hid (((Ext.refl HE5.out.inv).alloc (.cells #[.int .i64 0, .int .i64 0] 27)).step hb6)
          have X46 := Lib.hid ((((Ext.refl HE4.out.inv).alloc (.cells #[.int .i64 0, .int .i64 0] 27)).trans HE5.out).trans X56.out)
          have HE6 := Lib.hid (HE.out.step hb6)
          have hdz : (lc a).1 = 1 + a.count 10 := by rw [HLC.out]; omega
          obtain ⟨d, hd⟩ : ∃ d, d = (lc a).1 := ⟨_, rfl⟩
          rw [← hd] at hdz HLD
          have HD := Lib.hid hdz
          have HDL := Lib.hid (show d ≤ a.length + 1 from by have := List.count_le_length (a := (10 : UInt8)) (l := a); omega)
          have hB4 : w.heap.size ≤ B4 := by
            have := HE3.out.below.size; have := HG4.out; have := HG3.out; have := HE0.out.below.size; simp at *; omega
          have hB5 : w4.heap.size ≤ B5 := by have := HG5.out; simp at this; omega
          have HDS := Lib.hid (HL4.out.dst HR4.out.apart)
          have HST := Lib.hid (show TwoSt J w B4 A4 cp4 c4 w4.heap.size B5 A5 cp5 c5 M5 lu lb.length (upTo d lb 0) w6 from by
            refine ⟨J5, HE6.out, X46.out.below.size, HO4.out.ext X46.out, ?_, HO5X.out.ext X56.out, ?_⟩
            · exact (HL4.out.cap).imp (fun _ _ _ o _ => o.ext X46.out) (Nat.le_refl _)
            · exact HL5.out.imp (fun _ _ _ o _ => o.ext X56.out) (Nat.le_refl _))
          have hlens := HM.out trivial
          have ha8 : a.length ≤ 1048576 := by omega
          have hb8 : lb.length ≤ 1048576 := by omega
          have hla8 : la.length ≤ 1048576 := by omega
          clear hlens hd hdz hb6 s0 s1 t0 t1 u0 u1
          go_wp2_with fail
          go_loopw [11, 12] (fun lv iv wr => ∃ k c : Nat, k ≤ a.length ∧ iv = .int .i64 k ∧ lv = .int .i64 (c : Int) ∧ c ≤ k + 1 ∧ wr = w6 ∧ Hid (c = 1 + (a.take k).count 10)) (fun _ iv _ => a.length - (intOf iv).toNat)
          case atStart => exact ⟨0, 1, Nat.zero_le _, rfl, rfl, by omega, rfl, rfl⟩
          case round =>
            obtain ⟨k, c, hk, rfl, rfl, hc, rfl, HC⟩ := hrel
            have i0 : (0 : Int) ≤ (k : Int) := by omega
            by_cases hlt : k < a.length
            · have i1 : (k : Int) < a.length := by omega
              obtain ⟨x, hx⟩ : ∃ x, a[k]? = some x := ⟨_, List.getElem?_eq_getElem hlt⟩
              have hx' := strB_at0 hx
              have HX := Lib.hid hx
              clear hx
              by_cases h10 : x = 10
              · subst h10
                go_wp2_with fail
                go_roundw
                case rel =>
                  refine ⟨k + 1, c + 1, by omega, by go_num, by go_num, by omega, trivial, ?_⟩
                  rw [Hid, List.take_succ_eq_append_getElem hlt, (List.getElem?_eq_some_iff.1 HX.out).2, List.count_append, HC.out]; rfl
                case measure => simp [intOf]; omega
              · have h10' : ¬ (x.toNat : Int) = 10 := byte_ne h10
                have h10b : ((x.toNat : Int) == 10) = false := by simpa using h10'
                go_wp2_with fail
                go_roundw
                case rel =>
                  refine ⟨k + 1, c, by omega, by go_num, rfl, by omega, trivial, ?_⟩
                  rw [Hid, List.take_succ_eq_append_getElem hlt, (List.getElem?_eq_some_iff.1 HX.out).2, List.count_append, HC.out, List.count_singleton]; simp [h10]
                case measure => simp [intOf]; omega
            · obtain rfl : k = a.length := by omega
              have hcd : c = d := by have h1 := HC.out; rw [List.take_of_length_le (Nat.le_refl _)] at h1; have := HD.out; omega
              subst hcd
              clear HC HD i0 hc
              go_wp2_with fail
              go_loopw [13] (fun iv wr => ∃ k : Nat, k ≤ lb.length ∧ iv = .int .i64 k ∧ Hid (TwoSt J w B4 A4 cp4 c4 w4.heap.size B5 A5 cp5 c5 M5 lu lb.length (upTo c lb k) wr)) (fun iv _ => lb.length - (intOf iv).toNat)
              case atStart => exact ⟨0, Nat.zero_le _, rfl, HST⟩
              case round =>
                obtain ⟨k, hk, rfl, HS⟩ := hrel
                have i0 : (0 : Int) ≤ (k : Int) := by omega
                by_cases hlt : k < lb.length
                · have i1 : (k : Int) < lb.length := by omega
                  obtain ⟨J6, hE6, hsz, hO6, hL6, hOa, hLa⟩ := HS.out
                  obtain ⟨wy, e0, e1, e2, hWy, hMy⟩ := hL6.at (i := k) (by rw [upTo_length]; exact hlt)
                  rw [upTo_at hlt] at e0 e1 hWy
                  obtain ⟨p, hp⟩ : ∃ p, p = la.length + k := ⟨_, rfl⟩
                  have hpu : p < lu.length := by have := HLU.out; have := HN.out; omega
                  obtain ⟨wx, f0, f1, f2, hWx, -⟩ := hLa.at hpu
                  have hlp : lu[p] = (lb[k]).sh c := by
                    have h1 : lu[p]? = some ((lb[k]).sh c) := by
                      rw [HLD.out, hp, List.getElem?_append_right (by omega), Nat.add_sub_cancel_left, List.getElem?_map, List.getElem?_eq_getElem hlt]; rfl
                    exact (List.getElem?_eq_some_iff.1 h1).2
                  rw [hlp] at f0 f1 hWx
                  obtain ⟨hsn, hsw, hsx⟩ := HR4.out.small lb[k] (List.getElem_mem hlt)
                  have hwl := HR4.out.le.2 lb[k] (List.getElem_mem hlt)
                  obtain ⟨yl, hyl⟩ : ∃ yl, yl = lb[k] := ⟨_, rfl⟩
                  have HYL := Lib.hid hyl
                  rw [← hyl] at e0 e1 hWy f0 f1 hWx hsn hsw hsx hwl
                  obtain ⟨b1, o1, rfl, y0⟩ := Sl.cell hO6.sl hE6.inv e0
                  obtain ⟨b1', o1', hA1, y1⟩ := Sl.cell hO6.sl hE6.inv e1
                  cases hA1
                  obtain ⟨b1', o1', hA1, y2⟩ := Sl.cell hO6.sl hE6.inv e2
                  cases hA1
                  obtain ⟨b2, o2, rfl, x0⟩ := Sl.cell hOa.sl hE6.inv f0
                  obtain ⟨b2', o2', hA1, x1⟩ := Sl.cell hOa.sl hE6.inv f1
                  cases hA1
                  obtain ⟨b2', o2', hA1, x2⟩ := Sl.cell hOa.sl hE6.inv f2
                  cases hA1
                  have HCY := Lib.hid e2
                  have HCX := Lib.hid f2
                  have HWX := Lib.hid hWx.sl
                  obtain ⟨xA, xc, rfl, hxn, -⟩ := hWx.sl.form
                  obtain ⟨g, yc, rfl, hyg, hgh⟩ : ∃ g yc, wy = .slice (some ⟨g, 0, none⟩) yl.ws.length yc ∧ B4 ≤ g ∧ g < w4.heap.size := by
                    rcases hWy.1.2 with ⟨h, hn⟩ | ⟨g, cap, cur, h, hb, _⟩
                    · exact absurd (List.eq_nil_of_length_eq_zero hn) hsw
                    · exact ⟨g, cap, h, hb, hMy g (by rw [h]; rfl)⟩
                  have hxl : (yl.sh c).ws.length = yl.ws.length := by show (yl.ws.map (Wd.sh c)).length = _; simp
                  rw [hxl] at x2 HCX HWX
                  have hlens := HM.out trivial
                  have hdl := HDL.out
                  have wp1 : IntKind.i64.wrap ((la.length : Int) + k) = (p : Int) := by rw [IntKind.wrap_i64]; omega
                  have p0 : (0 : Int) ≤ p := by omega
                  have p1 : (p : Int) < n := by have := HLU.out; omega
                  have wn1 : IntKind.i64.wrap ((yl.num : Int) + c) = (yl.num : Int) + c := by rw [IntKind.wrap_i64]; omega
                  have hxnum : ((yl.sh c).num : Int) = (yl.num : Int) + c := by show ((yl.num + c : Nat) : Int) = _; omega
                  rw [hxnum] at x0
                  have HSX := Lib.hid hsx
                  have HWL8 : yl.ws.length ≤ 1048576 := by omega
                  have HSZ := Lib.hid hsz
                  have HPU := Lib.hid (show ∃ h : p < lu.length, lu[p] = lb[k].sh c from ⟨hpu, by rw [hlp]⟩)
                  clear hlens hdl hp hpu hlp hsn hsw hsx hwl hyl hE6 hO6 hL6 hOa hLa hWy hMy hWx e0 e1 e2 f0 f1 f2 hxl hxnum hxn hsz
                  generalize yl.num = ynum at *
                  have y1' : wr.cell? ⟨b1, o1 + k * 3 + 1, none⟩ = _ := y1
                  have y2' : wr.cell? ⟨b1, o1 + k * 3 + 2, none⟩ = _ := y2
                  have x1' : wr.cell? ⟨b2, o2 + p * 3 + 1, none⟩ = _ := x1
                  have x2' : wr.cell? ⟨b2, o2 + p * 3 + 2, none⟩ = _ := x2
                  clear y1 y2 x1 x2
                  go_wp2_with fail
                  go_upto_region 23 with fail
                  go_cut [14, 15] (fun px py wx => ∃ xb yb : Nat, px = .pointer (some ⟨xb, 0, none⟩) ∧ py = .pointer (some ⟨yb, 0, none⟩) ∧ wr.heap.size ≤ xb ∧ wr.heap.size ≤ yb ∧
                    Hid (wx.heap[xb]? = some (.cells [.int .i64 (ynum + c), .bool (yl.sh c).ind, .slice xA yl.ws.length xc].toArray 33 (0, 0))) ∧
                    Hid (wx.heap[yb]? = some (.cells [.int .i64 ynum, .bool yl.ind, .slice (some ⟨g, 0, none⟩) yl.ws.length yc].toArray 33 (0, 0))) ∧
                    Hid (TwoSt J w B4 (some ⟨b1, o1, none⟩) cp4 c4 w4.heap.size B5 (some ⟨b2, o2, none⟩) cp5 c5 M5 lu lb.length (upTo c lb k) wx))
                  case first => as_aux_lemma =>
                    go_region_held3 (fun w' => w'.cell? ⟨b1, o1 + k * 3, none⟩ = some (.int .i64 ynum) ∧ w'.cell? ⟨b1, o1 + k * 3 + 1, none⟩ = some (.bool yl.ind) ∧ w'.cell? ⟨b1, o1 + k * 3 + 2, none⟩ = some (.slice (some ⟨g, 0, none⟩) yl.ws.length yc) ∧
                      w'.cell? ⟨b2, o2 + p * 3, none⟩ = some (.int .i64 (ynum + c)) ∧ w'.cell? ⟨b2, o2 + p * 3 + 1, none⟩ = some (.bool (yl.sh c).ind) ∧ w'.cell? ⟨b2, o2 + p * 3 + 2, none⟩ = some (.slice xA yl.ws.length xc))
                      (first | go_keep)
                      ((fail))
                    · go_wp2_with fail
                      go_meet
                      case rel => exact ⟨_, _, rfl, rfl, Nat.le_refl _, Nat.le_succ _, (heap_two_old _ _ _).trans (heap_alloc_new _ _), heap_two_new _ _ _, HS.out.below (below_two _ _ _)⟩
                    · go_wp2_with fail
                      go_meet
                      case rel => exact ⟨_, _, rfl, rfl, Nat.le_succ _, Nat.le_refl _, heap_two_new _ _ _, (heap_two_old _ _ _).trans (heap_alloc_new _ _), HS.out.below (below_two _ _ _)⟩
                  case rest => as_aux_lemma =>
                    clear x0 y0 y1' y2' x1' x2'
                    obtain ⟨xb, yb, rfl, rfl, hxb, hyb, HXB, HYB, HS⟩ := hcut
                    have hgx : g ≠ xb := by have := HSZ.out; omega
                    have hgy : g ≠ yb := by have := HSZ.out; omega
                    have x0 := blk_cell_J HXB.out 0 rfl
                    have y0 := blk_cell_J HYB.out 0 rfl
                    clear hxb hyb hgh
                    go_wp2_with fail
                    go_loopw [16] (fun qv wq => ∃ q : Nat, q ≤ yl.ws.length ∧ qv = .int .i64 q ∧ 
                      Hid (wq.heap[xb]? = some (.cells [.int .i64 (ynum + c), .bool (yl.sh c).ind, .slice xA yl.ws.length xc].toArray 33 (0, 0))) ∧
                      Hid (wq.heap[yb]? = some (.cells [.int .i64 ynum, .bool yl.ind, .slice (some ⟨g, 0, none⟩) yl.ws.length yc].toArray 33 (0, 0))) ∧
                      Hid (TwoSt J w B4 (some ⟨b1, o1, none⟩) cp4 c4 w4.heap.size B5 (some ⟨b2, o2, none⟩) cp5 c5 M5 lu lb.length (upIn c lb k q) wq)) (fun qv _ => yl.ws.length - (intOf qv).toNat)
                    case atStart => exact ⟨0, Nat.zero_le _, rfl, HXB, HYB, by rw [upIn_zero hlt]; exact HS⟩
                    case round =>
                      clear HS HXB HYB x0 y0
                      obtain ⟨q, hq, rfl, HXB, HYB, HS⟩ := hrel
                      have q0 : (0 : Int) ≤ (q : Int) := by omega
                      have x2 := blk_cell_J HXB.out 2 rfl
                      have y2 := blk_cell_J HYB.out 2 rfl
                      by_cases hql : q < yl.ws.length
                      · have q1 : (q : Int) < yl.ws.length := by omega
                        have hki : k < (upIn c lb k q).length := by rw [upIn_length]; exact hlt
                        have hqb : q < lb[k].ws.length := by rw [← HYL.out]; exact hql
                        have hqi : q < (upIn c lb k q)[k].ws.length := by rw [upIn_len hlt]; exact hqb
                        obtain ⟨hst, hwq⟩ := upIn_step hlt hqb hki hqi
                        obtain ⟨-, yy1, -, -, -, fy⟩ := HS.out.word hki HCY.out hqi
                        rw [hwq] at yy1
                        have hs1 := HS.out.write HDS.out hB5 hB4 hki HCY.out hqi (lb[k].ws[q].line + c)
                        rw [hst] at hs1
                        have HQB := Lib.hid hqb
                        obtain ⟨z, hz⟩ : ∃ z, lb[k].ws[q] = z := ⟨_, rfl⟩
                        have HZQ := Lib.hid hz
                        have yz1 : wr.cell? ⟨g, q * 5 + 1, none⟩ = some (.int .i64 (z.line : Int)) := by rw [← hz]; exact yy1
                        have HS2 : Hid (TwoSt J w B4 (some ⟨b1, o1, none⟩) cp4 c4 w4.heap.size B5 (some ⟨b2, o2, none⟩) cp5 c5 M5 lu lb.length (upIn c lb k (q + 1)) (wr.setCell ⟨g, q * 5 + 1, none⟩ (.int .i64 ((z.line + c : Nat) : Int)))) := by rw [← hz]; exact hs1
                        clear yy1 hs1
                        have hline : z.line ≤ b.length + 1 := HSX.out z (by rw [← hz, HYL.out]; exact List.getElem_mem _)
                        have hlens := HM.out trivial
                        have hdl := HDL.out
                        have wl1 : IntKind.i64.wrap ((z.line : Int) + c) = (z.line : Int) + c := by rw [IntKind.wrap_i64]; omega
                        have HXB2 := Lib.hid ((Below.heap_setCell wr ⟨g, q * 5 + 1, none⟩ (.int .i64 (z.line + c : Nat)) xb (fun e => hgx e.symm)).trans HXB.out)
                        have HYB2 := Lib.hid ((Below.heap_setCell wr ⟨g, q * 5 + 1, none⟩ (.int .i64 (z.line + c : Nat)) yb (fun e => hgy e.symm)).trans HYB.out)
                        rw [Int.natCast_add] at HS2 HXB2 HYB2
                        have HZ2 := Lib.hid (show (lb[k].sh c).ws[q]? = some (z.sh c) from by show (lb[k].ws.map (Wd.sh c))[q]? = _; rw [List.getElem?_map, List.getElem?_eq_getElem hqb]; exact congrArg (fun y => some (Wd.sh c y)) hz)
                        have HZ3 := Lib.hid (show ∀ h1 h2, ((upIn c lb k (q + 1))[k]'h1).ws[q]'h2 = z.sh c from fun h1 h2 => (upIn_done hlt hqb h1 h2).trans (congrArg (Wd.sh c) hz))
                        clear hz
                        clear hst hwq hki hqi hline hlens hdl
                        go_upto_region 30 with fail
                        generalize World.setCell _ _ _ = W2 at *
                        clear yz1 fy x2 y2
                        have hki : k < (upIn c lb k (q + 1)).length := by rw [upIn_length]; exact hlt
                        have hqi : q < (upIn c lb k (q + 1))[k].ws.length := by rw [upIn_len hlt]; exact HQB.out
                        obtain ⟨y0, y1, y2, y3, y4, -⟩ := HS2.out.word hki HCY.out hqi
                        rw [HZ3.out] at y0 y1 y2 y3 y4
                        obtain ⟨hpu, hlp⟩ := HPU.out
                        have hqx : q < lu[p].ws.length := by rw [hlp]; exact (List.getElem?_eq_some_iff.1 HZ2.out).1
                        have hxz : lu[p].ws[q] = z.sh c := by
                          have h1 : lu[p].ws[q]? = some (z.sh c) := by rw [hlp]; exact HZ2.out
                          exact (List.getElem?_eq_some_iff.1 h1).2
                        obtain ⟨b3, o3, rfl, x0, x1, x2, x3, x4⟩ := HS2.out.other hpu HCX.out hqx
                        rw [hxz] at x0 x1 x2 x3 x4
                        have hcmp := wd_neq (z.sh c) (z.sh c)
                        rw [decide_eq_false (fun h => h rfl)] at hcmp
                        have xw := blk_cell_J HXB2.out 2 rfl
                        have yw := blk_cell_J HYB2.out 2 rfl
                        clear hpu hlp hqx hxz hki hqi
                        generalize z.sh c = sz at *
                        go_wp2_with fail
                        go_big_quiet (fail)
                        go_wp2_with fail
                        go_roundw
                        case rel => exact ⟨q + 1, by omega, by go_num, HXB2.out, HYB2.out, HS2.out.below (Below.drewsL (Below.refl _ _) _)⟩
                        case measure => simp [intOf]; omega
                      · obtain rfl : q = yl.ws.length := by omega
                        have q1 : ¬ (yl.ws.length : Int) < yl.ws.length := by omega
                        have HS9 : Hid (TwoSt J w B4 (some ⟨b1, o1, none⟩) cp4 c4 w4.heap.size B5 (some ⟨b2, o2, none⟩) cp5 c5 M5 lu lb.length (upTo c lb (k + 1)) wr) := by
                          rw [← upIn_full hlt (m := yl.ws.length) (by rw [HYL.out])]; exact HS
                        clear HS
                        go_wp2_with fail
                        go_roundw
                        case rel => exact ⟨k + 1, by omega, by go_num, HS9⟩
                        case measure => simp [intOf]; omega
                · obtain rfl : k = lb.length := by omega
                  have i1 : ¬ (lb.length : Int) < lb.length := by omega
                  obtain ⟨J6, hE6, hsz, hO6, hL6, hOa, hLa⟩ := HS.out
                  have HLM := Lib.hid (show Lns J6 (.slice A4 lb.length cp4) (upTo c lb lb.length) from ⟨c4, by rw [upTo_length]; exact hO6.sl, hL6.lsc⟩)
                  have hnl : n - la.length = lb.length := by have := HN.out; omega
                  have hlt3 : la.length ≤ lu.length := HNS.out
                  have HLT := Lib.hid (show Lns J6 (.slice (A5.map fun x => x.add (la.length * 3)) (n - la.length) (cp5 - la.length)) (lb.map (Ln.sh c)) from by
                    have h := hOa.tailA hlt3
                    rw [HLU.out] at h
                    refine ⟨c5.drop (la.length * 3), ?_, ?_⟩
                    · rw [List.length_map, ← hnl]; exact h
                    · have h2 := hLa.lsc.drop la.length
                      rw [HLD.out, List.drop_left] at h2
                      exact h2)
                  have HCN := Lib.hid hOa.sl.form
                  have hAl : (lb.map (Ln.sh c)).map lst = (upTo c lb lb.length).map lst := by rw [sh_lst, upTo_lst]
                  have HAL := Lib.hid hAl
                  have HWB := Lib.hid (show ∀ l ∈ lb.map (Ln.sh c), l.ws.length ≤ 1048576 from by
                    intro l hl
                    obtain ⟨y, hy, rfl⟩ := List.mem_map.1 hl
                    have h1 := HR4.out.le.2 y hy
                    have h2 := HM.out trivial
                    show (y.ws.map _).length ≤ _
                    rw [List.length_map]; omega)
                  have HE6 := Lib.hid hE6
                  clear hE6 hsz hO6 hL6 hOa hLa hAl hnl hlt3
                  by_cases hcap : la.length = cp5
                  · have hcz : (la.length : Int) = cp5 := by omega
                    have HLT := Lib.hid (show Lns J6 (.slice A5 (n - cp5) 0) (lb.map (Ln.sh c)) from by
                      have hn0 : n - cp5 = 0 := by have := HN.out; have := HCN.out; rcases this with ⟨_, _, hv, hx, _⟩; cases hv; have := HLU.out; omega
                      have hlb : lb = [] := by have := HN.out; exact List.eq_nil_of_length_eq_zero (by omega)
                      rw [hn0, hlb]
                      exact ⟨[], Sl.zero (Nat.zero_le _) (fun _ => rfl), .nil⟩)
                    clear hcap
                    go_wp2_with fail
                    refine (alike_calls HE6.out.inv HLT.out HLM.out (by rw [List.length_map]; omega) HWB.out).mono ?_
                    rw [decide_eq_true HAL.out]
                    rintro e w9 ⟨rfl, hb9⟩
                    go_wp2_with fail
                    go_ret
                    exact ⟨rfl, (HE6.out.step hb9).below⟩
                  · have hcz : ¬ (la.length : Int) = cp5 := by omega
                    clear hcap
                    go_wp2_with fail
                    refine (alike_calls HE6.out.inv HLT.out HLM.out (by rw [List.length_map]; omega) HWB.out).mono ?_
                    rw [decide_eq_true HAL.out]
                    rintro e w9 ⟨rfl, hb9⟩
                    go_wp2_with fail
                    go_ret
                    exact ⟨rfl, (HE6.out.step hb9).below⟩
end Go.Proofs.Ythfjeijhnikabaa
