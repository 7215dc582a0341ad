/- The walks of wire's cursor. -/
import Derived.Test.YtldicbhjmjjfbaaWire
import Derived.Test.YtldicbhjmjjfbaaMv
import Derived.StillTailTactics
namespace Go.Proofs.Ytldicbhjmjjfbaa
open Go.RowKit

theorem below_drewN (w : World) (n : Nat) : Below w.heap.size w (w.drewN n) := ⟨rfl, rfl, rfl, Nat.le_refl _, fun _ _ => rfl⟩
def Cur (J : Jm) (w : World) (g : Nat) (s : List UInt8) (k : Nat) : Prop :=
  w.heap[g]? = some (.cells [.string (strB s), .int .i64 (k : Int)].toArray 74 (0, 0)) ∧ J g = [] ∧ k ≤ s.length ∧ s.length ≤ 9223372036854775807
theorem Cur.lt {J : Jm} {w : World} {g : Nat} {s : List UInt8} {k : Nat} (h : Cur J w g s k) : g < w.heap.size := (Array.getElem?_eq_some_iff.1 h.1).1
theorem Cur.ext {J J' : Jm} {w w' : World} {g : Nat} {s : List UInt8} {k : Nat} (h : Cur J w g s k) (e : Ext J w J' w') : Cur J' w' g s k :=
  ⟨(e.below.block g h.lt).trans h.1, (e.old g h.lt).trans h.2.1, h.2.2⟩
set_option maxHeartbeats 2000000 in
theorem new_calls {J : Jm} {w : World} (hI : Inv J w) {v : Value} {l : List UInt8} (hb : Bs J v l) (hl : l.length ≤ 9223372036854775807) :
    Calls Try.prog 28 #[v] w fun e w' => ∃ g, e = .returned (.pointer (some ⟨g, 0, none⟩)) ∧ w.heap.size ≤ g ∧ Ext J w J w' ∧ Cur J w' g l 0 := by
  have kc := hb.string (P := Try.prog) hI 54 9 5 Try.underlying54 Try.underlying5 Try.underlying9
  go_enter Try.func28, Try.ntmps28
  go_wp2
  go_ret
  exact ⟨_, rfl, Nat.le_refl _, (Ext.refl hI).alloc _, heap_alloc_new _ _, hI.nil (Nat.le_refl _), by omega, hl⟩
theorem Cur.c0 {J : Jm} {w : World} {g : Nat} {s : List UInt8} {k : Nat} (h : Cur J w g s k) : w.cell? ⟨g, 0, none⟩ = some (.string (strB s)) := blk_cell_J h.1 0 rfl
theorem Cur.c1 {J : Jm} {w : World} {g : Nat} {s : List UInt8} {k : Nat} (h : Cur J w g s k) : w.cell? ⟨g, 1, none⟩ = some (.int .i64 (k : Int)) := blk_cell_J h.1 1 rfl
theorem Cur.fz {J : Jm} {w : World} {g : Nat} {s : List UInt8} {k : Nat} (h : Cur J w g s k) : w.frozen? ⟨g, 1, none⟩ = false := frozen_of_row w g 1 _ _ h.1
set_option maxHeartbeats 2000000 in
theorem left_calls {J : Jm} {w : World} {g : Nat} {s : List UInt8} {k : Nat} (hc : Cur J w g s k) :
    Calls Try.prog 32 #[.pointer (some ⟨g, 0, none⟩)] w fun e w' => e = .returned (.int .i64 (s.length - k : Nat)) ∧ Below w.heap.size w w' := by
  have h1 := hc.c1
  have h0 := hc.c0
  have HS := Lib.hid (strB_size s)
  have hk := hc.2.2.1
  have hm := hc.2.2.2
  go_enter Try.func32, Try.ntmps32
  go_wp2
  go_quiet (fail)
  go_wp2
  go_ret
  exact ⟨by go_num, below_drewN _ _⟩
set_option maxHeartbeats 2000000 in
theorem left_nil (w : World) :
    Calls Try.prog 32 #[.pointer none] w fun e w' => e = .returned (.int .i64 0) ∧ w' = w := by
  go_enter Try.func32, Try.ntmps32
  go_wp2
  go_ret
  exact ⟨rfl, rfl⟩
theorem strB_at {s : List UInt8} {k j : Nat} {x : UInt8} (h : s[k + j]? = some x) : ∀ hh, (strB s)[((k : Int) + j).toNat]'hh = x := by
  intro hh
  have h1 : ((k : Int) + j).toNat = k + j := by omega
  simp only [h1]
  have h2 : k + j < s.length := (List.getElem?_eq_some_iff.1 h).1
  have h3 : s[k + j] = x := by rw [List.getElem?_eq_getElem h2] at h; exact Option.some.inj h
  rw [← h3]
  rfl
theorem Cur.mv {S : Nat → Prop} {J J' : Jm} {w w' : World} {g : Nat} {s : List UInt8} {k : Nat} (h : Cur J w g s k) (e : Mv S J w J' w') (hs : ¬ S g) : Cur J' w' g s k :=
  ⟨(e.block g h.lt hs).trans h.1, (e.old g h.lt).trans h.2.1, h.2.2⟩
theorem Cur.drewN {J : Jm} {w : World} {g : Nat} {s : List UInt8} {k : Nat} (h : Cur J w g s k) (n : Nat) : Cur J (w.drewN n) g s k := h
theorem Cur.set {J : Jm} {w : World} {g : Nat} {s : List UInt8} {k : Nat} (h : Cur J w g s k) (k' : Nat) (hk : k' ≤ s.length) : Cur J (w.setCell ⟨g, 1, none⟩ (.int .i64 (k' : Int))) g s k' :=
  ⟨blk_set_J h.1 1 _, h.2.1, hk, h.2.2.2⟩
def UintP (r : Option (Nat × Nat)) (k : Nat) (e : Ending) (k' : Nat) : Prop :=
  match r with
  | none => e = .returned (.tuple #[.int .u64 0, .bool false]) ∧ k' = k
  | some (n, c) => e = .returned (.tuple #[.int .u64 n, .bool true]) ∧ k' = k + c
theorem p128 (j : Nat) : (2 : Nat) ^ (7 * j) = 128 ^ j := by rw [Nat.pow_mul]
theorem part_lt {y j : Nat} (hy : y < 128) (hj : j ≤ 9) (h9 : j = 9 → y ≤ 1) : y * 128 ^ j < 18446744073709551616 := by
  by_cases e : j = 9
  · subst e
    have h1 := h9 rfl
    have h2 : y * 128 ^ 9 ≤ 1 * 128 ^ 9 := Nat.mul_le_mul_right _ h1
    exact Nat.lt_of_le_of_lt h2 (by decide)
  · have h1 : (128 : Nat) ^ j ≤ 128 ^ 8 := Nat.pow_le_pow_right (by decide) (by omega)
    have h2 : y * 128 ^ j ≤ 127 * 128 ^ 8 := Nat.mul_le_mul (by omega) h1
    exact Nat.lt_of_le_of_lt h2 (by decide)
theorem or_part (a x j : Nat) (ha : a < 128 ^ j) (hj : j ≤ 9) (hx : x < 256) (h9 : j = 9 → x % 128 ≤ 1) :
    bits .or .u64 (a : Int) (IntKind.u64.wrap (IntKind.u64.wrap (bits .and .u8 (x : Int) 127) * 2 ^ (7 * j))) = ((a + x % 128 * 128 ^ j : Nat) : Int) := by
  have h1 := u8_and_nat x 127 hx (by decide)
  rw [nat_mask7] at h1
  rw [show ((127 : Nat) : Int) = 127 from rfl] at h1
  rw [h1]
  have hl : x % 128 < 128 := Nat.mod_lt _ (by decide)
  have h2 := part_lt hl hj h9
  generalize x % 128 = y at *
  have h3 : IntKind.u64.wrap (y : Int) = y := by rw [IntKind.wrap_u64]; omega
  rw [h3]
  have h4 : (y : Int) * 2 ^ (7 * j) = ((y * 128 ^ j : Nat) : Int) := by rw [← p128]; push_cast; rfl
  rw [h4]
  have h5 : IntKind.u64.wrap ((y * 128 ^ j : Nat) : Int) = ((y * 128 ^ j : Nat) : Int) := by rw [IntKind.wrap_u64]; omega
  have ha' : a < 18446744073709551616 := Nat.lt_of_lt_of_le ha (Nat.le_trans (Nat.pow_le_pow_right (by decide) hj) (by decide))
  rw [h5, u64_or_nat a _ ha' h2]
  congr 1
  have h6 := nat_join (7 * j) (y * 128 ^ j) a (by rw [p128]; exact Nat.mul_mod_left _ _) (by rw [p128]; exact ha)
  rw [Nat.or_comm, h6, Nat.add_comm]
theorem or_part9 (a x : Nat) (ha : a < 128 ^ 9) (hx : x < 2) :
    bits .or .u64 (a : Int) (IntKind.u64.wrap (IntKind.u64.wrap (bits .and .u8 (x : Int) 127) * 9223372036854775808)) = ((a + x % 128 * 128 ^ 9 : Nat) : Int) :=
  or_part a x 9 ha (by decide) (by omega) (by omega)
theorem or_part0 (a x : Nat) (ha : a < 128 ^ 0) (hx : x < 256) :
    bits .or .u64 (a : Int) (IntKind.u64.wrap (IntKind.u64.wrap (bits .and .u8 (x : Int) 127))) = ((a + x % 128 * 128 ^ 0 : Nat) : Int) := by
  have := or_part a x 0 ha (by decide) hx (by omega)
  rw [Nat.mul_zero, Int.pow_zero, Int.mul_one] at this
  exact this
theorem rd_at {s : List UInt8} {q : Nat} {x : UInt8} (h : s[q]? = some x) : s.drop q = x :: s.drop (q + 1) := by
  obtain ⟨h1, h2⟩ := List.getElem?_eq_some_iff.1 h
  rw [List.drop_eq_getElem_cons h1, h2]
theorem add_part_lt {a y j : Nat} (ha : a < 128 ^ j) (hy : y < 128) : a + y * 128 ^ j < 128 ^ (j + 1) := by
  have h2 : y * 128 ^ j ≤ 127 * 128 ^ j := Nat.mul_le_mul_right _ (by omega)
  rw [Nat.pow_succ]; omega
theorem rdGo_end {f j a : Nat} : rdGo f j a [] = none := by cases f <;> rfl
set_option maxRecDepth 100000 in
set_option maxHeartbeats 4000000 in
theorem uint_calls {J : Jm} {w : World} (hI : Inv J w) {g : Nat} {s : List UInt8} {k : Nat} (hc : Cur J w g s k) :
    Calls Try.prog 56 #[.pointer (some ⟨g, 0, none⟩)] w fun e w' => ∃ k', UintP (rdU (s.drop k)) k e k' ∧
      Mv (· = g) J w J w' ∧ Cur J w' g s k' := by
  have HS := Lib.hid (strB_size s)
  go_enter Try.func56, Try.ntmps56
  go_wp2
  go_loopw [4, 7] (fun m i wr => ∃ (a j : Nat), j ≤ 10 ∧ m = .int .u64 a ∧ i = .int .i64 j ∧ a < 128 ^ j ∧ k + j ≤ s.length ∧ Hid (rdGo (10 - j) j a (s.drop (k + j)) = rdU (s.drop k)) ∧ Mv (· = g) J w J wr ∧ Cur J wr g s k) (fun _ i _ => 10 - (intOf i).toNat)
  case atStart => exact ⟨0, 0, by omega, rfl, rfl, by decide, by have := hc.2.2.1; omega, rfl, Mv.refl _ hI, hc⟩
  case round =>
    obtain ⟨a, j, hj, rfl, rfl, ha, hkj, HR, hM, hC⟩ := hrel
    have HM := Lib.hid hM
    have HA := Lib.hid ha
    have h1 := hC.c1
    have h0 := hC.c0
    have hfz := hC.fz
    have HC := Lib.hid hC
    have hm := hC.2.2.2
    have HJ := Lib.hid hC.2.1
    clear hM ha hc hC
    by_cases hj10 : j < 10
    · by_cases hend : k + j = s.length
      · have HN : Hid (rdU (s.drop k) = none) := by rw [Hid, ← HR.out, List.drop_of_length_le (by omega), rdGo_end]
        go_wp2
        go_quiet (fail)
        go_wp2
        go_ret2
        exact ⟨k, by rw [HN.out]; exact ⟨rfl, rfl⟩, HM.out.drewN _, HC.out⟩
      · obtain ⟨x, hx⟩ : ∃ x, s[k + j]? = some x := ⟨_, List.getElem?_eq_getElem (by omega)⟩
        have i0 : (0 : Int) ≤ (k : Int) + j := by omega
        have i1 : (k : Int) + j < s.length := by omega
        have hx' := strB_at hx
        have HR' : Hid (rdGo (9 - j + 1) j a (x :: s.drop (k + j + 1)) = rdU (s.drop k)) := by rw [Hid, ← HR.out, rd_at hx]; congr 1; omega
        clear hx HR
        have hxl := x.toNat_lt
        go_wp2
        go_quiet (fail)
        have HC1 := Lib.hid (HC.out.drewN nq)
        have HM1 := Lib.hid (HM.out.drewN nq)
        have h1 := HC1.out.c1
        have h0 := HC1.out.c0
        clear HC HM
        generalize wr.drewN nq = wr at *
        clear nq
        go_wp2
        go_quiet (fail)
        have HC2 := Lib.hid (HC1.out.drewN nq)
        have HM2 := Lib.hid (HM1.out.drewN nq)
        have h1 := HC2.out.c1
        have h0 := HC2.out.c0
        have hfz := HC2.out.fz
        clear HC1 HM1
        generalize wr.drewN nq = wr at *
        clear nq
        by_cases hj9 : j = 9
        · subst hj9
          by_cases hx1 : 1 < x.toNat
          · have HN : Hid (rdU (s.drop k) = none) := by rw [Hid, ← HR'.out]; simp [rdGo, hx1]
            go_wp2
            go_ret2
            exact ⟨k, by rw [HN.out]; exact ⟨rfl, rfl⟩, HM2.out, HC2.out⟩
          · by_cases hx0 : x.toNat = 0
            · have HN : Hid (rdU (s.drop k) = none) := by rw [Hid, ← HR'.out]; simp [rdGo, hx0]
              go_wp2
              go_ret2
              exact ⟨k, by rw [HN.out]; exact ⟨rfl, rfl⟩, HM2.out, HC2.out⟩
            · have HN : Hid (rdU (s.drop k) = some (a + x.toNat % 128 * 128 ^ 9, 10)) := by
                rw [Hid, ← HR'.out]
                unfold rdGo
                rw [if_neg (by omega), if_pos (by omega), if_neg (by omega), Nat.mod_eq_of_lt (show x.toNat < 128 by omega)]
              have HO := Lib.hid (or_part9 a x.toNat HA.out (by omega))
              go_wp2
              go_ret2
              have hs := HC2.out.set (k + (9 + 1)) (by omega)
              push_cast at hs
              exact ⟨k + (9 + 1), by rw [HN.out]; exact ⟨congrArg (fun z => Ending.returned (.tuple #[.int .u64 z, .bool true])) HO.out, rfl⟩, HM2.out.setCell (fun _ => rfl) HJ.out _, hs⟩
        · by_cases hx128 : x.toNat < 128
          · by_cases hx0 : 0 < j ∧ x.toNat = 0
            · have HN : Hid (rdU (s.drop k) = none) := by rw [Hid, ← HR'.out]; unfold rdGo; rw [if_neg (by omega), if_pos (by omega), if_pos hx0]
              obtain ⟨hj0, hx00⟩ := hx0
              go_wp2
              go_ret2
              exact ⟨k, by rw [HN.out]; exact ⟨rfl, rfl⟩, HM2.out, HC2.out⟩
            · have HN : Hid (rdU (s.drop k) = some (a + x.toNat % 128 * 128 ^ j, j + 1)) := by
                rw [Hid, ← HR'.out]
                unfold rdGo
                rw [if_neg (by omega), if_pos (by omega), if_neg (by omega), Nat.mod_eq_of_lt (show x.toNat < 128 by omega)]
              have HO := Lib.hid (or_part a x.toNat j HA.out (by omega) (by omega) (by omega))
              by_cases hj0 : j = 0
              · clear hx0
                subst hj0
                have HO := Lib.hid (or_part0 a x.toNat HA.out (by omega))
                go_wp2
                go_ret2
                have hs := HC2.out.set (k + (0 + 1)) (by omega)
                push_cast at hs
                exact ⟨k + (0 + 1), by rw [HN.out]; exact ⟨congrArg (fun z => Ending.returned (.tuple #[.int .u64 z, .bool true])) HO.out, rfl⟩, HM2.out.setCell (fun _ => rfl) HJ.out _, hs⟩
              · have hx00 : x.toNat ≠ 0 := by omega
                clear hx0
                go_wp2
                go_ret2
                have hs := HC2.out.set (k + (j + 1)) (by omega)
                push_cast at hs
                exact ⟨k + (j + 1), by rw [HN.out]; exact ⟨congrArg (fun z => Ending.returned (.tuple #[.int .u64 z, .bool true])) HO.out, rfl⟩, HM2.out.setCell (fun _ => rfl) HJ.out _, hs⟩
          · have HN : Hid (rdGo (10 - (j + 1)) (j + 1) (a + x.toNat % 128 * 128 ^ j) (s.drop (k + (j + 1))) = rdU (s.drop k)) := by
              rw [Hid, ← HR'.out]
              rw [rdGo, if_neg (by omega), if_neg (by omega), show x.toNat % 128 = x.toNat - 128 by omega, show 10 - (j + 1) = 9 - j by omega]
              rfl
            have HO := Lib.hid (or_part a x.toNat j HA.out (by omega) (by omega) (by omega))
            go_wp2
            go_roundw
            case rel => exact ⟨_, j + 1, by omega, by rw [HO.out], by go_num, add_part_lt HA.out (Nat.mod_lt _ (by decide)), by omega, HN.out, HM2.out, HC2.out⟩
            case measure => simp [intOf]; omega
    · obtain rfl : j = 10 := by omega
      have HN : Hid (rdU (s.drop k) = none) := HR.out.symm
      go_wp2
      go_ret2
      exact ⟨k, by rw [HN.out]; exact ⟨rfl, rfl⟩, HM.out, HC.out⟩
end Go.Proofs.Ytldicbhjmjjfbaa
