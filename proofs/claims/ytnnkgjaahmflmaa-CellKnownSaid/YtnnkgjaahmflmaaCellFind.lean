/- The walks of Find, of sort.Search in it, and of the document's Find. -/
import Derived.Test.YtnnkgjaahmflmaaCellOrd
import Derived.Test.YtnnkgjaahmflmaaCellForms
namespace Go.Proofs.Ytnnkgjaahmflmaa
open Go.RowKit
set_option linter.unusedVariables false

/-- a key's box -/
def KBox (w : World) (b : Nat) (key : List UInt8) : Prop := w.cell? ⟨b, 0, none⟩ = some (.string (strB key))
theorem lt8_str (a b : List UInt8) : Op.bytesLess (strB a).toList (strB b).toList = lt8 a b := by rw [strB_toList, strB_toList]; rfl
set_option maxRecDepth 100000 in
set_option maxHeartbeats 4000000 in
theorem behind_calls {J : Jm} {w : World} (hI : Inv J w) {nb kb : Nat} {leaf : Bool} {A : Option Addr} {c : Nat} {vk : Value} {l : List Cl} {key : List UInt8} (hn : NBox w nb leaf (.slice A l.length c) vk) (hc : Cls J (.slice A l.length c) l) (hk : KBox w kb key) (i : Nat) (hi : i < l.length) :
    Calls Try.prog 49 #[.int .i64 i, .pointer (some ⟨nb, 0, none⟩), .pointer (some ⟨kb, 0, none⟩)] w fun e w' => e = .returned (.bool (!lt8 l[i].key key)) ∧ Below w.heap.size w w' := by
  have n1 := blk_cell_J hn 1 rfl
  have k0 : w.cell? ⟨kb, 0, none⟩ = some (.string (strB key)) := hk
  obtain ⟨A', c', h, hnc, hm⟩ := hc.form
  cases h
  obtain ⟨b, o, rfl, c0, -, -, -⟩ := hc.cell hI hi
  unfold maxLen at hm
  have i0 : (0 : Int) ≤ (i : Int) := by omega
  have i1 : (i : Int) < l.length := by omega
  obtain ⟨x, hx⟩ : ∃ x, x = l[i] := ⟨_, rfl⟩
  rw [← hx] at c0 ⊢
  have hlb := lt8_str x.key key
  clear hx hc hn hk
  cases hlx : lt8 x.key key
  all_goals
    rw [hlx] at hlb
    go_enter Try.func49, Try.ntmps49
    go_wp2_with fail
    go_big_quiet (fail)
    go_wp2_with fail
    go_ret
    exact ⟨rfl, (Below.refl _ _).drewsS nq⟩
theorem behindI_calls {J : Jm} {w : World} (hI : Inv J w) {nb kb : Nat} {leaf : Bool} {A : Option Addr} {c : Nat} {vk : Value} {l : List Cl} {key : List UInt8} (hn : NBox w nb leaf (.slice A l.length c) vk) (hc : Cls J (.slice A l.length c) l) (hk : KBox w kb key) (x : Int) (i : Nat) (hx : x = i) (hi : i < l.length) :
    Calls Try.prog 49 #[.int .i64 x, .pointer (some ⟨nb, 0, none⟩), .pointer (some ⟨kb, 0, none⟩)] w fun e w' => e = .returned (.bool (!lt8 l[i].key key)) ∧ Below w.heap.size w w' := by
  subst hx; exact behind_calls hI hn hc hk i hi
set_option maxRecDepth 100000 in
set_option maxHeartbeats 4000000 in
theorem search_calls {J : Jm} {w : World} (hI : Inv J w) {nb kb : Nat} {leaf : Bool} {A : Option Addr} {c : Nat} {vk : Value} {l : List Cl} {key : List UInt8} (hn : NBox w nb leaf (.slice A l.length c) vk) (hc : Cls J (.slice A l.length c) l) (hk : KBox w kb key) (hs : Srt l) (hl : l.length ≤ 1048576) :
    Calls Try.prog 48 #[.int .i64 l.length, .func (.func 49) #[] #[.pointer (some ⟨nb, 0, none⟩), .pointer (some ⟨kb, 0, none⟩)]] w fun e w' => ∃ r : Nat, e = .returned (.int .i64 r) ∧ At l key r ∧ Below w.heap.size w w' := by
  have HN := Lib.hid hn
  have HC := Lib.hid hc
  have HK := Lib.hid hk
  have HS := Lib.hid hs
  clear hn hc hk hs
  go_enter Try.func48, Try.ntmps48
  go_wp2_with fail
  go_loopw [5, 6] (fun iv jv wr => ∃ i j : Nat, i ≤ j ∧ j ≤ l.length ∧ iv = .int .i64 i ∧ jv = .int .i64 j ∧ Hid (∀ k (h : k < l.length), k < i → lt8 l[k].key key = true) ∧ Hid (∀ h : j < l.length, lt8 l[j].key key = false) ∧ Hid (Below w.heap.size w wr)) (fun iv jv _ => (intOf jv).toNat - (intOf iv).toNat)
  case atStart => exact ⟨0, l.length, Nat.zero_le _, Nat.le_refl _, rfl, rfl, Lib.hid (fun k h h' => absurd h' (Nat.not_lt_zero _)), Lib.hid (fun h => absurd h (Nat.lt_irrefl _)), Below.refl _ _⟩
  case round =>
    obtain ⟨i, j, hij, hj, rfl, rfl, HLO, HHI, HW⟩ := hrel
    have i0 : (0 : Int) ≤ (i : Int) := by omega
    have j0 : (0 : Int) ≤ (j : Int) := by omega
    have jl : (j : Int) ≤ 1048576 := by omega
    have il : (i : Int) ≤ 1048576 := by omega
    by_cases hlt : i < j
    · have h1 : (i : Int) < j := by omega
      go_upto_region 4 with fail
      obtain ⟨h, hh⟩ : ∃ h : Nat, h = (i + j) / 2 := ⟨_, rfl⟩
      have hhi : ((i : Int) + j) / 2 = (h : Int) := by omega
      have hhl : h < l.length := by omega
      have HW1 := Lib.hid (HN.out)
      have HNr := Lib.hid ((HW.out.block nb (Array.getElem?_eq_some_iff.1 HN.out).1).trans HN.out)
      have HKr := Lib.hid (below_held HW.out HK.out)
      have HIr := Lib.hid (hI.below HW.out)
      have HSP := Lib.hid (show (lt8 l[h].key key = true → ∀ k (hk : k < l.length), k < h + 1 → lt8 l[k].key key = true) from fun ht k hk hk1 => by
        by_cases hkh : k = h
        · subst hkh; exact ht
        · exact lt8_trans (List.pairwise_iff_getElem.1 HS.out k h hk hhl (by omega)) ht)
      have hih : i ≤ h := by omega
      have hhj : h < j := by omega
      rw [hhi]
      clear hhi hh
      have h0 : (0 : Int) ≤ (h : Int) := by omega
      have h1m : (h : Int) ≤ 1048576 := by omega
      go_wp2_with fail
      refine (behind_calls HIr.out HNr.out HC.out HKr.out h hhl).mono ?_
      cases hb : lt8 l[h].key key with
      | true =>
        rintro e w1 ⟨rfl, hb1⟩
        have HW2 := Lib.hid (HW.out.trans (hb1.mono HW.out.size))
        have HLO2 := Lib.hid (HSP.out hb)
        clear hb1 hb
        go_wp2_with fail
        go_roundw
        case rel => exact ⟨h + 1, j, by omega, hj, by go_num, rfl, HLO2, HHI, HW2⟩
        case measure => simp [intOf] <;> omega
      | false =>
        rintro e w1 ⟨rfl, hb1⟩
        have HW2 := Lib.hid (HW.out.trans (hb1.mono HW.out.size))
        have HHI2 := Lib.hid (show ∀ hq : h < l.length, lt8 l[h].key key = false from fun _ => hb)
        clear hb1 hb
        go_wp2_with fail
        go_roundw
        case rel => exact ⟨i, h, by omega, by omega, rfl, by go_num, HLO, HHI2, HW2⟩
        case measure => simp [intOf] <;> omega
    · obtain rfl : i = j := by omega
      have h1 : ¬ (i : Int) < i := by omega
      go_wp2_with fail
      go_ret
      exact ⟨i, rfl, ⟨hj, HLO.out, HHI.out⟩, HW.out⟩
def fI (n : Nd) (key : List UInt8) : Nat := if right n = true then findI n key else 0
def fB (n : Nd) (key : List UInt8) : Bool := if right n = true then findB n key else false
set_option maxRecDepth 100000 in
set_option maxHeartbeats 8000000 in
theorem Find_calls {J : Jm} {w : World} (hI : Inv J w) {v : Value} {n : Nd} (hn : NdV J v n) (hs : NdS n) (key : List UInt8) (hkl : key.length ≤ 140737488351232) :
    Calls Try.prog 25 #[v, .string (strB key)] w fun e w' => e = .returned (.tuple #[.int .i64 (fI n key : Nat), .bool (fB n key)]) ∧ Below w.heap.size w w' := by
  obtain ⟨Ai, ci, Ak, ck, rfl, hni, hmi, hnk, hmk⟩ := hn.form
  unfold maxLen at hmi hmk
  have HV := Lib.hid hn
  have HS := Lib.hid hs
  obtain ⟨vi, vk, he, hci, -⟩ := hn
  cases he
  have HC := Lib.hid hci
  have hmf : ∀ (fn : Fn) (first cap : Array Value) (w : World), (Instr.makeFunc fn first cap).run Try.prog w = .ok (.func fn first cap) w := fun _ _ _ _ => rfl
  clear hci hs
  go_enter Try.func25, Try.ntmps25
  go_upto_region 1 with fail
  have HE := Lib.hid (((Ext.refl hI).alloc (.cells #[.bool n.leaf, .slice Ai n.items.length ci, .slice Ak n.kids.length ck] 25)).alloc (.cells #[.string (strB key)] 9))
  have HN : Hid (NBox ((w.alloc (.cells #[.bool n.leaf, .slice Ai n.items.length ci, .slice Ak n.kids.length ck] 25)).alloc (.cells #[.string (strB key)] 9)) w.heap.size n.leaf (.slice Ai n.items.length ci) (.slice Ak n.kids.length ck)) := (Below.heap_alloc _ _ w.heap.size (by simp)).trans (heap_alloc_new w _)
  have HK : Hid (KBox ((w.alloc (.cells #[.bool n.leaf, .slice Ai n.items.length ci, .slice Ak n.kids.length ck] 25)).alloc (.cells #[.string (strB key)] 9)) (w.heap.size + 1) key) := by
    have h := heap_alloc_new (w.alloc (.cells #[.bool n.leaf, .slice Ai n.items.length ci, .slice Ak n.kids.length ck] 25)) (.cells #[.string (strB key)] 9)
    rw [show (w.alloc (.cells #[.bool n.leaf, .slice Ai n.items.length ci, .slice Ak n.kids.length ck] 25)).heap.size = w.heap.size + 1 by simp] at h
    exact blk_cell_J h 0 rfl
  generalize World.alloc (World.alloc w _) _ = W at *
  generalize w.heap.size + 1 = kb at *
  obtain ⟨nb, hnb⟩ : ∃ nb, nb = w.heap.size := ⟨_, rfl⟩
  rw [← hnb] at HN ⊢
  clear hnb
  have n0 := blk_cell_J HN.out 0 rfl
  have n1 := blk_cell_J HN.out 1 rfl
  have n2 := blk_cell_J HN.out 2 rfl
  go_wp2_with fail
  refine (right_calls HE.out.inv (HV.out.mono (HE.out.le hI)) HS.out.2).mono ?_
  rintro e w1 ⟨rfl, hb1⟩
  have hX := Ext.of_below HE.out.inv hb1
  have HN := Lib.hid (HN.out.ext hX)
  have HK := Lib.hid (show KBox w1 kb key from below_held hb1 HK.out)
  have HE := Lib.hid (HE.out.trans hX)
  clear hX hb1 n0 n1 n2
  have n0 := blk_cell_J HN.out 0 rfl
  have n1 := blk_cell_J HN.out 1 rfl
  have n2 := blk_cell_J HN.out 2 rfl
  cases hr : right n with
  | false =>
    have HF1 := Lib.hid (show fI n key = 0 from if_neg (by rw [hr]; decide))
    have HF2 := Lib.hid (show fB n key = false from if_neg (by rw [hr]; decide))
    go_wp2_with fail
    go_ret2
    exact ⟨by rw [HF1.out, HF2.out]; rfl, HE.out.below⟩
  | true =>
    have HSR := Lib.hid (right_srt hr)
    have HF1 := Lib.hid (show fI n key = findI n key from if_pos hr)
    have HF2 := Lib.hid (show fB n key = findB n key from if_pos hr)
    clear hr
    go_wp2_with fail
    refine (search_calls HE.out.inv HN.out (HC.out.mono (HE.out.le hI)) HK.out HSR.out HS.out.1).mono ?_
    rintro e w2 ⟨r, rfl, hat, hb2⟩
    have hX := Ext.of_below HE.out.inv hb2
    have HN := Lib.hid (HN.out.ext hX)
    have HK := Lib.hid (show KBox w2 kb key from below_held hb2 HK.out)
    have HE := Lib.hid (HE.out.trans hX)
    have hfa := find_at HSR.out hat
    have hrl := hat.le
    clear hX hb2 n0 n1 n2 hat
    have n0 := blk_cell_J HN.out 0 rfl
    have n1 := blk_cell_J HN.out 1 rfl
    have k0 : w2.cell? ⟨kb, 0, none⟩ = some (.string (strB key)) := HK.out
    have r0 : (0 : Int) ≤ (r : Int) := by omega
    have r63 : (r : Int) ≤ 1048576 := by have := HS.out.1; omega
    by_cases hr : r < n.items.length
    · rw [dif_pos hr] at hfa
      obtain ⟨b, o, hA, c0, -, -, -⟩ := Cls.cell (HC.out.mono (HE.out.le hI)) HE.out.inv hr
      obtain ⟨x, hx⟩ : ∃ x, x = n.items[r] := ⟨_, rfl⟩
      rw [← hx] at c0 hfa
      subst hA
      have hri : (r : Int) < n.items.length := by omega
      have hrb : decide ((r : Int) < n.items.length) = true := decide_eq_true hri
      have hrb2 : decide (r < n.items.length) = true := decide_eq_true hr
      have hkq : ((strB x.key).toList == (strB key).toList) = decide (x.key = key) := by rw [strB_toList, strB_toList]; by_cases h : x.key = key <;> simp [h]
      by_cases hke : x.key = key
      · rw [decide_eq_true hke] at hkq hfa
        cases hlf : n.leaf with
        | true =>
          have HF1 := Lib.hid (HF1.out.trans (show findI n key = r from by rw [hfa.2, hfa.1, hlf]; simp))
          have HF2 := Lib.hid (HF2.out.trans hfa.1)
          rw [hlf] at n0
          clear hfa hke hx hlf
          go_wp2_with fail
          go_big_quiet (fail)
          go_wp2_with fail
          go_ret2
          exact ⟨by rw [HF1.out, HF2.out]; rfl, HE.out.below.drewsS nq⟩
        | false =>
          have HF1 := Lib.hid (HF1.out.trans (show findI n key = r + 1 from by rw [hfa.2, hfa.1, hlf]; simp))
          have HF2 := Lib.hid (HF2.out.trans hfa.1)
          rw [hlf] at n0
          clear hfa hke hx hlf
          go_wp2_with fail
          go_big_quiet (fail)
          go_wp2_with fail
          go_ret2
          exact ⟨by rw [HF1.out, HF2.out]; rfl, HE.out.below.drewsS nq⟩
      · rw [decide_eq_false hke] at hkq hfa
        have HF1 := Lib.hid (HF1.out.trans (show findI n key = r from by rw [hfa.2, hfa.1]; simp))
        have HF2 := Lib.hid (HF2.out.trans hfa.1)
        clear hfa hke hx
        go_wp2_with fail
        go_big_quiet (fail)
        go_wp2_with fail
        go_ret2
        exact ⟨by rw [HF1.out, HF2.out]; rfl, HE.out.below.drewsS nq⟩
    · rw [dif_neg hr] at hfa
      have HF1 := Lib.hid (HF1.out.trans (show findI n key = r from by rw [hfa.2, hfa.1]; simp))
      have HF2 := Lib.hid (HF2.out.trans hfa.1)
      have hri : ¬ (r : Int) < n.items.length := by omega
      have hrb : decide ((r : Int) < n.items.length) = false := decide_eq_false hri
      have hrb2 : decide (r < n.items.length) = false := decide_eq_false hr
      clear hfa
      go_wp2_with fail
      go_big_quiet (fail)
      go_wp2_with fail
      go_ret2
      exact ⟨by rw [HF1.out, HF2.out]; rfl, HE.out.below.drewsS nq⟩
theorem filter_take {α : Type} {p : α → Bool} {l : List α} {k : Nat} (h : k < l.length) : ((l.take (k + 1)).filter p).length = ((l.take k).filter p).length + (if p l[k] = true then 1 else 0) := by
  rw [List.take_succ_eq_append_getElem h, List.filter_append, List.length_append]
  congr 1
  rw [List.filter_cons]
  split <;> simp
theorem any_take {α : Type} {p : α → Bool} {l : List α} {k : Nat} (h : k < l.length) : (l.take (k + 1)).any p = ((l.take k).any p || p l[k]) := by
  rw [List.take_succ_eq_append_getElem h, List.any_append]; simp
set_option maxRecDepth 100000 in
set_option maxHeartbeats 8000000 in
theorem refFind_calls {J : Jm} {w : World} (hI : Inv J w) {v : Value} {n : Nd} (hn : NdV J v n) (hs : NdS n) (key : List UInt8) :
    Calls Try.prog 27 #[v, .string (strB key)] w fun e w' => e = .returned (.tuple #[.int .i64 (findI n key : Nat), .bool (findB n key)]) ∧ Below w.heap.size w w' := by
  obtain ⟨Ai, ci, Ak, ck, rfl, hni, hmi, hnk, hmk⟩ := hn.form
  unfold maxLen at hmi hmk
  obtain ⟨vi, vk, he, hci, -⟩ := hn
  cases he
  have HC := Lib.hid hci
  have HS := Lib.hid hs.1
  obtain ⟨leaf, items, kids⟩ := n
  simp only at *
  clear hci hs
  go_enter Try.func27, Try.ntmps27
  go_upto_region 1 with fail
  have HE := Lib.hid ((Ext.refl hI).alloc (.cells #[.bool leaf, .slice Ai items.length ci, .slice Ak kids.length ck] 25))
  have HN : Hid (NBox (w.alloc (.cells #[.bool leaf, .slice Ai items.length ci, .slice Ak kids.length ck] 25)) w.heap.size leaf (.slice Ai items.length ci) (.slice Ak kids.length ck)) := heap_alloc_new w _
  generalize World.alloc w _ = W at *
  obtain ⟨nb, hnb⟩ : ∃ nb, nb = w.heap.size := ⟨_, rfl⟩
  rw [← hnb] at HN ⊢
  clear hnb
  have n0 := blk_cell_J HN.out 0 rfl
  have n1 := blk_cell_J HN.out 1 rfl
  go_wp2_with fail
  go_loopw [6, 7, 8] (fun cv bv iv wr => ∃ (k c : Nat) (q : Bool), k ≤ items.length ∧ iv = .int .i64 k ∧ cv = .int .i64 c ∧ bv = .bool q ∧ wr = W ∧ Hid (((items.take k).filter (hitF leaf key)).length = c) ∧ Hid ((items.take k).any (fun x => decide (x.key = key)) = q) ∧ c ≤ k) (fun cv bv iv _ => items.length - (intOf iv).toNat)
  case atStart => exact ⟨0, 0, false, Nat.zero_le _, rfl, rfl, rfl, rfl, rfl, rfl, Nat.le_refl _⟩
  case round =>
    obtain ⟨k, c, q, hk, rfl, rfl, rfl, rfl, HI1, HB1, hck⟩ := hrel
    have k0 : (0 : Int) ≤ (k : Int) := by omega
    have c0 : (0 : Int) ≤ (c : Int) := by omega
    have hs63 : (c : Int) ≤ 1048576 := by have := HS.out; omega
    have hk63 : (k : Int) ≤ 1048576 := by have := HS.out; omega
    by_cases hlt : k < items.length
    · have k1 : (k : Int) < items.length := by omega
      obtain ⟨b, o, rfl, x0, -, -, -⟩ := Cls.cell (HC.out.mono (HE.out.le hI)) HE.out.inv hlt
      have HFT := Lib.hid (filter_take (p := hitF leaf key) hlt)
      have HAT := Lib.hid (any_take (p := fun x : Cl => decide (x.key = key)) hlt)
      obtain ⟨x, hx⟩ : ∃ x, x = items[k] := ⟨_, rfl⟩
      rw [← hx] at x0 HFT HAT
      clear hx
      have hkq : ((strB x.key).toList == (strB key).toList) = decide (x.key = key) := by rw [strB_toList, strB_toList]; by_cases h : x.key = key <;> simp [h]
      have hlb := lt8_str x.key key
      cases hlx : lt8 x.key key with
      | true =>
        have hne : ¬ x.key = key := fun e => by rw [e] at hlx; exact lt8_irr key hlx
        have HHT : hitF leaf key x = true := by unfold hitF; rw [hlx]; rfl
        have HHK : decide (x.key = key) = false := decide_eq_false hne
        rw [hlx] at hlb
        rw [HHK] at hkq
        clear hlx
        have HI2 := Lib.hid (show ((items.take (k + 1)).filter (hitF leaf key)).length = (c+1) from by rw [HFT.out, HI1.out, HHT]; rfl)
        have HB2 := Lib.hid (show (items.take (k + 1)).any (fun x => decide (x.key = key)) = q from by rw [HAT.out, HB1.out, HHK]; simp)
        clear HHT HHK hne
        cases leaf
        all_goals
          cases q
          all_goals
            go_wp2_with fail
            go_roundw
            case rel => exact ⟨k + 1, (c+1), _, by omega, by go_num, by go_num, rfl, trivial, HI2, HB2, by omega⟩
            case measure => simp [intOf] <;> omega
      | false =>
        rw [hlx] at hlb
        by_cases hke : x.key = key
        · have HHK : decide (x.key = key) = true := decide_eq_true hke
          rw [HHK] at hkq
          have hne := hke
          cases leaf with
          | true =>
            have HHT : hitF true key x = false := by unfold hitF; rw [hlx]; rfl
            clear hlx hke
            have HI2 := Lib.hid (show ((items.take (k + 1)).filter (hitF true key)).length = c from by rw [HFT.out, HI1.out, HHT]; rfl)
            have HB2 := Lib.hid (show (items.take (k + 1)).any (fun x => decide (x.key = key)) = true from by rw [HAT.out, HB1.out, HHK]; simp)
            clear HHT HHK hne
            cases q
            all_goals
              go_wp2_with fail
              go_roundw
              case rel => exact ⟨k + 1, c, _, by omega, by go_num, by go_num, rfl, trivial, HI2, HB2, by omega⟩
              case measure => simp [intOf] <;> omega
          | false =>
            have HHT : hitF false key x = true := by unfold hitF; rw [hlx, HHK]; rfl
            clear hlx hke
            have HI2 := Lib.hid (show ((items.take (k + 1)).filter (hitF false key)).length = (c+1) from by rw [HFT.out, HI1.out, HHT]; rfl)
            have HB2 := Lib.hid (show (items.take (k + 1)).any (fun x => decide (x.key = key)) = true from by rw [HAT.out, HB1.out, HHK]; simp)
            clear HHT HHK hne
            cases q
            all_goals
              go_wp2_with fail
              go_roundw
              case rel => exact ⟨k + 1, (c+1), _, by omega, by go_num, by go_num, rfl, trivial, HI2, HB2, by omega⟩
              case measure => simp [intOf] <;> omega
        · have HHK : decide (x.key = key) = false := decide_eq_false hke
          have HHT : hitF leaf key x = false := by unfold hitF; rw [hlx, HHK]; simp
          rw [HHK] at hkq
          have hne := hke
          clear hlx hke
          have HI2 := Lib.hid (show ((items.take (k + 1)).filter (hitF leaf key)).length = c from by rw [HFT.out, HI1.out, HHT]; rfl)
          have HB2 := Lib.hid (show (items.take (k + 1)).any (fun x => decide (x.key = key)) = q from by rw [HAT.out, HB1.out, HHK]; simp)
          clear HHT HHK hne
          cases leaf
          all_goals
            cases q
            all_goals
              go_wp2_with fail
              go_roundw
              case rel => exact ⟨k + 1, c, _, by omega, by go_num, by go_num, rfl, trivial, HI2, HB2, by omega⟩
              case measure => simp [intOf] <;> omega
    · obtain rfl : k = items.length := by omega
      have k1 : ¬ (items.length : Int) < items.length := by omega
      have HQ1 := Lib.hid (show findI ⟨leaf, items, kids⟩ key = c from by have h := HI1.out; rw [List.take_of_length_le (Nat.le_refl _)] at h; exact h)
      have HQ2 := Lib.hid (show findB ⟨leaf, items, kids⟩ key = q from by have h := HB1.out; rw [List.take_of_length_le (Nat.le_refl _)] at h; exact h)
      go_wp2_with fail
      go_ret2
      exact ⟨by rw [HQ1.out, HQ2.out]; rfl, HE.out.below⟩
end Go.Proofs.Ytnnkgjaahmflmaa
