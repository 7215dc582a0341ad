/- The walks of Quote, Plain, Show: the code's and the document's. -/
import Derived.Test.YthfjeijhnikabaaLexQuo
namespace Go.Proofs.Ythfjeijhnikabaa
open Go.RowKit

theorem bareC (c : UInt8) (w : World) : Calls Try.prog 40 #[.int .u8 c.toNat] w fun e w' => e = .returned (.bool (bareB c)) ∧ w' = w := bare_calls c w
theorem strB_at0 {s : List UInt8} {k : Nat} {x : UInt8} (h : s[k]? = some x) : ∀ hh, (strB s)[k]'hh = x := strB_at h
theorem all_take {s : List UInt8} {k : Nat} {x : UInt8} (h : s[k]? = some x) : (s.take (k + 1)).all bareB = ((s.take k).all bareB && bareB x) := by
  obtain ⟨h1, h2⟩ := List.getElem?_eq_some_iff.1 h
  rw [List.take_succ_eq_append_getElem h1, List.all_append, h2]; simp
theorem all_false {s : List UInt8} {k : Nat} {x : UInt8} (h : s[k]? = some x) (hx : bareB x = false) : plainB s = false := by
  have : s.all bareB = false := by
    rw [List.all_eq_false]
    exact ⟨x, List.mem_of_getElem? h, by simp [hx]⟩
  simp [plainB, this]
set_option maxRecDepth 100000 in
set_option maxHeartbeats 4000000 in
theorem plainC (s : List UInt8) (w : World) (_hs : s.length ≤ 1048576) :
    Calls Try.prog 20 #[.string (strB s)] w fun e w' => e = .returned (.bool (plainB s)) ∧ w' = w := by
  have HSZ := strB_size s
  go_enter Try.func20, Try.ntmps20
  go_wp2_with fail
  go_loop [6] (fun i => ∃ k : Nat, k ≤ s.length ∧ i = .int .i64 k ∧ Hid ((s.take k).all bareB = true)) (fun i => s.length - (intOf i).toNat)
  case atStart => exact ⟨0, Nat.zero_le _, rfl, by rw [List.take_zero]; rfl⟩
  case round =>
    obtain ⟨k, hk, rfl, HA⟩ := hrel
    have i0 : (0 : Int) ≤ (k : Int) := by omega
    by_cases hlt : k < s.length
    · have i1 : (k : Int) < s.length := by omega
      obtain ⟨x, hx⟩ : ∃ x, s[k]? = some x := ⟨_, List.getElem?_eq_getElem (by omega)⟩
      have hx' := strB_at0 hx
      have HX := Lib.hid hx
      clear hx
      cases hb : bareB x with
      | true =>
        have HA2 : Hid ((s.take (k + 1)).all bareB = true) := by rw [Hid, all_take HX.out, HA.out, hb]; rfl
        go_wp2_with fail
        refine (bareC x _).mono ?_
        rw [hb]
        rintro e w2 ⟨rfl, rfl⟩
        go_wp2_with fail
        go_round
        case rel => exact ⟨k + 1, by omega, by go_num, HA2⟩
        case measure => simp [intOf] <;> omega
      | false =>
        have HP := Lib.hid (all_false HX.out hb)
        go_wp2_with fail
        refine (bareC x _).mono ?_
        rw [hb]
        rintro e w2 ⟨rfl, rfl⟩
        go_wp2_with fail
        go_ret
        rw [HP.out]
        exact ⟨rfl, rfl⟩
    · obtain rfl : k = s.length := by omega
      have hall := HA.out
      rw [List.take_of_length_le (Nat.le_refl _)] at hall
      by_cases hz : s = []
      · subst hz
        go_wp2_with fail
        go_ret
        refine ⟨?_, rfl⟩
        first | rfl | simp [strB_toList, plainB]
      · have HP : Hid (plainB s = true) := by rw [Hid]; simp [plainB, hall, hz]
        have hz1 : 0 < s.length := List.length_pos_iff.2 hz
        have hz2 : ¬ strB s = ByteArray.empty := fun e => hz (by have := congrArg (fun b => b.data.toList) e; simpa using this)
        have hz3 : ¬ strB s = (⟨#[]⟩ : ByteArray) := hz2
        go_wp2_with fail
        go_ret
        rw [HP.out]
        refine ⟨?_, rfl⟩
        first | rfl | simp [strB_toList, hz]
set_option maxRecDepth 100000 in
set_option maxHeartbeats 4000000 in
theorem refBareC (c : UInt8) (w : World) :
    Calls Try.prog 36 #[.int .u8 c.toNat] w fun e w' => e = .returned (.bool (bareB c)) ∧ w' = w := by
  have h256 := c.toNat_lt
  have hb : bareB c = (decide ((33 : Int) ≤ c.toNat) && (decide ((c.toNat : Int) ≤ 126) && (!decide ((c.toNat : Int) = 34) && (!decide ((c.toNat : Int) = 35) && (!decide ((c.toNat : Int) = 58) && (!decide ((c.toNat : Int) = 61) && !decide ((c.toNat : Int) = 92))))))) := by
    unfold bareB
    rw [Bool.eq_iff_iff]
    simp only [decide_eq_true_eq, Bool.and_eq_true, Bool.not_eq_true', decide_eq_false_iff_not]
    omega
  have h7 : c.toNat = 34 ∨ c.toNat = 35 ∨ c.toNat = 58 ∨ c.toNat = 61 ∨ c.toNat = 92 ∨ (¬ (c.toNat : Int) = 34 ∧ ¬ (c.toNat : Int) = 35 ∧ ¬ (c.toNat : Int) = 58 ∧ ¬ (c.toNat : Int) = 61 ∧ ¬ (c.toNat : Int) = 92) := by omega
  rw [hb]
  clear hb
  rcases h7 with h | h | h | h | h | ⟨h1, h2, h3, h4, h5⟩
  ·
    have hi : (c.toNat : Int) = (c.toNat : Nat) := rfl
    rw [h]
    clear hi
    go_enter Try.func36, Try.ntmps36
    go_wp2
    go_ret
    exact ⟨rfl, rfl⟩
  ·
    have hi : (c.toNat : Int) = (c.toNat : Nat) := rfl
    rw [h]
    clear hi
    go_enter Try.func36, Try.ntmps36
    go_wp2
    go_ret
    exact ⟨rfl, rfl⟩
  ·
    have hi : (c.toNat : Int) = (c.toNat : Nat) := rfl
    rw [h]
    clear hi
    go_enter Try.func36, Try.ntmps36
    go_wp2
    go_ret
    exact ⟨rfl, rfl⟩
  ·
    have hi : (c.toNat : Int) = (c.toNat : Nat) := rfl
    rw [h]
    clear hi
    go_enter Try.func36, Try.ntmps36
    go_wp2
    go_ret
    exact ⟨rfl, rfl⟩
  ·
    have hi : (c.toNat : Int) = (c.toNat : Nat) := rfl
    rw [h]
    clear hi
    go_enter Try.func36, Try.ntmps36
    go_wp2
    go_ret
    exact ⟨rfl, rfl⟩
  · by_cases h33 : (33 : Int) ≤ c.toNat
    · by_cases h126 : (c.toNat : Int) ≤ 126
      · go_enter Try.func36, Try.ntmps36
        go_wp2
        go_ret
        exact ⟨by simp [*] <;> omega, rfl⟩
      · go_enter Try.func36, Try.ntmps36
        go_wp2
        go_ret
        exact ⟨by simp [*] <;> omega, rfl⟩
    · go_enter Try.func36, Try.ntmps36
      go_wp2
      go_ret
      exact ⟨by simp [*] <;> omega, rfl⟩
set_option maxRecDepth 100000 in
set_option maxHeartbeats 4000000 in
theorem refPlainC (s : List UInt8) (w : World) (_hs : s.length ≤ 1048576) :
    Calls Try.prog 21 #[.string (strB s)] w fun e w' => e = .returned (.bool (plainB s)) ∧ w' = w := by
  have HSZ := strB_size s
  go_enter Try.func21, Try.ntmps21
  go_wp2_with fail
  go_loop [3] (fun i => ∃ k : Nat, k ≤ s.length ∧ i = .int .i64 k ∧ Hid ((s.take k).all bareB = true)) (fun i => s.length - (intOf i).toNat)
  case atStart => exact ⟨0, Nat.zero_le _, rfl, by rw [List.take_zero]; rfl⟩
  case round =>
    obtain ⟨k, hk, rfl, HA⟩ := hrel
    have i0 : (0 : Int) ≤ (k : Int) := by omega
    by_cases hlt : k < s.length
    · have i1 : (k : Int) < s.length := by omega
      obtain ⟨x, hx⟩ : ∃ x, s[k]? = some x := ⟨_, List.getElem?_eq_getElem (by omega)⟩
      have hx' := strB_at0 hx
      have HX := Lib.hid hx
      clear hx
      cases hb : bareB x with
      | true =>
        have HA2 : Hid ((s.take (k + 1)).all bareB = true) := by rw [Hid, all_take HX.out, HA.out, hb]; rfl
        go_wp2_with fail
        refine (refBareC x _).mono ?_
        rw [hb]
        rintro e w2 ⟨rfl, rfl⟩
        go_wp2_with fail
        go_round
        case rel => exact ⟨k + 1, by omega, by go_num, HA2⟩
        case measure => simp [intOf] <;> omega
      | false =>
        have HP := Lib.hid (all_false HX.out hb)
        go_wp2_with fail
        refine (refBareC x _).mono ?_
        rw [hb]
        rintro e w2 ⟨rfl, rfl⟩
        go_wp2_with fail
        go_ret
        rw [HP.out]
        exact ⟨rfl, rfl⟩
    · obtain rfl : k = s.length := by omega
      have hall := HA.out
      rw [List.take_of_length_le (Nat.le_refl _)] at hall
      by_cases hz : s = []
      · subst hz
        go_wp2_with fail
        go_ret
        refine ⟨?_, rfl⟩
        first | rfl | simp [strB_toList, plainB]
      · have HP : Hid (plainB s = true) := by rw [Hid]; simp [plainB, hall, hz]
        have hz1 : 0 < s.length := List.length_pos_iff.2 hz
        have hz2 : ¬ strB s = ByteArray.empty := fun e => hz (by have := congrArg (fun b => b.data.toList) e; simpa using this)
        have hz3 : ¬ strB s = (⟨#[]⟩ : ByteArray) := hz2
        go_wp2_with fail
        go_ret
        rw [HP.out]
        refine ⟨?_, rfl⟩
        first | rfl | simp [strB_toList, hz]
theorem flat_take {s : List UInt8} {k : Nat} {x : UInt8} (h : s[k]? = some x) : (34 :: (s.take (k + 1)).flatMap qb) = (34 :: (s.take k).flatMap qb) ++ qb x := by
  obtain ⟨h1, h2⟩ := List.getElem?_eq_some_iff.1 h
  rw [List.take_succ_eq_append_getElem h1, List.flatMap_append, h2]; simp
theorem flat_len (s : List UInt8) (k : Nat) : (34 :: (s.take k).flatMap qb).length ≤ 2 * s.length + 1 := by
  have : ∀ l : List UInt8, (l.flatMap qb).length ≤ 2 * l.length := by
    intro l
    induction l with
    | nil => simp
    | cons c r ih => have := (qb_len c).2; simp only [List.flatMap_cons, List.length_append, List.length_cons]; omega
  have h := this (s.take k)
  have h2 : (s.take k).length ≤ s.length := by simp; omega
  simp only [List.length_cons]; omega
theorem writeString_calls' {B b : Nat} {l : List UInt8} (s : List UInt8) (sb : ByteArray) (hsb : sb = strB s) {w : World} (h : IsB B b l w) (hlen : l.length + s.length ≤ 140737488355328) (hBw : B ≤ w.heap.size) :
    Calls Try.prog 38 #[.pointer (some ⟨b, 0, none⟩), .string sb] w fun e w' => e = .returned (.tuple #[.int .i64 s.length, .nilIface]) ∧ IsB B b (l ++ s) w' ∧ Below B w w' := by
  subst hsb; exact writeString_calls s h hlen hBw
set_option maxRecDepth 100000 in
set_option maxHeartbeats 4000000 in
theorem quoteC (s : List UInt8) (w : World) (hs : s.length ≤ 1048576) :
    Calls Try.prog 18 #[.string (strB s)] w fun e w' => e = .returned (.string (strB (quoteL s))) ∧ Below w.heap.size w w' := by
  have HSZ := strB_size s
  go_enter Try.func18, Try.ntmps18
  go_wp2_with fail
  have HW : Hid (Below w.heap.size w (w.alloc (.cells #[.pointer none, .slice none 0 0] TB))) := (Below.refl _ _).alloc (Nat.le_refl _) _
  refine (writeByte_calls' 34 rfl (IsB.new (w := w)) (by decide) HW.out.size).mono ?_
  rintro e w2 ⟨rfl, hB, hbel⟩
  have HB := Lib.hid hB
  have HW := Lib.hid (HW.out.trans hbel)
  clear hB hbel
  go_wp2_with fail
  go_loopw [9] (fun i wr => ∃ k : Nat, k ≤ s.length ∧ i = .int .i64 k ∧ Hid (Below w.heap.size w wr) ∧ Hid (IsB w.heap.size w.heap.size (34 :: (s.take k).flatMap qb) wr)) (fun i _ => s.length - (intOf i).toNat)
  case atStart => exact ⟨0, Nat.zero_le _, rfl, HW, by rw [List.take_zero]; exact HB⟩
  case round =>
    obtain ⟨k, hk, rfl, HW, HB⟩ := hrel
    have i0 : (0 : Int) ≤ (k : Int) := by omega
    have hfl := flat_len s k
    by_cases hlt : k < s.length
    · have i1 : (k : Int) < s.length := by omega
      obtain ⟨x, hx⟩ : ∃ x, s[k]? = some x := ⟨_, List.getElem?_eq_getElem (by omega)⟩
      have hx' := strB_at0 hx
      have HX := Lib.hid hx
      clear hx
      by_cases h10 : x = 10
      · subst h10
        have HQ : qb 10 = [92, 110] := rfl
        go_wp2_with fail
        refine (writeString_calls' [92,110] ⟨#[92,110]⟩ rfl HB.out (by simp at hfl ⊢; omega) HW.out.size).mono ?_
        rintro e w2 ⟨rfl, hB, hbel⟩
        have HB := Lib.hid hB
        have HW := Lib.hid (HW.out.trans hbel)
        clear hB hbel
        go_wp2_with fail
        go_roundw
        case rel => exact ⟨k + 1, by omega, by go_num, HW, by rw [flat_take HX.out, HQ]; exact HB⟩
        case measure => simp [intOf] <;> omega
      by_cases h9 : x = 9
      · subst h9
        have HQ : qb 9 = [92, 116] := rfl
        go_wp2_with fail
        refine (writeString_calls' [92,116] ⟨#[92,116]⟩ rfl HB.out (by simp at hfl ⊢; omega) HW.out.size).mono ?_
        rintro e w2 ⟨rfl, hB, hbel⟩
        have HB := Lib.hid hB
        have HW := Lib.hid (HW.out.trans hbel)
        clear hB hbel
        go_wp2_with fail
        go_roundw
        case rel => exact ⟨k + 1, by omega, by go_num, HW, by rw [flat_take HX.out, HQ]; exact HB⟩
        case measure => simp [intOf] <;> omega
      have j10 : ¬ (x.toNat : Int) = 10 := byte_ne h10
      have j9 : ¬ (x.toNat : Int) = 9 := byte_ne h9
      by_cases h34 : x = 34
      · subst h34
        have HQ : qb 34 = [92] ++ [34] := rfl
        go_wp2_with fail
        refine (writeByte_calls' 92 rfl HB.out (by simp at hfl ⊢; omega) HW.out.size).mono ?_
        rintro e w2 ⟨rfl, hB, hbel⟩
        have HB := Lib.hid hB
        have HW := Lib.hid (HW.out.trans hbel)
        clear hB hbel
        go_wp2_with fail
        refine (writeByte_calls' 34 rfl HB.out (by simp at hfl ⊢; omega) HW.out.size).mono ?_
        rintro e w2 ⟨rfl, hB, hbel⟩
        have HB := Lib.hid hB
        have HW := Lib.hid (HW.out.trans hbel)
        clear hB hbel
        go_wp2_with fail
        go_roundw
        case rel => exact ⟨k + 1, by omega, by go_num, HW, by rw [flat_take HX.out, HQ, ← List.append_assoc]; exact HB⟩
        case measure => simp [intOf] <;> omega
      by_cases h92 : x = 92
      · subst h92
        have HQ : qb 92 = [92] ++ [92] := rfl
        go_wp2_with fail
        refine (writeByte_calls' 92 rfl HB.out (by simp at hfl ⊢; omega) HW.out.size).mono ?_
        rintro e w2 ⟨rfl, hB, hbel⟩
        have HB := Lib.hid hB
        have HW := Lib.hid (HW.out.trans hbel)
        clear hB hbel
        go_wp2_with fail
        refine (writeByte_calls' 92 rfl HB.out (by simp at hfl ⊢; omega) HW.out.size).mono ?_
        rintro e w2 ⟨rfl, hB, hbel⟩
        have HB := Lib.hid hB
        have HW := Lib.hid (HW.out.trans hbel)
        clear hB hbel
        go_wp2_with fail
        go_roundw
        case rel => exact ⟨k + 1, by omega, by go_num, HW, by rw [flat_take HX.out, HQ, ← List.append_assoc]; exact HB⟩
        case measure => simp [intOf] <;> omega
      have j34 : ¬ (x.toNat : Int) = 34 := byte_ne h34
      have j92 : ¬ (x.toNat : Int) = 92 := byte_ne h92
      have HQ : qb x = [x] := by unfold qb; rw [if_neg h10, if_neg h9, if_neg (fun e => e.elim h34 h92)]
      go_wp2_with fail
      refine (writeByte_calls' x rfl HB.out (by simp at hfl ⊢; omega) HW.out.size).mono ?_
      rintro e w2 ⟨rfl, hB, hbel⟩
      have HB := Lib.hid hB
      have HW := Lib.hid (HW.out.trans hbel)
      clear hB hbel
      go_wp2_with fail
      go_roundw
      case rel => exact ⟨k + 1, by omega, by go_num, HW, by rw [flat_take HX.out, HQ]; exact HB⟩
      case measure => simp [intOf] <;> omega
    · obtain rfl : k = s.length := by omega
      have hbs := HB.out
      rw [List.take_of_length_le (Nat.le_refl _)] at hbs hfl
      have HB := Lib.hid hbs
      clear hbs
      go_wp2_with fail
      refine (writeByte_calls' 34 rfl HB.out (by simp at hfl ⊢; omega) HW.out.size).mono ?_
      rintro e w2 ⟨rfl, hB, hbel⟩
      have HB := Lib.hid hB
      have HW := Lib.hid (HW.out.trans hbel)
      clear hB hbel
      go_wp2_with fail
      refine (builderString_calls HB.out HW.out.size).mono ?_
      rintro e w2 ⟨rfl, hbel⟩
      go_wp2_with fail
      go_ret
      exact ⟨rfl, HW.out.trans hbel⟩
set_option maxRecDepth 100000 in
set_option maxHeartbeats 4000000 in
theorem show_calls (s : List UInt8) (w : World) (hs : s.length ≤ 1048576) :
    Calls Try.prog 19 #[.string (strB s)] w fun e w' => e = .returned (.string (strB (showL s))) ∧ Below w.heap.size w w' := by
  go_enter Try.func19, Try.ntmps19
  cases hp : plainB s with
  | true =>
    have HP : Hid (showL s = s) := by rw [Hid, showL, hp]; rfl
    go_wp2_with fail
    refine (plainC s w hs).mono ?_
    rw [hp]
    rintro e w1 ⟨rfl, rfl⟩
    go_wp2_with fail
    go_ret
    rw [HP.out]
    exact ⟨rfl, Below.refl _ _⟩
  | false =>
    have HP : Hid (showL s = quoteL s) := by rw [Hid, showL, hp]; rfl
    go_wp2_with fail
    refine (plainC s w hs).mono ?_
    rw [hp]
    rintro e w1 ⟨rfl, rfl⟩
    go_wp2_with fail
    refine (quoteC s w1 hs).mono ?_
    rintro e w2 ⟨rfl, hB⟩
    go_wp2_with fail
    go_ret
    rw [HP.out]
    exact ⟨rfl, hB⟩
end Go.Proofs.Ythfjeijhnikabaa
