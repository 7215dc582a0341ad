/- The walks of lex's bare and quoted. -/
import Derived.Test.YthfjeijhnikabaaLexR
import Derived.Test.YthfjeijhnikabaaLexBld
import Derived.WalkLawsBesides
import Derived.Defers
namespace Go.Proofs.Ythfjeijhnikabaa
open Go.RowKit

def bareB (c : UInt8) : Bool := decide (32 < c.toNat ∧ c.toNat < 127 ∧ c.toNat ≠ 34 ∧ c.toNat ≠ 35 ∧ c.toNat ≠ 58 ∧ c.toNat ≠ 61 ∧ c.toNat ≠ 92)
set_option maxRecDepth 4000 in
theorem bareB_true {c : UInt8} (h : 32 < c.toNat ∧ c.toNat < 127 ∧ c.toNat ≠ 34 ∧ c.toNat ≠ 35 ∧ c.toNat ≠ 58 ∧ c.toNat ≠ 61 ∧ c.toNat ≠ 92) : bareB c = true := decide_eq_true h
theorem bareB_false {c : UInt8} (h : ¬ (32 < c.toNat ∧ c.toNat < 127 ∧ c.toNat ≠ 34 ∧ c.toNat ≠ 35 ∧ c.toNat ≠ 58 ∧ c.toNat ≠ 61 ∧ c.toNat ≠ 92)) : bareB c = false := decide_eq_false h
set_option maxRecDepth 100000 in
set_option maxHeartbeats 2000000 in
theorem bare_calls (c : UInt8) (w : World) :
    Calls Try.prog 40 #[.int .u8 c.toNat] w fun e w' => e = .returned (.bool (bareB c)) ∧ w' = w := by
  have h256 := c.toNat_lt
  by_cases h34 : c.toNat = 34
  · rw [bareB_false (by omega)]
    go_enter Try.func40, Try.ntmps40
    go_wp2
    go_ret
    exact ⟨rfl, rfl⟩
  by_cases h35 : c.toNat = 35
  · rw [bareB_false (by omega)]
    go_enter Try.func40, Try.ntmps40
    go_wp2
    go_ret
    exact ⟨rfl, rfl⟩
  by_cases h58 : c.toNat = 58
  · rw [bareB_false (by omega)]
    go_enter Try.func40, Try.ntmps40
    go_wp2
    go_ret
    exact ⟨rfl, rfl⟩
  by_cases h61 : c.toNat = 61
  · rw [bareB_false (by omega)]
    go_enter Try.func40, Try.ntmps40
    go_wp2
    go_ret
    exact ⟨rfl, rfl⟩
  by_cases h92 : c.toNat = 92
  · rw [bareB_false (by omega)]
    go_enter Try.func40, Try.ntmps40
    go_wp2
    go_ret
    exact ⟨rfl, rfl⟩
  have i34 : ¬ (c.toNat : Int) = 34 := by omega
  have i35 : ¬ (c.toNat : Int) = 35 := by omega
  have i58 : ¬ (c.toNat : Int) = 58 := by omega
  have i61 : ¬ (c.toNat : Int) = 61 := by omega
  have i92 : ¬ (c.toNat : Int) = 92 := by omega
  by_cases h32 : 32 < c.toNat
  · by_cases h127 : c.toNat < 127
    · rw [bareB_true ⟨h32, h127, h34, h35, h58, h61, h92⟩]
      clear h34 h35 h58 h61 h92
      have i127 : (c.toNat : Int) < 127 := by omega
      go_enter Try.func40, Try.ntmps40
      go_wp2
      go_ret
      exact ⟨rfl, rfl⟩
    · rw [bareB_false (fun h => h127 h.2.1)]
      have i127 : ¬ (c.toNat : Int) < 127 := by omega
      go_enter Try.func40, Try.ntmps40
      go_wp2
      go_ret
      exact ⟨rfl, rfl⟩
  · rw [bareB_false (fun h => h32 h.1)]
    go_enter Try.func40, Try.ntmps40
    go_wp2
    go_ret
    exact ⟨rfl, rfl⟩
/-- what an escaped byte stands for -/
def esc (c : UInt8) : Option UInt8 := if c = 34 then some 34 else if c = 92 then some 92 else if c = 110 then some 10 else if c = 116 then some 9 else none
/-- a quoted word behind its first quote -/
def qt (frm : Nat) : List Tok → List UInt8 → Except Nat (List UInt8 × List Tok)
  | [], _ => .error frm
  | t :: r, acc =>
    if t.n = 1 ∧ t.c = 10 then .error frm
    else if t.n = 1 ∧ t.c = 34 then .ok (acc, r)
    else if t.n = 1 ∧ t.c = 92 then
      match r with
      | [] => .error t.pos
      | d :: r' => if d.n = 1 then (match esc d.c with | some e => qt frm r' (acc ++ [e]) | none => .error t.pos) else .error t.pos
    else qt frm r (acc ++ [t.c])
theorem qt_cons (frm : Nat) (t : Tok) (r : List Tok) (acc : List UInt8) : qt frm (t :: r) acc =
    if t.n = 1 ∧ t.c = 10 then .error frm
    else if t.n = 1 ∧ t.c = 34 then .ok (acc, r)
    else if t.n = 1 ∧ t.c = 92 then
      match r with
      | [] => .error t.pos
      | d :: r' => if d.n = 1 then (match esc d.c with | some e => qt frm r' (acc ++ [e]) | none => .error t.pos) else .error t.pos
    else qt frm r (acc ++ [t.c]) := by
  conv => lhs; rw [qt.eq_def]
theorem qt_nil (frm : Nat) (acc : List UInt8) : qt frm [] acc = .error frm := by rw [qt.eq_def]
/-- the value that is thrown -/
def faultV (x : Nat) : Value := .iface 51 (.agg #[.int .i64 (x : Int)])
theorem IsB.drewN {B b : Nat} {l : List UInt8} {w : World} (h : IsB B b l w) (n : Nat) : IsB B b l (w.drewN n) := h
theorem Mv.belowB {S : Nat → Prop} {J : Jm} {w w1 w2 : World} (h : Mv S J w J w1) (hI : Inv J w) (hb : Below w.heap.size w1 w2) : Mv S J w J w2 :=
  ⟨hb.os.trans h.os, hb.tape.trans h.tape, hb.output.trans h.output, Nat.le_trans h.size hb.size, fun k hk hn => (hb.block k hk).trans (h.block k hk hn), h.inv.belowB hb (fun _ hb => hI.nil hb), fun _ _ => rfl⟩
theorem Rd.belowB {J : Jm} {w w' : World} {g k B : Nat} {s : List UInt8} (h : Rd J w g s k) (hb : Below B w w') (hg : g < B) : Rd J w' g s k := ⟨(hb.block g hg).trans h.1, h.2⟩
theorem writeByte_calls' {B b : Nat} {l : List UInt8} (c : UInt8) {x : Int} (hx : x = c.toNat) {w : World} (h : IsB B b l w) (hlen : l.length + 1 ≤ 140737488355328) (hBw : B ≤ w.heap.size) :
    Calls Try.prog 37 #[.pointer (some ⟨b, 0, none⟩), .int .u8 x] w fun e w' => e = .returned .nilIface ∧ IsB B b (l ++ [c]) w' ∧ Below B w w' := by
  subst hx; exact writeByte_calls c h hlen hBw
theorem pk_cases (l : List UInt8) (h : l ≠ []) : (∃ c, pk l = (c, 1)) ∨ pk l = (32, 2) := by
  match l, h with
  | [c], _ => exact .inl ⟨c, rfl⟩
  | c :: d :: r, _ =>
    unfold pk
    by_cases hc : c = 92 ∧ d = 10
    · simp only [if_pos hc]; exact .inr trivial
    · simp only [if_neg hc]; exact .inl ⟨c, rfl⟩
theorem toks_at {s : List UInt8} {q : Nat} (h : q < s.length) {c : UInt8} {n : Nat} (hpk : pk (s.drop q) = (c, n)) : toks (s.drop q) q = ⟨c, n, q⟩ :: toks (s.drop (q + n)) (q + n) := by
  rw [toks_step (by intro e; have := congrArg List.length e; simp at this; omega), hpk, List.drop_drop]
theorem pk_le {s : List UInt8} {q : Nat} (h : q < s.length) {c : UInt8} {n : Nat} (hpk : pk (s.drop q) = (c, n)) : 1 ≤ n ∧ q + n ≤ s.length := by
  have h1 := pk_pos (l := s.drop q) (by intro e; have := congrArg List.length e; simp at this; omega)
  rw [hpk, List.length_drop] at h1
  dsimp only at h1
  omega
theorem byte_ne {c d : UInt8} (h : ¬ c = d) : ¬ (c.toNat : Int) = (d.toNat : Int) := fun e => h (by rw [← UInt8.toNat_inj]; omega)
theorem idx_calls (d : UInt8) (i : Int) (w : World) (h : Lib.indexByte [34, 92, 110, 116] d = i) :
    Calls Try.prog 53 #[.string ⟨#[34, 92, 110, 116]⟩, .int .u8 (d.toNat : Int)] w fun e w' => e = .returned (.int .i64 i) ∧ w' = w := by
  refine (strings_IndexByte ⟨#[34, 92, 110, 116]⟩ (d.toNat : Int) w).mono ?_
  rintro e w' ⟨rfl, rfl⟩
  refine ⟨?_, rfl⟩
  have e1 : ((d.toNat : Int).toNat).toUInt8 = d := by simp
  rw [e1]
  show Ending.returned (.int .i64 (Lib.indexByte [34, 92, 110, 116] d)) = _
  rw [h]
def QP (J : Jm) (w' : World) (g : Nat) (s : List UInt8) (k : Nat) (r : Except Nat (List UInt8 × List Tok)) (e : Ending) : Prop :=
  match r with
  | .error x => e = .panicked [{ v := faultV x, recovered := false }]
  | .ok (t, rest) => e = .returned (.string (strB t)) ∧ ∃ k', rest = toks (s.drop k') k' ∧ k ≤ k' ∧ Rd J w' g s k'
set_option maxRecDepth 100000 in
set_option maxHeartbeats 4000000 in
theorem quoted_calls {J : Jm} {w : World} (hI : Inv J w) {g : Nat} {s : List UInt8} {k : Nat} (hc : Rd J w g s k) (frm : Nat) :
    Calls Try.prog 46 #[.pointer (some ⟨g, 0, none⟩), .int .i64 (frm : Int)] w fun e w' => QP J w' g s k (qt frm (toks (s.drop k) k) []) e ∧ Mv (· = g) J w J w' := by
  have hg := hc.lt
  go_enter Try.func46, Try.ntmps46
  go_wp2_with fail
  go_loopw [] (fun wr => ∃ (q : Nat) (acc : List UInt8), k ≤ q ∧ acc.length ≤ q ∧ Hid (qt frm (toks (s.drop q) q) acc = qt frm (toks (s.drop k) k) []) ∧ Hid (Mv (· = g) J w J wr) ∧ Hid (Rd J wr g s q) ∧ Hid (IsB w.heap.size w.heap.size acc wr)) (fun wr => s.length - (intOf ((wr.cell? ⟨g, 1, none⟩).getD undef)).toNat)
  case atStart => exact ⟨k, [], Nat.le_refl _, Nat.zero_le _, rfl, (Mv.refl _ hI).alloc _, hc.ext ((Ext.refl hI).alloc _), IsB.new⟩
  case round =>
    obtain ⟨q, acc, hkq, hacc, HQ, HM, HC, HB⟩ := hrel
    have hc0 := HC.out.c1
    have hm := HC.out.2.2.2
    have hqs := HC.out.2.2.1
    by_cases he : q = s.length
    · have hpk : pk (s.drop q) = (0, 0) := by rw [List.drop_of_length_le (by omega)]; rfl
      have HN : Hid (qt frm (toks (s.drop k) k) [] = .error frm) := by rw [Hid, ← HQ.out, List.drop_of_length_le (by omega)]; exact qt_nil _ _
      go_wp2_with fail
      refine (peek_calls HC.out).mono ?_
      rw [hpk]
      rintro e w1 ⟨rfl, m, hw⟩
      have HM := Lib.hid (HM.out.drewN m)
      have HB := Lib.hid (HB.out.drewN m)
      have HC := Lib.hid (HC.out.drewN m)
      rw [← hw] at HM HC HB
      clear hw
      go_wp2_with fail
      exact ⟨rfl, by rw [HN.out]; rfl, HM.out⟩
    · have hlt : q < s.length := by omega
      rcases pk_cases (s.drop q) (by intro e; have := congrArg List.length e; simp at this; omega) with ⟨c, hpk⟩ | hpk
      · have hT := toks_at hlt hpk
        have hn := pk_le hlt hpk
        by_cases h10 : c = 10
        · subst h10
          have HN : Hid (qt frm (toks (s.drop k) k) [] = .error frm) := by rw [Hid, ← HQ.out, hT, qt_cons, if_pos ⟨rfl, rfl⟩]
          go_wp2_with fail
          refine (peek_calls HC.out).mono ?_
          rw [hpk]
          rintro e w1 ⟨rfl, m, hw⟩
          have HM := Lib.hid (HM.out.drewN m)
          have HB := Lib.hid (HB.out.drewN m)
          have HC := Lib.hid (HC.out.drewN m)
          rw [← hw] at HM HC HB
          clear hw
          go_wp2_with fail
          exact ⟨rfl, by rw [HN.out]; rfl, HM.out⟩
        by_cases h34 : c = 34
        · subst h34
          have HN : Hid (qt frm (toks (s.drop k) k) [] = .ok (acc, toks (s.drop (q + 1)) (q + 1))) := by rw [Hid, ← HQ.out, hT, qt_cons, if_neg (by simp), if_pos ⟨rfl, rfl⟩]
          go_wp2_with fail
          refine (peek_calls HC.out).mono ?_
          rw [hpk]
          rintro e w1 ⟨rfl, m, hw⟩
          have HM := Lib.hid (HM.out.drewN m)
          have HB := Lib.hid (HB.out.drewN m)
          have HC := Lib.hid (HC.out.drewN m)
          rw [← hw] at HM HC HB
          clear hw
          have c1 := HC.out.c1
          go_wp2_with fail
          refine (next_calls HM.out.inv HC.out).mono ?_
          rw [hpk]
          rintro e w1 ⟨rfl, hM, hC⟩
          have HB := Lib.hid (HB.out.moved hM hg)
          have HM := Lib.hid (HM.out.then hM)
          have HC := Lib.hid hC
          clear hM hC
          go_wp2_with fail
          refine (builderString_calls HB.out HM.out.size).mono ?_
          rintro e w2 ⟨rfl, hbel⟩
          go_wp2_with fail
          go_ret
          exact ⟨by rw [HN.out]; exact ⟨rfl, q + 1, rfl, by omega, HC.out.belowB hbel hg⟩, HM.out.belowB hI hbel⟩
        by_cases h92 : c = 92
        · subst h92
          by_cases he1 : q + 1 = s.length
          · have hpk1 : pk (s.drop (q + 1)) = (0, 0) := by rw [List.drop_of_length_le (by omega)]; rfl
            have HN : Hid (qt frm (toks (s.drop k) k) [] = .error q) := by rw [Hid, ← HQ.out, hT, qt_cons, if_neg (by simp), if_neg (by simp), if_pos ⟨rfl, rfl⟩, List.drop_of_length_le (by omega)]; rfl
            go_wp2_with fail
            refine (peek_calls HC.out).mono ?_
            rw [hpk]
            rintro e w1 ⟨rfl, m, hw⟩
            have HM := Lib.hid (HM.out.drewN m)
            have HB := Lib.hid (HB.out.drewN m)
            have HC := Lib.hid (HC.out.drewN m)
            rw [← hw] at HM HC HB
            clear hw
            have c1 := HC.out.c1
            go_wp2_with fail
            refine (next_calls HM.out.inv HC.out).mono ?_
            rw [hpk]
            rintro e w1 ⟨rfl, hM, hC⟩
            have HB := Lib.hid (HB.out.moved hM hg)
            have HM := Lib.hid (HM.out.then hM)
            have HC := Lib.hid hC
            clear hM hC
            go_wp2_with fail
            refine (peek_calls HC.out).mono ?_
            rw [hpk1]
            rintro e w1 ⟨rfl, m, hw⟩
            have HM := Lib.hid (HM.out.drewN m)
            have HB := Lib.hid (HB.out.drewN m)
            have HC := Lib.hid (HC.out.drewN m)
            rw [← hw] at HM HC HB
            clear hw
            go_wp2_with fail
            refine (idx_calls 0 (-1) _ (by decide)).mono ?_
            rintro e w1' ⟨rfl, rfl⟩
            go_wp2_with fail
            exact ⟨rfl, by rw [HN.out]; rfl, HM.out⟩
          have hlt1 : q + 1 < s.length := by omega
          rcases pk_cases (s.drop (q + 1)) (by intro e; have := congrArg List.length e; simp at this; omega) with ⟨d, hpk1⟩ | hpk1
          · have hT1 := toks_at hlt1 hpk1
            by_cases n34 : d = 34
            · subst n34
              have HN : Hid (qt frm (toks (s.drop (q + 1 + 1)) (q + 1 + 1)) (acc ++ [34]) = qt frm (toks (s.drop k) k) []) := by rw [Hid, ← HQ.out, hT, qt_cons, if_neg (by simp), if_neg (by simp), if_pos ⟨rfl, rfl⟩, hT1]; simp [esc]
              have hn1 := pk_le hlt1 hpk1
              go_wp2_with fail
              refine (peek_calls HC.out).mono ?_
              rw [hpk]
              rintro e w1 ⟨rfl, m, hw⟩
              have HM := Lib.hid (HM.out.drewN m)
              have HB := Lib.hid (HB.out.drewN m)
              have HC := Lib.hid (HC.out.drewN m)
              rw [← hw] at HM HC HB
              clear hw
              have c1 := HC.out.c1
              go_wp2_with fail
              refine (next_calls HM.out.inv HC.out).mono ?_
              rw [hpk]
              rintro e w1 ⟨rfl, hM, hC⟩
              have HB := Lib.hid (HB.out.moved hM hg)
              have HM := Lib.hid (HM.out.then hM)
              have HC := Lib.hid hC
              clear hM hC
              go_wp2_with fail
              refine (peek_calls HC.out).mono ?_
              rw [hpk1]
              rintro e w1 ⟨rfl, m, hw⟩
              have HM := Lib.hid (HM.out.drewN m)
              have HB := Lib.hid (HB.out.drewN m)
              have HC := Lib.hid (HC.out.drewN m)
              rw [← hw] at HM HC HB
              clear hw
              go_wp2_with fail
              refine (idx_calls 34 0 _ (by decide)).mono ?_
              rintro e w1' ⟨rfl, rfl⟩
              go_wp2_with fail
              refine (writeByte_calls' 34 rfl HB.out (by omega) HM.out.size).mono ?_
              rintro e w1 ⟨rfl, hB, hbel⟩
              have HM := Lib.hid (HM.out.belowB hI hbel)
              have HC := Lib.hid (HC.out.belowB hbel hg)
              have HB := Lib.hid hB
              clear hbel hB
              go_wp2_with fail
              refine (next_calls HM.out.inv HC.out).mono ?_
              rw [hpk1]
              rintro e w1 ⟨rfl, hM, hC⟩
              have HB := Lib.hid (HB.out.moved hM hg)
              have HM := Lib.hid (HM.out.then hM)
              have HC := Lib.hid hC
              clear hM hC
              go_wp2_with fail
              go_roundw
              case rel => exact ⟨(q + 1 + 1), acc ++ [34], by omega, by simp; omega, HN, HM, HC, HB⟩
              case measure =>
                have e1 := HC.out.c1
                have e2 := hc0
                simp [e1, e2, intOf]
                omega
            by_cases n92 : d = 92
            · subst n92
              have HN : Hid (qt frm (toks (s.drop (q + 1 + 1)) (q + 1 + 1)) (acc ++ [92]) = qt frm (toks (s.drop k) k) []) := by rw [Hid, ← HQ.out, hT, qt_cons, if_neg (by simp), if_neg (by simp), if_pos ⟨rfl, rfl⟩, hT1]; simp [esc]
              have hn1 := pk_le hlt1 hpk1
              go_wp2_with fail
              refine (peek_calls HC.out).mono ?_
              rw [hpk]
              rintro e w1 ⟨rfl, m, hw⟩
              have HM := Lib.hid (HM.out.drewN m)
              have HB := Lib.hid (HB.out.drewN m)
              have HC := Lib.hid (HC.out.drewN m)
              rw [← hw] at HM HC HB
              clear hw
              have c1 := HC.out.c1
              go_wp2_with fail
              refine (next_calls HM.out.inv HC.out).mono ?_
              rw [hpk]
              rintro e w1 ⟨rfl, hM, hC⟩
              have HB := Lib.hid (HB.out.moved hM hg)
              have HM := Lib.hid (HM.out.then hM)
              have HC := Lib.hid hC
              clear hM hC
              go_wp2_with fail
              refine (peek_calls HC.out).mono ?_
              rw [hpk1]
              rintro e w1 ⟨rfl, m, hw⟩
              have HM := Lib.hid (HM.out.drewN m)
              have HB := Lib.hid (HB.out.drewN m)
              have HC := Lib.hid (HC.out.drewN m)
              rw [← hw] at HM HC HB
              clear hw
              go_wp2_with fail
              refine (idx_calls 92 1 _ (by decide)).mono ?_
              rintro e w1' ⟨rfl, rfl⟩
              go_wp2_with fail
              refine (writeByte_calls' 92 rfl HB.out (by omega) HM.out.size).mono ?_
              rintro e w1 ⟨rfl, hB, hbel⟩
              have HM := Lib.hid (HM.out.belowB hI hbel)
              have HC := Lib.hid (HC.out.belowB hbel hg)
              have HB := Lib.hid hB
              clear hbel hB
              go_wp2_with fail
              refine (next_calls HM.out.inv HC.out).mono ?_
              rw [hpk1]
              rintro e w1 ⟨rfl, hM, hC⟩
              have HB := Lib.hid (HB.out.moved hM hg)
              have HM := Lib.hid (HM.out.then hM)
              have HC := Lib.hid hC
              clear hM hC
              go_wp2_with fail
              go_roundw
              case rel => exact ⟨(q + 1 + 1), acc ++ [92], by omega, by simp; omega, HN, HM, HC, HB⟩
              case measure =>
                have e1 := HC.out.c1
                have e2 := hc0
                simp [e1, e2, intOf]
                omega
            by_cases n110 : d = 110
            · subst n110
              have HN : Hid (qt frm (toks (s.drop (q + 1 + 1)) (q + 1 + 1)) (acc ++ [10]) = qt frm (toks (s.drop k) k) []) := by rw [Hid, ← HQ.out, hT, qt_cons, if_neg (by simp), if_neg (by simp), if_pos ⟨rfl, rfl⟩, hT1]; simp [esc]
              have hn1 := pk_le hlt1 hpk1
              go_wp2_with fail
              refine (peek_calls HC.out).mono ?_
              rw [hpk]
              rintro e w1 ⟨rfl, m, hw⟩
              have HM := Lib.hid (HM.out.drewN m)
              have HB := Lib.hid (HB.out.drewN m)
              have HC := Lib.hid (HC.out.drewN m)
              rw [← hw] at HM HC HB
              clear hw
              have c1 := HC.out.c1
              go_wp2_with fail
              refine (next_calls HM.out.inv HC.out).mono ?_
              rw [hpk]
              rintro e w1 ⟨rfl, hM, hC⟩
              have HB := Lib.hid (HB.out.moved hM hg)
              have HM := Lib.hid (HM.out.then hM)
              have HC := Lib.hid hC
              clear hM hC
              go_wp2_with fail
              refine (peek_calls HC.out).mono ?_
              rw [hpk1]
              rintro e w1 ⟨rfl, m, hw⟩
              have HM := Lib.hid (HM.out.drewN m)
              have HB := Lib.hid (HB.out.drewN m)
              have HC := Lib.hid (HC.out.drewN m)
              rw [← hw] at HM HC HB
              clear hw
              go_wp2_with fail
              refine (idx_calls 110 2 _ (by decide)).mono ?_
              rintro e w1' ⟨rfl, rfl⟩
              go_wp2_with fail
              refine (writeByte_calls' 10 rfl HB.out (by omega) HM.out.size).mono ?_
              rintro e w1 ⟨rfl, hB, hbel⟩
              have HM := Lib.hid (HM.out.belowB hI hbel)
              have HC := Lib.hid (HC.out.belowB hbel hg)
              have HB := Lib.hid hB
              clear hbel hB
              go_wp2_with fail
              refine (next_calls HM.out.inv HC.out).mono ?_
              rw [hpk1]
              rintro e w1 ⟨rfl, hM, hC⟩
              have HB := Lib.hid (HB.out.moved hM hg)
              have HM := Lib.hid (HM.out.then hM)
              have HC := Lib.hid hC
              clear hM hC
              go_wp2_with fail
              go_roundw
              case rel => exact ⟨(q + 1 + 1), acc ++ [10], by omega, by simp; omega, HN, HM, HC, HB⟩
              case measure =>
                have e1 := HC.out.c1
                have e2 := hc0
                simp [e1, e2, intOf]
                omega
            by_cases n116 : d = 116
            · subst n116
              have HN : Hid (qt frm (toks (s.drop (q + 1 + 1)) (q + 1 + 1)) (acc ++ [9]) = qt frm (toks (s.drop k) k) []) := by rw [Hid, ← HQ.out, hT, qt_cons, if_neg (by simp), if_neg (by simp), if_pos ⟨rfl, rfl⟩, hT1]; simp [esc]
              have hn1 := pk_le hlt1 hpk1
              go_wp2_with fail
              refine (peek_calls HC.out).mono ?_
              rw [hpk]
              rintro e w1 ⟨rfl, m, hw⟩
              have HM := Lib.hid (HM.out.drewN m)
              have HB := Lib.hid (HB.out.drewN m)
              have HC := Lib.hid (HC.out.drewN m)
              rw [← hw] at HM HC HB
              clear hw
              have c1 := HC.out.c1
              go_wp2_with fail
              refine (next_calls HM.out.inv HC.out).mono ?_
              rw [hpk]
              rintro e w1 ⟨rfl, hM, hC⟩
              have HB := Lib.hid (HB.out.moved hM hg)
              have HM := Lib.hid (HM.out.then hM)
              have HC := Lib.hid hC
              clear hM hC
              go_wp2_with fail
              refine (peek_calls HC.out).mono ?_
              rw [hpk1]
              rintro e w1 ⟨rfl, m, hw⟩
              have HM := Lib.hid (HM.out.drewN m)
              have HB := Lib.hid (HB.out.drewN m)
              have HC := Lib.hid (HC.out.drewN m)
              rw [← hw] at HM HC HB
              clear hw
              go_wp2_with fail
              refine (idx_calls 116 3 _ (by decide)).mono ?_
              rintro e w1' ⟨rfl, rfl⟩
              go_wp2_with fail
              refine (writeByte_calls' 9 rfl HB.out (by omega) HM.out.size).mono ?_
              rintro e w1 ⟨rfl, hB, hbel⟩
              have HM := Lib.hid (HM.out.belowB hI hbel)
              have HC := Lib.hid (HC.out.belowB hbel hg)
              have HB := Lib.hid hB
              clear hbel hB
              go_wp2_with fail
              refine (next_calls HM.out.inv HC.out).mono ?_
              rw [hpk1]
              rintro e w1 ⟨rfl, hM, hC⟩
              have HB := Lib.hid (HB.out.moved hM hg)
              have HM := Lib.hid (HM.out.then hM)
              have HC := Lib.hid hC
              clear hM hC
              go_wp2_with fail
              go_roundw
              case rel => exact ⟨(q + 1 + 1), acc ++ [9], by omega, by simp; omega, HN, HM, HC, HB⟩
              case measure =>
                have e1 := HC.out.c1
                have e2 := hc0
                simp [e1, e2, intOf]
                omega
            have HN : Hid (qt frm (toks (s.drop k) k) [] = .error q) := by rw [Hid, ← HQ.out, hT, qt_cons, if_neg (by simp), if_neg (by simp), if_pos ⟨rfl, rfl⟩, hT1]; simp [esc, n34, n92, n110, n116]
            have hidx : Lib.indexByte [34, 92, 110, 116] d = -1 := by simp [Lib.indexByte, Ne.symm n34, Ne.symm n92, Ne.symm n110, Ne.symm n116]
            go_wp2_with fail
            refine (peek_calls HC.out).mono ?_
            rw [hpk]
            rintro e w1 ⟨rfl, m, hw⟩
            have HM := Lib.hid (HM.out.drewN m)
            have HB := Lib.hid (HB.out.drewN m)
            have HC := Lib.hid (HC.out.drewN m)
            rw [← hw] at HM HC HB
            clear hw
            have c1 := HC.out.c1
            go_wp2_with fail
            refine (next_calls HM.out.inv HC.out).mono ?_
            rw [hpk]
            rintro e w1 ⟨rfl, hM, hC⟩
            have HB := Lib.hid (HB.out.moved hM hg)
            have HM := Lib.hid (HM.out.then hM)
            have HC := Lib.hid hC
            clear hM hC
            go_wp2_with fail
            refine (peek_calls HC.out).mono ?_
            rw [hpk1]
            rintro e w1 ⟨rfl, m, hw⟩
            have HM := Lib.hid (HM.out.drewN m)
            have HB := Lib.hid (HB.out.drewN m)
            have HC := Lib.hid (HC.out.drewN m)
            rw [← hw] at HM HC HB
            clear hw
            go_wp2_with fail
            refine (idx_calls d (-1) _ hidx).mono ?_
            rintro e w1' ⟨rfl, rfl⟩
            go_wp2_with fail
            exact ⟨rfl, by rw [HN.out]; rfl, HM.out⟩
          · have hT1 := toks_at hlt1 hpk1
            have HN : Hid (qt frm (toks (s.drop k) k) [] = .error q) := by rw [Hid, ← HQ.out, hT, qt_cons, if_neg (by simp), if_neg (by simp), if_pos ⟨rfl, rfl⟩, hT1]; simp
            go_wp2_with fail
            refine (peek_calls HC.out).mono ?_
            rw [hpk]
            rintro e w1 ⟨rfl, m, hw⟩
            have HM := Lib.hid (HM.out.drewN m)
            have HB := Lib.hid (HB.out.drewN m)
            have HC := Lib.hid (HC.out.drewN m)
            rw [← hw] at HM HC HB
            clear hw
            have c1 := HC.out.c1
            go_wp2_with fail
            refine (next_calls HM.out.inv HC.out).mono ?_
            rw [hpk]
            rintro e w1 ⟨rfl, hM, hC⟩
            have HB := Lib.hid (HB.out.moved hM hg)
            have HM := Lib.hid (HM.out.then hM)
            have HC := Lib.hid hC
            clear hM hC
            go_wp2_with fail
            refine (peek_calls HC.out).mono ?_
            rw [hpk1]
            rintro e w1 ⟨rfl, m, hw⟩
            have HM := Lib.hid (HM.out.drewN m)
            have HB := Lib.hid (HB.out.drewN m)
            have HC := Lib.hid (HC.out.drewN m)
            rw [← hw] at HM HC HB
            clear hw
            go_wp2_with fail
            refine (idx_calls 32 (-1) _ (by decide)).mono ?_
            rintro e w1' ⟨rfl, rfl⟩
            go_wp2_with fail
            exact ⟨rfl, by rw [HN.out]; rfl, HM.out⟩
        · have j10 : ¬ (c.toNat : Int) = 10 := byte_ne h10
          have j34 : ¬ (c.toNat : Int) = 34 := byte_ne h34
          have j92 : ¬ (c.toNat : Int) = 92 := byte_ne h92
          have HN : Hid (qt frm (toks (s.drop (q + 1)) (q + 1)) (acc ++ [c]) = qt frm (toks (s.drop k) k) []) := by rw [Hid, ← HQ.out, hT, qt_cons, if_neg (by simp [h10]), if_neg (by simp [h34]), if_neg (by simp [h92])]
          go_wp2_with fail
          refine (peek_calls HC.out).mono ?_
          rw [hpk]
          rintro e w1 ⟨rfl, m, hw⟩
          have HM := Lib.hid (HM.out.drewN m)
          have HB := Lib.hid (HB.out.drewN m)
          have HC := Lib.hid (HC.out.drewN m)
          rw [← hw] at HM HC HB
          clear hw
          have c1 := HC.out.c1
          go_wp2_with fail
          refine (next_calls HM.out.inv HC.out).mono ?_
          rw [hpk]
          rintro e w1 ⟨rfl, hM, hC⟩
          have HB := Lib.hid (HB.out.moved hM hg)
          have HM := Lib.hid (HM.out.then hM)
          have HC := Lib.hid hC
          clear hM hC
          go_wp2_with fail
          refine (writeByte_calls' c rfl HB.out (by omega) HM.out.size).mono ?_
          rintro e w1 ⟨rfl, hB, hbel⟩
          have HM := Lib.hid (HM.out.belowB hI hbel)
          have HC := Lib.hid (HC.out.belowB hbel hg)
          have HB := Lib.hid hB
          clear hbel hB
          go_wp2_with fail
          go_roundw
          case rel => exact ⟨(q + 1), acc ++ [c], by omega, by simp; omega, HN, HM, HC, HB⟩
          case measure =>
            have e1 := HC.out.c1
            have e2 := hc0
            simp [e1, e2, intOf]
            omega
      · have hT := toks_at hlt hpk
        have hn := pk_le hlt hpk
        have HN : Hid (qt frm (toks (s.drop (q + 2)) (q + 2)) (acc ++ [32]) = qt frm (toks (s.drop k) k) []) := by rw [Hid, ← HQ.out, hT, qt_cons, if_neg (by simp), if_neg (by simp), if_neg (by simp)]
        go_wp2_with fail
        refine (peek_calls HC.out).mono ?_
        rw [hpk]
        rintro e w1 ⟨rfl, m, hw⟩
        have HM := Lib.hid (HM.out.drewN m)
        have HB := Lib.hid (HB.out.drewN m)
        have HC := Lib.hid (HC.out.drewN m)
        rw [← hw] at HM HC HB
        clear hw
        have c1 := HC.out.c1
        go_wp2_with fail
        refine (next_calls HM.out.inv HC.out).mono ?_
        rw [hpk]
        rintro e w1 ⟨rfl, hM, hC⟩
        have HB := Lib.hid (HB.out.moved hM hg)
        have HM := Lib.hid (HM.out.then hM)
        have HC := Lib.hid hC
        clear hM hC
        go_wp2_with fail
        refine (writeByte_calls' 32 rfl HB.out (by omega) HM.out.size).mono ?_
        rintro e w1 ⟨rfl, hB, hbel⟩
        have HM := Lib.hid (HM.out.belowB hI hbel)
        have HC := Lib.hid (HC.out.belowB hbel hg)
        have HB := Lib.hid hB
        clear hbel hB
        go_wp2_with fail
        go_roundw
        case rel => exact ⟨(q + 2), acc ++ [32], by omega, by simp; omega, HN, HM, HC, HB⟩
        case measure =>
          have e1 := HC.out.c1
          have e2 := hc0
          simp [e1, e2, intOf]
          omega
end Go.Proofs.Ythfjeijhnikabaa
