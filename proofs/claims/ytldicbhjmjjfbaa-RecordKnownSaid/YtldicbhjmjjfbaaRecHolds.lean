/- The walk of record's Holds, over any closure. -/
import Derived.Test.YtldicbhjmjjfbaaRecGetM
import Derived.Test.YtldicbhjmjjfbaaLSEq
import Derived.Test.YtldicbhjmjjfbaaMw
import Derived.BigCall
import Derived.BigGuard
namespace Go.Proofs.Ytldicbhjmjjfbaa
open Go.RowKit
set_option linter.unusedVariables false

/-- how many needs hold of what is told, and whether all do -/
def holdsL : List Nee → (List UInt8 → List UInt8 × Bool) → Nat × Bool
  | [], _ => (0, true)
  | n :: r, F => if (F n.path).2 = n.hv ∧ (F n.path).1 = n.cont then ((holdsL r F).1 + 1, (holdsL r F).2) else (0, false)
def holdsT (t : Trc) (job : List UInt8) (F : List UInt8 → List UInt8 × Bool) : Nat × Bool := if t.job = job then holdsL t.needs F else (0, false)
/-- how many are asked for -/
def askedN (l : List Nee) (F : List UInt8 → List UInt8 × Bool) : Nat := if (holdsL l F).2 = true then l.length else (holdsL l F).1 + 1
theorem holdsL_drop_yes {l : List Nee} {j : Nat} {F : List UInt8 → List UInt8 × Bool} (hj : j < l.length) (h1 : (F l[j].path).2 = l[j].hv) (h2 : (F l[j].path).1 = l[j].cont) :
    holdsL (l.drop j) F = ((holdsL (l.drop (j + 1)) F).1 + 1, (holdsL (l.drop (j + 1)) F).2) := by
  rw [List.drop_eq_getElem_cons hj, holdsL, if_pos ⟨h1, h2⟩]
theorem holdsL_drop_no {l : List Nee} {j : Nat} {F : List UInt8 → List UInt8 × Bool} (hj : j < l.length) (h : ¬ ((F l[j].path).2 = l[j].hv ∧ (F l[j].path).1 = l[j].cont)) :
    holdsL (l.drop j) F = (0, false) := by
  rw [List.drop_eq_getElem_cons hj, holdsL, if_neg h]
theorem run_neq_nilFunc (W : World) (fn : Fn) (a b : Array Value) : (binOp .neq 39 (.func fn a b) .nilFunc).run Try.prog W = .ok (.bool true) W := by
  kernel_rfl
/-- a closure: what it owns, what stands while it is asked -/
structure Clo (n : Nat) (path : Nat → List UInt8) (F : List UInt8 → List UInt8 × Bool) (f : Nat) (cap : Array Value) (S : Nat → (Nat → Prop) → Jm → World → Prop) : Prop where
  enter : ∀ args w, (callFunc f args).run Try.prog w = .ok (.enter f args) w
  inv : ∀ {k Z J w}, S k Z J w → Inv J w
  lt : ∀ {k Z J w b}, S k Z J w → Z b → b < w.heap.size
  ext : ∀ {k Z J w J' w'}, S k Z J w → Ext J w J' w' → S k Z J' w'
  call : ∀ k Z J w, k < n → S k Z J w → Calls Try.prog f (#[.string (strB (path k))] ++ cap) w fun e w' => ∃ Z' J', e = .returned (.tuple #[.string (strB (F (path k)).1), .bool (F (path k)).2]) ∧ S (k + 1) Z' J' w' ∧ Mw Z J w J' w' ∧ ∀ b, b < w.heap.size → Z' b → Z b
theorem bool_neR {a b : Bool} (h : ¬ a = b) : (a = true ∧ b = false) ∨ (a = false ∧ b = true) := by revert h; cases a <;> cases b <;> simp
theorem Ext.mw_trans {Z : Nat → Prop} {J J1 J2 : Jm} {w w1 w2 : World} (hI : Inv J w) (h : Ext J w J1 w1) (k : Mw Z J1 w1 J2 w2) : Mw Z J w J2 w2 := (h.mw hI Z).then k
theorem Mw.ext {Z : Nat → Prop} {J J1 J2 : Jm} {w w1 w2 : World} (h : Mw Z J w J1 w1) (k : Ext J1 w1 J2 w2) : Mw Z J w J2 w2 := h.then (k.mw h.inv Z)
theorem TBox.mw {S : Nat → Prop} {J J' : Jm} {w w' : World} {b : Nat} {t : Trc} {vn vo : Value} (h : TBox w b t vn vo) (e : Mw S J w J' w') (hs : ¬ S b) : TBox w' b t vn vo := (e.block b h.lt hs).trans h
theorem EBox.mw {S : Nat → Prop} {J J' : Jm} {w w' : World} {b : Nat} {n : Nee} (h : EBox w b n) (e : Mw S J w J' w') (hs : ¬ S b) : EBox w' b n := (e.block b h.lt hs).trans h
def HoldsP (S : Nat → (Nat → Prop) → Jm → World → Prop) (r : Nat × Bool) (m : Nat) (Z : Nat → Prop) (J : Jm) (w : World) (e : Ending) (w' : World) : Prop :=
  ∃ Z' J', e = .returned (.tuple #[.int .i64 r.1, .bool r.2]) ∧ S m Z' J' w' ∧ Mw Z J w J' w' ∧ ∀ b, b < w.heap.size → Z' b → Z b
set_option maxRecDepth 100000 in
set_option maxHeartbeats 8000000 in
theorem holds_calls {J : Jm} {w : World} (hI : Inv J w) {v : Value} {t : Trc} (ht : TrV J v t) (hS : TrS t) (job : List UInt8) {F : List UInt8 → List UInt8 × Bool} {f : Nat} {cap : Array Value} {S : Nat → (Nat → Prop) → Jm → World → Prop}
    (hC : Clo t.needs.length (fun k => (t.needs.getD k ⟨[], false, []⟩).path) F f cap S) {Z : Nat → Prop} (hs : S 0 Z J w) :
    Calls Try.prog 15 #[v, .string (strB job), .func (.func f) #[] cap] w fun e w' => HoldsP S (holdsT t job F) (if t.job = job then askedN t.needs F else 0) Z J w e w' := by
  obtain ⟨vn, vo, rfl, hn, ho⟩ := ht
  obtain ⟨An, cn, rfl, hnc, hnm⟩ := hn.form
  unfold maxLen at hnm
  have HN := Lib.hid hn
  clear hn ho
  have hX := (Ext.refl hI).alloc (.cells #[.string (strB t.job), .slice An t.needs.length cn, vo] 26)
  have HT := Lib.hid (TBox.new w t (.slice An t.needs.length cn) vo)
  have hb := strB_beq t.job job
  have hen := hC.enter
  go_enter Try.func15, Try.ntmps15
  by_cases hj : t.job = job
  case neg =>
    have hb2 : ((strB t.job).toList == (strB job).toList) = false := by rw [hb]; simpa using hj
    have HH := Lib.hid (show holdsT t job F = (0, false) from if_neg hj)
    clear hb hen
    go_wp2_with fail
    go_ret2
    rw [HH.out]
    exact ⟨Z, J, rfl, hC.ext hs hX, hX.mw hI Z, fun b _ h => h⟩
  have hb2 : ((strB t.job).toList == (strB job).toList) = true := by rw [hb]; simpa using hj
  have HH := Lib.hid (show holdsT t job F = holdsL t.needs F from if_pos hj)
  rw [if_pos hj]
  clear hb hj
  go_upto_region 1 with fail
  have HX := Lib.hid hX
  have HS := Lib.hid (hC.ext hs hX)
  have HZ := Lib.hid (fun h => Nat.lt_irrefl _ (hC.lt hs h : w.heap.size < w.heap.size))
  clear hX
  generalize World.alloc w _ = W at *
  generalize w.heap.size = tb at HT HZ ⊢
  have c0 := HT.out.c0
  have c1 := HT.out.c1
  go_wp2_with fail
  clear c0 c1
  go_loopw [19] (fun i wr => ∃ (j : Nat) (Z' : Nat → Prop) (J' : Jm), j ≤ t.needs.length ∧ i = .int .i64 j ∧ Hid (holdsL t.needs F = ((holdsL (t.needs.drop j) F).1 + j, (holdsL (t.needs.drop j) F).2)) ∧ Hid (S j Z' J' wr) ∧
    Hid (Mw Z J W J' wr) ∧ Hid (∀ b, b < W.heap.size → Z' b → Z b)) (fun i _ => t.needs.length - (intOf i).toNat)
  case atStart => exact ⟨0, Z, J, by omega, rfl, rfl, HS, Mw.refl _ HX.out.inv, fun b _ h => h⟩
  case round =>
    clear HS
    obtain ⟨j, Z', J', hj, rfl, HL, HS, HM, HZZ⟩ := hrel
    by_cases hlt : j < t.needs.length
    · have i0 : (0 : Int) ≤ (j : Int) := by omega
      have i1 : (j : Int) < t.needs.length := by omega
      obtain ⟨b, o, rfl, hx0, hx1, hx2⟩ := Ns.cell (HN.out.mono HM.out.le) HM.out.inv hlt
      have HDY := Lib.hid (fun h1 h2 => holdsL_drop_yes (F := F) hlt h1 h2)
      have HDN := Lib.hid (fun h => holdsL_drop_no (F := F) hlt h)
      have hpath : (t.needs.getD j ⟨[], false, []⟩).path = t.needs[j].path := by rw [List.getD_eq_getElem?_getD, List.getElem?_eq_getElem hlt]; rfl
      have HCL := Lib.hid (fun Z J w => hC.call j Z J w hlt)
      simp only [hpath] at HCL
      generalize t.needs[j] = n at *
      obtain ⟨pa, hv, ct⟩ := n
      simp only at hx0 hx1 hx2 HDY HDN HCL
      go_upto_region 6 with fail
      have hx := (Ext.refl HM.out.inv).alloc (.cells #[.string (strB pa), .bool hv, .string (strB ct)] 38)
      have HM3 := Lib.hid (HM.out.ext hx)
      have HEB := Lib.hid (EBox.new wr ⟨pa, hv, ct⟩)
      have HS3 := Lib.hid (hC.ext HS.out hx)
      have HZE := Lib.hid (fun h => Nat.lt_irrefl _ (hC.lt HS.out h : wr.heap.size < wr.heap.size))
      have hws := HM.out.size
      clear hx hx0 hx1 hx2
      generalize World.alloc wr _ = W3 at *
      generalize wr.heap.size = eb at HEB HZE hws ⊢
      have e0 := HEB.out.c0
      simp only at e0
      have hnf := fun W => run_neq_nilFunc W (.func f) #[] cap
      go_wp2_with fail
      refine (HCL.out _ _ _ HS3.out).mono ?_
      rintro e W4 ⟨Z4, J4, rfl, hs4, hm4, hz4⟩
      have HS4 := Lib.hid hs4
      have HM4 := Lib.hid (HM3.out.trans hm4 (fun b hb hz => (HZZ.out b hb hz : Z b)))
      have HEB4 := Lib.hid (HEB.out.mw hm4 HZE.out)
      have HZ4 := Lib.hid (show ∀ b, b < W.heap.size → Z4 b → Z b from fun b hb hz => HZZ.out b hb (hz4 b (by have := HM3.out.size; omega) hz))
      clear hs4 hm4 hz4 e0 hnf hws
      have e0 := HEB4.out.c0
      have e1 := HEB4.out.c1
      have e2 := HEB4.out.c2
      simp only at e0 e1 e2
      obtain ⟨⟨fc, fh⟩, hfv⟩ : ∃ v, v = F pa := ⟨_, rfl⟩
      rw [← hfv] at HDY HDN ⊢
      simp only at HDY HDN ⊢
      clear hfv
      by_cases hh : fh = hv
      case neg =>
        have HL2 := Lib.hid (show holdsL t.needs F = (j, false) by rw [HL.out, HDN.out (fun h => hh h.1)]; simp)
        have HA := Lib.hid (show askedN t.needs F = j + 1 by unfold askedN; rw [HL2.out]; rfl)
        rcases bool_neR hh with ⟨rfl, rfl⟩ | ⟨rfl, rfl⟩
        all_goals
          clear hh
          go_wp2_with fail
          go_ret2
          rw [HH.out, HL2.out, HA.out]
          exact ⟨Z4, J4, rfl, HS4.out, HX.out.mw_trans hI HM4.out, fun b hb hz => HZ4.out b (by have := HX.out.below.size; omega) hz⟩
      subst hh
      by_cases hc : fc = ct
      case neg =>
        have HL2 := Lib.hid (show holdsL t.needs F = (j, false) by rw [HL.out, HDN.out (fun h => hc h.2)]; simp)
        have HA := Lib.hid (show askedN t.needs F = j + 1 by unfold askedN; rw [HL2.out]; rfl)
        have hb3 : ((strB fc).toList == (strB ct).toList) = false := by rw [strB_beq]; simpa using hc
        clear hc
        cases fh
        all_goals
          go_wp2_with fail
          go_ret2
          rw [HH.out, HL2.out, HA.out]
          exact ⟨Z4, J4, rfl, HS4.out, HX.out.mw_trans hI HM4.out, fun b hb hz => HZ4.out b (by have := HX.out.below.size; omega) hz⟩
      have HL2 := Lib.hid (show holdsL t.needs F = ((holdsL (t.needs.drop (j + 1)) F).1 + (j + 1), (holdsL (t.needs.drop (j + 1)) F).2) by rw [HL.out, HDY.out rfl hc]; simp only [Nat.add_assoc, Nat.add_comm 1 j])
      have hb3 : ((strB fc).toList == (strB ct).toList) = true := by rw [strB_beq]; simp [hc]
      clear hc
      cases fh
      all_goals
        go_wp2_with fail
        go_roundw
        case rel => exact ⟨j + 1, Z4, J4, by omega, by go_num, HL2, HS4, HM4, HZ4⟩
        case measure => simp [intOf]; omega
    · obtain rfl : j = t.needs.length := by omega
      have HL2 := Lib.hid (show holdsL t.needs F = (t.needs.length, true) by rw [HL.out, List.drop_length]; simp [holdsL])
      have HA := Lib.hid (show askedN t.needs F = t.needs.length by unfold askedN; rw [HL2.out]; rfl)
      have c1 := (HT.out.mw HM.out HZ.out).c1
      go_wp2_with fail
      go_ret2
      rw [HH.out, HL2.out, HA.out]
      exact ⟨Z', J', rfl, HS.out, HX.out.mw_trans hI HM.out, fun b hb hz => HZZ.out b (by have := HX.out.below.size; omega) hz⟩
end Go.Proofs.Ytldicbhjmjjfbaa
