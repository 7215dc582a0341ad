/- The statement RecordOwn: its walk. -/
import Derived.Test.YtldicbhjmjjfbaaRecordPuts
import Derived.Deep.QuietTactic
import Derived.BigQuiet
namespace Go.Proofs.Ytldicbhjmjjfbaa
open Go.RowKit
set_option linter.unusedVariables false

def own1F (o : List UInt8) : List Nee → List UInt8 → List UInt8 × Bool
  | [], _ => (o, true)
  | n :: r, p => if n.path = p then (n.cont, n.hv) else own1F o r p
def own2F (i : Nat) : Nat → List Nee → List UInt8 → List UInt8 × Bool
  | _, [], _ => ([], false)
  | k, n :: r, p => if n.path = p then (if k = i then (n.cont ++ [33], true) else (n.cont, n.hv)) else own2F i (k + 1) r p
/-- no two have one path -/
def Dist (l : List Nee) : Prop := ∀ i j, (hi : i < l.length) → (hj : j < l.length) → l[i].path = l[j].path → i = j
theorem okNs_dist {l : List Nee} (h : okNs [] l = true) : Dist l := by
  have key : ∀ i j, (hi : i < l.length) → (hj : j < l.length) → i < j → l[i].path ≠ l[j].path := by
    intro i j hi hj hij e
    have hat : okAt (l.take j) l[j] = true := by
      cases hc : okAt (l.take j) l[j] with
      | true => rfl
      | false => rw [okNs_stop hj hc] at h; cases h
    unfold okAt at hat
    simp only [Bool.and_eq_true, Bool.not_eq_true', List.contains_eq_mem, decide_eq_false_iff_not] at hat
    refine hat.2 (List.mem_map.2 ⟨l[i], ?_, e⟩)
    rw [List.mem_iff_getElem]
    exact ⟨i, by rw [List.length_take]; omega, by rw [List.getElem_take]⟩
  intro i j hi hj e
  rcases Nat.lt_trichotomy i j with h1 | h1 | h1
  · exact absurd e (key i j hi hj h1)
  · exact h1
  · exact absurd e.symm (key j i hj hi h1)
theorem Dist.tail {n : Nee} {l : List Nee} (h : Dist (n :: l)) : Dist l := fun i j hi hj e => by
  have := h (i + 1) (j + 1) (by simp; omega) (by simp; omega) (by simpa using e); omega
theorem Dist.head {n : Nee} {l : List Nee} (h : Dist (n :: l)) {j : Nat} (hj : j < l.length) : n.path ≠ l[j].path := fun e => by
  have := h 0 (j + 1) (by simp) (by simp; omega) (by simpa using e); omega
theorem own1_at (o : List UInt8) : ∀ {l : List Nee}, Dist l → ∀ j, (hj : j < l.length) → own1F o l l[j].path = (l[j].cont, l[j].hv)
  | n :: l, h, 0, _ => by simp [own1F]
  | n :: l, h, j + 1, hj => by
    have hj' : j < l.length := by simpa using hj
    simp only [List.getElem_cons_succ, own1F]
    rw [if_neg (h.head hj')]
    exact own1_at o h.tail j hj'
theorem own2_at (i : Nat) : ∀ {l : List Nee} (k : Nat), Dist l → ∀ j, (hj : j < l.length) → own2F i k l l[j].path = if k + j = i then (l[j].cont ++ [33], true) else (l[j].cont, l[j].hv)
  | n :: l, k, h, 0, _ => by simp [own2F]
  | n :: l, k, h, j + 1, hj => by
    have hj' : j < l.length := by simpa using hj
    simp only [List.getElem_cons_succ, own2F]
    rw [if_neg (h.head hj'), own2_at i (k + 1) h.tail j hj', show k + 1 + j = k + (j + 1) by omega]
theorem holdsL_all {F : List UInt8 → List UInt8 × Bool} : ∀ {l : List Nee}, (∀ j, (hj : j < l.length) → F l[j].path = (l[j].cont, l[j].hv)) → holdsL l F = (l.length, true)
  | [], _ => rfl
  | n :: l, h => by
    have h0 := h 0 (by simp)
    simp only [List.getElem_cons_zero] at h0
    rw [holdsL, h0, if_pos ⟨rfl, rfl⟩, holdsL_all (l := l) fun j hj => by have := h (j + 1) (by simp; omega); simpa using this]
    rfl
theorem holdsL_to {F : List UInt8 → List UInt8 × Bool} : ∀ {l : List Nee} (i : Nat), (hi : i < l.length) → (∀ j, (hj : j < l.length) → j < i → F l[j].path = (l[j].cont, l[j].hv)) → (F l[i].path).1 ≠ l[i].cont → holdsL l F = (i, false)
  | n :: l, 0, _, _, hne => by
    simp only [List.getElem_cons_zero] at hne
    rw [holdsL, if_neg fun h => hne h.2]
  | n :: l, i + 1, hi, h, hne => by
    have h0 := h 0 (by simp) (by omega)
    simp only [List.getElem_cons_zero] at h0
    rw [holdsL, h0, if_pos ⟨rfl, rfl⟩, holdsL_to (l := l) i (by simpa using hi) (fun j hj hji => by have := h (j + 1) (by simp; omega) (by omega); simpa using this) (by simpa using hne)]
theorem own1_holds {t : Trc} (h : rightT t = true) (o : List UInt8) : holdsT t t.job (own1F o t.needs) = (t.needs.length, true) := by
  unfold holdsT
  rw [if_pos rfl]
  unfold rightT at h
  simp only [Bool.and_eq_true] at h
  exact holdsL_all (own1_at o (okNs_dist h.1.2))
theorem own2_holds {t : Trc} (h : rightT t = true) {i : Nat} (hi : i < t.needs.length) : holdsT t t.job (own2F i 0 t.needs) = (i, false) := by
  unfold holdsT
  rw [if_pos rfl]
  unfold rightT at h
  simp only [Bool.and_eq_true] at h
  have hd := okNs_dist h.1.2
  refine holdsL_to i hi (fun j hj hji => ?_) ?_
  · rw [own2_at i 0 hd j hj, if_neg (by omega)]
  · rw [own2_at i 0 hd i hi, if_pos (by omega)]
    simp
theorem own1_yes {o : List UInt8} {l : List Nee} {j : Nat} {p : List UInt8} (hj : j < l.length) (h : l[j].path = p) : own1F o (l.drop j) p = (l[j].cont, l[j].hv) := by
  rw [List.drop_eq_getElem_cons hj, own1F, if_pos h]
theorem own1_no {o : List UInt8} {l : List Nee} {j : Nat} {p : List UInt8} (hj : j < l.length) (h : ¬ l[j].path = p) : own1F o (l.drop j) p = own1F o (l.drop (j + 1)) p := by
  rw [List.drop_eq_getElem_cons hj, own1F, if_neg h]
theorem own2_yes {i k : Nat} {l : List Nee} {j : Nat} {p : List UInt8} (hj : j < l.length) (h : l[j].path = p) : own2F i k (l.drop j) p = if k = i then (l[j].cont ++ [33], true) else (l[j].cont, l[j].hv) := by
  rw [List.drop_eq_getElem_cons hj, own2F, if_pos h]
theorem own2_no {i k : Nat} {l : List Nee} {j : Nat} {p : List UInt8} (hj : j < l.length) (h : ¬ l[j].path = p) : own2F i k (l.drop j) p = own2F i (k + 1) (l.drop (j + 1)) p := by
  rw [List.drop_eq_getElem_cons hj, own2F, if_neg h]
/-- what the first closure reads -/
def P1 (t : Trc) (o : List UInt8) (tb ob : Nat) (vn vo : Value) : Jm → World → Prop := fun J w => TBox w tb t vn vo ∧ w.heap[ob]? = some (.cells #[.string (strB o)] 9 (0, 0)) ∧ Ns J vn t.needs
theorem P1.ext {t : Trc} {o : List UInt8} {tb ob : Nat} {vn vo : Value} {J J' : Jm} {w w' : World} (h : P1 t o tb ob vn vo J w) (hI : Inv J w) (e : Ext J w J' w') : P1 t o tb ob vn vo J' w' :=
  ⟨h.1.ext e, (e.below.block ob (Array.getElem?_eq_some_iff.1 h.2.1).1).trans h.2.1, h.2.2.mono (e.le hI)⟩
set_option maxRecDepth 100000 in
set_option maxHeartbeats 8000000 in
theorem own1_calls {J : Jm} {w : World} (hI : Inv J w) {t : Trc} {o : List UInt8} {tb ob : Nat} {vn vo : Value} (h : P1 t o tb ob vn vo J w) (p : List UInt8) :
    Calls Try.prog 16 (#[.string (strB p)] ++ #[.pointer (some ⟨tb, 0, none⟩), .pointer (some ⟨ob, 0, none⟩)]) w fun e w' => e = .returned (.tuple #[.string (strB (own1F o t.needs p).1), .bool (own1F o t.needs p).2]) ∧ Below w.heap.size w w' := by
  obtain ⟨hB, hO, hN⟩ := h
  obtain ⟨A, c, rfl, hnc, hm⟩ := hN.form
  unfold maxLen at hm
  have HB := Lib.hid hB
  have HO := Lib.hid hO
  have HN := Lib.hid hN
  clear hB hO hN
  have n1 := HB.out.c1
  show Calls Try.prog 16 #[.string (strB p), .pointer (some ⟨tb, 0, none⟩), .pointer (some ⟨ob, 0, none⟩)] w _
  go_enter Try.func16, Try.ntmps16
  go_wp2_with fail
  clear n1
  go_loopw [11] (fun i wr => ∃ (j : Nat), j ≤ t.needs.length ∧ i = .int .i64 j ∧ Hid (own1F o t.needs p = own1F o (t.needs.drop j) p) ∧ Hid (Ext J w J wr)) (fun i _ => t.needs.length - (intOf i).toNat)
  case atStart => exact ⟨0, by omega, rfl, rfl, Ext.refl hI⟩
  case round =>
    obtain ⟨j, hj, rfl, HL, HE⟩ := hrel
    by_cases hlt : j < t.needs.length
    · have i0 : (0 : Int) ≤ (j : Int) := by omega
      have i1 : (j : Int) < t.needs.length := by omega
      obtain ⟨b, q, rfl, hx0, hx1, hx2⟩ := Ns.cell HN.out HE.out.inv hlt
      have HY := Lib.hid (fun h => own1_yes (o := o) (p := p) hlt h)
      have HNO := Lib.hid (fun h => own1_no (o := o) (p := p) hlt h)
      generalize t.needs[j] = n at *
      obtain ⟨pa, hv, ct⟩ := n
      simp only at hx0 hx1 hx2 HY HNO
      go_upto_region 4 with fail
      have HE3 := Lib.hid (HE.out.alloc (.cells #[.string (strB pa), .bool hv, .string (strB ct)] 38))
      have HEB := Lib.hid (EBox.new wr ⟨pa, hv, ct⟩)
      clear hx0 hx1 hx2
      generalize World.alloc wr _ = W3 at *
      generalize wr.heap.size = eb at HEB ⊢
      have e0 := HEB.out.c0
      have e1 := HEB.out.c1
      have e2 := HEB.out.c2
      simp only at e0 e1 e2
      have hb := strB_beq pa p
      by_cases hp : pa = p
      · have hb2 : ((strB pa).toList == (strB p).toList) = true := by rw [hb]; simpa using hp
        have HR := Lib.hid (HL.out.trans (HY.out hp))
        clear hb hp
        go_wp2_with fail
        go_big_quiet (fail)
        go_wp2_with fail
        go_ret2
        rw [HR.out]
        exact ⟨rfl, Below.drews HE3.out.below nq⟩
      · have hb2 : ((strB pa).toList == (strB p).toList) = false := by rw [hb]; simpa using hp
        have HR := Lib.hid (HL.out.trans (HNO.out hp))
        clear hb hp
        go_wp2_with fail
        go_roundw
        case rel => exact ⟨j + 1, by omega, by go_num, HR, HE3⟩
        case measure => simp [intOf]; omega
    · obtain rfl : j = t.needs.length := by omega
      have HR := Lib.hid (show own1F o t.needs p = (o, true) by rw [HL.out, List.drop_length]; rfl)
      have o0 := blk_cell_J (show wr.heap[ob]? = some (.cells [.string (strB o)].toArray 9 (0, 0)) from (HE.out.below.block ob (Array.getElem?_eq_some_iff.1 HO.out).1).trans HO.out) 0 rfl
      go_wp2_with fail
      go_ret2
      rw [HR.out]
      exact ⟨rfl, HE.out.below⟩
/-- what the second closure reads -/
def P2 (t : Trc) (i : Nat) (tb ib : Nat) (vn vo : Value) : Jm → World → Prop := fun J w => TBox w tb t vn vo ∧ w.heap[ib]? = some (.cells #[.int .i64 i] 3 (0, 0)) ∧ Ns J vn t.needs
theorem P2.ext {t : Trc} {i : Nat} {tb ob : Nat} {vn vo : Value} {J J' : Jm} {w w' : World} (h : P2 t i tb ob vn vo J w) (hI : Inv J w) (e : Ext J w J' w') : P2 t i tb ob vn vo J' w' :=
  ⟨h.1.ext e, (e.below.block ob (Array.getElem?_eq_some_iff.1 h.2.1).1).trans h.2.1, h.2.2.mono (e.le hI)⟩
theorem run_cat (a b : List UInt8) (h : a.length + b.length ≤ 9223372036854775807) (W : World) : (binOp .add 9 (.string (strB a)) (.string (strB b))).run Try.prog W = .ok (.string (strB (a ++ b))) W := by
  have h2 : strB a ++ strB b = strB (a ++ b) := by unfold strB; apply ByteArray.ext; simp
  simp [go_sem, h2, h]
theorem strB_cat (a b : List UInt8) : strB a ++ strB b = strB (a ++ b) := by
  unfold strB; apply ByteArray.ext; simp
set_option maxRecDepth 100000 in
set_option maxHeartbeats 8000000 in
theorem own2_calls {J : Jm} {w : World} (hI : Inv J w) {t : Trc} {i : Nat} {tb ob : Nat} {vn vo : Value} (h : P2 t i tb ob vn vo J w) (hS : TrS t) (hi : i ≤ 1000) (hn8 : t.needs.length ≤ 8) (p : List UInt8) :
    Calls Try.prog 17 (#[.string (strB p)] ++ #[.pointer (some ⟨tb, 0, none⟩), .pointer (some ⟨ob, 0, none⟩)]) w fun e w' => e = .returned (.tuple #[.string (strB (own2F i 0 t.needs p).1), .bool (own2F i 0 t.needs p).2]) ∧ Below w.heap.size w w' := by
  obtain ⟨hB, hO, hN⟩ := h
  obtain ⟨A, c, rfl, hnc, hm⟩ := hN.form
  unfold maxLen at hm
  have HB := Lib.hid hB
  have HO := Lib.hid hO
  have HN := Lib.hid hN
  clear hB hO hN
  have n1 := HB.out.c1
  show Calls Try.prog 17 #[.string (strB p), .pointer (some ⟨tb, 0, none⟩), .pointer (some ⟨ob, 0, none⟩)] w _
  go_enter Try.func17, Try.ntmps17
  go_wp2_with fail
  clear n1
  go_loopw [11] (fun iv wr => ∃ (j : Nat), j ≤ t.needs.length ∧ iv = .int .i64 j ∧ Hid (own2F i 0 t.needs p = own2F i j (t.needs.drop j) p) ∧ Hid (Ext J w J wr)) (fun iv _ => t.needs.length - (intOf iv).toNat)
  case atStart => exact ⟨0, by omega, rfl, rfl, Ext.refl hI⟩
  case round =>
    obtain ⟨j, hj, rfl, HL, HE⟩ := hrel
    by_cases hlt : j < t.needs.length
    · have i0 : (0 : Int) ≤ (j : Int) := by omega
      have i1 : (j : Int) < t.needs.length := by omega
      obtain ⟨b, q, rfl, hx0, hx1, hx2⟩ := Ns.cell HN.out HE.out.inv hlt
      have HY := Lib.hid (fun h => own2_yes (i := i) (k := j) (p := p) hlt h)
      have HNO := Lib.hid (fun h => own2_no (i := i) (k := j) (p := p) hlt h)
      have hcl := (hS.needs t.needs[j] (List.getElem_mem hlt)).2
      generalize t.needs[j] = n at *
      obtain ⟨pa, hv, ct⟩ := n
      simp only at hx0 hx1 hx2 HY HNO hcl
      go_upto_region 4 with fail
      have hx := (Ext.refl HE.out.inv).alloc (.cells #[.string (strB pa), .bool hv, .string (strB ct)] 38)
      have HE3 := Lib.hid (HE.out.trans hx)
      have HEB := Lib.hid (EBox.new wr ⟨pa, hv, ct⟩)
      clear hx0 hx1 hx2 hx
      generalize World.alloc wr _ = W3 at *
      generalize wr.heap.size = eb at HEB ⊢
      have e0 := HEB.out.c0
      have e1 := HEB.out.c1
      have e2 := HEB.out.c2
      have o0 := blk_cell_J (show W3.heap[ob]? = some (.cells [.int .i64 i].toArray 3 (0, 0)) from (HE3.out.below.block ob (Array.getElem?_eq_some_iff.1 HO.out).1).trans HO.out) 0 rfl
      simp only at e0 e1 e2
      have hb := strB_beq pa p
      by_cases hp : pa = p
      · have hb2 : ((strB pa).toList == (strB p).toList) = true := by rw [hb]; simpa using hp
        have HR := Lib.hid (HL.out.trans (HY.out hp))
        clear hb hp
        by_cases hji : j = i
        · subst hji
          have HR2 := Lib.hid (HR.out.trans (if_pos rfl))
          have hcat := strB_cat ct [33]
          have hcr := fun W => run_cat ct [33] (by simp only [List.length_cons, List.length_nil]; omega) W
          have hmx : (min 1 (max 0 (1 : Int))) = 1 := by decide
          have hex : (⟨#[33]⟩ : ByteArray).extract 0 1 = strB [33] := by rfl
          cases hv
          all_goals
            go_wp2_with fail
            go_big_quiet (fail)
            go_wp2_with fail
            go_ret2
            rw [HR2.out]
            exact ⟨by rw [← hcat]; rfl, Below.drews HE3.out.below nq⟩
        · have HR2 := Lib.hid (HR.out.trans (if_neg hji))
          have hcr := fun W => run_cat ct [] (by simp only [List.length_nil]; omega) W
          have hmx : (min 1 (max 0 (1 - max ((j : Int) - i) ((i : Int) - j)))) = 0 := by omega
          have hex : (⟨#[33]⟩ : ByteArray).extract 0 0 = strB [] := by rfl
          have hji2 : ((j : Int) == i) = false := by rw [beq_eq_false_iff_ne]; omega
          have hji3 : ¬ (j : Int) = i := by omega
          clear hji
          cases hv
          all_goals
            go_wp2_with fail
            go_big_quiet (fail)
            go_wp2_with fail
            go_ret2
            rw [HR2.out]
            exact ⟨rfl, Below.drews HE3.out.below nq⟩
      · have hb2 : ((strB pa).toList == (strB p).toList) = false := by rw [hb]; simpa using hp
        have HR := Lib.hid (HL.out.trans (HNO.out hp))
        clear hb hp
        go_wp2_with fail
        go_roundw
        case rel => exact ⟨j + 1, by omega, by go_num, HR, HE3⟩
        case measure => simp [intOf]; omega
    · obtain rfl : j = t.needs.length := by omega
      have HR := Lib.hid (show own2F i 0 t.needs p = ([], false) by rw [HL.out, List.drop_length]; rfl)
      go_wp2_with fail
      go_ret2
      rw [HR.out]
      exact ⟨rfl, HE.out.below⟩
theorem two_to (w : World) (a : Trc) (vn vo : Value) (o : List UInt8) :
    Below w.heap.size w ((w.alloc (.cells #[.string (strB a.job), vn, vo] 26)).alloc (.cells #[.string (strB o)] 9)) ∧
    TBox ((w.alloc (.cells #[.string (strB a.job), vn, vo] 26)).alloc (.cells #[.string (strB o)] 9)) w.heap.size a vn vo ∧
    ((w.alloc (.cells #[.string (strB a.job), vn, vo] 26)).alloc (.cells #[.string (strB o)] 9)).heap[w.heap.size + 1]? = some (.cells #[.string (strB o)] 9 (0, 0)) := by
  refine ⟨((Below.refl w.heap.size w).alloc (Nat.le_refl _) _).alloc (by simp) _, (Below.heap_alloc _ _ w.heap.size (by simp)).trans (heap_alloc_new w _), ?_⟩
  have h := heap_alloc_new (w.alloc (.cells #[.string (strB a.job), vn, vo] 26)) (.cells #[.string (strB o)] 9)
  rw [show (w.alloc (.cells #[.string (strB a.job), vn, vo] 26)).heap.size = w.heap.size + 1 by simp] at h
  exact h
set_option maxRecDepth 100000 in
set_option maxHeartbeats 8000000 in
theorem recordOwn_walk {J : Jm} {w : World} (hI : Inv J w) {v : Value} {t : Trc} (ht : TrV J v t) (hS : TrS t) (ob : ByteArray) (hob : ob.size ≤ 140737488351232) :
    Calls Try.prog 4 #[v, .string ob] w fun e w' => e = .returned (.bool true) ∧ Below w.heap.size w w' := by
  obtain ⟨o, rfl⟩ : ∃ l, ob = strB l := ⟨ob.data.toList, (strB_of ob).symm⟩
  clear hob
  have hmf : ∀ (fn : Fn) (first cap : Array Value) (w : World), (Instr.makeFunc fn first cap).run Try.prog w = .ok (.func fn first cap) w := fun _ _ _ _ => rfl
  obtain ⟨An, cn, Ao, co, rfl, hn, ho⟩ := ht.parts
  have HV := Lib.hid (TrV.mk hn ho)
  have HN := Lib.hid hn
  clear ht hn ho
  obtain ⟨t0, t1, t2⟩ := two_to w t (.slice An t.needs.length cn) (.slice Ao t.outs.length co) o
  go_enter Try.func4, Try.ntmps4
  go_upto_region 1 with fail
  have HE := Lib.hid (Ext.of_below hI t0)
  have HP := Lib.hid (show P1 t o w.heap.size (w.heap.size + 1) (.slice An t.needs.length cn) (.slice Ao t.outs.length co) J _ from ⟨t1, t2, HN.out⟩)
  clear t0 t1 t2
  generalize World.alloc (World.alloc w _) _ = W at *
  generalize w.heap.size + 1 = ob at *
  generalize hg0 : w.heap.size = tb at HP ⊢
  clear hg0
  go_wp2_with fail
  refine (works_calls HE.out.inv).mono ?_
  rintro e w1 ⟨rfl, hb⟩
  have hx := Ext.of_below HE.out.inv hb
  have HP := Lib.hid (HP.out.ext HE.out.inv hx)
  have HE := Lib.hid (HE.out.trans hx)
  clear hb hx
  have n0 := HP.out.1.c0
  have n1 := HP.out.1.c1
  have n2 := HP.out.1.c2
  go_wp2_with fail
  refine (check_calls HE.out.inv HV.out hS).mono ?_
  cases hr : rightT t with
  | false =>
    rw [errT_no hr]
    rintro e w2 ⟨rfl, hb⟩
    go_wp2_with fail
    go_ret
    exact ⟨rfl, (HE.out.step hb).below⟩
  | true =>
    rw [errT_yes hr]
    rintro e w2 ⟨rfl, hb⟩
    have hx := Ext.of_below HE.out.inv hb
    have HP := Lib.hid (HP.out.ext HE.out.inv hx)
    have HE := Lib.hid (HE.out.trans hx)
    clear hb hx n0 n1 n2
    have n0 := HP.out.1.c0
    have n1 := HP.out.1.c1
    have n2 := HP.out.1.c2
    have hn8 := (right_parts hr).2.1
    go_wp2_with fail
    have hclo : Clo t.needs.length (fun k => (t.needs.getD k ⟨[], false, []⟩).path) (own1F o t.needs) 16 #[.pointer (some ⟨tb, 0, none⟩), .pointer (some ⟨ob, 0, none⟩)] (Sless (P1 t o tb ob (.slice An t.needs.length cn) (.slice Ao t.outs.length co))) :=
      clo_of (enters_of Try.func16 (by kernel_rfl) rfl) (fun h hI e => h.ext hI e) (fun k J w _ hI h => own1_calls hI h _)
    refine (holds_calls HE.out.inv HV.out hS t.job hclo (Z := fun _ => False) ⟨HE.out.inv, fun _ h => h, HP.out⟩).mono ?_
    rw [own1_holds hr]
    rintro e w3 ⟨Z3, J3, rfl, hs, hM, -⟩
    have hx := hM.toExt (fun _ h => h)
    have HV := Lib.hid (HV.out.mono (hx.le HE.out.inv))
    have HP := Lib.hid (HP.out.ext HE.out.inv hx)
    have HE := Lib.hid (HE.out.trans hx)
    clear hx hM hs hclo n0 n1 n2
    have n0 := HP.out.1.c0
    have n1 := HP.out.1.c1
    have n2 := HP.out.1.c2
    have hd : ((t.needs.length : Int) != t.needs.length) = false := by simp
    go_wp2_with fail
    clear n0 n1 n2 hd
    go_loopw [35] (fun iv wr => ∃ (j : Nat) (J' : Jm), j ≤ t.needs.length ∧ iv = .int .i64 j ∧ Hid (Ext J w J' wr) ∧ Hid (P1 t o tb ob (.slice An t.needs.length cn) (.slice Ao t.outs.length co) J' wr) ∧ Hid (TrV J' (.agg #[.string (strB t.job), .slice An t.needs.length cn, .slice Ao t.outs.length co]) t)) (fun iv _ => t.needs.length - (intOf iv).toNat)
    case atStart => exact ⟨0, J3, by omega, rfl, HE, HP, HV⟩
    case round =>
      clear HE HP HV
      obtain ⟨j, J', hj, rfl, HE, HP, HV⟩ := hrel
      by_cases hlt : j < t.needs.length
      · have i0 : (0 : Int) ≤ (j : Int) := by omega
        have i1 : (j : Int) < t.needs.length := by omega
        go_upto_region 11 with fail
        have hx := (Ext.refl HE.out.inv).alloc (.cells #[.int .i64 j] 3)
        have HP3 := Lib.hid (HP.out.ext HE.out.inv hx)
        have HP2 : Hid (P2 t j tb wr.heap.size (.slice An t.needs.length cn) (.slice Ao t.outs.length co) J' (wr.alloc (.cells #[.int .i64 j] 3))) := ⟨HP3.out.1, heap_alloc_new wr _, HP3.out.2.2⟩
        have HE := Lib.hid (HE.out.trans hx)
        clear hx HP
        generalize World.alloc wr _ = W3 at *
        generalize wr.heap.size = ib at HP2 ⊢
        have n0 := HP3.out.1.c0
        have n1 := HP3.out.1.c1
        have n2 := HP3.out.1.c2
        have m0 := blk_cell_J (show W3.heap[ib]? = some (.cells [.int .i64 j].toArray 3 (0, 0)) from HP2.out.2.1) 0 rfl
        go_wp2_with fail
        have hclo : Clo t.needs.length (fun k => (t.needs.getD k ⟨[], false, []⟩).path) (own2F j 0 t.needs) 17 #[.pointer (some ⟨tb, 0, none⟩), .pointer (some ⟨ib, 0, none⟩)] (Sless fun J w => P2 t j tb ib (.slice An t.needs.length cn) (.slice Ao t.outs.length co) J w ∧ P1 t o tb ob (.slice An t.needs.length cn) (.slice Ao t.outs.length co) J w) :=
          clo_of (enters_of Try.func17 (by kernel_rfl) rfl) (fun h hI e => ⟨h.1.ext hI e, h.2.ext hI e⟩) (fun k J w _ hI h => own2_calls hI h.1 hS (by omega) (by omega) _)
        refine (holds_calls HE.out.inv HV.out hS t.job hclo (Z := fun _ => False) ⟨HE.out.inv, fun _ h => h, HP2.out, HP3.out⟩).mono ?_
        rw [own2_holds hr hlt]
        rintro e w4 ⟨Z4, J4, rfl, hs, hM, -⟩
        have hx := hM.toExt (fun _ h => h)
        have HV := Lib.hid (HV.out.mono (hx.le HE.out.inv))
        have HP4 := Lib.hid hs.2.2
        have HE := Lib.hid (HE.out.trans hx)
        clear hx hM hs hclo n0 n1 n2 m0
        have m0 := blk_cell_J (show w4.heap[ib]? = some (.cells [.int .i64 j].toArray 3 (0, 0)) from HP4.out.1.2.1) 0 rfl
        have hd : ((j : Int) != j) = false := by simp
        go_wp2_with fail
        go_roundw
        case rel => exact ⟨j + 1, J4, by omega, by go_num, HE, HP4.out.2, HV⟩
        case measure => simp [intOf]; omega
      · obtain rfl : j = t.needs.length := by omega
        have hd : ¬ (t.needs.length : Int) < t.needs.length := by omega
        go_wp2_with fail
        go_ret
        exact ⟨rfl, HE.out.below⟩
end Go.Proofs.Ytldicbhjmjjfbaa