/- The walks of wire's cursor: Uint, Text, List, and the deferred way back. -/
import Derived.Test.YtldicbhjmjjfbaaWireD
import Derived.Recover
namespace Go.Proofs.Ytldicbhjmjjfbaa
open Go.RowKit

set_option maxHeartbeats 2000000 in
theorem back_no {w : World} {g : Nat} {pe : Addr} (at' : Int) (he : w.cell? pe = some (.int .i64 0)) :
    Calls Try.prog 49 #[.pointer (some ⟨g, 0, none⟩), .int .i64 at', .pointer (some pe)] w fun e w' => e = .returned (.tuple #[]) ∧ w' = w := by
  go_enter Try.func49, Try.ntmps49
  go_wp2
  go_end0
  exact ⟨rfl, rfl⟩
set_option maxHeartbeats 2000000 in
theorem back_yes {J : Jm} {w : World} {g : Nat} {s : List UInt8} {k : Nat} (hc : Cur J w g s k) {pe : Addr} (at' x : Int) (hx : x ≠ 0) (he : w.cell? pe = some (.int .i64 x)) :
    Calls Try.prog 49 #[.pointer (some ⟨g, 0, none⟩), .int .i64 at', .pointer (some pe)] w fun e w' => e = .returned (.tuple #[]) ∧ w' = w.setCell ⟨g, 1, none⟩ (.int .i64 at') := by
  have h1 := hc.c1
  have hf := hc.fz
  go_enter Try.func49, Try.ntmps49
  go_wp2
  go_end0
  exact ⟨rfl, rfl⟩
set_option maxHeartbeats 2000000 in
theorem closU_no {w : World} {g : Nat} {pc pa pe : Addr} (at' : Int) (hc : w.cell? pc = some (.pointer (some ⟨g, 0, none⟩))) (ha : w.cell? pa = some (.int .i64 at')) (he : w.cell? pe = some (.int .i64 0)) :
    CallsD Try.prog 55 #[.pointer (some pc), .pointer (some pa), .pointer (some pe)] .returning w fun e u w' => u = .returning ∧ e = .returned (.tuple #[]) ∧ w' = w := by
  go_enter_d Try.func55, Try.ntmps55
  go_wp2_with (go_at_call 49; go_must (refine (back_no at' he).mono ?_; rintro e w1 ⟨rfl, rfl⟩))
  go_end0
  exact ⟨rfl, rfl⟩
set_option maxHeartbeats 2000000 in
theorem closU_yes {J : Jm} {w : World} {g : Nat} {s : List UInt8} {k : Nat} (hC : Cur J w g s k) {pc pa pe : Addr} (at' x : Int) (hx : x ≠ 0) (hc : w.cell? pc = some (.pointer (some ⟨g, 0, none⟩))) (ha : w.cell? pa = some (.int .i64 at')) (he : w.cell? pe = some (.int .i64 x)) :
    CallsD Try.prog 55 #[.pointer (some pc), .pointer (some pa), .pointer (some pe)] .returning w fun e u w' => u = .returning ∧ e = .returned (.tuple #[]) ∧ w' = w.setCell ⟨g, 1, none⟩ (.int .i64 at') := by
  go_enter_d Try.func55, Try.ntmps55
  go_wp2_with (go_at_call 49; go_must (refine (back_yes hC at' x hx he).mono ?_; rintro e w1 ⟨rfl, rfl⟩))
  go_end0
  exact ⟨rfl, rfl⟩
set_option maxHeartbeats 2000000 in
theorem closT_no {w : World} {g : Nat} {pc pa pe : Addr} (at' : Int) (hc : w.cell? pc = some (.pointer (some ⟨g, 0, none⟩))) (ha : w.cell? pa = some (.int .i64 at')) (he : w.cell? pe = some (.int .i64 0)) :
    CallsD Try.prog 57 #[.pointer (some pc), .pointer (some pa), .pointer (some pe)] .returning w fun e u w' => u = .returning ∧ e = .returned (.tuple #[]) ∧ w' = w := by
  go_enter_d Try.func57, Try.ntmps57
  go_wp2_with (go_at_call 49; go_must (refine (back_no at' he).mono ?_; rintro e w1 ⟨rfl, rfl⟩))
  go_end0
  exact ⟨rfl, rfl⟩
set_option maxHeartbeats 2000000 in
theorem closT_yes {J : Jm} {w : World} {g : Nat} {s : List UInt8} {k : Nat} (hC : Cur J w g s k) {pc pa pe : Addr} (at' x : Int) (hx : x ≠ 0) (hc : w.cell? pc = some (.pointer (some ⟨g, 0, none⟩))) (ha : w.cell? pa = some (.int .i64 at')) (he : w.cell? pe = some (.int .i64 x)) :
    CallsD Try.prog 57 #[.pointer (some pc), .pointer (some pa), .pointer (some pe)] .returning w fun e u w' => u = .returning ∧ e = .returned (.tuple #[]) ∧ w' = w.setCell ⟨g, 1, none⟩ (.int .i64 at') := by
  go_enter_d Try.func57, Try.ntmps57
  go_wp2_with (go_at_call 49; go_must (refine (back_yes hC at' x hx he).mono ?_; rintro e w1 ⟨rfl, rfl⟩))
  go_end0
  exact ⟨rfl, rfl⟩
set_option maxHeartbeats 2000000 in
theorem closL_no {w : World} {g : Nat} {pc pa pe : Addr} (at' : Int) (hc : w.cell? pc = some (.pointer (some ⟨g, 0, none⟩))) (ha : w.cell? pa = some (.int .i64 at')) (he : w.cell? pe = some (.int .i64 0)) :
    CallsD Try.prog 48 #[.pointer (some pc), .pointer (some pa), .pointer (some pe)] .returning w fun e u w' => u = .returning ∧ e = .returned (.tuple #[]) ∧ w' = w := by
  go_enter_d Try.func48, Try.ntmps48
  go_wp2_with (go_at_call 49; go_must (refine (back_no at' he).mono ?_; rintro e w1 ⟨rfl, rfl⟩))
  go_end0
  exact ⟨rfl, rfl⟩
set_option maxHeartbeats 2000000 in
theorem closL_yes {J : Jm} {w : World} {g : Nat} {s : List UInt8} {k : Nat} (hC : Cur J w g s k) {pc pa pe : Addr} (at' x : Int) (hx : x ≠ 0) (hc : w.cell? pc = some (.pointer (some ⟨g, 0, none⟩))) (ha : w.cell? pa = some (.int .i64 at')) (he : w.cell? pe = some (.int .i64 x)) :
    CallsD Try.prog 48 #[.pointer (some pc), .pointer (some pa), .pointer (some pe)] .returning w fun e u w' => u = .returning ∧ e = .returned (.tuple #[]) ∧ w' = w.setCell ⟨g, 1, none⟩ (.int .i64 at') := by
  go_enter_d Try.func48, Try.ntmps48
  go_wp2_with (go_at_call 49; go_must (refine (back_yes hC at' x hx he).mono ?_; rintro e w1 ⟨rfl, rfl⟩))
  go_end0
  exact ⟨rfl, rfl⟩
def askU (l : List UInt8) (most : Nat) : Except Nat (Nat × Nat) :=
  match rdU l with
  | none => .error 7
  | some (n, c) => if most < n then .error 3 else .ok (n, c)
def AskP {α : Type} (v : α → Value) (z : Value) (r : Except Nat (α × Nat)) (k : Nat) (e : Ending) (k' : Nat) : Prop :=
  match r with
  | .error x => e = .returned (.tuple #[z, .int .i64 x]) ∧ k' = k
  | .ok (n, c) => e = .returned (.tuple #[v n, .int .i64 0]) ∧ k' = k + c
theorem AskP.err {α : Type} {v : α → Value} {z : Value} {r : Except Nat (α × Nat)} {x k : Nat} {e : Ending} (h : r = .error x) (he : e = .returned (.tuple #[z, .int .i64 x])) : AskP v z r k e k := by subst h; exact ⟨he, rfl⟩
theorem AskP.ok {α : Type} {v : α → Value} {z : Value} {r : Except Nat (α × Nat)} {n : α} {c k : Nat} {e : Ending} (h : r = .ok (n, c)) (he : e = .returned (.tuple #[v n, .int .i64 0])) : AskP v z r k e (k + c) := by subst h; exact ⟨he, rfl⟩
set_option maxHeartbeats 4000000 in
theorem Uint_nil (most : Nat) (w : World) {J : Jm} (hI : Inv J w) :
    Calls Try.prog 46 #[.pointer none, .int .u64 most] w fun e w' => e = .returned (.tuple #[.int .u64 0, .int .i64 1]) ∧ Ext J w J w' := by
  have hmf : ∀ (fn : Fn) (first cap : Array Value) (w : World), (Instr.makeFunc fn first cap).run Try.prog w = .ok (.func fn first cap) w := fun _ _ _ _ => rfl
  go_enter_defers Try.func46, Try.ntmps46
  go_wp2
  simp [bodyPostD, Leaves, results, Try.results46, go_sem]
  exact ((Ext.refl hI).alloc _).alloc _
abbrev box3 (w : World) (T1 T2 T3 : TypeId) (v1 v2 v3 : Value) : World := ((w.alloc (.cells #[v1] T1)).alloc (.cells #[v2] T2)).alloc (.cells #[v3] T3)
theorem box3_facts {J J1 : Jm} {w w1 : World} (hI : Inv J w) {g : Nat} (hg : g < w.heap.size) (T1 T2 T3 : TypeId) (v1 v2 v3 : Value)
    (h : Mv (· = g) J (box3 w T1 T2 T3 v1 v2 v3) J1 w1) :
    w1.cell? ⟨w.heap.size, 0, none⟩ = some v1 ∧ w1.cell? ⟨w.heap.size + 1, 0, none⟩ = some v2 ∧ w1.frozen? ⟨w.heap.size + 1, 0, none⟩ = false ∧ w1.cell? ⟨w.heap.size + 2, 0, none⟩ = some v3 ∧
      Mv (· = g) J w J1 w1 ∧ J1 (w.heap.size + 1) = [] := by
  have hE := (((Ext.refl hI).alloc (.cells #[v1] T1)).alloc (.cells #[v2] T2)).alloc (.cells #[v3] T3)
  have hsz : (box3 w T1 T2 T3 v1 v2 v3).heap.size = w.heap.size + 3 := by simp
  refine ⟨h.cell ?_ ?_ ?_, h.cell ?_ ?_ ?_, h.frozen ?_ ?_ ?_, h.cell ?_ ?_ ?_, (hE.mv _).then h, ?_⟩
  · simp [go_sem]
  · rw [hsz]; show w.heap.size < _; omega
  · show ¬ w.heap.size = g; omega
  · simp [go_sem]
  · rw [hsz]; show w.heap.size + 1 < _; omega
  · show ¬ w.heap.size + 1 = g; omega
  · simp [go_sem]
  · rw [hsz]; show w.heap.size + 1 < _; omega
  · show ¬ w.heap.size + 1 = g; omega
  · simp [go_sem]
  · rw [hsz]; show w.heap.size + 2 < _; omega
  · show ¬ w.heap.size + 2 = g; omega
  · rw [h.old _ (by rw [hsz]; omega)]; exact hI.nil (by omega)
theorem Mv.lift {g b : Nat} {J J1 : Jm} {w w1 : World} (h : Mv (· = g) J w J1 w1) (hb : w.heap.size ≤ b) (hJ : J1 b = []) (v : Value) : Mv (· = g) J w J1 (w1.setCell ⟨b, 0, none⟩ v) :=
  h.setCell (fun hlt => by exact absurd hlt (by show ¬ b < _; omega)) hJ v
theorem Cur.store {J : Jm} {w : World} {g : Nat} {s : List UInt8} {k : Nat} (h : Cur J w g s k) {p : Addr} (hp : p.block ≠ g) (v : Value) : Cur J (w.setCell p v) g s k :=
  ⟨(Below.heap_setCell w p v g (fun e => hp e.symm)).trans h.1, h.2⟩
set_option maxHeartbeats 4000000 in
theorem Uint_calls {J : Jm} {w : World} (hI : Inv J w) {g : Nat} {s : List UInt8} {k : Nat} (hc : Cur J w g s k) (most : Nat) (_hmost : most < 18446744073709551616) :
    Calls Try.prog 46 #[.pointer (some ⟨g, 0, none⟩), .int .u64 most] w fun e w' => ∃ k', AskP (fun n : Nat => .int .u64 n) (.int .u64 0) (askU (s.drop k) most) k e k' ∧
      Mv (· = g) J w J w' ∧ Cur J w' g s k' := by
  have hmf : ∀ (fn : Fn) (first cap : Array Value) (w : World), (Instr.makeFunc fn first cap).run Try.prog w = .ok (.func fn first cap) w := fun _ _ _ _ => rfl
  have hg := hc.lt
  have hE := (((Ext.refl hI).alloc (.cells #[.pointer (some ⟨g, 0, none⟩)] 52)).alloc (.cells #[.int .i64 0] 27)).alloc (.cells #[.int .i64 (k : Int)] 3)
  have HC := Lib.hid (hc.ext hE)
  have hks := hc.2.2.1
  have h1 : ((w.alloc (.cells #[.pointer (some ⟨g, 0, none⟩)] 52)).alloc (.cells #[.int .i64 0] 27)).cell? ⟨g, 1, none⟩ = some (.int .i64 k) := (hc.ext (((Ext.refl hI).alloc _).alloc _)).c1
  clear hc
  go_enter_defers Try.func46, Try.ntmps46
  cases hr : rdU (s.drop k) with
  | none =>
    have HP : Hid (askU (s.drop k) most = .error 7) := by rw [Hid]; unfold askU; rw [hr]
    go_wp2_with (go_at_call 56; go_must (refine (uint_calls hE.inv HC.out).mono ?_; rw [hr]; rintro e w1 ⟨k', ⟨rfl, hk⟩, hM, hC⟩; have hk := hk.symm; subst hk; obtain ⟨f0, f1, f2, f3, f4, f5⟩ := box3_facts hI hg _ _ _ _ _ _ hM; have HM := Lib.hid f4; have HC1 := Lib.hid hC; have HJ := Lib.hid f5; clear hM hC f4 f5))
    refine leaves_cons (f := 55) (args := #[.pointer (some ⟨w.heap.size, 0, none⟩), .pointer (some ⟨w.heap.size + 2, 0, none⟩), .pointer (some ⟨w.heap.size + 1, 0, none⟩)]) (by simp) (by simp [go_sem]) ?_
    refine (closU_yes (J := J) (HC1.out.store (by show w.heap.size + 1 ≠ g; omega) _) k 7 (by first | decide | exact hx0) ?_ ?_ ?_).mono ?_
    · simp [go_sem, f0]
    · simp [go_sem, f3]
    · simp [go_sem, f1]
    rintro e u w2 ⟨rfl, rfl, rfl⟩
    simp [Leaves, settle, results, Try.results46, go_sem, f1]
    exact ⟨k, AskP.err HP.out rfl, (HM.out.lift (by omega) HJ.out _).setCell (fun _ => rfl) HC1.out.2.1 _, (HC1.out.store (by show w.heap.size + 1 ≠ g; omega) _).set k hks⟩
  | some nc =>
    obtain ⟨n, c⟩ := nc
    have HN := Lib.hid (show n < 18446744073709551616 from (rdU_le hr).2.2.2.1)
    by_cases hlt : most < n
    · have HP : Hid (askU (s.drop k) most = .error 3) := by rw [Hid]; unfold askU; rw [hr]; exact if_pos hlt
      go_wp2_with (go_at_call 56; go_must (refine (uint_calls hE.inv HC.out).mono ?_; rw [hr]; rintro e w1 ⟨k', ⟨rfl, hk⟩, hM, hC⟩; have hk := hk.symm; subst hk; obtain ⟨f0, f1, f2, f3, f4, f5⟩ := box3_facts hI hg _ _ _ _ _ _ hM; have HM := Lib.hid f4; have HC1 := Lib.hid hC; have HJ := Lib.hid f5; clear hM hC f4 f5))
      refine leaves_cons (f := 55) (args := #[.pointer (some ⟨w.heap.size, 0, none⟩), .pointer (some ⟨w.heap.size + 2, 0, none⟩), .pointer (some ⟨w.heap.size + 1, 0, none⟩)]) (by simp) (by simp [go_sem]) ?_
      refine (closU_yes (J := J) (HC1.out.store (by show w.heap.size + 1 ≠ g; omega) _) k 3 (by first | decide | exact hx0) ?_ ?_ ?_).mono ?_
      · simp [go_sem, f0]
      · simp [go_sem, f3]
      · simp [go_sem, f1]
      rintro e u w2 ⟨rfl, rfl, rfl⟩
      simp [Leaves, settle, results, Try.results46, go_sem, f1]
      exact ⟨k, AskP.err HP.out rfl, (HM.out.lift (by omega) HJ.out _).setCell (fun _ => rfl) HC1.out.2.1 _, (HC1.out.store (by show w.heap.size + 1 ≠ g; omega) _).set k hks⟩
    · have HP : Hid (askU (s.drop k) most = .ok (n, c)) := by rw [Hid]; unfold askU; rw [hr]; exact if_neg hlt
      go_wp2_with (go_at_call 56; go_must (refine (uint_calls hE.inv HC.out).mono ?_; rw [hr]; rintro e w1 ⟨k', ⟨rfl, hk⟩, hM, hC⟩; have hk := hk.symm; subst hk; obtain ⟨f0, f1, f2, f3, f4, f5⟩ := box3_facts hI hg _ _ _ _ _ _ hM; have HM := Lib.hid f4; have HC1 := Lib.hid hC; have HJ := Lib.hid f5; clear hM hC f4 f5))
      refine leaves_cons (f := 55) (args := #[.pointer (some ⟨w.heap.size, 0, none⟩), .pointer (some ⟨w.heap.size + 2, 0, none⟩), .pointer (some ⟨w.heap.size + 1, 0, none⟩)]) (by simp) (by simp [go_sem]) ?_
      refine (closU_no (g := g) k ?_ ?_ ?_).mono ?_
      · simp [go_sem, f0]
      · simp [go_sem, f3]
      · simp [go_sem, f1]
      rintro e u w2 ⟨rfl, rfl, rfl⟩
      simp [Leaves, settle, results, Try.results46, go_sem, f1]
      exact ⟨k + c, AskP.ok HP.out rfl, HM.out.lift (by omega) HJ.out _, HC1.out.store (by show w.heap.size + 1 ≠ g; omega) _⟩

theorem cnt_err {l : List UInt8} {most : Int} {x : Nat} (h : cnt l most = .error x) : (x : Int) ≠ 0 := by
  unfold cnt at h
  split at h
  · simp only [Except.error.injEq] at h; omega
  · split at h
    · simp only [Except.error.injEq] at h; omega
    · split at h
      · simp only [Except.error.injEq] at h; omega
      · cases h
theorem strB_extract (s : List UInt8) {k c n : Nat} (_h : k + c + n ≤ s.length) : (strB s).extract (k + c) (k + c + n) = strB (((s.drop k).drop c).take n) := by
  have h1 : ((strB s).extract (k + c) (k + c + n)).data.toList = ((s.drop k).drop c).take n := by
    rw [ByteArray.data_extract]
    simp [strB, List.drop_drop]
  rw [← h1, strB_of]
theorem Text_nil (most : Int) (w : World) {J : Jm} (hI : Inv J w) :
    Calls Try.prog 47 #[.pointer none, .int .i64 most] w fun e w' => e = .returned (.tuple #[.string (strB []), .int .i64 1]) ∧ Ext J w J w' := by
  have hmf : ∀ (fn : Fn) (first cap : Array Value) (w : World), (Instr.makeFunc fn first cap).run Try.prog w = .ok (.func fn first cap) w := fun _ _ _ _ => rfl
  go_enter_defers Try.func47, Try.ntmps47
  go_wp2
  simp [bodyPostD, Leaves, results, Try.results47, go_sem]
  exact ⟨rfl, ((Ext.refl hI).alloc _).alloc _⟩
set_option maxHeartbeats 4000000 in
theorem Text_calls {J : Jm} {w : World} (hI : Inv J w) {g : Nat} {s : List UInt8} {k : Nat} (hc : Cur J w g s k) (most : Int) (hm1 : -9223372036854775808 ≤ most) (hm2 : most ≤ 9223372036854775807) :
    Calls Try.prog 47 #[.pointer (some ⟨g, 0, none⟩), .int .i64 most] w fun e w' => ∃ k', AskP (fun l => .string (strB l)) (.string (strB [])) (rdT (s.drop k) most) k e k' ∧
      Mv (· = g) J w J w' ∧ Cur J w' g s k' := by
  have hmf : ∀ (fn : Fn) (first cap : Array Value) (w : World), (Instr.makeFunc fn first cap).run Try.prog w = .ok (.func fn first cap) w := fun _ _ _ _ => rfl
  have hg := hc.lt
  have hE := (((Ext.refl hI).alloc (.cells #[.pointer (some ⟨g, 0, none⟩)] 52)).alloc (.cells #[.int .i64 0] 27)).alloc (.cells #[.int .i64 (k : Int)] 3)
  have HC := Lib.hid (hc.ext hE)
  have hks := hc.2.2.1
  have h1 : ((w.alloc (.cells #[.pointer (some ⟨g, 0, none⟩)] 52)).alloc (.cells #[.int .i64 0] 27)).cell? ⟨g, 1, none⟩ = some (.int .i64 k) := (hc.ext (((Ext.refl hI).alloc _).alloc _)).c1
  clear hc
  go_enter_defers Try.func47, Try.ntmps47
  cases hr : cnt (s.drop k) most with
  | error x =>
    have hx0 : (x : Int) ≠ 0 := cnt_err hr
    have HP : Hid (rdT (s.drop k) most = .error x) := by rw [Hid]; unfold rdT; rw [hr]
    go_wp2_with (go_at_call 50; go_must (refine (count_calls hE.inv HC.out most hm1 hm2).mono ?_; rw [hr]; rintro e w1 ⟨k', rfl, hM, hC⟩; obtain ⟨f0, f1, f2, f3, f4, f5⟩ := box3_facts hI hg _ _ _ _ _ _ hM; have HM := Lib.hid f4; have HC1 := Lib.hid hC; have HJ := Lib.hid f5; clear hM hC f4 f5; skip))
    have HM2 := Lib.hid (HM.out.lift (b:=w.heap.size+1) (by omega) HJ.out (.int .i64 x))
    have HC2 := Lib.hid (HC1.out.store (p:=⟨w.heap.size+1,0,none⟩) (by show w.heap.size + 1 ≠ g; omega) (.int .i64 x))
    have g0 : (w1.setCell ⟨w.heap.size+1,0,none⟩ (.int .i64 (x : Int))).cell? ⟨w.heap.size, 0, none⟩ = some (.pointer (some ⟨g, 0, none⟩)) := by simp [go_sem, f0]
    have g1 : (w1.setCell ⟨w.heap.size+1,0,none⟩ (.int .i64 (x : Int))).cell? ⟨w.heap.size + 1, 0, none⟩ = some (.int .i64 x) := by simp [go_sem, f1]
    have g2 : (w1.setCell ⟨w.heap.size+1,0,none⟩ (.int .i64 (x : Int))).frozen? ⟨w.heap.size + 1, 0, none⟩ = false := by simp [go_sem, f2]
    have g3 : (w1.setCell ⟨w.heap.size+1,0,none⟩ (.int .i64 (x : Int))).cell? ⟨w.heap.size + 2, 0, none⟩ = some (.int .i64 k) := by simp [go_sem, f3]
    clear HM HC1 f0 f1 f2 f3
    generalize w1.setCell ⟨w.heap.size+1,0,none⟩ (.int .i64 (x : Int)) = w2 at *
    go_still_tail 2, (by kernel_rfl)
    change wpList _ _ _ _ _ w2.drew
    have HM := Lib.hid HM2.out.drew
    have HC1 : Hid (Cur J w2.drew g s k') := HC2
    have f0 : w2.drew.cell? ⟨w.heap.size, 0, none⟩ = some (.pointer (some ⟨g, 0, none⟩)) := g0
    have f1 : w2.drew.cell? ⟨w.heap.size + 1, 0, none⟩ = some (.int .i64 x) := g1
    have f2 : w2.drew.frozen? ⟨w.heap.size + 1, 0, none⟩ = false := g2
    have f3 : w2.drew.cell? ⟨w.heap.size + 2, 0, none⟩ = some (.int .i64 k) := g3
    clear HM2 HC2 g0 g1 g2 g3
    generalize w2.drew = w4 at *
    go_wp2
    refine leaves_cons (f := 57) (args := #[.pointer (some ⟨w.heap.size, 0, none⟩), .pointer (some ⟨w.heap.size + 2, 0, none⟩), .pointer (some ⟨w.heap.size + 1, 0, none⟩)]) (by simp) (by simp [go_sem]) ?_
    refine (closT_yes (J := J) (HC1.out.store (by show w.heap.size + 1 ≠ g; omega) _) k x (by first | decide | exact hx0) ?_ ?_ ?_).mono ?_
    · simp [go_sem, f0]
    · simp [go_sem, f3]
    · simp [go_sem, f1]
    rintro e u w2 ⟨rfl, rfl, rfl⟩
    simp [Leaves, settle, results, Try.results47, go_sem, f1]
    exact ⟨k, AskP.err HP.out rfl, (HM.out.lift (by omega) HJ.out _).setCell (fun _ => rfl) HC1.out.2.1 _, (HC1.out.store (by show w.heap.size + 1 ≠ g; omega) _).set k hks⟩
  | ok nc =>
    obtain ⟨n, c⟩ := nc
    have hcn := cnt_ok hr
    have hn1 : n < 18446744073709551616 := (rdU_le hcn.1).2.2.2.1
    have hsl : s.length ≤ 9223372036854775807 := HC.out.2.2.2
    have hkn : k + c + n ≤ s.length := by have h1 := hcn.2.2; have h2 := List.length_drop (i := k) (l := s); have h3 := (rdU_le hcn.1).2.2.1; omega
    clear hcn
    go_wp2_with (go_at_call 50; go_must (refine (count_calls hE.inv HC.out most hm1 hm2).mono ?_; rw [hr]; rintro e w1 ⟨k', ⟨rfl,hk⟩, hM, hC⟩; obtain ⟨f0, f1, f2, f3, f4, f5⟩ := box3_facts hI hg _ _ _ _ _ _ hM; have HM := Lib.hid f4; have HC1 := Lib.hid hC; have HJ := Lib.hid f5; clear hM hC f4 f5; (have hk:=hk.symm;subst hk;have c1:=(HC1.out.store (p:=⟨w.heap.size+1,0,none⟩) (by show w.heap.size+1≠g;omega) (.int .i64 0)).c1;have cf:=(HC1.out.store (p:=⟨w.heap.size+1,0,none⟩) (by show w.heap.size+1≠g;omega) (.int .i64 0)).fz)))
    have HS := Lib.hid (strB_size s)
    have HM2 := Lib.hid ((HM.out.lift (b := w.heap.size + 1) (by omega) HJ.out (.int .i64 0)).setCell (p := ⟨g, 1, none⟩) (fun _ => rfl) HC1.out.2.1 (.int .i64 ((k : Int) + c + n)))
    have hs := (HC1.out.store (p := ⟨w.heap.size + 1, 0, none⟩) (by show w.heap.size + 1 ≠ g; omega) (.int .i64 0)).set (k + c + n) hkn
    push_cast at hs
    have HC2 := Lib.hid hs
    have g0 : ((w1.setCell ⟨w.heap.size + 1, 0, none⟩ (.int .i64 0)).setCell ⟨g, 1, none⟩ (.int .i64 ((k : Int) + c + n))).cell? ⟨w.heap.size, 0, none⟩ = some (.pointer (some ⟨g, 0, none⟩)) := by simp [go_sem, f0]
    have g1 : ((w1.setCell ⟨w.heap.size + 1, 0, none⟩ (.int .i64 0)).setCell ⟨g, 1, none⟩ (.int .i64 ((k : Int) + c + n))).cell? ⟨w.heap.size + 1, 0, none⟩ = some (.int .i64 0) := by simp [go_sem, f1]
    have g2 : ((w1.setCell ⟨w.heap.size + 1, 0, none⟩ (.int .i64 0)).setCell ⟨g, 1, none⟩ (.int .i64 ((k : Int) + c + n))).frozen? ⟨w.heap.size + 1, 0, none⟩ = false := by simp [go_sem, f2]
    have g3 : ((w1.setCell ⟨w.heap.size + 1, 0, none⟩ (.int .i64 0)).setCell ⟨g, 1, none⟩ (.int .i64 ((k : Int) + c + n))).cell? ⟨w.heap.size + 2, 0, none⟩ = some (.int .i64 k) := by simp [go_sem, f3]
    clear HM HC1 f0 f1 f2 f3 hs c1 cf
    generalize ((w1.setCell ⟨w.heap.size + 1, 0, none⟩ (.int .i64 0)).setCell ⟨g, 1, none⟩ (.int .i64 ((k : Int) + c + n))) = w2 at *
    have c1 := HC2.out.c1
    have c0 := HC2.out.c0
    push_cast at c1
    have HX : Hid ((strB s).extract (k + c) (k + c + n) = strB (((s.drop k).drop c).take n)) := strB_extract s hkn
    have e5 : IntKind.i64.wrap ((k : Int) + c) = (k : Int) + c := by rw [IntKind.wrap_i64]; omega
    have i0 : (0 : Int) ≤ (k : Int) + c := by omega
    have i1 : (k : Int) + c ≤ (k : Int) + c + n := by omega
    have i2 : (k : Int) + c + n ≤ s.length := by omega
    have t1 : ((k : Int) + c).toNat = k + c := by omega
    have t2 : ((k : Int) + c + n).toNat = k + c + n := by omega
    go_still_tail 16, (by kernel_rfl)
    change wpList _ _ _ _ _ w2.drew
    have HM := Lib.hid HM2.out.drew
    have HC1 : Hid (Cur J w2.drew g s (k + c + n)) := HC2
    have f0 : w2.drew.cell? ⟨w.heap.size, 0, none⟩ = some (.pointer (some ⟨g, 0, none⟩)) := g0
    have f1 : w2.drew.cell? ⟨w.heap.size + 1, 0, none⟩ = some (.int .i64 0) := g1
    have f2 : w2.drew.frozen? ⟨w.heap.size + 1, 0, none⟩ = false := g2
    have f3 : w2.drew.cell? ⟨w.heap.size + 2, 0, none⟩ = some (.int .i64 k) := g3
    have HP : Hid (rdT (s.drop k) most = .ok (((s.drop k).drop c).take n, c + n)) := by rw [Hid]; unfold rdT; rw [hr]
    clear HM2 HC2 g0 g1 g2 g3 c1 c0
    generalize w2.drew = w4 at *
    go_wp2
    refine leaves_cons (f := 57) (args := #[.pointer (some ⟨w.heap.size, 0, none⟩), .pointer (some ⟨w.heap.size + 2, 0, none⟩), .pointer (some ⟨w.heap.size + 1, 0, none⟩)]) (by simp) (by simp [go_sem]) ?_
    refine (closT_no (g := g) k ?_ ?_ ?_).mono ?_
    · simp [go_sem, f0]
    · simp [go_sem, f3]
    · simp [go_sem, f1]
    rintro e u w2 ⟨rfl, rfl, rfl⟩
    simp [Leaves, settle, results, Try.results47, go_sem, f1]
    refine ⟨k + (c + n), AskP.ok HP.out (by rw [HX.out]), HM.out.lift (by omega) HJ.out _, ?_⟩
    rw [← Nat.add_assoc]
    exact HC1.out.store (by show w.heap.size + 1 ≠ g; omega) _
end Go.Proofs.Ytldicbhjmjjfbaa
