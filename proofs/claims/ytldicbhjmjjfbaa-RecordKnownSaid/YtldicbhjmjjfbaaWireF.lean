/- The walk of wire's List. -/
import Derived.Test.YtldicbhjmjjfbaaWireE
namespace Go.Proofs.Ytldicbhjmjjfbaa
open Go.RowKit

def ListP (J : Jm) (r : Except Nat (List (List UInt8) × Nat)) (k : Nat) (e : Ending) (k' : Nat) : Prop :=
  match r with
  | .error x => e = .returned (.tuple #[.slice none 0 0, .int .i64 x]) ∧ k' = k
  | .ok (ts, c) => (∃ v, e = .returned (.tuple #[v, .int .i64 0]) ∧ Ss J v ts) ∧ k' = k + c
theorem ListP.err {J : Jm} {r : Except Nat (List (List UInt8) × Nat)} {x k : Nat} {e : Ending} (h : r = .error x) (he : e = .returned (.tuple #[.slice none 0 0, .int .i64 x])) : ListP J r k e k := by subst h; exact ⟨he, rfl⟩
theorem ListP.ok {J : Jm} {r : Except Nat (List (List UInt8) × Nat)} {ts : List (List UInt8)} {c k : Nat} {e : Ending} {v : Value} (h : r = .ok (ts, c)) (he : e = .returned (.tuple #[v, .int .i64 0])) (hs : Ss J v ts) : ListP J r k e (k + c) := by subst h; exact ⟨⟨v, he, hs⟩, rfl⟩
def comb (ts : List (List UInt8)) (p : Nat) : Except Nat (List (List UInt8) × Nat) → Except Nat (List (List UInt8) × Nat)
  | .error e => .error e
  | .ok (r, m) => .ok (ts ++ r, p + m)
theorem comb_zero (r : Except Nat (List (List UInt8) × Nat)) : r = comb [] 0 r := by cases r <;> simp [comb]
theorem rdTs_step (m : Nat) (l : List UInt8) (longest : Int) (ts : List (List UInt8)) (p : Nat) {t : List UInt8} {d : Nat} (h : rdT l longest = .ok (t, d)) :
    comb ts p (rdTs (m + 1) l longest) = comb (ts ++ [t]) (p + d) (rdTs m (l.drop d) longest) := by
  rw [rdTs, h]
  simp only []
  cases rdTs m (l.drop d) longest with
  | error e => rfl
  | ok x => obtain ⟨r, q⟩ := x; simp [comb, Nat.add_assoc]
theorem rdTs_stop (m : Nat) (l : List UInt8) (longest : Int) (ts : List (List UInt8)) (p : Nat) {x : Nat} (h : rdT l longest = .error x) :
    comb ts p (rdTs (m + 1) l longest) = .error x := by rw [rdTs, h]; rfl
theorem rdT_err {l : List UInt8} {most : Int} {x : Nat} (h : rdT l most = .error x) : (x : Int) ≠ 0 := by
  unfold rdT at h
  split at h
  · rename_i e he
    simp only [Except.error.injEq] at h; subst h; exact cnt_err he
  · cases h
structure Boxes (J : Jm) (w : World) (z g k : Nat) (e : Int) : Prop where
  c0 : w.cell? ⟨z, 0, none⟩ = some (.pointer (some ⟨g, 0, none⟩))
  c1 : w.cell? ⟨z + 1, 0, none⟩ = some (.int .i64 e)
  f1 : w.frozen? ⟨z + 1, 0, none⟩ = false
  c2 : w.cell? ⟨z + 2, 0, none⟩ = some (.int .i64 (k : Int))
  hJ : J (z + 1) = []
  sz : z + 3 ≤ w.heap.size
  lt : g < z
theorem Boxes.kept {J J' : Jm} {w w' : World} {z g k : Nat} {e : Int} (h : Boxes J w z g k e) (hk : Kept (z + 3) J w J' w') : Boxes J' w' z g k e :=
  ⟨hk.cell h.c0 (by show z < _; omega), hk.cell h.c1 (by show z + 1 < _; omega), hk.frozen h.f1 (by show z + 1 < _; omega), hk.cell h.c2 (by show z + 2 < _; omega),
    (hk.2 _ (by omega)).2.trans h.hJ, Nat.le_trans h.sz hk.1, h.lt⟩
theorem Boxes.mv {J J' : Jm} {w w' : World} {z g k : Nat} {e : Int} (h : Boxes J w z g k e) (hm : Mv (· = g) J w J' w') : Boxes J' w' z g k e := by
  have h1 := h.sz; have h2 := h.lt
  exact ⟨hm.cell h.c0 (by show z < _; omega) (by show ¬ z = g; omega), hm.cell h.c1 (by show z + 1 < _; omega) (by show ¬ z + 1 = g; omega),
    hm.frozen h.f1 (by show z + 1 < _; omega) (by show ¬ z + 1 = g; omega), hm.cell h.c2 (by show z + 2 < _; omega) (by show ¬ z + 2 = g; omega),
    (hm.old _ (by omega)).trans h.hJ, Nat.le_trans h.sz hm.size, h.lt⟩
theorem Boxes.put {J : Jm} {w : World} {z g k : Nat} {e : Int} (h : Boxes J w z g k e) (x : Int) : Boxes J (w.setCell ⟨z + 1, 0, none⟩ (.int .i64 x)) z g k x :=
  ⟨by simp [go_sem, h.c0], by simp [go_sem, h.c1], by simp [go_sem, h.f1], by simp [go_sem, h.c2], h.hJ, by simpa using h.sz, h.lt⟩
theorem Cur.kept {J J' : Jm} {w w' : World} {g B : Nat} {s : List UInt8} {k : Nat} (h : Cur J w g s k) (hk : Kept B J w J' w') (hg : g < B) : Cur J' w' g s k :=
  ⟨(hk.2 g hg).1.trans h.1, (hk.2 g hg).2.trans h.2.1, h.2.2⟩
theorem box3_boxes {J J1 : Jm} {w w1 : World} (hI : Inv J w) {g k : Nat} (hg : g < w.heap.size) {T1 T2 T3 : TypeId} {e : Int}
    (h : Mv (· = g) J (box3 w T1 T2 T3 (.pointer (some ⟨g, 0, none⟩)) (.int .i64 e) (.int .i64 (k : Int))) J1 w1) : Boxes J1 w1 w.heap.size g k e ∧ Mv (· = g) J w J1 w1 := by
  obtain ⟨f0, f1, f2, f3, f4, f5⟩ := box3_facts hI hg _ _ _ _ _ _ h
  exact ⟨⟨f0, f1, f2, f3, f5, by have := h.size; simp [box3] at this; omega, hg⟩, f4⟩
theorem Mv.box {g k : Nat} {e : Int} {J J1 : Jm} {w w1 : World} (h : Mv (· = g) J w J1 w1) (hb : Boxes J1 w1 w.heap.size g k e) (v : Value) : Mv (· = g) J w J1 (w1.setCell ⟨w.heap.size + 1, 0, none⟩ v) :=
  h.lift (by omega) hb.hJ v
set_option maxHeartbeats 2000000 in
theorem List_nil (most longest : Int) (w : World) {J : Jm} (hI : Inv J w) :
    Calls Try.prog 31 #[.pointer none, .int .i64 most, .int .i64 longest] w fun e w' => e = .returned (.tuple #[.slice none 0 0, .int .i64 1]) ∧ Ext J w J w' := by
  have hmf : ∀ (fn : Fn) (first cap : Array Value) (w : World), (Instr.makeFunc fn first cap).run Try.prog w = .ok (.func fn first cap) w := fun _ _ _ _ => rfl
  go_enter_defers Try.func31, Try.ntmps31
  go_wp2
  simp [bodyPostD, Leaves, results, Try.results31, go_sem]
  exact ((Ext.refl hI).alloc _).alloc _
set_option maxHeartbeats 4000000 in
theorem List_callsM {J : Jm} {w : World} (hI : Inv J w) {g : Nat} {s : List UInt8} {k : Nat} (hc : Cur J w g s k) (most longest : Int) (hs43 : s.length ≤ 8796093022208 ∨ most ≤ 8796093022208) (hm1 : -9223372036854775808 ≤ most) (hm2 : most ≤ 9223372036854775807) (hl1 : -9223372036854775808 ≤ longest) (hl2 : longest ≤ 9223372036854775807) :
    Calls Try.prog 31 #[.pointer (some ⟨g, 0, none⟩), .int .i64 most, .int .i64 longest] w fun e w' => ∃ k' J', ListP J' (rdL (s.drop k) most longest) k e k' ∧
      Mv (· = g) J w J' w' ∧ Cur J' w' g s k' := by
  have hmf : ∀ (fn : Fn) (first cap : Array Value) (w : World), (Instr.makeFunc fn first cap).run Try.prog w = .ok (.func fn first cap) w := fun _ _ _ _ => rfl
  have hg := hc.lt
  have hE := (((Ext.refl hI).alloc (.cells #[.pointer (some ⟨g, 0, none⟩)] 52)).alloc (.cells #[.int .i64 0] 27)).alloc (.cells #[.int .i64 (k : Int)] 3)
  have HC := Lib.hid (hc.ext hE)
  have hks := hc.2.2.1
  have h1 : ((w.alloc (.cells #[.pointer (some ⟨g, 0, none⟩)] 52)).alloc (.cells #[.int .i64 0] 27)).cell? ⟨g, 1, none⟩ = some (.int .i64 k) := (hc.ext (((Ext.refl hI).alloc _).alloc _)).c1
  clear hc
  go_enter_defers Try.func31, Try.ntmps31
  cases hr : cnt (s.drop k) most with
  | error x =>
    have hx0 : (x : Int) ≠ 0 := cnt_err hr
    have HP : Hid (rdL (s.drop k) most longest = .error x) := by rw [Hid]; unfold rdL; rw [hr]
    go_wp2_with (go_at_call 50; go_must (refine (count_calls hE.inv HC.out most hm1 hm2).mono ?_; rw [hr]; rintro e w1 ⟨k', rfl, hM, hC⟩; obtain ⟨hB, hM⟩ := box3_boxes hI hg hM; have HM := Lib.hid hM; have HC1 := Lib.hid hC; have HB := Lib.hid hB; have c0 := hB.c0; have c1 := hB.c1; have f1 := hB.f1; clear hM hC hB; skip))
    have hC2 := HC1.out.store (p := ⟨w.heap.size + 1, 0, none⟩) (by show w.heap.size + 1 ≠ g; omega) (.int .i64 x)
    have hB2 := HB.out.put x
    have hM2 := HM.out.box HB.out (.int .i64 x)
    have HC2 := Lib.hid hC2
    have HB2 := Lib.hid hB2
    have HM2 := Lib.hid hM2
    have g1 := hB2.c1
    have g2 := hB2.f1
    clear HM HC1 HB c0 c1 f1 hC2 hB2 hM2
    generalize w1.setCell ⟨w.heap.size + 1, 0, none⟩ (.int .i64 (x : Int)) = w2 at *
    go_still_tail 2, (by kernel_rfl)
    change wpList _ _ _ _ _ w2.drew
    have HM := Lib.hid HM2.out.drew
    have HC3 : Hid (Cur J w2.drew g s k') := HC2
    have HB3 : Hid (Boxes J w2.drew w.heap.size g k x) := ⟨HB2.out.c0, HB2.out.c1, HB2.out.f1, HB2.out.c2, HB2.out.hJ, HB2.out.sz, HB2.out.lt⟩
    have g3 := HB3.out.c1
    have g4 := HB3.out.f1
    clear HM2 HC2 HB2 g1 g2
    generalize w2.drew = w4 at *
    go_wp2
    refine leaves_cons (f := 48) (args := #[.pointer (some ⟨w.heap.size, 0, none⟩), .pointer (some ⟨w.heap.size + 2, 0, none⟩), .pointer (some ⟨w.heap.size + 1, 0, none⟩)]) (by simp) (by simp [go_sem]) ?_
    refine (closL_yes (HC3.out.store (by show w.heap.size + 1 ≠ g; omega) (.int .i64 (x : Int))) k x hx0 (HB3.out.put x).c0 (HB3.out.put x).c2 (HB3.out.put x).c1).mono ?_
    rintro e u w9 ⟨rfl, rfl, rfl⟩
    have hpc := (HB3.out.put x).c1
    simp [Leaves, settle, results, Try.results31, go_sem, hpc]
    exact ⟨k, J, ListP.err HP.out rfl, (HM.out.box HB3.out _).setCell (fun _ => rfl) HC3.out.2.1 _, (HC3.out.store (by show w.heap.size + 1 ≠ g; omega) _).set k hks⟩
  | ok nc =>
    obtain ⟨n, c⟩ := nc
    have hcn := cnt_ok hr
    have hn1 : n < 18446744073709551616 := (rdU_le hcn.1).2.2.2.1
    have hsl : s.length ≤ 9223372036854775807 := HC.out.2.2.2
    have hkn : k + c + n ≤ s.length := by have h1 := hcn.2.2; have h2 := List.length_drop (i := k) (l := s); have h3 := (rdU_le hcn.1).2.2.1; omega
    have hn43 : n ≤ 8796093022208 := by have := hcn.2.1; omega
    clear hcn hs43
    go_wp2_with (go_at_call 50; go_must (refine (count_calls hE.inv HC.out most hm1 hm2).mono ?_; rw [hr]; rintro e w1 ⟨k', ⟨rfl,hk⟩, hM, hC⟩; obtain ⟨hB, hM⟩ := box3_boxes hI hg hM; have HM := Lib.hid hM; have HC1 := Lib.hid hC; have HB := Lib.hid hB; have c0 := hB.c0; have c1 := hB.c1; have f1 := hB.f1; clear hM hC hB; (have hk:=hk.symm;subst hk)))
    have hC2 := HC1.out.store (p := ⟨w.heap.size + 1, 0, none⟩) (by show w.heap.size + 1 ≠ g; omega) (.int .i64 0)
    have hB2 := HB.out.put 0
    have hM2 := HM.out.box HB.out (.int .i64 0)
    have HC2 := Lib.hid hC2
    have HB2 := Lib.hid hB2
    have HM2 := Lib.hid hM2
    clear HM HC1 HB c0 c1 f1 hC2 hB2 hM2
    generalize w1.setCell ⟨w.heap.size + 1, 0, none⟩ (.int .i64 0) = w2 at *
    go_loopw [10, 30] (fun o i wr => ∃ (j : Nat) (ts : List (List UInt8)) (q : Nat) (J' : Jm), j ≤ n ∧ i = .int .i64 j ∧ Hid (ts.length = j) ∧
      Hid (rdTs n ((s.drop k).drop c) longest = comb ts (q - (k + c)) (rdTs (n - j) (s.drop q) longest)) ∧ k + c ≤ q ∧ Hid (Mv (· = g) J w J' wr) ∧ Hid (Cur J' wr g s q) ∧
      Hid (Boxes J' wr w.heap.size g k 0) ∧ Hid (Own J' wr (w.heap.size + 3) 9 1 o j (scs ts))) (fun _ i _ => n - (intOf i).toNat)
    case atStart => exact ⟨0, [], k + c, J, by omega, rfl, rfl, by rw [Hid, Nat.sub_self, ← comb_zero, List.drop_drop]; rfl, by omega, HM2, HC2, HB2, Own.nil _ _ _ _ _⟩
    case round =>
      obtain ⟨j, ts, q, J', hj, rfl, HTL, HR, hq, HM, HC, HB, HO⟩ := hrel
      have b0 := HB.out.c0
      have b1 := HB.out.c1
      have b2 := HB.out.f1
      have hsz := HB.out.sz
      by_cases hlt : j < n
      · cases ht : rdT (s.drop q) longest with
        | error x =>
          have hx0 : (x : Int) ≠ 0 := rdT_err ht
          have HP : Hid (rdL (s.drop k) most longest = .error x) := by
            rw [Hid]; unfold rdL; rw [hr]
            have h2 := HR.out
            rw [show n - j = (n - j - 1) + 1 by omega, rdTs_stop _ _ _ _ _ ht] at h2
            simp only [h2]
          go_wp2_with (go_at_call 47; go_must (refine (Text_calls HM.out.inv HC.out longest hl1 hl2).mono ?_; rw [ht]; rintro e w3 ⟨k', ⟨rfl, hk⟩, hM, hC⟩; have HM3 := Lib.hid (HM.out.then hM); have HC3 := Lib.hid hC; have HB3 := Lib.hid (HB.out.mv hM); have d1 := HB3.out.c1; have d2 := HB3.out.f1; clear hM hC))
          refine leaves_cons (f := 48) (args := #[.pointer (some ⟨w.heap.size, 0, none⟩), .pointer (some ⟨w.heap.size + 2, 0, none⟩), .pointer (some ⟨w.heap.size + 1, 0, none⟩)]) (by simp) (by simp [go_sem]) ?_
          refine (closL_yes (HC3.out.store (by show w.heap.size + 1 ≠ g; omega) (.int .i64 (x : Int))) k x hx0 (HB3.out.put x).c0 (HB3.out.put x).c2 (HB3.out.put x).c1).mono ?_
          rintro e u w9 ⟨rfl, rfl, rfl⟩
          have hpc := (HB3.out.put x).c1
          simp [Leaves, settle, results, Try.results31, go_sem, hpc]
          exact ⟨k, J', ListP.err HP.out rfl, (HM3.out.box HB3.out _).setCell (fun _ => rfl) HC3.out.2.1 _, (HC3.out.store (by show w.heap.size + 1 ≠ g; omega) _).set k hks⟩
        | ok td =>
          obtain ⟨t, d⟩ := td
          have HR2 : Hid (rdTs n ((s.drop k).drop c) longest = comb (ts ++ [t]) (q + d - (k + c)) (rdTs (n - (j + 1)) (s.drop (q + d)) longest)) := by
            rw [Hid, HR.out, show n - j = (n - (j + 1)) + 1 by omega, rdTs_step _ _ _ _ _ ht, List.drop_drop]
            congr 1
            omega
          go_wp2_with (first | (go_at_call 47; go_must (refine (Text_calls HM.out.inv HC.out longest hl1 hl2).mono ?_; rw [ht]; rintro e w3 ⟨k', ⟨rfl, hk⟩, hM, hC⟩; have hk := hk.symm; subst hk; have HO3 := Lib.hid (hM.ownBase HO.out (by intro b h1 h2; show ¬ b = g; omega)); have HM3 := Lib.hid (HM.out.then hM); have HC3 := Lib.hid hC; have HB3 := Lib.hid (HB.out.mv hM); have hz3 := HB3.out.sz; clear hM hC)) | (at_builtin; go_must (refine wpList_append_lit (J := J') (s := .tmp 41) (x := .tmp 43) (t := 24) (e := 9) (base := w.heap.size + 3) (v := u10) (n := j) (xs := scs ts) (m := 1) (news := scs [t]) rfl (.string (strB [])) 1 16 rfl Try.underlying24 info_str rfl rfl (HM3.out.inv.alloc _) (HO3.out.alloc _) rfl (heap_alloc_new _ _) rfl (scs_one _) (by simp only [maxLen]; omega) (by omega) (by have := HM3.out.size; simp; omega) ?_; intro v4 w4 J4 ho4 hg4 hv4; have HE4 := Lib.hid ((HM3.out.alloc _).grew (HO3.out.alloc _) (by omega) hg4); have HO4 := Lib.hid ho4; have HV4 := Lib.hid hv4; have HG4 := Lib.hid hg4; clear ho4 hg4 hv4)))
          go_roundw
          case rel =>
            have hkp : Kept (w.heap.size + 3) J' w3 J4 w4 := (((Ext.refl HM3.out.inv).alloc _).keptBelow hz3).trans (HG4.out.keptBelow (HO3.out.alloc _) (by simp; omega))
            exact ⟨j + 1, ts ++ [t], q + d, J4, by omega, by go_num, by rw [Hid, List.length_append, HTL.out]; rfl, HR2, by omega, HE4, HC3.out.kept hkp (by omega), HB3.out.kept hkp, by rw [Hid, scs_append]; exact HO4.out⟩
          case measure => simp [intOf]; omega
      · obtain rfl : j = n := by omega
        have HP : Hid (rdL (s.drop k) most longest = .ok (ts, c + (q - (k + c)))) := by
          rw [Hid]; unfold rdL; rw [hr]
          have h2 := HR.out
          rw [Nat.sub_self] at h2
          simp only [h2, rdTs, comb, List.append_nil, Nat.add_zero]
        go_wp2
        refine leaves_cons (f := 48) (args := #[.pointer (some ⟨w.heap.size, 0, none⟩), .pointer (some ⟨w.heap.size + 2, 0, none⟩), .pointer (some ⟨w.heap.size + 1, 0, none⟩)]) (by simp) (by simp [go_sem]) ?_
        refine (closL_no (g := g) k (HB.out.put 0).c0 (HB.out.put 0).c2 (HB.out.put 0).c1).mono ?_
        rintro e u w9 ⟨rfl, rfl, rfl⟩
        have hpc := (HB.out.put 0).c1
        simp [Leaves, settle, results, Try.results31, go_sem, hpc]
        have hs := HO.out.sl
        have hss : Ss J' u10 ts := by unfold Ss; rw [HTL.out]; exact hs
        refine ⟨k + (c + (q - (k + c))), J', ListP.ok HP.out rfl hss, HM.out.box HB.out _, ?_⟩
        rw [show k + (c + (q - (k + c))) = q by omega]
        exact HC.out.store (by show w.heap.size + 1 ≠ g; omega) _
theorem List_calls {J : Jm} {w : World} (hI : Inv J w) {g : Nat} {s : List UInt8} {k : Nat} (hc : Cur J w g s k) (hs43 : s.length ≤ 8796093022208) (most longest : Int) (hm1 : -9223372036854775808 ≤ most) (hm2 : most ≤ 9223372036854775807) (hl1 : -9223372036854775808 ≤ longest) (hl2 : longest ≤ 9223372036854775807) :
    Calls Try.prog 31 #[.pointer (some ⟨g, 0, none⟩), .int .i64 most, .int .i64 longest] w fun e w' => ∃ k' J', ListP J' (rdL (s.drop k) most longest) k e k' ∧
      Mv (· = g) J w J' w' ∧ Cur J' w' g s k' := List_callsM hI hc most longest (.inl hs43) hm1 hm2 hl1 hl2
end Go.Proofs.Ytldicbhjmjjfbaa
