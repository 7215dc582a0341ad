/- The walk of lines. -/
import Derived.Test.YthfjeijhnikabaaLexSt
import Derived.Deep.RegionHeld3
namespace Go.Proofs.Ythfjeijhnikabaa
open Go.RowKit

theorem heap_new_at {w : World} {o : Obj} {k : Nat} (h : w.heap.size = k) : (w.alloc o).heap[k]? = some o := by subst h; exact heap_alloc_new _ _
theorem qt_len {frm : Nat} : ∀ {l : List Tok} {acc txt : List UInt8} {rest : List Tok}, qt frm l acc = .ok (txt, rest) → rest.length ≤ l.length := by
  intro l
  induction hn : l.length using Nat.strongRecOn generalizing l with
  | _ n ih =>
    subst hn
    intro acc txt rest h
    match l, h with
    | [], h => rw [qt_nil] at h; cases h
    | t :: r, h =>
      rw [qt_cons] at h
      split at h
      · cases h
      · split at h
        · cases h; simp
        · split at h
          · match r, h with
            | [], h => cases h
            | d :: r', h =>
              dsimp only at h
              split at h
              · split at h
                · have := ih r'.length (by simp; omega) rfl h
                  simp; omega
                · cases h
              · cases h
          · have := ih r.length (by simp) rfl h
            simp; omega
theorem pk_one {l : List UInt8} {c : UInt8} {n : Nat} (h : pk l = (c, n)) (hc : c ≠ 32) (hn : 1 ≤ n := by omega) : n = 1 := by
  match l, h with
  | [], h => simp [pk] at h; omega
  | [x], h => simp [pk] at h; omega
  | x :: d :: r, h =>
    unfold pk at h
    by_cases hx : x = 92 ∧ d = 10
    · simp only [if_pos hx] at h; simp at h; exact absurd h.1.symm hc
    · simp only [if_neg hx] at h; simp at h; omega
theorem pk_head {s : List UInt8} {q : Nat} {c : UInt8} (h : q < s.length) (hpk : pk (s.drop q) = (c, 1)) : s.drop q = c :: s.drop (q + 1) := by
  rw [List.drop_eq_getElem_cons h] at hpk ⊢
  congr 1
  generalize s.drop (q + 1) = r at hpk
  match r, hpk with
  | [], h => simp [pk] at h; exact h
  | d :: r, h =>
    unfold pk at h
    by_cases hx : s[q] = 92 ∧ d = 10
    · simp only [if_pos hx] at h; simp at h
    · simp only [if_neg hx] at h; simp at h; exact h
theorem WBox.drewN {w : World} {b : Nat} {x : Wd} (h : WBox w b x) (n : Nat) : WBox (w.drewN n) b x := h
theorem strB_cut (s : List UInt8) {q p : Nat} (_h : q ≤ p) (_hp : p ≤ s.length) : (strB s).extract q p = strB ((s.drop q).take (p - q)) := by
  have h1 : ((strB s).extract q p).data.toList = (s.drop q).take (p - q) := by
    rw [ByteArray.data_extract]
    simp [strB]
  rw [← h1, strB_of]
theorem take_more {s : List UInt8} {q p : Nat} {d : UInt8} (h : q ≤ p) (hd : s.drop p = d :: s.drop (p + 1)) : (s.drop q).take (p - q) ++ [d] = (s.drop q).take (p + 1 - q) := by
  have h1 : (s.drop q).drop (p - q) = d :: s.drop (p + 1) := by rw [List.drop_drop, show q + (p - q) = p by omega, hd]
  rw [show p + 1 - q = (p - q) + 1 by omega, List.take_add, h1]
  rfl
theorem wcs_one (x : Wd) : ∀ u ∈ wcs x, u.oneCell' = true := by
  intro u hu
  simp only [wcs, List.mem_cons, List.not_mem_nil, or_false] at hu
  rcases hu with rfl | rfl | rfl | rfl | rfl <;> rfl
theorem fin_le (outs : List Ln) (one : Ln) : (fin outs one).length ≤ outs.length + 1 := by
  unfold fin; split <;> simp
theorem Rd.setOther {J : Jm} {w : World} {g k : Nat} {s : List UInt8} (h : Rd J w g s k) {p : Addr} (hp : g ≠ p.block) (v : Value) : Rd J (w.setCell p v) g s k := ⟨(Below.heap_setCell _ _ _ _ hp).trans h.1, h.2⟩
/-- how lines ends -/
def LnP (J : Jm) (w : World) (g : Nat) (w' : World) (r : Except Nat (List Ln)) (e : Ending) : Prop :=
  match r with
  | .error x => e = .panicked [{ v := faultV x, recovered := false }] ∧ ∃ J', Mv (· = g) J w J' w'
  | .ok ls => ∃ J' v c M, e = .returned v ∧ Mv (· = g) J w J' w' ∧ Own J' w' (w.heap.size + 1 + 1) 33 3 v ls.length c ∧ LsO J' w' (w.heap.size + 1 + 1) M ls c
set_option maxRecDepth 100000 in
set_option maxHeartbeats 4000000 in
theorem lines_calls {J : Jm} {w : World} (hI : Inv J w) {g : Nat} {s : List UInt8} (hc : Rd J w g s 0) :
    Calls Try.prog 32 #[.pointer (some ⟨g, 0, none⟩)] w fun e w' => LnP J w g w' (lexL s) e := by
  have hg := hc.lt
  have hmf : ∀ (fn : Fn) (first cap : Array Value) (w : World), (Instr.makeFunc fn first cap).run Try.prog w = .ok (.func fn first cap) w := fun _ _ _ _ => rfl
  have hE := ((Ext.refl hI).alloc (.cells #[.slice none 0 0] 24)).alloc (.cells #[.int .i64 1, .bool false, .slice none 0 0] 33)
  have hC := hc.ext hE
  have hS : St J w g [] ⟨1, false, []⟩ J ((w.alloc (.cells #[.slice none 0 0] 24)).alloc (.cells #[.int .i64 1, .bool false, .slice none 0 0] 33)) (.slice none 0 0) (.slice none 0 0) [] (w.heap.size + 1 + 1) := by
    have hsz : (w.alloc (.cells #[.slice none 0 0] 24)).heap.size = w.heap.size + 1 := by simp
    refine ⟨hE.mv _, ?_, ?_, hI.nil (by omega), hI.nil (by omega), Own.nil _ _ _ _ _, .nil, Own.nil _ _ _ _ _, Nat.le_refl _, by simp⟩
    · have h := heap_alloc_new (w.alloc (.cells #[.slice none 0 0] 24)) (.cells #[.int .i64 1, .bool false, .slice none 0 0] 33)
      rw [hsz] at h
      exact h
    · exact (Below.heap_alloc _ _ _ (by rw [hsz]; omega)).trans (heap_alloc_new w _)
  have HC0 := Lib.hid hC
  have HS0 := Lib.hid hS
  clear hC hS hE
  go_enter Try.func32, Try.ntmps32
  go_wp2_with fail
  go_loopw [5] (fun fr wr => ∃ (q f : Nat) (fresh : Bool) (outs : List Ln) (one : Ln) (J' : Jm) (ov wv : Value) (oc : List Value) (M : Nat), fr = .bool fresh ∧ outs.length ≤ q ∧ one.ws.length ≤ q ∧ (toks (s.drop q) q).length < f ∧
      Hid (lx s f (toks (s.drop q) q) outs one fresh = lexL s) ∧ Hid (Rd J' wr g s q) ∧ Hid (St J w g outs one J' wr ov wv oc M)) (fun _ wr => s.length - (intOf ((wr.cell? ⟨g, 1, none⟩).getD undef)).toNat)
  case atStart => exact ⟨0, s.length + 1, true, [], ⟨1, false, []⟩, J, _, _, [], _, rfl, Nat.le_refl _, Nat.le_refl _, Nat.lt_succ_of_le (toks_length _ _), rfl, HC0, HS0⟩
  case round =>
    obtain ⟨q, f, fresh, outs, one, J', ov, wv, oc, M, rfl, hol, hwl, hf, HQ, HC, HS⟩ := hrel
    have hc0 := HC.out.c1
    have hm := HC.out.2.2.2
    have hqs := HC.out.2.2.1
    by_cases he : q = s.length
    · have hpk : pk (s.drop q) = (0, 0) := by rw [List.drop_of_length_le (by omega)]; rfl
      have HN : Hid (lexL s = .ok (fin outs one)) := by
        obtain ⟨f', rfl⟩ : ∃ f', f = f' + 1 := ⟨f - 1, by omega⟩
        rw [Hid, ← HQ.out, List.drop_of_length_le (by omega)]; rfl
      go_wp2_with fail
      refine (peek_calls HC.out).mono ?_
      rw [hpk]
      rintro e w1 ⟨rfl, m, hw⟩
      have HS := Lib.hid (HS.out.move ((Mv.refl _ HS.out.mv.inv).drewN m) hg)
      have HC := Lib.hid (HC.out.drewN m)
      rw [← hw] at HS HC
      clear hw
      go_wp2_with fail
      refine (end_calls HS.out.mv.inv HS.out.b1 HS.out.b2 HS.out.j2 (by omega) HS.out.ow (by omega) (Nat.le_trans HS.out.m1 HS.out.m2) (by obtain ⟨A, c, h, -, -⟩ := HS.out.ww.sl.form; exact ⟨A, c, h⟩)).mono ?_
      rintro e w3 ⟨rfl, J3, ov3, n3, oc3, hM3, hj3, hB3, hO3, hcase⟩
      have HSE := Lib.hid (HS.out.ended hM3 hj3 hB3 hO3 hcase)
      clear hM3 hj3 hB3 hO3 hcase
      have o0 := blk_cell_J HSE.out.b2 0 rfl
      go_wp2_with fail
      go_ret
      rw [HN.out]
      exact ⟨J3, ov3, oc3, _, rfl, HSE.out.mv, HSE.out.ow, HSE.out.ls⟩
    · have hlt : q < s.length := by omega
      cases hpk : pk (s.drop q) with
      | mk c n =>
        have hT := toks_at hlt hpk
        have hn := pk_le hlt hpk
        go_wp2_with fail
        refine (peek_calls HC.out).mono ?_
        rw [hpk]
        rintro e w1 ⟨rfl, m, hw⟩
        have HS := Lib.hid (HS.out.move ((Mv.refl _ HS.out.mv.inv).drewN m) hg)
        have HC := Lib.hid (HC.out.drewN m)
        rw [← hw] at HS HC
        clear hw
        have hTl := toks_length (s.drop q) q
        rw [hT] at hf HQ
        rw [List.length_cons] at hf
        obtain ⟨f, rfl⟩ : ∃ f', f = f' + 1 := ⟨f - 1, by omega⟩
        have c1 := HC.out.c1
        have c2 := HC.out.c2
        have c3 := HC.out.c3
        have hgl := HC.out.lt
        go_wp2_with fail
        go_region_held3 (fun w' => w'.cell? ⟨g, 2, none⟩ = some (.int .i64 (ln s q : Int)) ∧ w'.cell? ⟨g, 3, none⟩ = some (.int .i64 (cl s q : Int)))
          (first | go_keep | exact ⟨c2, c3⟩)
          ((fail))
        go_wp2_with fail
        have hgm := HS.out.mv.size
        refine (next_calls (HS.out.mv.inv.alloc _).drew (Rd.ext HC.out (((Ext.refl HS.out.mv.inv).alloc (.cells (wcs ⟨[], ln s q, cl s q, false, false⟩).toArray 35)).drew))).mono ?_
        rw [hpk]
        rintro e w2 ⟨rfl, hM, hC2⟩
        have HR : Hid (Mv (· = g) J' w1 J' w2) := (((Mv.refl (· = g) HS.out.mv.inv).alloc _).drew).then hM
        have WB : Hid (WBox w2 w1.heap.size ⟨[], ln s q, cl s q, false, false⟩) := hM.blk (heap_alloc_new w1 _) (by have := HC.out.lt; omega)
        have HWB : Hid (w.heap.size ≤ w1.heap.size ∧ w1.heap.size < w2.heap.size) := ⟨hgm, Nat.lt_of_lt_of_le (by simp) hM.size⟩
        have HC := Lib.hid hC2
        clear hM hC2 c2 c3 hgl hgm
        have cc1 := HC.out.c1
        by_cases h10 : c = 10
        · subst h10
          have hn1 : n = 1 := pk_nl hpk
          subst hn1
          have HN : Hid (lx s f (toks (s.drop (q + 1)) (q + 1)) (fin outs one) ⟨ln s (q + 1), false, []⟩ true = lexL s) := by rw [Hid, ← HQ.out, lx_cons]; rfl
          have HS := Lib.hid (HS.out.move HR.out hg)
          go_wp2_with fail
          refine (end_calls HS.out.mv.inv HS.out.b1 HS.out.b2 HS.out.j2 (by omega) HS.out.ow (by omega) (Nat.le_trans HS.out.m1 HS.out.m2) (by obtain ⟨A, c, h, -, -⟩ := HS.out.ww.sl.form; exact ⟨A, c, h⟩)).mono ?_
          rintro e w3 ⟨rfl, J3, ov3, n3, oc3, hM3, hj3, hB3, hO3, hcase⟩
          have HC3 := Lib.hid (HC.out.mw hM3 (by intro h; rcases h with h | h; exact absurd h (by omega); exact absurd (HS.out.ow.lt g h.symm).1 (by omega)))
          have HSE := Lib.hid (HS.out.ended hM3 hj3 hB3 hO3 hcase)
          clear hM3 hj3 hB3 hO3 hcase
          have r2 := HC3.out.c2
          have d0 := blk_cell_J HSE.out.b1 0 rfl
          have d1 := blk_cell_J HSE.out.b1 1 rfl
          have d2 := blk_cell_J HSE.out.b1 2 rfl
          have f0 := frozen_of_row w3 (w.heap.size + 1) 0 _ _ HSE.out.b1
          have f1 := frozen_of_row w3 (w.heap.size + 1) 1 _ _ HSE.out.b1
          have f2 := frozen_of_row w3 (w.heap.size + 1) 2 _ _ HSE.out.b1
          go_wp2_with fail
          go_roundw
          case rel =>
            have m := Mv.set3 HSE.out.mv.inv HSE.out.j1 0 1 2 (.int .i64 (ln s (q + 1) : Int)) (.bool false) (.slice none 0 0)
            exact ⟨q + 1, f, true, fin outs one, ⟨ln s (q + 1), false, []⟩, J3, ov3, .slice none 0 0, oc3, w3.heap.size, rfl, by have := fin_le outs one; omega, Nat.zero_le _, by omega,
              HN.out, HC3.out.mv m (by show ¬ g = _; omega), HSE.out.fresh _⟩
          case measure =>
            have m := Mv.set3 HSE.out.mv.inv HSE.out.j1 0 1 2 (.int .i64 (ln s (q + 1) : Int)) (.bool false) (.slice none 0 0)
            have e1 := (HC3.out.mv m (by show ¬ g = _; omega)).c1
            simp [e1, hc0, intOf]
            omega
        by_cases h32 : c = 32
        · subst h32
          have HN : Hid (lx s f (toks (s.drop (q + n)) (q + n)) outs one false = lexL s) := by rw [Hid, ← HQ.out, lx_cons]; rfl
          have HS := Lib.hid (HS.out.move HR.out hg)
          go_wp2_with fail
          go_roundw
          case rel => exact ⟨q + n, f, false, outs, one, J', ov, wv, oc, M, rfl, by omega, by omega, by omega, HN.out, HC.out, HS.out⟩
          case measure =>
            have e1 := HC.out.c1
            simp [e1, hc0, intOf]
            omega
        by_cases h9 : c = 9 ∧ fresh = true
        · obtain ⟨rfl, rfl⟩ := h9
          have HN : Hid (lx s f (toks (s.drop (q + n)) (q + n)) outs { one with ind := true } false = lexL s) := by rw [Hid, ← HQ.out, lx_cons]; rfl
          have HS := Lib.hid (HS.out.move HR.out hg)
          have d1 := blk_cell_J HS.out.b1 1 rfl
          have f1 := frozen_of_row w2 (w.heap.size + 1) 1 _ _ HS.out.b1
          go_wp2_with fail
          go_roundw
          case rel =>
            exact ⟨q + n, f, false, outs, { one with ind := true }, J', ov, wv, oc, M, rfl, by omega, by show one.ws.length ≤ _; omega, by omega, HN.out, HC.out.setOther (by show g ≠ w.heap.size + 1; omega) _, HS.out.ind⟩
          case measure =>
            have e1 := (HC.out.setOther (p := ⟨w.heap.size + 1, 1, none⟩) (by show g ≠ w.heap.size + 1; omega) (.bool true)).c1
            simp [e1, hc0, intOf]
            omega
        have j10 : ¬ (c.toNat : Int) = 10 := byte_ne h10
        have j32 : ¬ (c.toNat : Int) = 32 := byte_ne h32
        by_cases h9' : c = 9
        · subst h9'
          obtain rfl : fresh = false := by cases fresh; rfl; exact absurd ⟨rfl, rfl⟩ h9
          have HN : Hid (lexL s = .error q) := by rw [Hid, ← HQ.out, lx_cons]; rfl
          have HS := Lib.hid (HS.out.move HR.out hg)
          go_wp2_with (go_at_call 40; go_must (refine (bare_calls 9 _).mono ?_; rintro e w4 ⟨rfl, rfl⟩))
          refine ⟨rfl, ?_⟩
          rw [HN.out]
          exact ⟨rfl, J', HS.out.mv⟩
        have j9 : ¬ (c.toNat : Int) = 9 := byte_ne h9'
        clear h9
        by_cases h35 : c = 35
        · subst h35
          have HN0 : Hid (lx s f ((toks (s.drop (q + n)) (q + n)).dropWhile fun t => t.c ≠ 10) outs one false = lexL s) := by rw [Hid, ← HQ.out, lx_cons]; rfl
          have HF := Lib.hid (show (toks (s.drop (q + n)) (q + n)).length < f by omega)
          go_wp2_with fail
          refine (peek_calls HC.out).mono ?_
          rintro e w4 ⟨rfl, m, hw⟩
          have HR := Lib.hid (HR.out.drewN m)
          have HC := Lib.hid (HC.out.drewN m)
          rw [← hw] at HR HC
          clear hw
          go_wp2_with fail
          go_loopw [12, 13] (fun a b wi => ∃ p : Nat, q + n ≤ p ∧ a = .int .u8 (pk (s.drop p)).1.toNat ∧ b = .int .i64 (pk (s.drop p)).2 ∧ Hid (Rd J' wi g s p) ∧ Hid (Mv (· = g) J' w1 J' wi) ∧ (toks (s.drop p) p).length < f ∧
            Hid (lx s f ((toks (s.drop p) p).dropWhile fun t => t.c ≠ 10) outs one false = lexL s)) (fun _ _ wi => s.length - (intOf ((wi.cell? ⟨g, 1, none⟩).getD undef)).toNat)
          case atStart => exact ⟨q + n, Nat.le_refl _, rfl, rfl, HC, HR, HF.out, HN0⟩
          case round =>
            obtain ⟨p, hqp, rfl, rfl, HC, HR, hpf, HN1⟩ := hrel
            have hc2 := HC.out.c1
            have hps := HC.out.2.2.1
            by_cases hpe : p = s.length
            · have hpk1 : pk (s.drop p) = (0, 0) := by rw [List.drop_of_length_le (by omega)]; rfl
              have HN : Hid (lx s f (toks (s.drop p) p) outs one false = lexL s) := by rw [Hid, ← HN1.out, List.drop_of_length_le (by omega)]; rfl
              rw [hpk1]
              have HS := Lib.hid (HS.out.move HR.out hg)
              go_wp2_with fail
              go_roundw
              case rel => exact ⟨p, f, false, outs, one, J', ov, wv, oc, M, rfl, by omega, by omega, by omega, HN.out, HC.out, HS.out⟩
              case measure =>
                have e1 := HC.out.c1
                simp [e1, hc0, intOf]
                omega
            · have hlt1 : p < s.length := by omega
              rcases pk_cases (s.drop p) (by intro e; have := congrArg List.length e; simp at this; omega) with ⟨d, hpk1⟩ | hpk1
              · have hT1 := toks_at hlt1 hpk1
                rw [hT1, List.length_cons] at hpf
                by_cases hd : d = 10
                · subst hd
                  have HN : Hid (lx s f (toks (s.drop p) p) outs one false = lexL s) := by rw [Hid, ← HN1.out, hT1]; rfl
                  have hpf' : (toks (s.drop p) p).length < f := by rw [hT1, List.length_cons]; exact hpf
                  rw [hpk1]
                  have HS := Lib.hid (HS.out.move HR.out hg)
                  go_wp2_with fail
                  go_roundw
                  case rel => exact ⟨p, f, false, outs, one, J', ov, wv, oc, M, rfl, by omega, by omega, by omega, HN.out, HC.out, HS.out⟩
                  case measure =>
                    have e1 := HC.out.c1
                    simp [e1, hc0, intOf]
                    omega
                · have hd10 : ¬ (d.toNat : Int) = 10 := byte_ne hd
                  have HN : Hid (lx s f ((toks (s.drop (p + 1)) (p + 1)).dropWhile fun t => t.c ≠ 10) outs one false = lexL s) := by
                    rw [Hid, ← HN1.out, hT1, List.dropWhile_cons_of_pos (by simpa using hd)]
                  rw [hpk1]
                  go_wp2_with fail
                  refine (next_calls HR.out.inv HC.out).mono ?_
                  rw [hpk1]
                  rintro e w5 ⟨rfl, hM, hC⟩
                  have HR := Lib.hid (HR.out.then hM)
                  have HC := Lib.hid hC
                  clear hM hC
                  go_wp2_with fail
                  refine (peek_calls HC.out).mono ?_
                  rintro e w4 ⟨rfl, m, hw⟩
                  have HR := Lib.hid (HR.out.drewN m)
                  have HC := Lib.hid (HC.out.drewN m)
                  rw [← hw] at HR HC
                  clear hw
                  go_wp2_with fail
                  go_roundw
                  case rel => exact ⟨p + 1, by omega, rfl, rfl, HC, HR, by omega, HN⟩
                  case measure =>
                    have e1 := HC.out.c1
                    simp [e1, hc2, intOf]
                    omega
              · have hT1 := toks_at hlt1 hpk1
                rw [hT1, List.length_cons] at hpf
                have hn2 := pk_le hlt1 hpk1
                have HN : Hid (lx s f ((toks (s.drop (p + 2)) (p + 2)).dropWhile fun t => t.c ≠ 10) outs one false = lexL s) := by
                  rw [Hid, ← HN1.out, hT1, List.dropWhile_cons_of_pos (by simp)]
                rw [hpk1]
                go_wp2_with fail
                refine (next_calls HR.out.inv HC.out).mono ?_
                rw [hpk1]
                rintro e w5 ⟨rfl, hM, hC⟩
                have HR := Lib.hid (HR.out.then hM)
                have HC := Lib.hid hC
                clear hM hC
                go_wp2_with fail
                refine (peek_calls HC.out).mono ?_
                rintro e w4 ⟨rfl, m, hw⟩
                have HR := Lib.hid (HR.out.drewN m)
                have HC := Lib.hid (HC.out.drewN m)
                rw [← hw] at HR HC
                clear hw
                go_wp2_with fail
                go_roundw
                case rel => exact ⟨p + 2, by omega, rfl, rfl, HC, HR, by omega, HN⟩
                case measure =>
                  have e1 := HC.out.c1
                  simp [e1, hc2, intOf]
                  omega
        have j35 : ¬ (c.toNat : Int) = 35 := byte_ne h35
        by_cases h58 : c = 58
        · subst h58
          have hu : Utf8.encode 58 = strB [58] := by rfl
          have HN : Hid (lx s f (toks (s.drop (q + n)) (q + n)) outs (one.add ⟨[58], ln s q, cl s q, false, true⟩) false = lexL s) := by rw [Hid, ← HQ.out, lx_cons]; rfl
          have hwb : J' w1.heap.size = [] := HS.out.mv.inv.nil (Nat.le_refl _)
          have x0 := blk_cell_J WB.out 0 rfl
          have x4 := blk_cell_J WB.out 4 rfl
          have y0 := frozen_of_row w2 w1.heap.size 0 _ _ WB.out
          have y4 := frozen_of_row w2 w1.heap.size 4 _ _ WB.out
          have HR2 := Lib.hid ((HR.out.setCell (p := ⟨w1.heap.size, 0, none⟩) (fun e => absurd e (Nat.lt_irrefl _)) hwb (.string (strB [58]))).setCell (p := ⟨w1.heap.size, 4, none⟩) (fun e => absurd e (Nat.lt_irrefl _)) hwb (.bool true))
          have WB2 := Lib.hid (WB.out.text [58]).mark
          have HC2 := Lib.hid ((HC.out.setOther (p := ⟨w1.heap.size, 0, none⟩) (by have := HWB.out; show g ≠ w1.heap.size; omega) (.string (strB [58]))).setOther (p := ⟨w1.heap.size, 4, none⟩) (by have := HWB.out; show g ≠ w1.heap.size; omega) (.bool true))
          have HS2 := Lib.hid (HS.out.move HR2.out hg)
          have k2 := blk_cell_J (HS.out.move HR.out hg).b1 2 rfl
          have n1 : ¬ w.heap.size + 1 = w1.heap.size := by have := HS.out.m1; have := HS.out.m2; omega
          have n2 : ¬ w1.heap.size = w.heap.size + 1 := fun e => n1 e.symm
          have x1 := blk_cell_J WB.out 1 rfl
          have x2 := blk_cell_J WB.out 2 rfl
          have x3 := blk_cell_J WB.out 3 rfl
          obtain ⟨wvA, wvc, hwv, -, -⟩ := HS.out.ww.sl.form
          subst hwv
          go_wp2_with (at_builtin; go_must (refine wpList_append_lit (J := J') (s := .tmp 147) (x := .tmp 149) (t := 31) (e := 35) (base := M) (v := .slice wvA one.ws.length wvc) (n := one.ws.length) (xs := wsC one.ws) (m := 1) (news := wcs ⟨[58],ln s q,cl s q,false,true⟩) rfl (.agg #[.string ByteArray.empty, .int .i64 0, .int .i64 0, .bool false, .bool false]) 5 40 rfl Try.underlying31 infoWd rfl rfl (HS2.out.mv.inv.alloc _) (HS2.out.ww.alloc _) rfl (heap_new_at (by simp)) rfl (wcs_one ⟨[58],ln s q,cl s q,false,true⟩) (by simp only [maxLen]; omega) (by omega) (by have := HS2.out.m2; simp at this ⊢; omega) ?_; intro v4 w4 J4 ho hgr hv; obtain ⟨A4, c4, rfl, -, -⟩ := ho.sl.form; have hA := HS2.out.add ⟨[58],ln s q,cl s q,false,true⟩ _ hgr ho; have HA := Lib.hid hA; have k4 := blk_cell_J HA.out.1 2 rfl; have f4 := frozen_of_row w4 (w.heap.size + 1) 2 _ _ HA.out.1; have HC4 := Lib.hid ((HC2.out.mw HA.out.2.1 (by intro e; have := (HS2.out.ww.lt g e.symm).1; have := HS2.out.m1; omega)).setOther (p := ⟨w.heap.size + 1, 2, none⟩) (by show g ≠ w.heap.size + 1; omega) (.slice A4 (one.ws.length + 1) c4)); clear ho hgr hv hA))
          go_wp2_with fail
          go_roundw
          case rel => exact ⟨(q + n), f, false, outs, one.add ⟨[58],ln s q,cl s q,false,true⟩, J4, ov, _, oc, M, rfl, by omega, by simp [Ln.add]; omega, (by omega), HN.out, HC4.out, HA.out.2.2⟩
          case measure =>
            have e1 := HC4.out.c1
            simp [e1, hc0, intOf]
            omega
        have j58 : ¬ (c.toNat : Int) = 58 := byte_ne h58
        by_cases h61 : c = 61
        · subst h61
          have hu : Utf8.encode 61 = strB [61] := by rfl
          have HN : Hid (lx s f (toks (s.drop (q + n)) (q + n)) outs (one.add ⟨[61], ln s q, cl s q, false, true⟩) false = lexL s) := by rw [Hid, ← HQ.out, lx_cons]; rfl
          have hwb : J' w1.heap.size = [] := HS.out.mv.inv.nil (Nat.le_refl _)
          have x0 := blk_cell_J WB.out 0 rfl
          have x4 := blk_cell_J WB.out 4 rfl
          have y0 := frozen_of_row w2 w1.heap.size 0 _ _ WB.out
          have y4 := frozen_of_row w2 w1.heap.size 4 _ _ WB.out
          have HR2 := Lib.hid ((HR.out.setCell (p := ⟨w1.heap.size, 0, none⟩) (fun e => absurd e (Nat.lt_irrefl _)) hwb (.string (strB [61]))).setCell (p := ⟨w1.heap.size, 4, none⟩) (fun e => absurd e (Nat.lt_irrefl _)) hwb (.bool true))
          have WB2 := Lib.hid (WB.out.text [61]).mark
          have HC2 := Lib.hid ((HC.out.setOther (p := ⟨w1.heap.size, 0, none⟩) (by have := HWB.out; show g ≠ w1.heap.size; omega) (.string (strB [61]))).setOther (p := ⟨w1.heap.size, 4, none⟩) (by have := HWB.out; show g ≠ w1.heap.size; omega) (.bool true))
          have HS2 := Lib.hid (HS.out.move HR2.out hg)
          have k2 := blk_cell_J (HS.out.move HR.out hg).b1 2 rfl
          have n1 : ¬ w.heap.size + 1 = w1.heap.size := by have := HS.out.m1; have := HS.out.m2; omega
          have n2 : ¬ w1.heap.size = w.heap.size + 1 := fun e => n1 e.symm
          have x1 := blk_cell_J WB.out 1 rfl
          have x2 := blk_cell_J WB.out 2 rfl
          have x3 := blk_cell_J WB.out 3 rfl
          obtain ⟨wvA, wvc, hwv, -, -⟩ := HS.out.ww.sl.form
          subst hwv
          go_wp2_with (at_builtin; go_must (refine wpList_append_lit (J := J') (s := .tmp 147) (x := .tmp 149) (t := 31) (e := 35) (base := M) (v := .slice wvA one.ws.length wvc) (n := one.ws.length) (xs := wsC one.ws) (m := 1) (news := wcs ⟨[61],ln s q,cl s q,false,true⟩) rfl (.agg #[.string ByteArray.empty, .int .i64 0, .int .i64 0, .bool false, .bool false]) 5 40 rfl Try.underlying31 infoWd rfl rfl (HS2.out.mv.inv.alloc _) (HS2.out.ww.alloc _) rfl (heap_new_at (by simp)) rfl (wcs_one ⟨[61],ln s q,cl s q,false,true⟩) (by simp only [maxLen]; omega) (by omega) (by have := HS2.out.m2; simp at this ⊢; omega) ?_; intro v4 w4 J4 ho hgr hv; obtain ⟨A4, c4, rfl, -, -⟩ := ho.sl.form; have hA := HS2.out.add ⟨[61],ln s q,cl s q,false,true⟩ _ hgr ho; have HA := Lib.hid hA; have k4 := blk_cell_J HA.out.1 2 rfl; have f4 := frozen_of_row w4 (w.heap.size + 1) 2 _ _ HA.out.1; have HC4 := Lib.hid ((HC2.out.mw HA.out.2.1 (by intro e; have := (HS2.out.ww.lt g e.symm).1; have := HS2.out.m1; omega)).setOther (p := ⟨w.heap.size + 1, 2, none⟩) (by show g ≠ w.heap.size + 1; omega) (.slice A4 (one.ws.length + 1) c4)); clear ho hgr hv hA))
          go_wp2_with fail
          go_roundw
          case rel => exact ⟨(q + n), f, false, outs, one.add ⟨[61],ln s q,cl s q,false,true⟩, J4, ov, _, oc, M, rfl, by omega, by simp [Ln.add]; omega, (by omega), HN.out, HC4.out, HA.out.2.2⟩
          case measure =>
            have e1 := HC4.out.c1
            simp [e1, hc0, intOf]
            omega
        have j61 : ¬ (c.toNat : Int) = 61 := byte_ne h61
        by_cases h34 : c = 34
        · subst h34
          cases hq : qt q (toks (s.drop (q + n)) (q + n)) [] with
          | error x =>
            have HN : Hid (lexL s = .error x) := by rw [Hid, ← HQ.out, lx_cons]; simp [hq]
            go_wp2_with fail
            refine (quoted_calls HR.out.inv HC.out q).mono ?_
            rw [hq]
            rintro e w4 ⟨rfl, hM⟩
            have HS := Lib.hid ((HS.out.move HR.out hg).move hM hg)
            go_wp2_with fail
            refine ⟨rfl, ?_⟩
            rw [HN.out]
            exact ⟨rfl, J', HS.out.mv⟩
          | ok tr =>
            obtain ⟨txt, rest⟩ := tr
            have hqn := qt_len hq
            go_wp2_with fail
            refine (quoted_calls HR.out.inv HC.out q).mono ?_
            rw [hq]
            rintro e w4 ⟨⟨rfl, k', rfl, hk', hC⟩, hM⟩
            have HN : Hid (lx s f (toks (s.drop k') k') outs (one.add ⟨txt, ln s q, cl s q, true, false⟩) false = lexL s) := by rw [Hid, ← HQ.out, lx_cons]; simp [hq]
            have hk2 := hC.2.2.1
            have hwb : J' w1.heap.size = [] := HS.out.mv.inv.nil (Nat.le_refl _)
            have WB3 := Lib.hid (WB.out.mv hM (by have := HWB.out; omega))
            have HR3 := Lib.hid (HR.out.then hM)
            have HC := Lib.hid hC
            clear hC hM
            have x0 := blk_cell_J WB3.out 0 rfl
            have x3 := blk_cell_J WB3.out 3 rfl
            have y0 := frozen_of_row w4 w1.heap.size 0 _ _ WB3.out
            have y3 := frozen_of_row w4 w1.heap.size 3 _ _ WB3.out
            have HR2 := Lib.hid ((HR3.out.setCell (p := ⟨w1.heap.size, 0, none⟩) (fun e => absurd e (Nat.lt_irrefl _)) hwb (.string (strB txt))).setCell (p := ⟨w1.heap.size, 3, none⟩) (fun e => absurd e (Nat.lt_irrefl _)) hwb (.bool true))
            have HC2 := Lib.hid ((HC.out.setOther (p := ⟨w1.heap.size, 0, none⟩) (by have := HWB.out; show g ≠ w1.heap.size; omega) (.string (strB txt))).setOther (p := ⟨w1.heap.size, 3, none⟩) (by have := HWB.out; show g ≠ w1.heap.size; omega) (.bool true))
            have HS2 := Lib.hid (HS.out.move HR2.out hg)
            have k2 := blk_cell_J (HS.out.move HR3.out hg).b1 2 rfl
            have n1 : ¬ w.heap.size + 1 = w1.heap.size := by have := HS.out.m1; have := HS.out.m2; omega
            have n2 : ¬ w1.heap.size = w.heap.size + 1 := fun e => n1 e.symm
            have x1 := blk_cell_J WB3.out 1 rfl
            have x2 := blk_cell_J WB3.out 2 rfl
            have x4 := blk_cell_J WB3.out 4 rfl
            obtain ⟨wvA, wvc, hwv, -, -⟩ := HS.out.ww.sl.form
            subst hwv
            go_wp2_with (at_builtin; go_must (refine wpList_append_lit (J := J') (s := .tmp 147) (x := .tmp 149) (t := 31) (e := 35) (base := M) (v := .slice wvA one.ws.length wvc) (n := one.ws.length) (xs := wsC one.ws) (m := 1) (news := wcs ⟨txt,ln s q,cl s q,true,false⟩) rfl (.agg #[.string ByteArray.empty, .int .i64 0, .int .i64 0, .bool false, .bool false]) 5 40 rfl Try.underlying31 infoWd rfl rfl (HS2.out.mv.inv.alloc _) (HS2.out.ww.alloc _) rfl (heap_new_at (by simp)) rfl (wcs_one ⟨txt,ln s q,cl s q,true,false⟩) (by simp only [maxLen]; omega) (by omega) (by have := HS2.out.m2; simp at this ⊢; omega) ?_; intro v4 w4 J4 ho hgr hv; obtain ⟨A4, c4, rfl, -, -⟩ := ho.sl.form; have hA := HS2.out.add ⟨txt,ln s q,cl s q,true,false⟩ _ hgr ho; have HA := Lib.hid hA; have k4 := blk_cell_J HA.out.1 2 rfl; have f4 := frozen_of_row w4 (w.heap.size + 1) 2 _ _ HA.out.1; have HC4 := Lib.hid ((HC2.out.mw HA.out.2.1 (by intro e; have := (HS2.out.ww.lt g e.symm).1; have := HS2.out.m1; omega)).setOther (p := ⟨w.heap.size + 1, 2, none⟩) (by show g ≠ w.heap.size + 1; omega) (.slice A4 (one.ws.length + 1) c4)); clear ho hgr hv hA))
            go_wp2_with fail
            go_roundw
            case rel => exact ⟨k', f, false, outs, one.add ⟨txt,ln s q,cl s q,true,false⟩, J4, ov, _, oc, M, rfl, by omega, by simp [Ln.add]; omega, (by omega), HN.out, HC4.out, HA.out.2.2⟩
            case measure =>
              have e1 := HC4.out.c1
              simp [e1, hc0, intOf]
              omega
        have j34 : ¬ (c.toNat : Int) = 34 := byte_ne h34
        by_cases hb : bareB c = true
        · obtain rfl : n = 1 := pk_one hpk h32
          have HT0 : Hid (lx s f ((toks (s.drop (q + 1)) (q + 1)).dropWhile fun t => bareB t.c) outs (one.add ⟨c :: ((toks (s.drop (q + 1)) (q + 1)).takeWhile fun t => bareB t.c).map Tok.c, ln s q, cl s q, false, false⟩) false = lexL s) := by
            rw [Hid, ← HQ.out, lx_cons, if_neg h10, if_neg h32, if_neg (fun e => h9' e.1), if_neg h35, if_neg (by simp [h58, h61]), if_neg h34, if_pos hb]
          have HF := Lib.hid (show (toks (s.drop (q + 1)) (q + 1)).length < f by omega)
          have hcx : s.drop q = c :: s.drop (q + 1) := pk_head hlt hpk
          go_wp2_with fail
          refine (bare_calls c _).mono ?_
          rw [hb]
          rintro e w4 ⟨rfl, rfl⟩
          have HT1 : Hid (lx s f ((toks (s.drop (q + 1)) (q + 1)).dropWhile fun t => bareB t.c) outs (one.add ⟨(s.drop q).take (q + 1 - q) ++ ((toks (s.drop (q + 1)) (q + 1)).takeWhile fun t => bareB t.c).map Tok.c, ln s q, cl s q, false, false⟩) false = lexL s) := by
            rw [Hid, hcx, show q + 1 - q = 1 by omega]; exact HT0.out
          clear hcx
          go_wp2_with fail
          refine (peek_calls HC.out).mono ?_
          rintro e w4 ⟨rfl, m, hw⟩
          have HR := Lib.hid (HR.out.drewN m)
          have HC := Lib.hid (HC.out.drewN m)
          have WB := Lib.hid (WBox.drewN WB.out m)
          rw [← hw] at HR HC WB
          clear hw
          go_wp2_with fail
          go_loopw [14, 15] (fun a b wi => ∃ p : Nat, q + 1 ≤ p ∧ a = .int .u8 (pk (s.drop p)).1.toNat ∧ b = .int .i64 (pk (s.drop p)).2 ∧ Hid (Rd J' wi g s p) ∧ Hid (Mv (· = g) J' w1 J' wi) ∧ Hid (WBox wi w1.heap.size ⟨[], ln s q, cl s q, false, false⟩) ∧ (toks (s.drop p) p).length < f ∧
            Hid (lx s f ((toks (s.drop p) p).dropWhile fun t => bareB t.c) outs (one.add ⟨(s.drop q).take (p - q) ++ ((toks (s.drop p) p).takeWhile fun t => bareB t.c).map Tok.c, ln s q, cl s q, false, false⟩) false = lexL s)) (fun _ _ wi => s.length - (intOf ((wi.cell? ⟨g, 1, none⟩).getD undef)).toNat)
          case atStart => exact ⟨q + 1, Nat.le_refl _, rfl, rfl, HC, HR, WB, HF.out, HT1⟩
          case round =>
            obtain ⟨p, hqp, rfl, rfl, HC, HR, WB, hpf, HN1⟩ := hrel
            have hc2 := HC.out.c1
            have hps := HC.out.2.2.1
            by_cases hpe : p = s.length
            · have hpk1 : pk (s.drop p) = (0, 0) := by rw [List.drop_of_length_le (by omega)]; rfl
              have HN : Hid (lx s f (toks (s.drop p) p) outs (one.add ⟨(s.drop q).take (p - q), ln s q, cl s q, false, false⟩) false = lexL s) := by
                have h := HN1.out
                rw [List.drop_of_length_le (i := p) (by omega)] at h ⊢
                rw [toks_nil, List.takeWhile_nil, List.dropWhile_nil, List.map_nil, List.append_nil] at h
                exact h
              rw [hpk1]
              clear hpe
              have hc0' := HC.out.c0
              have HSZ := strB_size s
              have i0 : (0 : Int) ≤ (q : Int) := by omega
              have i1 : (q : Int) ≤ (p : Int) := by omega
              have i2 : (p : Int) ≤ s.length := by omega
              have HX : (strB s).extract q p = strB ((s.drop q).take (p - q)) := strB_cut s (by omega) hps
              go_wp2_with fail
              go_still_tail 10, (by kernel_rfl)
              change wpList _ _ _ _ _ wr.drew
              have HR3 := Lib.hid HR.out.drew
              have HC3 : Hid (Rd J' wr.drew g s p) := HC
              have WB3 : Hid (WBox wr.drew w1.heap.size ⟨[], ln s q, cl s q, false, false⟩) := WB
              generalize wr.drew = w6 at *
              have hwb : J' w1.heap.size = [] := HS.out.mv.inv.nil (Nat.le_refl _)
              have x0 := blk_cell_J WB3.out 0 rfl
              have y0 := frozen_of_row w6 w1.heap.size 0 _ _ WB3.out
              have HR2 := Lib.hid (HR3.out.setCell (p := ⟨w1.heap.size, 0, none⟩) (fun e => absurd e (Nat.lt_irrefl _)) hwb (.string (strB ((s.drop q).take (p - q)))))
              have HC2 := Lib.hid (HC3.out.setOther (p := ⟨w1.heap.size, 0, none⟩) (by have := HWB.out; show g ≠ w1.heap.size; omega) (.string (strB ((s.drop q).take (p - q)))))
              have HS2 := Lib.hid (HS.out.move HR2.out hg)
              have k2 := blk_cell_J (HS.out.move HR3.out hg).b1 2 rfl
              have n1 : ¬ w.heap.size + 1 = w1.heap.size := by have := HS.out.m1; have := HS.out.m2; omega
              have n2 : ¬ w1.heap.size = w.heap.size + 1 := fun e => n1 e.symm
              have x1 := blk_cell_J WB3.out 1 rfl
              have x2 := blk_cell_J WB3.out 2 rfl
              have x3 := blk_cell_J WB3.out 3 rfl
              have x4 := blk_cell_J WB3.out 4 rfl
              obtain ⟨wvA, wvc, hwv, -, -⟩ := HS.out.ww.sl.form
              subst hwv
              go_wp2_with (at_builtin; go_must (refine wpList_append_lit (J := J') (s := .tmp 147) (x := .tmp 149) (t := 31) (e := 35) (base := M) (v := .slice wvA one.ws.length wvc) (n := one.ws.length) (xs := wsC one.ws) (m := 1) (news := wcs ⟨(s.drop q).take (p - q),ln s q,cl s q,false,false⟩) rfl (.agg #[.string ByteArray.empty, .int .i64 0, .int .i64 0, .bool false, .bool false]) 5 40 rfl Try.underlying31 infoWd rfl rfl (HS2.out.mv.inv.alloc _) (HS2.out.ww.alloc _) rfl (heap_new_at (by simp)) rfl (wcs_one ⟨(s.drop q).take (p - q),ln s q,cl s q,false,false⟩) (by simp only [maxLen]; omega) (by omega) (by have := HS2.out.m2; simp at this ⊢; omega) ?_; intro v4 w4 J4 ho hgr hv; obtain ⟨A4, c4, rfl, -, -⟩ := ho.sl.form; have hA := HS2.out.add ⟨(s.drop q).take (p - q),ln s q,cl s q,false,false⟩ _ hgr ho; have HA := Lib.hid hA; have k4 := blk_cell_J HA.out.1 2 rfl; have f4 := frozen_of_row w4 (w.heap.size + 1) 2 _ _ HA.out.1; have HC4 := Lib.hid ((HC2.out.mw HA.out.2.1 (by intro e; have := (HS2.out.ww.lt g e.symm).1; have := HS2.out.m1; omega)).setOther (p := ⟨w.heap.size + 1, 2, none⟩) (by show g ≠ w.heap.size + 1; omega) (.slice A4 (one.ws.length + 1) c4)); clear ho hgr hv hA))
              go_wp2_with fail
              go_roundw
              case rel => exact ⟨p, f, false, outs, one.add ⟨(s.drop q).take (p - q),ln s q,cl s q,false,false⟩, J4, ov, _, oc, M, rfl, by omega, by simp [Ln.add]; omega, hpf, HN.out, HC4.out, HA.out.2.2⟩
              case measure =>
                have e1 := HC4.out.c1
                simp [e1, hc0, intOf]
                omega
            · have hlt1 : p < s.length := by omega
              rcases pk_cases (s.drop p) (by intro e; have := congrArg List.length e; simp at this; omega) with ⟨d, hpk1⟩ | hpk1
              · have hT1 := toks_at hlt1 hpk1
                have hpl := hpf
                rw [hT1, List.length_cons] at hpl
                by_cases hd : bareB d = true
                · have hdx := pk_head hlt1 hpk1
                  have HN : Hid (lx s f ((toks (s.drop (p + 1)) (p + 1)).dropWhile fun t => bareB t.c) outs (one.add ⟨(s.drop q).take (p + 1 - q) ++ ((toks (s.drop (p + 1)) (p + 1)).takeWhile fun t => bareB t.c).map Tok.c, ln s q, cl s q, false, false⟩) false = lexL s) := by
                    have h := HN1.out
                    rw [hT1, List.dropWhile_cons_of_pos (p := fun t : Tok => bareB t.c) (a := ⟨d, 1, p⟩) hd, List.takeWhile_cons_of_pos (p := fun t : Tok => bareB t.c) (a := ⟨d, 1, p⟩) hd, List.map_cons, ← List.singleton_append, ← List.append_assoc, take_more (by omega) hdx] at h
                    exact h
                  rw [hpk1]
                  go_wp2_with fail
                  refine (bare_calls d _).mono ?_
                  rw [hd]
                  rintro e w4 ⟨rfl, rfl⟩
                  go_wp2_with fail
                  refine (next_calls HR.out.inv HC.out).mono ?_
                  rw [hpk1]
                  rintro e w5 ⟨rfl, hM, hC⟩
                  have HR := Lib.hid (HR.out.then hM)
                  have WB := Lib.hid (WB.out.mv hM (by have := HWB.out; omega))
                  have HC := Lib.hid hC
                  clear hM hC
                  go_wp2_with fail
                  refine (peek_calls HC.out).mono ?_
                  rintro e w4 ⟨rfl, m, hw⟩
                  have HR := Lib.hid (HR.out.drewN m)
                  have HC := Lib.hid (HC.out.drewN m)
                  have WB := Lib.hid (WBox.drewN WB.out m)
                  rw [← hw] at HR HC WB
                  clear hw
                  go_wp2_with fail
                  go_roundw
                  case rel => exact ⟨p + 1, by omega, rfl, rfl, HC, HR, WB, by omega, HN⟩
                  case measure =>
                    have e1 := HC.out.c1
                    simp [e1, hc2, intOf]
                    omega
                · have HN : Hid (lx s f (toks (s.drop p) p) outs (one.add ⟨(s.drop q).take (p - q), ln s q, cl s q, false, false⟩) false = lexL s) := by
                    have h := HN1.out
                    rw [hT1, List.dropWhile_cons_of_neg (p := fun t : Tok => bareB t.c) (a := ⟨d, 1, p⟩) hd, List.takeWhile_cons_of_neg (p := fun t : Tok => bareB t.c) (a := ⟨d, 1, p⟩) hd, List.map_nil, List.append_nil, ← hT1] at h
                    exact h
                  rw [hpk1]
                  go_wp2_with fail
                  refine (bare_calls d _).mono ?_
                  rw [Bool.eq_false_iff.2 hd]
                  rintro e w4 ⟨rfl, hw⟩
                  rw [hw]
                  clear hw w4
                  have hc0' := HC.out.c0
                  have HSZ := strB_size s
                  have i0 : (0 : Int) ≤ (q : Int) := by omega
                  have i1 : (q : Int) ≤ (p : Int) := by omega
                  have i2 : (p : Int) ≤ s.length := by omega
                  have HX : (strB s).extract q p = strB ((s.drop q).take (p - q)) := strB_cut s (by omega) hps
                  go_wp2_with fail
                  go_still_tail 10, (by kernel_rfl)
                  change wpList _ _ _ _ _ wr.drew
                  have HR3 := Lib.hid HR.out.drew
                  have HC3 : Hid (Rd J' wr.drew g s p) := HC
                  have WB3 : Hid (WBox wr.drew w1.heap.size ⟨[], ln s q, cl s q, false, false⟩) := WB
                  generalize wr.drew = w6 at *
                  have hwb : J' w1.heap.size = [] := HS.out.mv.inv.nil (Nat.le_refl _)
                  have x0 := blk_cell_J WB3.out 0 rfl
                  have y0 := frozen_of_row w6 w1.heap.size 0 _ _ WB3.out
                  have HR2 := Lib.hid (HR3.out.setCell (p := ⟨w1.heap.size, 0, none⟩) (fun e => absurd e (Nat.lt_irrefl _)) hwb (.string (strB ((s.drop q).take (p - q)))))
                  have HC2 := Lib.hid (HC3.out.setOther (p := ⟨w1.heap.size, 0, none⟩) (by have := HWB.out; show g ≠ w1.heap.size; omega) (.string (strB ((s.drop q).take (p - q)))))
                  have HS2 := Lib.hid (HS.out.move HR2.out hg)
                  have k2 := blk_cell_J (HS.out.move HR3.out hg).b1 2 rfl
                  have n1 : ¬ w.heap.size + 1 = w1.heap.size := by have := HS.out.m1; have := HS.out.m2; omega
                  have n2 : ¬ w1.heap.size = w.heap.size + 1 := fun e => n1 e.symm
                  have x1 := blk_cell_J WB3.out 1 rfl
                  have x2 := blk_cell_J WB3.out 2 rfl
                  have x3 := blk_cell_J WB3.out 3 rfl
                  have x4 := blk_cell_J WB3.out 4 rfl
                  obtain ⟨wvA, wvc, hwv, -, -⟩ := HS.out.ww.sl.form
                  subst hwv
                  go_wp2_with (at_builtin; go_must (refine wpList_append_lit (J := J') (s := .tmp 147) (x := .tmp 149) (t := 31) (e := 35) (base := M) (v := .slice wvA one.ws.length wvc) (n := one.ws.length) (xs := wsC one.ws) (m := 1) (news := wcs ⟨(s.drop q).take (p - q),ln s q,cl s q,false,false⟩) rfl (.agg #[.string ByteArray.empty, .int .i64 0, .int .i64 0, .bool false, .bool false]) 5 40 rfl Try.underlying31 infoWd rfl rfl (HS2.out.mv.inv.alloc _) (HS2.out.ww.alloc _) rfl (heap_new_at (by simp)) rfl (wcs_one ⟨(s.drop q).take (p - q),ln s q,cl s q,false,false⟩) (by simp only [maxLen]; omega) (by omega) (by have := HS2.out.m2; simp at this ⊢; omega) ?_; intro v4 w4 J4 ho hgr hv; obtain ⟨A4, c4, rfl, -, -⟩ := ho.sl.form; have hA := HS2.out.add ⟨(s.drop q).take (p - q),ln s q,cl s q,false,false⟩ _ hgr ho; have HA := Lib.hid hA; have k4 := blk_cell_J HA.out.1 2 rfl; have f4 := frozen_of_row w4 (w.heap.size + 1) 2 _ _ HA.out.1; have HC4 := Lib.hid ((HC2.out.mw HA.out.2.1 (by intro e; have := (HS2.out.ww.lt g e.symm).1; have := HS2.out.m1; omega)).setOther (p := ⟨w.heap.size + 1, 2, none⟩) (by show g ≠ w.heap.size + 1; omega) (.slice A4 (one.ws.length + 1) c4)); clear ho hgr hv hA))
                  go_wp2_with fail
                  go_roundw
                  case rel => exact ⟨p, f, false, outs, one.add ⟨(s.drop q).take (p - q),ln s q,cl s q,false,false⟩, J4, ov, _, oc, M, rfl, by omega, by simp [Ln.add]; omega, hpf, HN.out, HC4.out, HA.out.2.2⟩
                  case measure =>
                    have e1 := HC4.out.c1
                    simp [e1, hc0, intOf]
                    omega
              · have hT1 := toks_at hlt1 hpk1
                have HN : Hid (lx s f (toks (s.drop p) p) outs (one.add ⟨(s.drop q).take (p - q), ln s q, cl s q, false, false⟩) false = lexL s) := by
                  have h := HN1.out
                  rw [hT1, List.dropWhile_cons_of_neg (p := fun t : Tok => bareB t.c) (a := ⟨32, 2, p⟩) (by show ¬ bareB 32 = true; decide), List.takeWhile_cons_of_neg (p := fun t : Tok => bareB t.c) (a := ⟨32, 2, p⟩) (by show ¬ bareB 32 = true; decide), List.map_nil, List.append_nil, ← hT1] at h
                  exact h
                rw [hpk1]
                have hc0' := HC.out.c0
                have HSZ := strB_size s
                have i0 : (0 : Int) ≤ (q : Int) := by omega
                have i1 : (q : Int) ≤ (p : Int) := by omega
                have i2 : (p : Int) ≤ s.length := by omega
                have HX : (strB s).extract q p = strB ((s.drop q).take (p - q)) := strB_cut s (by omega) hps
                go_wp2_with fail
                go_still_tail 10, (by kernel_rfl)
                change wpList _ _ _ _ _ wr.drew
                have HR3 := Lib.hid HR.out.drew
                have HC3 : Hid (Rd J' wr.drew g s p) := HC
                have WB3 : Hid (WBox wr.drew w1.heap.size ⟨[], ln s q, cl s q, false, false⟩) := WB
                generalize wr.drew = w6 at *
                have hwb : J' w1.heap.size = [] := HS.out.mv.inv.nil (Nat.le_refl _)
                have x0 := blk_cell_J WB3.out 0 rfl
                have y0 := frozen_of_row w6 w1.heap.size 0 _ _ WB3.out
                have HR2 := Lib.hid (HR3.out.setCell (p := ⟨w1.heap.size, 0, none⟩) (fun e => absurd e (Nat.lt_irrefl _)) hwb (.string (strB ((s.drop q).take (p - q)))))
                have HC2 := Lib.hid (HC3.out.setOther (p := ⟨w1.heap.size, 0, none⟩) (by have := HWB.out; show g ≠ w1.heap.size; omega) (.string (strB ((s.drop q).take (p - q)))))
                have HS2 := Lib.hid (HS.out.move HR2.out hg)
                have k2 := blk_cell_J (HS.out.move HR3.out hg).b1 2 rfl
                have n1 : ¬ w.heap.size + 1 = w1.heap.size := by have := HS.out.m1; have := HS.out.m2; omega
                have n2 : ¬ w1.heap.size = w.heap.size + 1 := fun e => n1 e.symm
                have x1 := blk_cell_J WB3.out 1 rfl
                have x2 := blk_cell_J WB3.out 2 rfl
                have x3 := blk_cell_J WB3.out 3 rfl
                have x4 := blk_cell_J WB3.out 4 rfl
                obtain ⟨wvA, wvc, hwv, -, -⟩ := HS.out.ww.sl.form
                subst hwv
                go_wp2_with (at_builtin; go_must (refine wpList_append_lit (J := J') (s := .tmp 147) (x := .tmp 149) (t := 31) (e := 35) (base := M) (v := .slice wvA one.ws.length wvc) (n := one.ws.length) (xs := wsC one.ws) (m := 1) (news := wcs ⟨(s.drop q).take (p - q),ln s q,cl s q,false,false⟩) rfl (.agg #[.string ByteArray.empty, .int .i64 0, .int .i64 0, .bool false, .bool false]) 5 40 rfl Try.underlying31 infoWd rfl rfl (HS2.out.mv.inv.alloc _) (HS2.out.ww.alloc _) rfl (heap_new_at (by simp)) rfl (wcs_one ⟨(s.drop q).take (p - q),ln s q,cl s q,false,false⟩) (by simp only [maxLen]; omega) (by omega) (by have := HS2.out.m2; simp at this ⊢; omega) ?_; intro v4 w4 J4 ho hgr hv; obtain ⟨A4, c4, rfl, -, -⟩ := ho.sl.form; have hA := HS2.out.add ⟨(s.drop q).take (p - q),ln s q,cl s q,false,false⟩ _ hgr ho; have HA := Lib.hid hA; have k4 := blk_cell_J HA.out.1 2 rfl; have f4 := frozen_of_row w4 (w.heap.size + 1) 2 _ _ HA.out.1; have HC4 := Lib.hid ((HC2.out.mw HA.out.2.1 (by intro e; have := (HS2.out.ww.lt g e.symm).1; have := HS2.out.m1; omega)).setOther (p := ⟨w.heap.size + 1, 2, none⟩) (by show g ≠ w.heap.size + 1; omega) (.slice A4 (one.ws.length + 1) c4)); clear ho hgr hv hA))
                go_wp2_with fail
                go_roundw
                case rel => exact ⟨p, f, false, outs, one.add ⟨(s.drop q).take (p - q),ln s q,cl s q,false,false⟩, J4, ov, _, oc, M, rfl, by omega, by simp [Ln.add]; omega, hpf, HN.out, HC4.out, HA.out.2.2⟩
                case measure =>
                  have e1 := HC4.out.c1
                  simp [e1, hc0, intOf]
                  omega
        · have HN : Hid (lexL s = .error q) := by
            rw [Hid, ← HQ.out, lx_cons, if_neg h10, if_neg h32, if_neg (fun e => h9' e.1), if_neg h35, if_neg (by simp [h58, h61]), if_neg h34, if_neg hb]
          have HS := Lib.hid (HS.out.move HR.out hg)
          go_wp2_with (go_at_call 40; go_must (refine (bare_calls c _).mono ?_; rw [Bool.eq_false_iff.2 hb]; rintro e w4 ⟨rfl, rfl⟩))
          refine ⟨rfl, ?_⟩
          rw [HN.out]
          exact ⟨rfl, J', HS.out.mv⟩
end Go.Proofs.Ythfjeijhnikabaa
