/- The statement LexBlanks. -/
import Derived.Test.YthfjeijhnikabaaLexBst
import Derived.Test.YthfjeijhnikabaaLexBack
namespace Go.Proofs.Ythfjeijhnikabaa
open Go.RowKit
set_option linter.unusedVariables false

theorem Txt.upto {A : List Lq} {k : Nat} {x : Lq} {B U : List UInt8} (h : Txt (A.take k) B) (hk : A[k]? = some x) (hw : Wt x.2 U) {e : List UInt8} (he : Ender e) : Txt (A.take (k + 1)) (B ++ ((if x.1 = true then [9] else []) ++ U ++ e)) := by
  rw [List.take_add_one, hk]
  exact h.snoc x.1 hw he
theorem Wt.upto {A : List Wq} {k : Nat} {x : Wq} {U : List UInt8} (hk : A[k]? = some x) (hg : gw x) (h : if k = 0 then U = [] else ∃ V b, Wt (A.take k) V ∧ Blank b ∧ U = V ++ b) : Wt (A.take (k + 1)) (U ++ wt x) := by
  rw [List.take_add_one, hk]
  by_cases h0 : k = 0
  · subst h0
    rw [if_pos rfl] at h
    subst h
    exact .one hg
  · rw [if_neg h0] at h
    obtain ⟨V, b, h1, hb, rfl⟩ := h
    exact h1.snoc hb hg
theorem one_line {J : Jm} {w : World} (hI : Inv J w) (x : Wi) :
    let wc : List Value := [.string (strB x.text), .int .i64 x.line, .int .i64 x.col, .bool x.quoted, .bool x.mark]
    let w1 := w.alloc (.cells wc.toArray 35)
    let lcs : List Value := [.int .i64 0, .bool false, .slice (some ⟨w.heap.size, 0, none⟩) 1 1]
    ∃ J2, Ext J w J2 (w1.alloc (.cells lcs.toArray 33)) ∧ Lni J2 (.slice (some ⟨w.heap.size + 1, 0, none⟩) 1 1) [⟨0, false, [x]⟩] := by
  intro wc w1 lcs
  have e1 : w1.heap.size = w.heap.size + 1 := by simp [w1]
  have X1 := (Ext.refl hI).litV 35 wc
  have X2 := (Ext.refl X1.inv).litV 33 lcs
  rw [e1] at X2
  refine ⟨_, X1.trans X2, lcs, Sl.of_block _ rfl (by decide), .cons ?_ .nil⟩
  refine Sl.mono (Sl.of_block J (g := w.heap.size) (n := 1) (size := 5) (cs := wc) rfl (by decide)) (X2.le X1.inv)
theorem build_w (ev : Operand → Value) (w : World) (x : Nat) {d : Option Nat} {ty : TypeId} {ps : String} {af : Array Edge} (z : Wi) (hx : ev (.tmp x) = .agg #[.string (strB z.text), .int .i64 z.line, .int .i64 z.col, .bool z.quoted, .bool z.mark]) :
    (execOp ev ⟨d, .buildSlice 31 1 #[(0, .tmp x)], ty, ps, af, none⟩).run Try.prog w = .ok (.value (.slice (some ⟨w.heap.size, 0, none⟩) 1 1)) (w.alloc (.cells #[.string (strB z.text), .int .i64 z.line, .int .i64 z.col, .bool z.quoted, .bool z.mark] 35)) := by
  simp [hx, go_sem]
theorem build_l (ev : Operand → Value) (w : World) (x : Nat) {d : Option Nat} {ty : TypeId} {ps : String} {af : Array Edge} {A : Option Addr} (hx : ev (.tmp x) = .agg #[.int .i64 0, .bool false, .slice A 1 1]) :
    (execOp ev ⟨d, .buildSlice 24 1 #[(0, .tmp x)], ty, ps, af, none⟩).run Try.prog w = .ok (.value (.slice (some ⟨w.heap.size, 0, none⟩) 1 1)) (w.alloc (.cells #[.int .i64 0, .bool false, .slice A 1 1] 33)) := by
  simp [hx, go_sem]
theorem wp_bw {ops : Array Oper} {Q : Exit → Act → World → Prop} {rest : List Oper} {a : Act} {w : World} {d : Option Nat} {ty : TypeId} {ps : String} {af : Array Edge} {x : Nat} (z : Wi) (hx : a.eval (.tmp x) = .agg #[.string (strB z.text), .int .i64 z.line, .int .i64 z.col, .bool z.quoted, .bool z.mark])
    (h : wpList Try.prog ops Q rest (a.put d (.slice (some ⟨w.heap.size, 0, none⟩) 1 1)) (w.alloc (.cells #[.string (strB z.text), .int .i64 z.line, .int .i64 z.col, .bool z.quoted, .bool z.mark] 35))) :
    wpList Try.prog ops Q (⟨d, .buildSlice 31 1 #[(0, .tmp x)], ty, ps, af, none⟩ :: rest) a w := wpList_run rfl (build_w a.eval w x z hx) h
theorem wp_bl {ops : Array Oper} {Q : Exit → Act → World → Prop} {rest : List Oper} {a : Act} {w : World} {d : Option Nat} {ty : TypeId} {ps : String} {af : Array Edge} {x : Nat} (A : Option Addr) (hx : a.eval (.tmp x) = .agg #[.int .i64 0, .bool false, .slice A 1 1])
    (h : wpList Try.prog ops Q rest (a.put d (.slice (some ⟨w.heap.size, 0, none⟩) 1 1)) (w.alloc (.cells #[.int .i64 0, .bool false, .slice A 1 1] 33))) :
    wpList Try.prog ops Q (⟨d, .buildSlice 24 1 #[(0, .tmp x)], ty, ps, af, none⟩ :: rest) a w := wpList_run rfl (build_l a.eval w x hx) h
set_option maxRecDepth 100000 in
set_option maxHeartbeats 8000000 in
theorem lexBlanks_walk {J : Jm} {w : World} (hI : Inv J w) (s : List UInt8) (hs : s.length ≤ 1048576) {v : Value} {how : List UInt8} (hhow : Bs J v how) (hhl : how.length ≤ 140737488351232) :
    Calls Try.prog 9 #[.string (strB s), v] w fun e w' => e = .returned (.bool true) ∧ Below w.heap.size w w' := by
  have HSZ := strB_size s
  obtain ⟨Ah, ch, rfl, -, -⟩ := hhow.form
  have HHOW := Lib.hid hhow
  have HHL := Lib.hid (show True → how.length ≤ 140737488351232 from fun _ => hhl)
  clear hhow hhl
  go_enter Try.func9, Try.ntmps9
  have hmf : ∀ (fn : Fn) (first cap : Array Value) (w : World), (Instr.makeFunc fn first cap).run Try.prog w = .ok (.func fn first cap) w := fun _ _ _ _ => rfl
  have HMF := Lib.hid hmf
  clear hmf
  go_wp2_with fail
  refine (works_calls (hI.alloc _)).mono ?_
  rintro e w1 ⟨J1, rfl, hE⟩
  have HB0 := Lib.hid ((hE.below.block w.heap.size (by simp)).trans (heap_alloc_new w (.cells #[.slice Ah how.length ch] 38)))
  have HE := Lib.hid (((Ext.refl hI).alloc (.cells #[.slice Ah how.length ch] 38)).trans hE)
  clear hE
  go_wp2_with fail
  refine (Lines_calls HE.out.inv s hs).mono ?_
  intro e w3 h
  unfold LinesP at h
  by_cases hl : 32768 < s.length
  · rw [if_pos hl] at h
    obtain ⟨rfl, hE3⟩ := h
    have HE := Lib.hid ((HE.out.trans hE3).alloc (.cells #[.int .i64 3, .int .i64 32768] 27))
    clear hE3 hl
    unfold spot
    go_wp2_with fail
    go_ret
    exact ⟨rfl, HE.out.below⟩
  rw [if_neg hl] at h
  clear hl
  cases hx : lexL s with
  | error x =>
    rw [hx] at h
    obtain ⟨rfl, J3, hE3⟩ := h
    have HE := Lib.hid ((HE.out.trans hE3).alloc (.cells #[.int .i64 6, .int .i64 x] 27))
    clear hE3
    unfold spot
    go_wp2_with fail
    go_ret
    exact ⟨rfl, HE.out.below⟩
  | ok ls =>
    rw [hx] at h
    obtain ⟨J3, v, c, M, B, rfl, hE3, hB, hO, hL⟩ := h
    obtain ⟨A3, cp3, rfl, -, -⟩ := hO.sl.form
    have HLN := Lib.hid (LsO.lns hO hL)
    by_cases h2k : 2000 < s.length
    · have h2i : (2000 : Int) < s.length := by omega
      have HE := Lib.hid ((HE.out.trans hE3).alloc (.cells #[.int .i64 0, .int .i64 0] 27))
      clear hE3 h2k hB hO hL hx
      unfold spot
      go_wp2_with fail
      go_ret
      exact ⟨rfl, HE.out.below⟩
    have h2i : ¬ (2000 : Int) < s.length := by omega
    have HLE := Lib.hid (lexL_run hx).le
    have HTT := Lib.hid (lexL_tot hx)
    have HGD := Lib.hid ((lexL_run hx).good)
    have hla : ls.length ≤ 2000 := by have := (lexL_run hx).le.1; omega
    have H2K := Lib.hid (show True → s.length ≤ 2000 from fun _ => by omega)
    have HB0 := Lib.hid (((hE3.alloc (.cells #[.int .i64 0, .int .i64 0] 27)).below.block _ (lt_of_heap HB0.out)).trans HB0.out)
    have HE := Lib.hid ((HE.out.trans hE3).alloc (.cells #[.int .i64 0, .int .i64 0] 27))
    clear hE3 hB hO hL hx h2k
    have hz3 : (w3.alloc (.cells #[.int .i64 0, .int .i64 0] 27)).heap.size = w3.heap.size + 1 := by simp
    have hN0 := heap_alloc_new (w3.alloc (.cells #[.int .i64 0, .int .i64 0] 27)) (.cells #[.int .i64 0] 3)
    have hjn := HE.out.inv.nil (b := w3.heap.size + 1) (by rw [hz3]; exact Nat.le_refl _)
    rw [hz3] at hN0
    have HS : Hid (Bst J3 (w3.alloc (.cells #[.int .i64 0, .int .i64 0] 27)) (w3.heap.size + 1) w.heap.size (.slice Ah how.length ch) 0 J3 ((w3.alloc (.cells #[.int .i64 0, .int .i64 0] 27)).alloc (.cells #[.int .i64 0] 3)) (.slice none 0 0) []) :=
      ⟨(Ext.refl HE.out.inv).alloc _, by rw [hz3]; exact Nat.le_refl _, hN0, hjn, (Below.heap_alloc _ _ _ (lt_of_heap HB0.out)).trans HB0.out, Own.nil _ _ _ _ _⟩
    clear hz3 hN0 hjn
    have hmf := HMF.out
    unfold spot
    go_wp2_with fail
    clear hmf
    generalize w3.heap.size + 1 = nb at *
    generalize World.alloc w3 _ = WS at *
    obtain ⟨A, hA⟩ : ∃ A, A = ls.map Ln.i := ⟨_, rfl⟩
    have HLI := Lib.hid (show Lni J3 (.slice A3 ls.length cp3) A from by rw [hA]; exact HLN.out.i)
    have HQ := Lib.hid (show A.map Li.q = ls.map lst from by rw [hA]; exact lsti ls)
    have HAL := Lib.hid (show A.length = ls.length from by rw [hA, List.length_map])
    have HGQ := Lib.hid (show ∀ (k : Nat) x, (A.map Li.q)[k]? = some x → GL x from by
      intro k x h
      have hm := List.mem_of_getElem? h
      rw [HQ.out] at hm
      obtain ⟨l, h1, h2⟩ := List.mem_map.1 hm
      rw [← h2]
      exact HGD.out l h1)
    rw [← hA] at HTT
    have HTA := Lib.hid (show tot A ≤ 4000 from by have := HTT.out; have := H2K.out trivial; omega)
    have HH3 := Lib.hid (HHOW.out.mono (HE.out.le hI))
    clear hA
    have HEB := HE
    go_loopw [7, 10] (fun bv iv wr => ∃ (k n : Nat) (v' : Value) (J' : Jm) (B : List UInt8), k ≤ ls.length ∧ iv = .int .i64 k ∧ bv = v' ∧ Hid (Bst J3 WS nb w.heap.size (.slice Ah how.length ch) n J' wr v' B) ∧ Hid (Txt ((A.map Li.q).take k) B) ∧ Hid (B.length ≤ 20 * (tot (A.take k) + k) ∧ n ≤ tot (A.take k) + k)) (fun _ iv _ => ls.length - (intOf iv).toNat)
    case atStart => exact ⟨0, 0, _, _, [], Nat.zero_le _, rfl, rfl, HS, .nil, ⟨Nat.zero_le _, Nat.zero_le _⟩⟩
    case round =>
      clear HS HE
      obtain ⟨k, n, v', J', B, hk, rfl, rfl, HS, HX, HN⟩ := hrel
      have i0 : (0 : Int) ≤ (k : Int) := by omega
      by_cases hlt : k < ls.length
      · have i1 : (k : Int) < ls.length := by omega
        have hltA : k < A.length := by rw [HAL.out]; exact hlt
        obtain ⟨b, o, WA, wc, rfl, c0, c1, c2, hw⟩ := (HLI.out.mono (HS.out.ext.le HEB.out.inv)).cell HS.out.ext.inv hltA
        have hqk : (A.map Li.q)[k]? = some A[k].q := by rw [List.getElem?_map, List.getElem?_eq_getElem hltA]; rfl
        have HT1 := Lib.hid (tot_at A k hltA)
        have HT2 := Lib.hid (tot_take A (k + 1))
        obtain ⟨l, hAk⟩ : ∃ l, l = A[k] := ⟨_, rfl⟩
        rw [← hAk] at hw c0 c1 c2 hqk HT1
        have HGK := Lib.hid (HGQ.out k _ hqk)
        have HLK := Lib.hid hAk
        have hwl := totW_len l.ws
        have hl8 : l.ws.length ≤ 4000 := by have := HT1.out; have := HT2.out; have := HTA.out; omega
        obtain ⟨lind, hlind⟩ : ∃ lind, lind = l.ind := ⟨_, rfl⟩
        rw [← hlind] at c1
        have HLD := Lib.hid hlind
        have HLA := Lib.hid hltA
        have HQK := Lib.hid hqk
        have HQK := Lib.hid hqk
        obtain ⟨P, hP⟩ : ∃ P, P = B ++ (if lind = true then [9] else []) := ⟨_, rfl⟩
        have HBN := Lib.hid (show B.length ≤ 200000 from by have := HN.out.1; have := HT1.out; have := HT2.out; have := HTA.out; omega)
        have HPN := Lib.hid (show P.length ≤ B.length + 1 from by rw [hP, List.length_append]; have := tab_len lind; omega)
        have HP := Lib.hid hP
        clear hP hw hAk hwl hlind hqk c2
        go_upto_if 41 with fail
        go_cut [7] (fun bv wx => ∃ J2, Hid (Bst J3 WS nb w.heap.size (.slice Ah how.length ch) n J2 wx bv P))
        case first => as_aux_lemma =>
          cases lind with
          | true =>
            have hfl := HBN.out
            have HE := Lib.hid HS.out.ext
            have HO := Lib.hid HS.out.row
            go_wp2_with (at_builtin; go_must (refine wpList_append_lit (J := J') (s := .tmp 42) (x := .tmp 43) (t := 38) (e := 5) (base := WS.heap.size) (v := u7) (n := B.length) (xs := bcs B) (m := 1) (news := bcs [9]) rfl (.int .u8 0) 1 1 rfl Try.underlying38 info_u8 rfl rfl (HE.out.inv.alloc _) (HO.out.alloc _) rfl (heap_alloc_new _ _) rfl (bcs_one _) (by simp only [maxLen]; omega) (by omega) (by have := HE.out.below.size; simp; omega) ?_; intro v5 w5 J5 ho5 hg5 hv5; have HE5 := Lib.hid ((HE.out.alloc _).grew (HO.out.alloc _) hg5); have HO5 := Lib.hid ho5; have HV5 := Lib.hid hv5; have HG5 := Lib.hid hg5; clear ho5 hg5 hv5))
            have HS := Lib.hid (Bst.app (HS.out.below ((Below.refl _ _).alloc (Nat.le_refl _) _)) (Rw.lit HO5.out rfl rfl) HG5.out)
            clear HO5 HE5 HV5 HG5
            go_wp2_with fail
            go_meet
            case rel => exact ⟨_, by rw [HP.out]; exact HS⟩
          | false =>
            go_wp2_with fail
            go_meet
            case rel => exact ⟨_, Lib.hid (by rw [HP.out]; simpa using HS.out)⟩
        case rest => as_aux_lemma =>
          clear HS c0 c1
          obtain ⟨J2, HS⟩ := hcut
          go_wp2_with fail
          go_loopw [7, 11] (fun bv iv wq => ∃ (q m : Nat) (v' : Value) (J' : Jm) (U : List UInt8), q ≤ l.ws.length ∧ iv = .int .i64 q ∧ bv = v' ∧ Hid (Bst J3 WS nb w.heap.size (.slice Ah how.length ch) m J' wq v' (P ++ U)) ∧ Hid (if q = 0 then U = [] else Wt ((l.ws.map Wi.q).take q) U) ∧ Hid (U.length ≤ 20 * totW (l.ws.take q) ∧ m ≤ n + totW (l.ws.take q))) (fun _ iv _ => l.ws.length - (intOf iv).toNat)
          case atStart => exact ⟨0, n, _, _, [], Nat.zero_le _, rfl, rfl, by rw [List.append_nil]; exact HS, by rw [if_pos rfl]; rfl, ⟨Nat.zero_le _, Nat.le_add_right _ _⟩⟩
          case round =>
            clear HS
            obtain ⟨q, m, v', J4, U, hq, rfl, rfl, HS, HW, HM⟩ := hrel
            have q0 : (0 : Int) ≤ (q : Int) := by omega
            obtain ⟨b9, o9, WA, wcp, hA9, -, -, c2, hw⟩ := (HLI.out.mono (HS.out.ext.le HEB.out.inv)).cell HS.out.ext.inv HLA.out
            cases hA9
            rw [← HLK.out] at c2 hw
            by_cases hql : q < l.ws.length
            · have q1 : (q : Int) < l.ws.length := by omega
              have HW1 := Lib.hid (totW_at l.ws q hql)
              have HW2 := Lib.hid (totW_take l.ws (q + 1))
              have hUN : (P ++ U).length ≤ 400000 := by rw [List.length_append]; have := HM.out.1; have := HPN.out; have := HBN.out; have := HW1.out; have := HW2.out; have := HT1.out; have := HT2.out; have := HTA.out; omega
              have hmn : m ≤ 100000 := by have := HM.out.2; have := HN.out.2; have := HW1.out; have := HW2.out; have := HT1.out; have := HT2.out; have := HTA.out; omega
              have HQL := Lib.hid hql
              have HMN := Lib.hid hmn
              clear hw hq hmn
              go_upto_if 56 with fail
              go_cut [7] (fun bv wx => ∃ (m2 : Nat) (J5 : Jm) (U2 : List UInt8), Hid (Bst J3 WS nb w.heap.size (.slice Ah how.length ch) m2 J5 wx bv (P ++ U2)) ∧ Hid (if q = 0 then U2 = [] else ∃ V b, Wt ((l.ws.map Wi.q).take q) V ∧ Blank b ∧ U2 = V ++ b) ∧ Hid (U2.length ≤ U.length + 16 ∧ m2 ≤ m + 1))
              case first => as_aux_lemma =>
                by_cases hq0 : q = 0
                · subst hq0
                  go_wp2_with fail
                  go_meet
                  case rel => exact ⟨m, _, U, HS, Lib.hid (by have := HW.out; simpa using this), ⟨by omega, by omega⟩⟩
                · have q2 : (0 : Int) < (q : Int) := by omega
                  clear c2
                  go_wp2_with fail
                  refine (pick_calls HS.out.ext.inv (by have := HMN.out; omega) HS.out.n0 HS.out.jn HS.out.h0 (HH3.out.mono (HS.out.ext.le HEB.out.inv)) (by have := HHL.out trivial; omega)).mono ?_
                  rintro e w5 ⟨rfl, rfl⟩
                  have HS := Lib.hid HS.out.pick
                  generalize World.setCell _ _ _ = W5 at *
                  have hpk := pkv_lt how m
                  go_wp2_with fail
                  refine (blank_calls (pkv how m) hpk _).mono ?_
                  rintro e w6 ⟨rfl, hb6⟩
                  have HS := Lib.hid (HS.out.below hb6)
                  have hbl := bl_len (pkv how m)
                  clear hb6
                  have HE := Lib.hid HS.out.ext
                  have HO := Lib.hid HS.out.row
                  have hbz := strB_size (bl (pkv how m))
                  go_wp2_with (at_builtin; go_must (refine wpList_append_str (J := J4) (s := .tmp 57) (x := .tmp 60) (t := 38) (u := 9) (e := 5) (base := WS.heap.size) (v := u7) (n := (P ++ U).length) (xs := bcs (P ++ U)) rfl rfl Try.underlying38 Try.underlying9 info_u8 rfl HE.out.inv HO.out rfl (by rw [strB_size]; omega) (by have := HE.out.below.size; simp; omega) ?_; intro v6 w6 J6 ho6 hg6 hv6; have HE6 := Lib.hid ((HE.out).grew (HO.out) hg6); have HO6 := Lib.hid ho6; have HV6 := Lib.hid hv6; have HG6 := Lib.hid hg6; clear ho6 hg6 hv6))
                  have HS := Lib.hid (HS.out.app (Rw.str HO6.out rfl) HG6.out)
                  clear HO6 HE6 HV6 HG6
                  go_wp2_with fail
                  go_meet
                  case rel => exact ⟨m + 1, _, U ++ bl (pkv how m), by rw [← List.append_assoc]; exact HS, Lib.hid (by have := HW.out; rw [if_neg hq0] at this ⊢; exact ⟨U, _, this, bl_blank _, rfl⟩), ⟨by rw [List.length_append]; omega, by omega⟩⟩
              case rest => as_aux_lemma =>
                clear HS HW c2
                obtain ⟨m2, J5, U2, HS, HW, HM2⟩ := hcut
                obtain ⟨b9, o9, WA, wcp, hA9, -, -, c2, hw⟩ := (HLI.out.mono (HS.out.ext.le HEB.out.inv)).cell HS.out.ext.inv HLA.out
                cases hA9
                rw [← HLK.out] at c2 hw
                obtain ⟨b', o', rfl, d0, d1, d2, d3, d4⟩ := wi_cell hw HS.out.ext.inv HQL.out
                have hzq : (l.ws.map Wi.q)[q]? = some (l.ws[q]'HQL.out).q := by rw [List.getElem?_map, List.getElem?_eq_getElem HQL.out]; rfl
                obtain ⟨z, hz⟩ : ∃ z, z = l.ws[q]'HQL.out := ⟨_, rfl⟩
                rw [← hz] at d0 d1 d2 d3 d4 hzq
                have HZQ := Lib.hid hzq
                have HZ := Lib.hid hz
                have HUN := Lib.hid hUN
                have hztl : z.text.length + 1 ≤ 4000 := by have := HW1.out; rw [← hz] at this; have := HW2.out; have := HT1.out; have := HT2.out; have := HTA.out; omega
                have HZL := Lib.hid hztl
                clear hw hz hzq hUN hztl
                go_upto_region 20 with fail
                have HS := Lib.hid (HS.out.below ((Below.refl _ _).alloc (Nat.le_refl _) (.cells #[.string (strB z.text), .int .i64 z.line, .int .i64 z.col, .bool z.quoted, .bool z.mark] 35)))
                have HBX := Lib.hid (heap_alloc_new wc (.cells #[.string (strB z.text), .int .i64 z.line, .int .i64 z.col, .bool z.quoted, .bool z.mark] 35))
                generalize World.alloc wc _ = W1 at *
                generalize wc.heap.size = xb at *
                clear c2 d0 d1 d2 d3 d4
                have x0 := blk_cell_J HBX.out 0 rfl
                have x1 := blk_cell_J HBX.out 1 rfl
                have x2 := blk_cell_J HBX.out 2 rfl
                have x3 := blk_cell_J HBX.out 3 rfl
                have x4 := blk_cell_J HBX.out 4 rfl
                obtain ⟨J9, X9, hl9⟩ := one_line HS.out.ext.inv z
                have HX9 := Lib.hid X9
                have HL9 := Lib.hid hl9
                have HS := Lib.hid (HS.out.below X9.below)
                clear X9 hl9
                go_wp2_with (first | ((with_reducible (refine wp_bw (x := 71) z ?_ ?_)); rfl) | ((with_reducible (refine wp_bl (x := 73) (some ⟨W1.heap.size, 0, none⟩) ?_ ?_)); rfl))
                refine (write_calls HX9.out.inv HL9.out (by simp) (by have := HZL.out; simp [tot, totW]; omega)).mono ?_
                rw [show writeL (List.map Li.q [⟨0, false, [z]⟩]) = wt z.q ++ [10] from by simp [writeL, lnT, wsT, Li.q]]
                rintro e w6 ⟨rfl, hb6⟩
                have HS := Lib.hid (HS.out.below hb6)
                clear hb6
                obtain ⟨zt, hzt⟩ : ∃ zt, zt = wt z.q ++ [10] := ⟨_, rfl⟩
                have hwz := wt_len z.q
                have hztn : zt.length = (wt z.q).length + 1 := by rw [hzt, List.length_append]; rfl
                have hzt5 : z.q.1.length = z.text.length := rfl
                rw [← hzt]
                have HZT := Lib.hid hzt
                have hpu : (P ++ U2).length ≤ 500000 := by have := HUN.out; have := HM2.out.1; rw [List.length_append] at *; omega
                have hz6 : zt.length ≤ 10000 := by have := HZL.out; omega
                have HZ6 := Lib.hid hz6
                have HZN := Lib.hid hztn
                have HPU := Lib.hid hpu
                have HE := Lib.hid HS.out.ext
                have HO := Lib.hid HS.out.row
                have hbz := strB_size zt
                clear hzt hwz hztn hzt5
                go_wp2_with (at_builtin; go_must (refine wpList_append_str (J := J5) (s := .tmp 70) (x := .tmp 75) (t := 38) (u := 9) (e := 5) (base := WS.heap.size) (v := u7) (n := (P ++ U2).length) (xs := bcs (P ++ U2)) rfl rfl Try.underlying38 Try.underlying9 info_u8 rfl HE.out.inv HO.out rfl (by rw [strB_size]; omega) (by have := HE.out.below.size; simp; omega) ?_; intro v6 w6 J6 ho6 hg6 hv6; have HE6 := Lib.hid ((HE.out).grew (HO.out) hg6); have HO6 := Lib.hid ho6; have HV6 := Lib.hid hv6; have HG6 := Lib.hid hg6; clear ho6 hg6 hv6))
                have HS := Lib.hid (HS.out.app (Rw.str HO6.out rfl) HG6.out)
                clear HO6 HE6 HV6 HG6
                have hBl : (P ++ U2 ++ zt).length = (P ++ U2 ++ wt z.q).length + 1 := by simp only [List.length_append, HZN.out]; omega
                obtain ⟨g, cap, J7, rfl, hcap, HS7⟩ := HS.out.cut (P := P ++ U2 ++ wt z.q) (x := [10]) (by rw [HZT.out]; simp only [List.append_assoc]) (by decide)
                rw [hBl]
                have HS := Lib.hid HS7
                clear HS7 HE HO
                obtain ⟨N, hN⟩ : ∃ N, N = (P ++ U2 ++ wt z.q).length := ⟨_, rfl⟩
                rw [← hN] at hBl hcap HS ⊢
                have hN5 : N ≤ 600000 := by rw [hN, List.length_append]; have := HPU.out; have := HZN.out; have := HZ6.out; omega
                have n0 : (0 : Int) ≤ N := by omega
                have n1 : (N : Int) ≤ cap := by omega
                obtain ⟨N1, hN1⟩ : ∃ N1, N1 = N + 1 := ⟨_, rfl⟩
                rw [← hN1]
                have n2 : IntKind.i64.wrap ((N1 : Int) - 1) = N := by rw [IntKind.wrap_i64]; omega
                clear hN1
                have hwz := wt_len z.q
                have hzt5 : z.q.1.length = z.text.length := rfl
                have hw1 := HW1.out
                rw [← HZ.out] at hw1
                have hU := HM.out
                have hU2 := HM2.out
                have HU3 := Lib.hid (show (U2 ++ wt z.q).length ≤ 20 * totW (l.ws.take (q + 1)) ∧ m2 ≤ n + totW (l.ws.take (q + 1)) from by rw [List.length_append, hw1]; omega)
                have HW3 := Lib.hid (show (if q + 1 = 0 then U2 ++ wt z.q = [] else Wt ((l.ws.map Wi.q).take (q + 1)) (U2 ++ wt z.q)) from by
                  rw [if_neg (by omega)]
                  exact Wt.upto HZQ.out (HGK.out.2 _ (List.mem_of_getElem? HZQ.out)) HW.out)
                have HS3 := Lib.hid (show Bst J3 WS nb w.heap.size (.slice Ah how.length ch) m2 J7 _ (.slice (some ⟨g, 0, none⟩) N cap) (P ++ (U2 ++ wt z.q)) from by rw [← List.append_assoc]; exact HS.out)
                have HQL2 := Lib.hid hql
                clear hBl hcap hN hwz hzt5 hw1 hU hU2 hN5 HS hpu hz6 x0 x1 x2 x3 x4 hbz
                go_wp2_with fail
                go_simp
                go_wp2_with fail
                go_roundw
                case rel => exact ⟨q + 1, m2, _, J7, U2 ++ wt z.q, by omega, by go_num, rfl, HS3, HW3, HU3⟩
                case measure => simp [intOf] <;> omega
            · obtain rfl : q = l.ws.length := by omega
              have q1 : ¬ (l.ws.length : Int) < l.ws.length := by omega
              have hwne : l.ws ≠ [] := fun e => HGK.out.1 (by show l.ws.map Wi.q = []; rw [e]; rfl)
              have HWF := Lib.hid (show Wt (l.ws.map Wi.q) U from by
                have h := HW.out
                rw [if_neg (by have := List.length_pos_iff.2 hwne; omega), List.take_of_length_le (by rw [List.length_map]; exact Nat.le_refl _)] at h
                exact h)
              have hM := HM.out
              rw [List.take_of_length_le (Nat.le_refl _)] at hM
              have hUN : (P ++ U).length ≤ 400000 := by rw [List.length_append]; have := HPN.out; have := HBN.out; have := HT1.out; have := HT2.out; have := HTA.out; omega
              have hmn : m ≤ 100000 := by have := HN.out.2; have := HT1.out; have := HT2.out; have := HTA.out; omega
              have HMN := Lib.hid hmn
              have HM3 := Lib.hid hM
              have HUN := Lib.hid hUN
              clear hw hq hwne hM hmn
              go_wp2_with fail
              refine (pick_calls HS.out.ext.inv (by have := HMN.out; omega) HS.out.n0 HS.out.jn HS.out.h0 (HH3.out.mono (HS.out.ext.le HEB.out.inv)) (by have := HHL.out trivial; omega)).mono ?_
              rintro e w5 ⟨rfl, rfl⟩
              have HS := Lib.hid HS.out.pick
              generalize World.setCell _ _ _ = W5 at *
              clear c2
              have hpk := pkv_lt how m
              go_wp2_with fail
              refine (behind_calls (pkv how m) hpk _).mono ?_
              rintro e w6 ⟨rfl, hb6⟩
              have HS := Lib.hid (HS.out.below hb6)
              have hbl := be_len (pkv how m)
              clear hb6
              have HE := Lib.hid HS.out.ext
              have HO := Lib.hid HS.out.row
              have hbz := strB_size (be (pkv how m))
              go_wp2_with (at_builtin; go_must (refine wpList_append_str (J := J4) (s := .tmp 82) (x := .tmp 85) (t := 38) (u := 9) (e := 5) (base := WS.heap.size) (v := u7) (n := (P ++ U).length) (xs := bcs (P ++ U)) rfl rfl Try.underlying38 Try.underlying9 info_u8 rfl HE.out.inv HO.out rfl (by rw [strB_size]; omega) (by have := HE.out.below.size; simp; omega) ?_; intro v6 w6 J6 ho6 hg6 hv6; have HE6 := Lib.hid ((HE.out).grew (HO.out) hg6); have HO6 := Lib.hid ho6; have HV6 := Lib.hid hv6; have HG6 := Lib.hid hg6; clear ho6 hg6 hv6))
              have HS := Lib.hid (HS.out.app (Rw.str HO6.out rfl) HG6.out)
              clear HO6 HE6 HV6 HG6
              have hX := Txt.upto HX.out HQK.out HWF.out (be_ender (pkv how m))
              have hBB : B ++ ((if l.q.1 = true then [9] else []) ++ U ++ be (pkv how m)) = P ++ U ++ be (pkv how m) := by
                have e : l.q.1 = lind := HLD.out.symm
                rw [e, HP.out, ← List.append_assoc, ← List.append_assoc]
              rw [hBB] at hX
              have HX9 := Lib.hid hX
              have h1 := HM3.out
              have h2 := HN.out
              have h3 := HT1.out
              have h4 := HPN.out
              have HN9 := Lib.hid (show (P ++ U ++ be (pkv how m)).length ≤ 20 * (tot (A.take (k + 1)) + (k + 1)) ∧ m + 1 ≤ tot (A.take (k + 1)) + (k + 1) from by rw [List.length_append, List.length_append, h3]; omega)
              clear hX hBB h1 h2 h3 h4 hUN
              go_wp2_with fail
              go_roundw
              case rel => exact ⟨k + 1, m + 1, _, _, P ++ U ++ be (pkv how m), by omega, by go_num, rfl, HS, HX9, HN9⟩
              case measure => simp [intOf] <;> omega
      · obtain rfl : k = ls.length := by omega
        have i1 : ¬ (ls.length : Int) < ls.length := by omega
        have hX := HX.out
        rw [List.take_of_length_le (by rw [List.length_map, HAL.out]; exact Nat.le_refl _), HQ.out] at hX
        obtain ⟨R, hR1, hR2⟩ := hX.lexed
        have hBN : B.length ≤ 200000 := by have := HN.out.1; have := tot_take A ls.length; have := HTA.out; omega
        have kc := (Own.bs HS.out.row).string (P := Try.prog) HS.out.ext.inv 38 9 5 Try.underlying38 Try.underlying5 Try.underlying9
        obtain ⟨A9, cp9, rfl, -, -⟩ := HS.out.row.sl.form
        have HR1 := Lib.hid hR1
        have HR2 := Lib.hid hR2
        have HBN := Lib.hid hBN
        clear hX hR1 hR2 hBN
        go_wp2_with fail
        clear kc
        refine (Lines_calls HS.out.ext.inv B (by have := HBN.out; omega)).mono ?_
        intro e w5 h
        unfold LinesP at h
        by_cases hl5 : 32768 < B.length
        · rw [if_pos hl5] at h
          obtain ⟨rfl, hE5⟩ := h
          have hl6 : (32768 : Int) < B.length := by omega
          have HE := Lib.hid (((HEB.out.trans HS.out.ext).trans hE5).alloc (.cells #[.int .i64 3, .int .i64 32768] 27))
          clear hE5 hl5
          unfold spot
          go_wp2_with fail
          go_ret
          exact ⟨rfl, HE.out.below⟩
        · rw [if_neg hl5, HR1.out] at h
          obtain ⟨J5, v5, c5, M5, B5, rfl, hE5, hB5, hO5, hL5⟩ := h
          obtain ⟨A5, cp5, rfl, -, -⟩ := hO5.sl.form
          have hl6 : ¬ (32768 : Int) < B.length := by omega
          clear hl5
          have HLM := Lib.hid (LsO.lns hO5 hL5)
          have HLN := Lib.hid ((HLN.out.mono (HS.out.ext.le HEB.out.inv)).mono (hE5.le HS.out.ext.inv))
          have HE := Lib.hid (((HEB.out.trans HS.out.ext).trans hE5).alloc (.cells #[.int .i64 0, .int .i64 0] 27))
          have HWA := Lib.hid (show ∀ l ∈ ls, l.ws.length ≤ 1048576 from fun l hl => by have := HLE.out.2 l hl; omega)
          clear hO5 hL5 hE5 hB5
          unfold spot
          go_wp2_with fail
          refine (alike_calls HE.out.inv HLN.out HLM.out (by omega) HWA.out).mono ?_
          rw [decide_eq_true HR2.out.symm]
          rintro e w6 ⟨rfl, hb6⟩
          go_wp2_with fail
          go_ret
          exact ⟨rfl, (HE.out.step hb6).below⟩
end Go.Proofs.Ythfjeijhnikabaa
