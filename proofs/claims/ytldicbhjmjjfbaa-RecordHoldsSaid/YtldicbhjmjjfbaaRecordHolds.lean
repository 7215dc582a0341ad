/- The statement RecordHolds: its walk. -/
import Derived.Test.YtldicbhjmjjfbaaRecordPuts
import Derived.Test.YtldicbhjmjjfbaaLSEq
import Derived.Deep.RegionHeld3
namespace Go.Proofs.Ytldicbhjmjjfbaa
open Go.RowKit
set_option linter.unusedVariables false

/-- the closure that tells what was asked for -/
def SA (ps : List (List UInt8)) (l : List Nee) (pb nb : Nat) (vw : Value) : Nat → (Nat → Prop) → Jm → World → Prop := fun k Z J w =>
  Inv J w ∧ ∃ va, w.heap[pb]? = some (.cells [va].toArray 24 (0, 0)) ∧ J pb = [] ∧ Own J w (pb + 1) 9 1 va k (scs (ps.take k)) ∧
    w.heap[nb]? = some (.cells [vw].toArray 23 (0, 0)) ∧ Ns J vw l ∧ nb < pb ∧ ∀ b, Z b ↔ (b = pb ∨ va.ownBlock = some b)
theorem SA.ext {ps : List (List UInt8)} {l : List Nee} {pb nb : Nat} {vw : Value} {k : Nat} {Z : Nat → Prop} {J J' : Jm} {w w' : World} (h : SA ps l pb nb vw k Z J w) (e : Ext J w J' w') : SA ps l pb nb vw k Z J' w' := by
  obtain ⟨hI, va, h1, h2, h3, h4, h5, h6, h7⟩ := h
  have l1 := (Array.getElem?_eq_some_iff.1 h1).1
  have l4 := (Array.getElem?_eq_some_iff.1 h4).1
  exact ⟨e.inv, va, (e.below.block pb l1).trans h1, (e.old pb l1).trans h2, h3.ext e, (e.below.block nb l4).trans h4, h5.mono (e.le hI), h6, h7⟩
theorem SA.lt {ps : List (List UInt8)} {l : List Nee} {pb nb : Nat} {vw : Value} {k : Nat} {Z : Nat → Prop} {J : Jm} {w : World} {b : Nat} (h : SA ps l pb nb vw k Z J w) (hb : Z b) : b < w.heap.size := by
  obtain ⟨hI, va, h1, h2, h3, h4, h5, h6, h7⟩ := h
  rcases (h7 b).1 hb with rfl | e
  · exact (Array.getElem?_eq_some_iff.1 h1).1
  · exact (h3.lt b e).2
def AskdP (ps : List (List UInt8)) (l : List Nee) (pb nb : Nat) (vw : Value) (k : Nat) (p : List UInt8) (Z : Nat → Prop) (J : Jm) (w : World) (e : Ending) (w' : World) : Prop :=
  ∃ Z' J', e = .returned (.tuple #[.string (strB (nowF l p).1), .bool (nowF l p).2]) ∧ SA ps l pb nb vw (k + 1) Z' J' w' ∧ Mw Z J w J' w' ∧ ∀ b, b < w.heap.size → Z' b → Z b
set_option maxRecDepth 100000 in
set_option maxHeartbeats 4000000 in
theorem asked_calls {ps : List (List UInt8)} {l : List Nee} {pb nb : Nat} {vw : Value} {k : Nat} {Z : Nat → Prop} {J : Jm} {w : World} (h : SA ps l pb nb vw k Z J w) {p : List UInt8} (hk : k ≤ 3518437208883) (hp : ps.take (k + 1) = ps.take k ++ [p]) :
    Calls Try.prog 23 #[.string (strB p), .pointer (some ⟨pb, 0, none⟩), .pointer (some ⟨nb, 0, none⟩)] w fun e w' => AskdP ps l pb nb vw k p Z J w e w' := by
  obtain ⟨hI, va, h1, h2, h3, h4, h5, h6, h7⟩ := h
  obtain ⟨A, c, rfl, hkc, hm⟩ := h3.sl.form
  unfold maxLen at hm
  obtain ⟨An, cn, rfl, -, -⟩ := h5.form
  have l1 := (Array.getElem?_eq_some_iff.1 h1).1
  have l4 := (Array.getElem?_eq_some_iff.1 h4).1
  have p0 := blk_cell_J h1 0 rfl
  have H1 := Lib.hid h1
  have H2 := Lib.hid h2
  have H3 := Lib.hid h3
  have H4 := Lib.hid h4
  have H5 := Lib.hid h5
  have H7 := Lib.hid h7
  have HP := Lib.hid hp
  clear h1 h2 h3 h4 h5 h7 hp
  go_enter Try.func23, Try.ntmps23
  go_upto_region 2 with (at_builtin; go_must (refine wpList_append_lit (J := J) (s := .tmp 6) (x := .tmp 8) (t := 24) (e := 9) (base := pb + 1) (v := .slice A k c) (n := k) (xs := scs (ps.take k)) (m := 1) (news := scs [p]) rfl (.string (strB [])) 1 16 rfl Try.underlying24 info_str rfl rfl (hI.alloc _) (H3.out.alloc _) rfl (heap_alloc_new _ _) rfl (scs_one _) (by simp only [maxLen]; omega) (by omega) (by simp; omega) ?_; intro v8 w8 J8 ho8 hg8 hv8; obtain ⟨A8, c8, rfl, -, -⟩ := ho8.sl.form; have HO8 := Lib.hid ho8; have HG8 := Lib.hid hg8; have HB8 := Lib.hid ((hg8.grown.block pb (by simp; omega) (H3.out.ne (by omega))).trans ((Below.heap_alloc w _ pb l1).trans H1.out)); clear ho8 hg8 hv8; have p8 := blk_cell_J HB8.out 0 rfl; have pf := frozen_of_row _ pb 0 _ _ HB8.out))
  have HA := Lib.hid ((((Ext.refl hI).alloc (.cells (scs [p]).toArray 9)).mw hI Z).trans HG8.out.mw (fun b hb e => (H7.out b).2 (.inr e.symm)))
  have HJ8 := Lib.hid (show J8 pb = [] from (HG8.out.other pb (by simp; omega) (H3.out.ne (by omega))).trans H2.out)
  have HM := Lib.hid (HA.out.setCell (p := ⟨pb, 0, none⟩) (fun _ => (H7.out pb).2 (.inl rfl)) HJ8.out (.slice A8 (k + 1) c8))
  have HO9 := Lib.hid (own_setR HO8.out (p := ⟨pb, 0, none⟩) (fun e => by have := (HO8.out.lt _ e).1; simp only at this; omega) (.slice A8 (k + 1) c8))
  have HB9 := Lib.hid (blk_set_J HB8.out 0 (.slice A8 (k + 1) c8))
  have hnZ : ¬ Z nb := fun hz => by
    rcases (H7.out nb).1 hz with e | e
    · omega
    · have := (H3.out.lt nb e).1; omega
  have HN9 := Lib.hid (HM.out.blk H4.out hnZ)
  have HS9 := Lib.hid (H5.out.mono HM.out.le)
  have hh := HG8.out.home
  have HH := Lib.hid (show ∀ b, b < w.heap.size → (b = pb ∨ (Value.slice A8 (k + 1) c8).ownBlock = some b) → Z b from fun b hb e => by
    rcases e with e | e
    · exact (H7.out b).2 (.inl e)
    · rcases HG8.out.home b e with e' | e'
      · exact (H7.out b).2 (.inr e')
      · simp at e'; omega)
  clear HA HG8 HO8 HB8 p8 pf p0 hh hnZ
  generalize World.setCell w8 _ _ = W9 at *
  have q0 := blk_cell_J HN9.out 0 rfl
  go_wp2_with fail
  refine (now_calls HM.out.inv HS9.out p).mono ?_
  rintro e w10 ⟨rfl, hb⟩
  have hE := Ext.of_below HM.out.inv hb
  have l9 := (Array.getElem?_eq_some_iff.1 HB9.out).1
  have l10 := (Array.getElem?_eq_some_iff.1 HN9.out).1
  have HR := Lib.hid (show SA ps l pb nb (.slice An l.length cn) (k + 1) (fun b => b = pb ∨ (Value.slice A8 (k + 1) c8).ownBlock = some b) J8 w10 from
    ⟨hE.inv, _, (hb.block pb l9).trans HB9.out, HJ8.out, by rw [HP.out, scs_append]; exact HO9.out.ext hE, (hb.block nb l10).trans HN9.out, HS9.out, h6, fun b => Iff.rfl⟩)
  have HMM := Lib.hid (HM.out.ext hE)
  clear hE hb
  go_wp2_with fail
  go_ret2
  exact ⟨_, J8, rfl, HR.out, HMM.out, HH.out⟩
theorem asked_clo {t : Trc} {l : List Nee} {pb nb : Nat} {vw : Value} (hlen : t.needs.length ≤ 3518437208883) : Clo t.needs.length (fun k => (t.needs.getD k ⟨[], false, []⟩).path) (nowF l) 23 #[.pointer (some ⟨pb, 0, none⟩), .pointer (some ⟨nb, 0, none⟩)] (SA (t.needs.map (·.path)) l pb nb vw) := by
  refine ⟨enters_of Try.func23 (by kernel_rfl) rfl, fun h => h.1, fun h hb => h.lt hb, fun h e => h.ext e, fun k Z J w hk hs => ?_⟩
  have hpath : (t.needs.getD k ⟨[], false, []⟩).path = t.needs[k].path := by rw [List.getD_eq_getElem?_getD, List.getElem?_eq_getElem hk]; rfl
  have hp : (t.needs.map (·.path)).take (k + 1) = (t.needs.map (·.path)).take k ++ [(t.needs.getD k ⟨[], false, []⟩).path] := by
    rw [hpath, List.take_succ_eq_append_getElem (by simpa using hk)]; simp
  exact asked_calls hs (by omega) hp
theorem holdsL_lt : ∀ {l : List Nee} {F : List UInt8 → List UInt8 × Bool}, (holdsL l F).2 = false → (holdsL l F).1 < l.length
  | [], F, h => by simp [holdsL] at h
  | n :: l, F, h => by
    unfold holdsL at h ⊢
    split
    · rename_i hc
      rw [if_pos hc] at h
      have := holdsL_lt (l := l) (F := F) h
      simp; omega
    · simp
theorem holdsL_eq : ∀ {l : List Nee} {F : List UInt8 → List UInt8 × Bool}, (holdsL l F).2 = true → (holdsL l F).1 = l.length
  | [], F, h => by simp [holdsL]
  | n :: l, F, h => by
    unfold holdsL at h ⊢
    split
    · rename_i hc
      rw [if_pos hc] at h
      have := holdsL_eq (l := l) (F := F) h
      simp [this]
    · rename_i hc
      rw [if_neg hc] at h; simp at h
theorem askedN_min (l : List Nee) (F : List UInt8 → List UInt8 × Bool) : askedN l F = min l.length ((holdsL l F).1 + 1) := by
  unfold askedN
  split
  · rename_i h; rw [holdsL_eq h]; omega
  · rename_i h
    have := holdsL_lt (l := l) (F := F) (by simpa using h)
    omega
theorem three_bx (w : World) (a b : Trc) (vn vo un uo vw : Value) : ∃ W, W = ((w.alloc (.cells #[.string (strB a.job), vn, vo] 26)).alloc (.cells #[.string (strB b.job), un, uo] 26)).alloc (.cells #[vw] 23) ∧
    Below w.heap.size w W ∧ TBox W w.heap.size a vn vo ∧ TBox W (w.heap.size + 1) b un uo ∧ W.heap[w.heap.size + 1 + 1]? = some (.cells [vw].toArray 23 (0, 0)) ∧ W.heap.size = w.heap.size + 1 + 1 + 1 := by
  obtain ⟨t0, t1, t2⟩ := two_tr w a b vn vo un uo
  refine ⟨_, rfl, ?_⟩
  generalize hV : (w.alloc (.cells #[.string (strB a.job), vn, vo] 26)).alloc (.cells #[.string (strB b.job), un, uo] 26) = V at *
  have hs : V.heap.size = w.heap.size + 1 + 1 := by rw [← hV]; simp
  refine ⟨t0.alloc (by omega) _, (Below.heap_alloc V _ _ t1.lt).trans t1, (Below.heap_alloc V _ _ t2.lt).trans t2, ?_, by simp [hs]⟩
  have := heap_alloc_new V (.cells #[vw] 23)
  rw [hs] at this
  exact this
theorem Ext.mw_ext {Z : Nat → Prop} {J J1 J2 : Jm} {w w1 w2 : World} (h : Ext J w J1 w1) (k : Mw Z J1 w1 J2 w2) (hs : ∀ b, b < w.heap.size → ¬ Z b) : Ext J w J2 w2 :=
  ⟨⟨k.os.trans h.below.os, k.tape.trans h.below.tape, k.output.trans h.below.output, Nat.le_trans h.below.size k.size, fun b hb => (k.block b (Nat.lt_of_lt_of_le hb h.below.size) (hs b hb)).trans (h.below.block b hb)⟩, k.inv,
    fun b hb => (k.old b (Nat.lt_of_lt_of_le hb h.below.size) (hs b hb)).trans (h.old b hb)⟩
theorem TrV.ns {J : Jm} {t : Trc} {x vn vo : Value} (h : TrV J (.agg #[x, vn, vo]) t) : Ns J vn t.needs := by
  obtain ⟨a, b, e, h1, -⟩ := h
  simp only [Value.agg.injEq, Array.mk.injEq, List.cons.injEq, and_true] at e
  obtain ⟨-, rfl, -⟩ := e
  exact h1
theorem nowF_nil : nowF [] = noF := rfl
set_option maxRecDepth 100000 in
set_option maxHeartbeats 8000000 in
theorem recordHolds_walk {J : Jm} {w : World} (hI : Inv J w) {v v' vw : Value} {t u : Trc} (ht : TrV J v t) (hS : TrS t) (hu : TrV J v' u) (hSu : TrS u) (jb : ByteArray) (hjb : jb.size ≤ 140737488351232) {l : List Nee} (hl : Ns J vw l) (_hl : (∀ z ∈ l, NeS z) ∧ l.length * 40 ≤ 140737488351232) :
    Calls Try.prog 8 #[v, v', .string jb, vw] w fun e w' => e = .returned (.bool true) ∧ Below w.heap.size w w' := by
  obtain ⟨job, rfl⟩ : ∃ l, jb = strB l := ⟨jb.data.toList, (strB_of jb).symm⟩
  clear hjb _hl
  have hnn := hS.nn
  have hmf : ∀ (fn : Fn) (first cap : Array Value) (w : World), (Instr.makeFunc fn first cap).run Try.prog w = .ok (.func fn first cap) w := fun _ _ _ _ => rfl
  obtain ⟨An, cn, Ao, co, rfl, hn, ho⟩ := ht.parts
  obtain ⟨Bn, dn, Bo, dO, rfl, gn, go⟩ := hu.parts
  obtain ⟨Aw, cw, rfl, -, -⟩ := hl.form
  have HV := Lib.hid (TrV.mk hn ho)
  have HW := Lib.hid (TrV.mk gn go)
  have HL := Lib.hid hl
  clear ht hn ho hu gn go hl
  obtain ⟨W, hW, t0, t1, t2, t3, t4⟩ := three_bx w t u (.slice An t.needs.length cn) (.slice Ao t.outs.length co) (.slice Bn u.needs.length dn) (.slice Bo u.outs.length dO) (.slice Aw l.length cw)
  go_enter Try.func8, Try.ntmps8
  go_upto_region 1 with fail
  rw [← hW]
  have HE := Lib.hid (Ext.of_below hI t0)
  have HB := Lib.hid t1
  have HC := Lib.hid t2
  have HD := Lib.hid t3
  have hlt : w.heap.size + 1 + 1 < W.heap.size := by omega
  clear t0 t1 t2 t3 t4 hW
  obtain ⟨tb, htb⟩ : ∃ b, b = w.heap.size := ⟨_, rfl⟩
  obtain ⟨ub, hub⟩ : ∃ b, b = w.heap.size + 1 := ⟨_, rfl⟩
  obtain ⟨nb, hnb⟩ : ∃ b, b = w.heap.size + 1 + 1 := ⟨_, rfl⟩
  have hne1 : tb < nb := by omega
  have hws : w.heap.size ≤ tb := by omega
  have hne2 : ub < nb := by omega
  rw [← hnb] at HD hlt ⊢
  rw [← hub] at HC ⊢
  rw [← htb] at HB ⊢
  clear htb hub hnb
  have n0 := HB.out.c0
  have n1 := HB.out.c1
  have n2 := HB.out.c2
  have m0 := HC.out.c0
  have m1 := HC.out.c1
  have m2 := HC.out.c2
  have w0 := blk_cell_J HD.out 0 rfl
  go_wp2_with fail
  refine (works_calls HE.out.inv).mono ?_
  rintro e w1 ⟨rfl, hb⟩
  have hx := Ext.of_below HE.out.inv hb
  have hIx := HE.out.inv
  have hlt1 : nb < w1.heap.size := by have := hb.size; omega
  clear hb
  have HE := Lib.hid (HE.out.trans hx)
  have HB := Lib.hid (HB.out.ext hx)
  have HC := Lib.hid (HC.out.ext hx)
  have HD := Lib.hid ((hx.below.block nb (Array.getElem?_eq_some_iff.1 HD.out).1).trans HD.out)
  have HV := Lib.hid (HV.out.mono (hx.le hIx))
  have HW := Lib.hid (HW.out.mono (hx.le hIx))
  have HL := Lib.hid (HL.out.mono (hx.le hIx))
  clear hx hIx n0 n1 n2 m0 m1 m2 w0
  have n0 := HB.out.c0
  have n1 := HB.out.c1
  have n2 := HB.out.c2
  have m0 := HC.out.c0
  have m1 := HC.out.c1
  have m2 := HC.out.c2
  have w0 := blk_cell_J HD.out 0 rfl
  go_upto_region 4 with fail
  have hx := (Ext.refl HE.out.inv).alloc (.cells #[.slice none 0 0] 24)
  have hIx := HE.out.inv
  have HA : Hid (SA (t.needs.map (·.path)) l w1.heap.size nb (.slice Aw l.length cw) 0 (fun b => b = w1.heap.size) J (w1.alloc (.cells #[.slice none 0 0] 24))) :=
    ⟨hx.inv, .slice none 0 0, heap_alloc_new w1 _, hIx.nil (Nat.le_refl _), Own.nil _ _ _ _ _, (Below.heap_alloc w1 _ nb hlt1).trans HD.out, HL.out, hlt1, fun b => by simp [Value.ownBlock]⟩
  have HE := Lib.hid (HE.out.trans hx)
  have HB := Lib.hid (HB.out.ext hx)
  have HC := Lib.hid (HC.out.ext hx)
  have HD := Lib.hid ((hx.below.block nb (Array.getElem?_eq_some_iff.1 HD.out).1).trans HD.out)
  have HV := Lib.hid (HV.out.mono (hx.le hIx))
  have HW := Lib.hid (HW.out.mono (hx.le hIx))
  have HL := Lib.hid (HL.out.mono (hx.le hIx))
  clear hx hIx n0 n1 n2 m0 m1 m2 w0
  have n0 := HB.out.c0
  have n1 := HB.out.c1
  have n2 := HB.out.c2
  have m0 := HC.out.c0
  have m1 := HC.out.c1
  have m2 := HC.out.c2
  have w0 := blk_cell_J HD.out 0 rfl
  generalize World.alloc w1 _ = W2 at *
  generalize w1.heap.size = pb at HA hlt1 ⊢
  go_wp2_with fail
  refine (copied_calls HE.out.inv HV.out (by omega) (by have := hS.no; omega)).mono ?_
  rintro e w3 ⟨v3, J3, rfl, hE3, hV3⟩
  have hx := hE3
  have hIx := HE.out.inv
  have HA := Lib.hid (HA.out.ext hE3)
  have HV3 := Lib.hid hV3
  clear hE3 hV3
  have HE := Lib.hid (HE.out.trans hx)
  have HB := Lib.hid (HB.out.ext hx)
  have HC := Lib.hid (HC.out.ext hx)
  have HD := Lib.hid ((hx.below.block nb (Array.getElem?_eq_some_iff.1 HD.out).1).trans HD.out)
  have HV := Lib.hid (HV.out.mono (hx.le hIx))
  have HW := Lib.hid (HW.out.mono (hx.le hIx))
  have HL := Lib.hid (HL.out.mono (hx.le hIx))
  clear hx hIx n0 n1 n2 m0 m1 m2 w0
  have n0 := HB.out.c0
  have n1 := HB.out.c1
  have n2 := HB.out.c2
  have m0 := HC.out.c0
  have m1 := HC.out.c1
  have m2 := HC.out.c2
  have w0 := blk_cell_J HD.out 0 rfl
  go_wp2_with fail
  refine (holds_calls HE.out.inv HV3.out hS job (asked_clo (by omega)) HA.out).mono ?_
  unfold HoldsP
  rintro e w4 ⟨Z4, J4, rfl, hs4, hM4, -⟩
  have hz : ∀ b, b ≤ nb → ¬ (b = pb) := fun b hb e => by omega
  have HE := Lib.hid (HE.out.mw_ext hM4 (fun b hb e => by omega))
  have HB := Lib.hid (HB.out.mw hM4 (hz tb (by omega)))
  have HC := Lib.hid (HC.out.mw hM4 (hz ub (by omega)))
  have HD := Lib.hid (hM4.blk HD.out (hz nb (by omega)))
  have HV := Lib.hid (HV.out.mono hM4.le)
  have HW := Lib.hid (HW.out.mono hM4.le)
  have HL := Lib.hid (HL.out.mono hM4.le)
  have HA := Lib.hid hs4
  clear hM4 hs4 n0 n1 n2 m0 m1 m2 w0 hz
  have n0 := HB.out.c0
  have n1 := HB.out.c1
  have n2 := HB.out.c2
  have m0 := HC.out.c0
  have m1 := HC.out.c1
  have m2 := HC.out.c2
  have w0 := blk_cell_J HD.out 0 rfl
  go_wp2_with fail
  refine (refHolds_calls HE.out.inv HV.out job HL.out).mono ?_
  rintro e w5 ⟨rfl, hb⟩
  have hx := Ext.of_below HE.out.inv hb
  have hIx := HE.out.inv
  have HA := Lib.hid (HA.out.ext hx)
  clear hb
  have HE := Lib.hid (HE.out.trans hx)
  have HB := Lib.hid (HB.out.ext hx)
  have HC := Lib.hid (HC.out.ext hx)
  have HD := Lib.hid ((hx.below.block nb (Array.getElem?_eq_some_iff.1 HD.out).1).trans HD.out)
  have HV := Lib.hid (HV.out.mono (hx.le hIx))
  have HW := Lib.hid (HW.out.mono (hx.le hIx))
  have HL := Lib.hid (HL.out.mono (hx.le hIx))
  clear hx hIx n0 n1 n2 m0 m1 m2 w0
  have n0 := HB.out.c0
  have n1 := HB.out.c1
  have n2 := HB.out.c2
  have m0 := HC.out.c0
  have m1 := HC.out.c1
  have m2 := HC.out.c2
  have w0 := blk_cell_J HD.out 0 rfl
  have HKK := Lib.hid (show holdsT t job (nowF l) = holdsT t job (nowF l) from rfl)
  obtain ⟨r, hr⟩ : ∃ r, r = holdsT t job (nowF l) := ⟨_, rfl⟩
  rw [← hr] at HKK ⊢
  have HRR := Lib.hid hr
  clear hr
  obtain ⟨kk, al⟩ := r
  simp only at HRR ⊢
  have hb := strB_beq t.job job
  by_cases hj : t.job = job
  · have hb2 : ((strB t.job).toList == (strB job).toList) = true := by rw [hb]; simpa using hj
    rw [if_pos hj, askedN_min] at HA
    have hkk : (holdsL t.needs (nowF l)).1 = kk := by
      have := HRR.out
      unfold holdsT at this
      rw [if_pos hj] at this
      rw [← this]
    rw [hkk] at HA
    clear hb hj hkk
    obtain ⟨m, hm⟩ : ∃ m, m = min t.needs.length (kk + 1) := ⟨_, rfl⟩
    rw [← hm] at HA
    have hm1 : m ≤ t.needs.length := by omega
    have hm2 : m ≤ kk + 1 := by omega
    have hm3 : m = t.needs.length ∨ m = kk + 1 := by omega
    clear hm
    have HPL := Lib.hid (show (t.needs.map (·.path)).length = t.needs.length by simp)
    go_wp2_with fail
    clear n0 n1 n2 m0 m1 m2 w0
    go_loopw [14, 15] (fun o iv wr => ∃ (j : Nat) (J' : Jm), j ≤ m ∧ iv = .int .i64 j ∧ Hid (Ext J4 w5 J' wr) ∧ Hid (Own J' wr w5.heap.size 9 1 o j (scs ((t.needs.map (·.path)).take j)))) (fun _ iv _ => m - (intOf iv).toNat)
    case atStart => exact ⟨0, J4, by omega, rfl, Ext.refl HE.out.inv, Own.nil _ _ _ _ _⟩
    case round =>
      obtain ⟨j, J', hj, rfl, HX, HO⟩ := hrel
      have n0 := (HB.out.ext HX.out).c0
      have n1 := (HB.out.ext HX.out).c1
      have n2 := (HB.out.ext HX.out).c2
      by_cases hlt : j < m
      · have hln : j < t.needs.length := by omega
        have i0 : (0 : Int) ≤ (j : Int) := by omega
        have i1 : (j : Int) < t.needs.length := by omega
        have i2 : (j : Int) ≤ kk := by omega
        obtain ⟨b, q, rfl, hx0, hx1, hx2⟩ := Ns.cell (HV.out.ns.mono (HX.out.le HE.out.inv)) HX.out.inv hln
        have HTK := Lib.hid (show (t.needs.map (·.path)).take (j + 1) = (t.needs.map (·.path)).take j ++ [t.needs[j].path] by rw [List.take_succ_eq_append_getElem (by simpa using hln)]; simp)
        have hwl := HX.out.below.size
        generalize t.needs[j].path = p at *
        clear hx1 hx2
        go_wp2_with (at_builtin; go_must (refine wpList_append_lit (J := J') (s := .tmp 53) (x := .tmp 60) (t := 24) (e := 9) (base := w5.heap.size) (v := u14) (n := j) (xs := scs ((t.needs.map (·.path)).take j)) (m := 1) (news := scs [p]) rfl (.string (strB [])) 1 16 rfl Try.underlying24 info_str rfl rfl (HX.out.inv.alloc _) (HO.out.alloc _) rfl (heap_alloc_new _ _) rfl (scs_one _) (by simp only [maxLen]; omega) (by omega) (by simp; omega) ?_; intro v8 w8 J8 ho8 hg8 hv8; have HX8 := Lib.hid ((HX.out.alloc (.cells (scs [p]).toArray 9)).grew (HO.out.alloc _) hg8); have HO8 := Lib.hid ho8; clear ho8 hg8 hv8))
        go_roundw
        case rel => exact ⟨j + 1, J8, by omega, by go_num, HX8, by rw [Hid, HTK.out, scs_append]; exact HO8.out⟩
        case measure => simp [intOf]; omega
      · obtain rfl : j = m := by omega
        have HWS := Lib.hid (show Ss J' u14 ((t.needs.map (·.path)).take j) from by
          have h := HO.out.sl
          unfold Ss
          rw [List.length_take, HPL.out, Nat.min_eq_left hm1]; exact h)
        have HWA := HWS
        have HLM := Lib.hid (show ∀ J v, Sl J 1 v j (scs ((t.needs.map (·.path)).take j)) → Ss J v ((t.needs.map (·.path)).take j) from fun _ _ h => by
          unfold Ss
          rw [List.length_take, HPL.out, Nat.min_eq_left hm1]; exact h)
        have hx := HX.out
        have hIx := HE.out.inv
        have HA := Lib.hid (HA.out.ext hx)
        clear HWS HO n0 n1 n2 HX
        have HE := Lib.hid (HE.out.trans hx)
        have HB := Lib.hid (HB.out.ext hx)
        have HC := Lib.hid (HC.out.ext hx)
        have HD := Lib.hid ((hx.below.block nb (Array.getElem?_eq_some_iff.1 HD.out).1).trans HD.out)
        have HV := Lib.hid (HV.out.mono (hx.le hIx))
        have HW := Lib.hid (HW.out.mono (hx.le hIx))
        have HL := Lib.hid (HL.out.mono (hx.le hIx))
        clear hx hIx
        have n0 := HB.out.c0
        have n1 := HB.out.c1
        have n2 := HB.out.c2
        have m0 := HC.out.c0
        have m1 := HC.out.c1
        have m2 := HC.out.c2
        have w0 := blk_cell_J HD.out 0 rfl
        by_cases hjn : j < t.needs.length
        · have hjl : (j : Int) < t.needs.length := by omega
          have hjk : ¬ (j : Int) ≤ kk := by omega
          go_wp2_with fail
          refine (holdsNil_calls HE.out.inv HV.out job).mono ?_
          rintro e w6 ⟨rfl, hb⟩
          have hx := Ext.of_below HE.out.inv hb
          have hIx := HE.out.inv
          have HA := Lib.hid (HA.out.ext hx)
          have HWA := Lib.hid (HWA.out.mono (hx.le hIx))
          clear hb
          have HE := Lib.hid (HE.out.trans hx)
          have HB := Lib.hid (HB.out.ext hx)
          have HC := Lib.hid (HC.out.ext hx)
          have HD := Lib.hid ((hx.below.block nb (Array.getElem?_eq_some_iff.1 HD.out).1).trans HD.out)
          have HV := Lib.hid (HV.out.mono (hx.le hIx))
          have HW := Lib.hid (HW.out.mono (hx.le hIx))
          have HL := Lib.hid (HL.out.mono (hx.le hIx))
          clear hx hIx n0 n1 n2 m0 m1 m2 w0
          have n0 := HB.out.c0
          have n1 := HB.out.c1
          have n2 := HB.out.c2
          have m0 := HC.out.c0
          have m1 := HC.out.c1
          have m2 := HC.out.c2
          have w0 := blk_cell_J HD.out 0 rfl
          go_wp2_with fail
          refine (refHolds_calls HE.out.inv HV.out job (l := []) (Sl.nil J' 3)).mono ?_
          rw [nowF_nil]
          rintro e w7 ⟨rfl, hb⟩
          have hx := Ext.of_below HE.out.inv hb
          have hIx := HE.out.inv
          have HA := Lib.hid (HA.out.ext hx)
          have HWA := Lib.hid (HWA.out.mono (hx.le hIx))
          clear hb
          have HE := Lib.hid (HE.out.trans hx)
          have HB := Lib.hid (HB.out.ext hx)
          have HC := Lib.hid (HC.out.ext hx)
          have HD := Lib.hid ((hx.below.block nb (Array.getElem?_eq_some_iff.1 HD.out).1).trans HD.out)
          have HV := Lib.hid (HV.out.mono (hx.le hIx))
          have HW := Lib.hid (HW.out.mono (hx.le hIx))
          have HL := Lib.hid (HL.out.mono (hx.le hIx))
          clear hx hIx n0 n1 n2 m0 m1 m2 w0
          have n0 := HB.out.c0
          have n1 := HB.out.c1
          have n2 := HB.out.c2
          have m0 := HC.out.c0
          have m1 := HC.out.c1
          have m2 := HC.out.c2
          have w0 := blk_cell_J HD.out 0 rfl
          clear n0 n1 n2 m0 m1 m2 w0
          generalize holdsT t job noF = hno at *
          obtain ⟨kn, an⟩ := hno
          go_upto_region 14 with fail
          obtain ⟨-, va, h1, -, h3, -, -, -, -⟩ := HA.out
          obtain ⟨Aa, ca, rfl, -, -⟩ := h3.sl.form
          have HAS := Lib.hid (show Ss J' (.slice Aa j ca) ((t.needs.map (·.path)).take j) from HLM.out _ _ h3.sl)
          have HAB := Lib.hid h1
          clear h1 h3
          have n0 : w7.drew.cell? ⟨tb, 0, none⟩ = some (.string (strB t.job)) := HB.out.c0
          have n1 : w7.drew.cell? ⟨tb, 1, none⟩ = some (.slice An t.needs.length cn) := HB.out.c1
          have n2 : w7.drew.cell? ⟨tb, 2, none⟩ = some (.slice Ao t.outs.length co) := HB.out.c2
          have m0 : w7.drew.cell? ⟨ub, 0, none⟩ = some (.string (strB u.job)) := HC.out.c0
          have m1 : w7.drew.cell? ⟨ub, 1, none⟩ = some (.slice Bn u.needs.length dn) := HC.out.c1
          have m2 : w7.drew.cell? ⟨ub, 2, none⟩ = some (.slice Bo u.outs.length dO) := HC.out.c2
          have p0 : w7.drew.cell? ⟨pb, 0, none⟩ = some (.slice Aa j ca) := blk_cell_J HAB.out 0 rfl
          have HE0 := Lib.hid HE.out.drew
          have HB0 := Lib.hid (show TBox w7.drew tb _ _ _ from HB.out)
          have HC0 := Lib.hid (show TBox w7.drew ub _ _ _ from HC.out)
          have HAB0 := Lib.hid (show w7.drew.heap[pb]? = _ from HAB.out)
          obtain ⟨dd, hdd⟩ : ∃ d, d = decide (t = u) := ⟨_, rfl⟩
          have HDD := Lib.hid hdd
          clear hdd
          have hd1 : (kk == kk) = true := by simp
          have hd2 : (al == al) = true := by simp
          have hd3 : (kn == kn) = true := by simp
          have hd4 : (an == an) = true := by simp
          have hd5 : (dd == dd) = true := by simp
          have hd6 : ((kk : Int) == kk) = true := by simp
          have hd7 : ((kn : Int) == kn) = true := by simp
          go_region_held3 (fun w' => w'.cell? ⟨tb, 0, none⟩ = some (.string (strB t.job)) ∧ w'.cell? ⟨tb, 1, none⟩ = some (.slice An t.needs.length cn) ∧ w'.cell? ⟨tb, 2, none⟩ = some (.slice Ao t.outs.length co) ∧ w'.cell? ⟨ub, 0, none⟩ = some (.string (strB u.job)) ∧ w'.cell? ⟨ub, 1, none⟩ = some (.slice Bn u.needs.length dn) ∧ w'.cell? ⟨ub, 2, none⟩ = some (.slice Bo u.outs.length dO) ∧ w'.cell? ⟨pb, 0, none⟩ = some (.slice Aa j ca))
            (first | go_keep | exact HQ8.out | exact HQ9.out | exact HQ10.out | exact HQ11.out | exact HQ12.out)
            (first
              | (have mark := HV11; go_at_call 22; refine (same_calls HE11.out.inv HVV.out mark.out).mono ?_; rw [decide_eq_true (rfl : t = t)]; rintro e w12 ⟨rfl, hb⟩; have hx := Ext.of_below HE11.out.inv hb; have HB12 := Lib.hid (HB11.out.ext hx); have HC12 := Lib.hid (HC11.out.ext hx); have HAB12 := Lib.hid ((hx.below.block pb (Array.getElem?_eq_some_iff.1 HAB11.out).1).trans HAB11.out); have HE12 := Lib.hid (HE11.out.trans hx); clear hx; have HQ12 : Hid (w12.cell? ⟨tb, 0, none⟩ = some (.string (strB t.job)) ∧ w12.cell? ⟨tb, 1, none⟩ = some (.slice An t.needs.length cn) ∧ w12.cell? ⟨tb, 2, none⟩ = some (.slice Ao t.outs.length co) ∧ w12.cell? ⟨ub, 0, none⟩ = some (.string (strB u.job)) ∧ w12.cell? ⟨ub, 1, none⟩ = some (.slice Bn u.needs.length dn) ∧ w12.cell? ⟨ub, 2, none⟩ = some (.slice Bo u.outs.length dO) ∧ w12.cell? ⟨pb, 0, none⟩ = some (.slice Aa j ca)) := ⟨HB12.out.c0, HB12.out.c1, HB12.out.c2, HC12.out.c0, HC12.out.c1, HC12.out.c2, blk_cell_J HAB12.out 0 rfl⟩)
              | (go_at_call 26; refine (sequal_calls HE0.out.inv HAS.out HWA.out).mono ?_; rw [decide_eq_true rfl]; rintro e w8 ⟨rfl, hb⟩; have hx := Ext.of_below HE0.out.inv hb; have HB8 := Lib.hid (HB0.out.ext hx); have HC8 := Lib.hid (HC0.out.ext hx); have HAB8 := Lib.hid ((hx.below.block pb (Array.getElem?_eq_some_iff.1 HAB0.out).1).trans HAB0.out); have HE8 := Lib.hid (HE0.out.trans hx); clear hx; have HQ8 : Hid (w8.cell? ⟨tb, 0, none⟩ = some (.string (strB t.job)) ∧ w8.cell? ⟨tb, 1, none⟩ = some (.slice An t.needs.length cn) ∧ w8.cell? ⟨tb, 2, none⟩ = some (.slice Ao t.outs.length co) ∧ w8.cell? ⟨ub, 0, none⟩ = some (.string (strB u.job)) ∧ w8.cell? ⟨ub, 1, none⟩ = some (.slice Bn u.needs.length dn) ∧ w8.cell? ⟨ub, 2, none⟩ = some (.slice Bo u.outs.length dO) ∧ w8.cell? ⟨pb, 0, none⟩ = some (.slice Aa j ca)) := ⟨HB8.out.c0, HB8.out.c1, HB8.out.c2, HC8.out.c0, HC8.out.c1, HC8.out.c2, blk_cell_J HAB8.out 0 rfl⟩)
              | (go_at_call 22; refine (same_calls HE8.out.inv HV.out HW.out).mono ?_; rw [← HDD.out]; rintro e w9 ⟨rfl, hb⟩; have hx := Ext.of_below HE8.out.inv hb; have HB9 := Lib.hid (HB8.out.ext hx); have HC9 := Lib.hid (HC8.out.ext hx); have HAB9 := Lib.hid ((hx.below.block pb (Array.getElem?_eq_some_iff.1 HAB8.out).1).trans HAB8.out); have HE9 := Lib.hid (HE8.out.trans hx); clear hx; have HQ9 : Hid (w9.cell? ⟨tb, 0, none⟩ = some (.string (strB t.job)) ∧ w9.cell? ⟨tb, 1, none⟩ = some (.slice An t.needs.length cn) ∧ w9.cell? ⟨tb, 2, none⟩ = some (.slice Ao t.outs.length co) ∧ w9.cell? ⟨ub, 0, none⟩ = some (.string (strB u.job)) ∧ w9.cell? ⟨ub, 1, none⟩ = some (.slice Bn u.needs.length dn) ∧ w9.cell? ⟨ub, 2, none⟩ = some (.slice Bo u.outs.length dO) ∧ w9.cell? ⟨pb, 0, none⟩ = some (.slice Aa j ca)) := ⟨HB9.out.c0, HB9.out.c1, HB9.out.c2, HC9.out.c0, HC9.out.c1, HC9.out.c2, blk_cell_J HAB9.out 0 rfl⟩)
              | (go_at_call 11; refine (refSame_calls HE9.out.inv HV.out HW.out).mono ?_; rw [← HDD.out]; rintro e w10 ⟨rfl, hb⟩; have hx := Ext.of_below HE9.out.inv hb; have HB10 := Lib.hid (HB9.out.ext hx); have HC10 := Lib.hid (HC9.out.ext hx); have HAB10 := Lib.hid ((hx.below.block pb (Array.getElem?_eq_some_iff.1 HAB9.out).1).trans HAB9.out); have HE10 := Lib.hid (HE9.out.trans hx); clear hx; have HQ10 : Hid (w10.cell? ⟨tb, 0, none⟩ = some (.string (strB t.job)) ∧ w10.cell? ⟨tb, 1, none⟩ = some (.slice An t.needs.length cn) ∧ w10.cell? ⟨tb, 2, none⟩ = some (.slice Ao t.outs.length co) ∧ w10.cell? ⟨ub, 0, none⟩ = some (.string (strB u.job)) ∧ w10.cell? ⟨ub, 1, none⟩ = some (.slice Bn u.needs.length dn) ∧ w10.cell? ⟨ub, 2, none⟩ = some (.slice Bo u.outs.length dO) ∧ w10.cell? ⟨pb, 0, none⟩ = some (.slice Aa j ca)) := ⟨HB10.out.c0, HB10.out.c1, HB10.out.c2, HC10.out.c0, HC10.out.c1, HC10.out.c2, blk_cell_J HAB10.out 0 rfl⟩)
              | (go_at_call 18; refine (copied_calls HE10.out.inv HV.out (by omega) (by have := hS.no; omega)).mono ?_; rintro e w11 ⟨v11, J11, rfl, hx, hV11⟩; have HV11 := Lib.hid hV11; have HVV := Lib.hid (HV.out.mono (hx.le HE10.out.inv)); clear hV11; have HB11 := Lib.hid (HB10.out.ext hx); have HC11 := Lib.hid (HC10.out.ext hx); have HAB11 := Lib.hid ((hx.below.block pb (Array.getElem?_eq_some_iff.1 HAB10.out).1).trans HAB10.out); have HE11 := Lib.hid (HE10.out.trans hx); clear hx; have HQ11 : Hid (w11.cell? ⟨tb, 0, none⟩ = some (.string (strB t.job)) ∧ w11.cell? ⟨tb, 1, none⟩ = some (.slice An t.needs.length cn) ∧ w11.cell? ⟨tb, 2, none⟩ = some (.slice Ao t.outs.length co) ∧ w11.cell? ⟨ub, 0, none⟩ = some (.string (strB u.job)) ∧ w11.cell? ⟨ub, 1, none⟩ = some (.slice Bn u.needs.length dn) ∧ w11.cell? ⟨ub, 2, none⟩ = some (.slice Bo u.outs.length dO) ∧ w11.cell? ⟨pb, 0, none⟩ = some (.slice Aa j ca)) := ⟨HB11.out.c0, HB11.out.c1, HB11.out.c2, HC11.out.c0, HC11.out.c1, HC11.out.c2, blk_cell_J HAB11.out 0 rfl⟩))
          go_wp2_with fail
          go_ret
          exact ⟨rfl, HE12.out.below⟩
        · have hjl : ¬ (j : Int) < t.needs.length := by omega
          go_wp2_with fail
          refine (holdsNil_calls HE.out.inv HV.out job).mono ?_
          rintro e w6 ⟨rfl, hb⟩
          have hx := Ext.of_below HE.out.inv hb
          have hIx := HE.out.inv
          have HA := Lib.hid (HA.out.ext hx)
          have HWA := Lib.hid (HWA.out.mono (hx.le hIx))
          clear hb
          have HE := Lib.hid (HE.out.trans hx)
          have HB := Lib.hid (HB.out.ext hx)
          have HC := Lib.hid (HC.out.ext hx)
          have HD := Lib.hid ((hx.below.block nb (Array.getElem?_eq_some_iff.1 HD.out).1).trans HD.out)
          have HV := Lib.hid (HV.out.mono (hx.le hIx))
          have HW := Lib.hid (HW.out.mono (hx.le hIx))
          have HL := Lib.hid (HL.out.mono (hx.le hIx))
          clear hx hIx n0 n1 n2 m0 m1 m2 w0
          have n0 := HB.out.c0
          have n1 := HB.out.c1
          have n2 := HB.out.c2
          have m0 := HC.out.c0
          have m1 := HC.out.c1
          have m2 := HC.out.c2
          have w0 := blk_cell_J HD.out 0 rfl
          go_wp2_with fail
          refine (refHolds_calls HE.out.inv HV.out job (l := []) (Sl.nil J' 3)).mono ?_
          rw [nowF_nil]
          rintro e w7 ⟨rfl, hb⟩
          have hx := Ext.of_below HE.out.inv hb
          have hIx := HE.out.inv
          have HA := Lib.hid (HA.out.ext hx)
          have HWA := Lib.hid (HWA.out.mono (hx.le hIx))
          clear hb
          have HE := Lib.hid (HE.out.trans hx)
          have HB := Lib.hid (HB.out.ext hx)
          have HC := Lib.hid (HC.out.ext hx)
          have HD := Lib.hid ((hx.below.block nb (Array.getElem?_eq_some_iff.1 HD.out).1).trans HD.out)
          have HV := Lib.hid (HV.out.mono (hx.le hIx))
          have HW := Lib.hid (HW.out.mono (hx.le hIx))
          have HL := Lib.hid (HL.out.mono (hx.le hIx))
          clear hx hIx n0 n1 n2 m0 m1 m2 w0
          have n0 := HB.out.c0
          have n1 := HB.out.c1
          have n2 := HB.out.c2
          have m0 := HC.out.c0
          have m1 := HC.out.c1
          have m2 := HC.out.c2
          have w0 := blk_cell_J HD.out 0 rfl
          clear n0 n1 n2 m0 m1 m2 w0
          generalize holdsT t job noF = hno at *
          obtain ⟨kn, an⟩ := hno
          go_upto_region 14 with fail
          obtain ⟨-, va, h1, -, h3, -, -, -, -⟩ := HA.out
          obtain ⟨Aa, ca, rfl, -, -⟩ := h3.sl.form
          have HAS := Lib.hid (show Ss J' (.slice Aa j ca) ((t.needs.map (·.path)).take j) from HLM.out _ _ h3.sl)
          have HAB := Lib.hid h1
          clear h1 h3
          have n0 : w7.drew.cell? ⟨tb, 0, none⟩ = some (.string (strB t.job)) := HB.out.c0
          have n1 : w7.drew.cell? ⟨tb, 1, none⟩ = some (.slice An t.needs.length cn) := HB.out.c1
          have n2 : w7.drew.cell? ⟨tb, 2, none⟩ = some (.slice Ao t.outs.length co) := HB.out.c2
          have m0 : w7.drew.cell? ⟨ub, 0, none⟩ = some (.string (strB u.job)) := HC.out.c0
          have m1 : w7.drew.cell? ⟨ub, 1, none⟩ = some (.slice Bn u.needs.length dn) := HC.out.c1
          have m2 : w7.drew.cell? ⟨ub, 2, none⟩ = some (.slice Bo u.outs.length dO) := HC.out.c2
          have p0 : w7.drew.cell? ⟨pb, 0, none⟩ = some (.slice Aa j ca) := blk_cell_J HAB.out 0 rfl
          have HE0 := Lib.hid HE.out.drew
          have HB0 := Lib.hid (show TBox w7.drew tb _ _ _ from HB.out)
          have HC0 := Lib.hid (show TBox w7.drew ub _ _ _ from HC.out)
          have HAB0 := Lib.hid (show w7.drew.heap[pb]? = _ from HAB.out)
          obtain ⟨dd, hdd⟩ : ∃ d, d = decide (t = u) := ⟨_, rfl⟩
          have HDD := Lib.hid hdd
          clear hdd
          have hd1 : (kk == kk) = true := by simp
          have hd2 : (al == al) = true := by simp
          have hd3 : (kn == kn) = true := by simp
          have hd4 : (an == an) = true := by simp
          have hd5 : (dd == dd) = true := by simp
          have hd6 : ((kk : Int) == kk) = true := by simp
          have hd7 : ((kn : Int) == kn) = true := by simp
          go_region_held3 (fun w' => w'.cell? ⟨tb, 0, none⟩ = some (.string (strB t.job)) ∧ w'.cell? ⟨tb, 1, none⟩ = some (.slice An t.needs.length cn) ∧ w'.cell? ⟨tb, 2, none⟩ = some (.slice Ao t.outs.length co) ∧ w'.cell? ⟨ub, 0, none⟩ = some (.string (strB u.job)) ∧ w'.cell? ⟨ub, 1, none⟩ = some (.slice Bn u.needs.length dn) ∧ w'.cell? ⟨ub, 2, none⟩ = some (.slice Bo u.outs.length dO) ∧ w'.cell? ⟨pb, 0, none⟩ = some (.slice Aa j ca))
            (first | go_keep | exact HQ8.out | exact HQ9.out | exact HQ10.out | exact HQ11.out | exact HQ12.out)
            (first
              | (have mark := HV11; go_at_call 22; refine (same_calls HE11.out.inv HVV.out mark.out).mono ?_; rw [decide_eq_true (rfl : t = t)]; rintro e w12 ⟨rfl, hb⟩; have hx := Ext.of_below HE11.out.inv hb; have HB12 := Lib.hid (HB11.out.ext hx); have HC12 := Lib.hid (HC11.out.ext hx); have HAB12 := Lib.hid ((hx.below.block pb (Array.getElem?_eq_some_iff.1 HAB11.out).1).trans HAB11.out); have HE12 := Lib.hid (HE11.out.trans hx); clear hx; have HQ12 : Hid (w12.cell? ⟨tb, 0, none⟩ = some (.string (strB t.job)) ∧ w12.cell? ⟨tb, 1, none⟩ = some (.slice An t.needs.length cn) ∧ w12.cell? ⟨tb, 2, none⟩ = some (.slice Ao t.outs.length co) ∧ w12.cell? ⟨ub, 0, none⟩ = some (.string (strB u.job)) ∧ w12.cell? ⟨ub, 1, none⟩ = some (.slice Bn u.needs.length dn) ∧ w12.cell? ⟨ub, 2, none⟩ = some (.slice Bo u.outs.length dO) ∧ w12.cell? ⟨pb, 0, none⟩ = some (.slice Aa j ca)) := ⟨HB12.out.c0, HB12.out.c1, HB12.out.c2, HC12.out.c0, HC12.out.c1, HC12.out.c2, blk_cell_J HAB12.out 0 rfl⟩)
              | (go_at_call 26; refine (sequal_calls HE0.out.inv HAS.out HWA.out).mono ?_; rw [decide_eq_true rfl]; rintro e w8 ⟨rfl, hb⟩; have hx := Ext.of_below HE0.out.inv hb; have HB8 := Lib.hid (HB0.out.ext hx); have HC8 := Lib.hid (HC0.out.ext hx); have HAB8 := Lib.hid ((hx.below.block pb (Array.getElem?_eq_some_iff.1 HAB0.out).1).trans HAB0.out); have HE8 := Lib.hid (HE0.out.trans hx); clear hx; have HQ8 : Hid (w8.cell? ⟨tb, 0, none⟩ = some (.string (strB t.job)) ∧ w8.cell? ⟨tb, 1, none⟩ = some (.slice An t.needs.length cn) ∧ w8.cell? ⟨tb, 2, none⟩ = some (.slice Ao t.outs.length co) ∧ w8.cell? ⟨ub, 0, none⟩ = some (.string (strB u.job)) ∧ w8.cell? ⟨ub, 1, none⟩ = some (.slice Bn u.needs.length dn) ∧ w8.cell? ⟨ub, 2, none⟩ = some (.slice Bo u.outs.length dO) ∧ w8.cell? ⟨pb, 0, none⟩ = some (.slice Aa j ca)) := ⟨HB8.out.c0, HB8.out.c1, HB8.out.c2, HC8.out.c0, HC8.out.c1, HC8.out.c2, blk_cell_J HAB8.out 0 rfl⟩)
              | (go_at_call 22; refine (same_calls HE8.out.inv HV.out HW.out).mono ?_; rw [← HDD.out]; rintro e w9 ⟨rfl, hb⟩; have hx := Ext.of_below HE8.out.inv hb; have HB9 := Lib.hid (HB8.out.ext hx); have HC9 := Lib.hid (HC8.out.ext hx); have HAB9 := Lib.hid ((hx.below.block pb (Array.getElem?_eq_some_iff.1 HAB8.out).1).trans HAB8.out); have HE9 := Lib.hid (HE8.out.trans hx); clear hx; have HQ9 : Hid (w9.cell? ⟨tb, 0, none⟩ = some (.string (strB t.job)) ∧ w9.cell? ⟨tb, 1, none⟩ = some (.slice An t.needs.length cn) ∧ w9.cell? ⟨tb, 2, none⟩ = some (.slice Ao t.outs.length co) ∧ w9.cell? ⟨ub, 0, none⟩ = some (.string (strB u.job)) ∧ w9.cell? ⟨ub, 1, none⟩ = some (.slice Bn u.needs.length dn) ∧ w9.cell? ⟨ub, 2, none⟩ = some (.slice Bo u.outs.length dO) ∧ w9.cell? ⟨pb, 0, none⟩ = some (.slice Aa j ca)) := ⟨HB9.out.c0, HB9.out.c1, HB9.out.c2, HC9.out.c0, HC9.out.c1, HC9.out.c2, blk_cell_J HAB9.out 0 rfl⟩)
              | (go_at_call 11; refine (refSame_calls HE9.out.inv HV.out HW.out).mono ?_; rw [← HDD.out]; rintro e w10 ⟨rfl, hb⟩; have hx := Ext.of_below HE9.out.inv hb; have HB10 := Lib.hid (HB9.out.ext hx); have HC10 := Lib.hid (HC9.out.ext hx); have HAB10 := Lib.hid ((hx.below.block pb (Array.getElem?_eq_some_iff.1 HAB9.out).1).trans HAB9.out); have HE10 := Lib.hid (HE9.out.trans hx); clear hx; have HQ10 : Hid (w10.cell? ⟨tb, 0, none⟩ = some (.string (strB t.job)) ∧ w10.cell? ⟨tb, 1, none⟩ = some (.slice An t.needs.length cn) ∧ w10.cell? ⟨tb, 2, none⟩ = some (.slice Ao t.outs.length co) ∧ w10.cell? ⟨ub, 0, none⟩ = some (.string (strB u.job)) ∧ w10.cell? ⟨ub, 1, none⟩ = some (.slice Bn u.needs.length dn) ∧ w10.cell? ⟨ub, 2, none⟩ = some (.slice Bo u.outs.length dO) ∧ w10.cell? ⟨pb, 0, none⟩ = some (.slice Aa j ca)) := ⟨HB10.out.c0, HB10.out.c1, HB10.out.c2, HC10.out.c0, HC10.out.c1, HC10.out.c2, blk_cell_J HAB10.out 0 rfl⟩)
              | (go_at_call 18; refine (copied_calls HE10.out.inv HV.out (by omega) (by have := hS.no; omega)).mono ?_; rintro e w11 ⟨v11, J11, rfl, hx, hV11⟩; have HV11 := Lib.hid hV11; have HVV := Lib.hid (HV.out.mono (hx.le HE10.out.inv)); clear hV11; have HB11 := Lib.hid (HB10.out.ext hx); have HC11 := Lib.hid (HC10.out.ext hx); have HAB11 := Lib.hid ((hx.below.block pb (Array.getElem?_eq_some_iff.1 HAB10.out).1).trans HAB10.out); have HE11 := Lib.hid (HE10.out.trans hx); clear hx; have HQ11 : Hid (w11.cell? ⟨tb, 0, none⟩ = some (.string (strB t.job)) ∧ w11.cell? ⟨tb, 1, none⟩ = some (.slice An t.needs.length cn) ∧ w11.cell? ⟨tb, 2, none⟩ = some (.slice Ao t.outs.length co) ∧ w11.cell? ⟨ub, 0, none⟩ = some (.string (strB u.job)) ∧ w11.cell? ⟨ub, 1, none⟩ = some (.slice Bn u.needs.length dn) ∧ w11.cell? ⟨ub, 2, none⟩ = some (.slice Bo u.outs.length dO) ∧ w11.cell? ⟨pb, 0, none⟩ = some (.slice Aa j ca)) := ⟨HB11.out.c0, HB11.out.c1, HB11.out.c2, HC11.out.c0, HC11.out.c1, HC11.out.c2, blk_cell_J HAB11.out 0 rfl⟩))
          go_wp2_with fail
          go_ret
          exact ⟨rfl, HE12.out.below⟩
  · have hb2 : ((strB t.job).toList == (strB job).toList) = false := by rw [hb]; simpa using hj
    rw [if_neg hj] at HA
    clear hb hj
    have HWA := Lib.hid (show Ss J4 (.slice none 0 0) ((t.needs.map (·.path)).take 0) from Sl.nil _ _)
    have HLM := Lib.hid (show ∀ J v, Sl J 1 v 0 (scs ((t.needs.map (·.path)).take 0)) → Ss J v ((t.needs.map (·.path)).take 0) from fun _ _ h => h)
    go_wp2_with fail
    refine (holdsNil_calls HE.out.inv HV.out job).mono ?_
    rintro e w6 ⟨rfl, hb⟩
    have hx := Ext.of_below HE.out.inv hb
    have hIx := HE.out.inv
    have HA := Lib.hid (HA.out.ext hx)
    have HWA := Lib.hid (HWA.out.mono (hx.le hIx))
    clear hb
    have HE := Lib.hid (HE.out.trans hx)
    have HB := Lib.hid (HB.out.ext hx)
    have HC := Lib.hid (HC.out.ext hx)
    have HD := Lib.hid ((hx.below.block nb (Array.getElem?_eq_some_iff.1 HD.out).1).trans HD.out)
    have HV := Lib.hid (HV.out.mono (hx.le hIx))
    have HW := Lib.hid (HW.out.mono (hx.le hIx))
    have HL := Lib.hid (HL.out.mono (hx.le hIx))
    clear hx hIx n0 n1 n2 m0 m1 m2 w0
    have n0 := HB.out.c0
    have n1 := HB.out.c1
    have n2 := HB.out.c2
    have m0 := HC.out.c0
    have m1 := HC.out.c1
    have m2 := HC.out.c2
    have w0 := blk_cell_J HD.out 0 rfl
    go_wp2_with fail
    refine (refHolds_calls HE.out.inv HV.out job (l := []) (Sl.nil J4 3)).mono ?_
    rw [nowF_nil]
    rintro e w7 ⟨rfl, hb⟩
    have hx := Ext.of_below HE.out.inv hb
    have hIx := HE.out.inv
    have HA := Lib.hid (HA.out.ext hx)
    have HWA := Lib.hid (HWA.out.mono (hx.le hIx))
    clear hb
    have HE := Lib.hid (HE.out.trans hx)
    have HB := Lib.hid (HB.out.ext hx)
    have HC := Lib.hid (HC.out.ext hx)
    have HD := Lib.hid ((hx.below.block nb (Array.getElem?_eq_some_iff.1 HD.out).1).trans HD.out)
    have HV := Lib.hid (HV.out.mono (hx.le hIx))
    have HW := Lib.hid (HW.out.mono (hx.le hIx))
    have HL := Lib.hid (HL.out.mono (hx.le hIx))
    clear hx hIx n0 n1 n2 m0 m1 m2 w0
    have n0 := HB.out.c0
    have n1 := HB.out.c1
    have n2 := HB.out.c2
    have m0 := HC.out.c0
    have m1 := HC.out.c1
    have m2 := HC.out.c2
    have w0 := blk_cell_J HD.out 0 rfl
    clear n0 n1 n2 m0 m1 m2 w0
    generalize holdsT t job noF = hno at *
    obtain ⟨kn, an⟩ := hno
    go_upto_region 14 with fail
    obtain ⟨-, va, h1, -, h3, -, -, -, -⟩ := HA.out
    obtain ⟨Aa, ca, rfl, -, -⟩ := h3.sl.form
    have HAS := Lib.hid (show Ss J4 (.slice Aa 0 ca) ((t.needs.map (·.path)).take 0) from HLM.out _ _ h3.sl)
    have HAB := Lib.hid h1
    clear h1 h3
    have n0 : w7.drew.cell? ⟨tb, 0, none⟩ = some (.string (strB t.job)) := HB.out.c0
    have n1 : w7.drew.cell? ⟨tb, 1, none⟩ = some (.slice An t.needs.length cn) := HB.out.c1
    have n2 : w7.drew.cell? ⟨tb, 2, none⟩ = some (.slice Ao t.outs.length co) := HB.out.c2
    have m0 : w7.drew.cell? ⟨ub, 0, none⟩ = some (.string (strB u.job)) := HC.out.c0
    have m1 : w7.drew.cell? ⟨ub, 1, none⟩ = some (.slice Bn u.needs.length dn) := HC.out.c1
    have m2 : w7.drew.cell? ⟨ub, 2, none⟩ = some (.slice Bo u.outs.length dO) := HC.out.c2
    have p0 : w7.drew.cell? ⟨pb, 0, none⟩ = some (.slice Aa 0 ca) := blk_cell_J HAB.out 0 rfl
    have HE0 := Lib.hid HE.out.drew
    have HB0 := Lib.hid (show TBox w7.drew tb _ _ _ from HB.out)
    have HC0 := Lib.hid (show TBox w7.drew ub _ _ _ from HC.out)
    have HAB0 := Lib.hid (show w7.drew.heap[pb]? = _ from HAB.out)
    obtain ⟨dd, hdd⟩ : ∃ d, d = decide (t = u) := ⟨_, rfl⟩
    have HDD := Lib.hid hdd
    clear hdd
    have hd1 : (kk == kk) = true := by simp
    have hd2 : (al == al) = true := by simp
    have hd3 : (kn == kn) = true := by simp
    have hd4 : (an == an) = true := by simp
    have hd5 : (dd == dd) = true := by simp
    have hd6 : ((kk : Int) == kk) = true := by simp
    have hd7 : ((kn : Int) == kn) = true := by simp
    go_region_held3 (fun w' => w'.cell? ⟨tb, 0, none⟩ = some (.string (strB t.job)) ∧ w'.cell? ⟨tb, 1, none⟩ = some (.slice An t.needs.length cn) ∧ w'.cell? ⟨tb, 2, none⟩ = some (.slice Ao t.outs.length co) ∧ w'.cell? ⟨ub, 0, none⟩ = some (.string (strB u.job)) ∧ w'.cell? ⟨ub, 1, none⟩ = some (.slice Bn u.needs.length dn) ∧ w'.cell? ⟨ub, 2, none⟩ = some (.slice Bo u.outs.length dO) ∧ w'.cell? ⟨pb, 0, none⟩ = some (.slice Aa 0 ca))
      (first | go_keep | exact HQ8.out | exact HQ9.out | exact HQ10.out | exact HQ11.out | exact HQ12.out)
      (first
        | (have mark := HV11; go_at_call 22; refine (same_calls HE11.out.inv HVV.out mark.out).mono ?_; rw [decide_eq_true (rfl : t = t)]; rintro e w12 ⟨rfl, hb⟩; have hx := Ext.of_below HE11.out.inv hb; have HB12 := Lib.hid (HB11.out.ext hx); have HC12 := Lib.hid (HC11.out.ext hx); have HAB12 := Lib.hid ((hx.below.block pb (Array.getElem?_eq_some_iff.1 HAB11.out).1).trans HAB11.out); have HE12 := Lib.hid (HE11.out.trans hx); clear hx; have HQ12 : Hid (w12.cell? ⟨tb, 0, none⟩ = some (.string (strB t.job)) ∧ w12.cell? ⟨tb, 1, none⟩ = some (.slice An t.needs.length cn) ∧ w12.cell? ⟨tb, 2, none⟩ = some (.slice Ao t.outs.length co) ∧ w12.cell? ⟨ub, 0, none⟩ = some (.string (strB u.job)) ∧ w12.cell? ⟨ub, 1, none⟩ = some (.slice Bn u.needs.length dn) ∧ w12.cell? ⟨ub, 2, none⟩ = some (.slice Bo u.outs.length dO) ∧ w12.cell? ⟨pb, 0, none⟩ = some (.slice Aa 0 ca)) := ⟨HB12.out.c0, HB12.out.c1, HB12.out.c2, HC12.out.c0, HC12.out.c1, HC12.out.c2, blk_cell_J HAB12.out 0 rfl⟩)
        | (go_at_call 26; refine (sequal_calls HE0.out.inv HAS.out HWA.out).mono ?_; rw [decide_eq_true rfl]; rintro e w8 ⟨rfl, hb⟩; have hx := Ext.of_below HE0.out.inv hb; have HB8 := Lib.hid (HB0.out.ext hx); have HC8 := Lib.hid (HC0.out.ext hx); have HAB8 := Lib.hid ((hx.below.block pb (Array.getElem?_eq_some_iff.1 HAB0.out).1).trans HAB0.out); have HE8 := Lib.hid (HE0.out.trans hx); clear hx; have HQ8 : Hid (w8.cell? ⟨tb, 0, none⟩ = some (.string (strB t.job)) ∧ w8.cell? ⟨tb, 1, none⟩ = some (.slice An t.needs.length cn) ∧ w8.cell? ⟨tb, 2, none⟩ = some (.slice Ao t.outs.length co) ∧ w8.cell? ⟨ub, 0, none⟩ = some (.string (strB u.job)) ∧ w8.cell? ⟨ub, 1, none⟩ = some (.slice Bn u.needs.length dn) ∧ w8.cell? ⟨ub, 2, none⟩ = some (.slice Bo u.outs.length dO) ∧ w8.cell? ⟨pb, 0, none⟩ = some (.slice Aa 0 ca)) := ⟨HB8.out.c0, HB8.out.c1, HB8.out.c2, HC8.out.c0, HC8.out.c1, HC8.out.c2, blk_cell_J HAB8.out 0 rfl⟩)
        | (go_at_call 22; refine (same_calls HE8.out.inv HV.out HW.out).mono ?_; rw [← HDD.out]; rintro e w9 ⟨rfl, hb⟩; have hx := Ext.of_below HE8.out.inv hb; have HB9 := Lib.hid (HB8.out.ext hx); have HC9 := Lib.hid (HC8.out.ext hx); have HAB9 := Lib.hid ((hx.below.block pb (Array.getElem?_eq_some_iff.1 HAB8.out).1).trans HAB8.out); have HE9 := Lib.hid (HE8.out.trans hx); clear hx; have HQ9 : Hid (w9.cell? ⟨tb, 0, none⟩ = some (.string (strB t.job)) ∧ w9.cell? ⟨tb, 1, none⟩ = some (.slice An t.needs.length cn) ∧ w9.cell? ⟨tb, 2, none⟩ = some (.slice Ao t.outs.length co) ∧ w9.cell? ⟨ub, 0, none⟩ = some (.string (strB u.job)) ∧ w9.cell? ⟨ub, 1, none⟩ = some (.slice Bn u.needs.length dn) ∧ w9.cell? ⟨ub, 2, none⟩ = some (.slice Bo u.outs.length dO) ∧ w9.cell? ⟨pb, 0, none⟩ = some (.slice Aa 0 ca)) := ⟨HB9.out.c0, HB9.out.c1, HB9.out.c2, HC9.out.c0, HC9.out.c1, HC9.out.c2, blk_cell_J HAB9.out 0 rfl⟩)
        | (go_at_call 11; refine (refSame_calls HE9.out.inv HV.out HW.out).mono ?_; rw [← HDD.out]; rintro e w10 ⟨rfl, hb⟩; have hx := Ext.of_below HE9.out.inv hb; have HB10 := Lib.hid (HB9.out.ext hx); have HC10 := Lib.hid (HC9.out.ext hx); have HAB10 := Lib.hid ((hx.below.block pb (Array.getElem?_eq_some_iff.1 HAB9.out).1).trans HAB9.out); have HE10 := Lib.hid (HE9.out.trans hx); clear hx; have HQ10 : Hid (w10.cell? ⟨tb, 0, none⟩ = some (.string (strB t.job)) ∧ w10.cell? ⟨tb, 1, none⟩ = some (.slice An t.needs.length cn) ∧ w10.cell? ⟨tb, 2, none⟩ = some (.slice Ao t.outs.length co) ∧ w10.cell? ⟨ub, 0, none⟩ = some (.string (strB u.job)) ∧ w10.cell? ⟨ub, 1, none⟩ = some (.slice Bn u.needs.length dn) ∧ w10.cell? ⟨ub, 2, none⟩ = some (.slice Bo u.outs.length dO) ∧ w10.cell? ⟨pb, 0, none⟩ = some (.slice Aa 0 ca)) := ⟨HB10.out.c0, HB10.out.c1, HB10.out.c2, HC10.out.c0, HC10.out.c1, HC10.out.c2, blk_cell_J HAB10.out 0 rfl⟩)
        | (go_at_call 18; refine (copied_calls HE10.out.inv HV.out (by omega) (by have := hS.no; omega)).mono ?_; rintro e w11 ⟨v11, J11, rfl, hx, hV11⟩; have HV11 := Lib.hid hV11; have HVV := Lib.hid (HV.out.mono (hx.le HE10.out.inv)); clear hV11; have HB11 := Lib.hid (HB10.out.ext hx); have HC11 := Lib.hid (HC10.out.ext hx); have HAB11 := Lib.hid ((hx.below.block pb (Array.getElem?_eq_some_iff.1 HAB10.out).1).trans HAB10.out); have HE11 := Lib.hid (HE10.out.trans hx); clear hx; have HQ11 : Hid (w11.cell? ⟨tb, 0, none⟩ = some (.string (strB t.job)) ∧ w11.cell? ⟨tb, 1, none⟩ = some (.slice An t.needs.length cn) ∧ w11.cell? ⟨tb, 2, none⟩ = some (.slice Ao t.outs.length co) ∧ w11.cell? ⟨ub, 0, none⟩ = some (.string (strB u.job)) ∧ w11.cell? ⟨ub, 1, none⟩ = some (.slice Bn u.needs.length dn) ∧ w11.cell? ⟨ub, 2, none⟩ = some (.slice Bo u.outs.length dO) ∧ w11.cell? ⟨pb, 0, none⟩ = some (.slice Aa 0 ca)) := ⟨HB11.out.c0, HB11.out.c1, HB11.out.c2, HC11.out.c0, HC11.out.c1, HC11.out.c2, blk_cell_J HAB11.out 0 rfl⟩))
    go_wp2_with fail
    go_ret
    exact ⟨rfl, HE12.out.below⟩
end Go.Proofs.Ytldicbhjmjjfbaa
