/- What stands in memory while record's Get reads. -/
import Derived.Test.YtldicbhjmjjfbaaRecRead
import Derived.Test.YtldicbhjmjjfbaaRecCheck
namespace Go.Proofs.Ytldicbhjmjjfbaa
open Go.RowKit
set_option linter.unusedVariables false

def gE (s : List UInt8) : Int := if (getT s).isSome = true then 0 else 7
def gT (s : List UInt8) : Trc := (getT s).getD ⟨[], [], []⟩
theorem gT_none {s : List UInt8} (h : getT s = none) : gE s = 7 ∧ gT s = ⟨[], [], []⟩ := by unfold gE gT; rw [h]; exact ⟨rfl, rfl⟩
theorem gT_some {s : List UInt8} {t : Trc} (h : getT s = some t) : gE s = 0 ∧ gT s = t := by unfold gE gT; rw [h]; exact ⟨rfl, rfl⟩
def GetP (J : Jm) (w : World) (s : List UInt8) (e : Ending) (w' : World) : Prop := ∃ v J', e = .returned (.tuple #[v, .int .i64 (gE s)]) ∧ Ext J w J' w' ∧ TrV J' v (gT s)
theorem zeroT_V (J : Jm) : TrV J (.agg #[.string (strB []), .slice none 0 0, .slice none 0 0]) ⟨[], [], []⟩ := ⟨_, _, rfl, Sl.nil _ _, Sl.nil _ _⟩
theorem GetP.no {J J' : Jm} {w w' : World} {s : List UInt8} (h : getT s = none) (hE : Ext J w J' w') : GetP J w s (.returned (.tuple #[.agg #[.string (strB []), .slice none 0 0, .slice none 0 0], .int .i64 7])) w' := by
  obtain ⟨h1, h2⟩ := gT_none h
  refine ⟨_, J', by rw [h1], hE, ?_⟩
  rw [h2]; exact zeroT_V _
theorem GetP.yes {J J' : Jm} {w w' : World} {s : List UInt8} {t : Trc} {vn vo : Value} (h : getT s = some t) (hE : Ext J w J' w') (hn : Ns J' vn t.needs) (ho : Ss J' vo t.outs) : GetP J w s (.returned (.tuple #[.agg #[.string (strB t.job), vn, vo], .int .i64 0])) w' := by
  obtain ⟨h1, h2⟩ := gT_some h
  refine ⟨_, J', by rw [h1], hE, ?_⟩
  rw [h2]; exact ⟨_, _, rfl, hn, ho⟩
abbrev zT : Trc := ⟨[], [], []⟩
theorem bodyPost_get {R : Ending → World → Prop} {tmps : Array Value} {w : World} {b : Nat} {t : Trc} {vn vo : Value} {e : Int} (h : TBox w b t vn vo)
    (h2 : tmps[2]?.getD undef = .pointer (some ⟨b, 0, none⟩)) (h3 : tmps[3]?.getD undef = .int .i64 e) (hR : R (.returned (.tuple #[.agg #[.string (strB t.job), vn, vo], .int .i64 e])) w) : bodyPost Try.prog Try.f10 R .ret ⟨tmps, []⟩ w := by
  have n0 := h.c0
  have n1 := h.c1
  have n2 := h.c2
  refine ⟨rfl, _, ?_, hR⟩
  simp [results, Try.results10, go_sem, n0, n1, n2, h2, h3]
abbrev put3 (w : World) (b : Nat) (x y z : Value) : World := ((w.setCell ⟨b, 0, none⟩ x).setCell ⟨b, 1, none⟩ y).setCell ⟨b, 2, none⟩ z
theorem put3_tr {w : World} {b : Nat} {t : Trc} {vn vo : Value} (h : TBox w b t vn vo) (t' : Trc) (vn' vo' : Value) : TBox (put3 w b (.string (strB t'.job)) vn' vo') b t' vn' vo' := by
  have h1 := blk_set_J h 0 (.string (strB t'.job))
  have h2 := blk_set_J h1 1 vn'
  exact blk_set_J h2 2 vo'
theorem put3_ext {J J9 : Jm} {w w9 : World} (h : Ext J w J9 w9) {b : Nat} (hb : w.heap.size ≤ b) (hJ : J9 b = []) (x y z : Value) : Ext J w J9 (put3 w9 b x y z) :=
  ((h.setCell (p := ⟨b, 0, none⟩) hb hJ x).setCell (p := ⟨b, 1, none⟩) hb hJ y).setCell (p := ⟨b, 2, none⟩) hb hJ z

structure RB (J : Jm) (w : World) (zb g rb : Nat) (s : List UInt8) (r : Rs) (J' : Jm) (wr : World) : Prop where
  ext : Ext J w J' wr
  zx : TBox wr zb zT (.slice none 0 0) (.slice none 0 0)
  jz : J' zb = []
  rd : Rdr J' wr rb g s r
  lo : w.heap.size ≤ zb ∧ zb < g
structure RG (J : Jm) (w : World) (zb g rb tb : Nat) (s : List UInt8) (job : List UInt8) (vn vo : Value) (L : List Nee) (r : Rs) (J' : Jm) (wr : World) : Prop where
  rbx : RB J w zb g rb s r J' wr
  tx : TBox wr tb ⟨job, [], []⟩ vn vo
  jt : J' tb = []
  on : Own J' wr (tb + 1) 38 3 vn L.length (ndC L)
  lt : rb < tb
structure RX (tb eb : Nat) (n : Nee) (vn : Value) (J' : Jm) (wr : World) : Prop where
  bx : EBox wr eb n
  lt : tb < eb
  jx : J' eb = []
  nn : vn.ownBlock ≠ some eb
section
variable {J J' J2 : Jm} {w wr w1 w2 : World} {zb g rb tb eb : Nat} {s job : List UInt8} {vn vo v2 : Value} {L : List Nee} {r r' : Rs} {n : Nee}
theorem RB.read (h : RB J w zb g rb s r J' wr) (hM : Mv (two2 g rb) J' wr J2 w1) (hR : Rdr J2 w1 rb g s r') : RB J w zb g rb s r' J2 w1 := by
  have h1 := h.lo
  have h2 := h.rd.lt
  exact ⟨h.ext.moved hM (fun b hb e => by rcases e with e | e <;> omega), h.zx.mv hM (fun e => by rcases e with e | e <;> omega), (hM.old zb h.zx.lt).trans h.jz, hR, h1⟩
theorem RB.step (h : RB J w zb g rb s r J' wr) (hE : Ext J' wr J2 w1) : RB J w zb g rb s r J2 w1 :=
  ⟨h.ext.trans hE, h.zx.ext hE, (hE.old zb h.zx.lt).trans h.jz, h.rd.ext hE, h.lo⟩
theorem RG.read (h : RG J w zb g rb tb s job vn vo L r J' wr) (hM : Mv (two2 g rb) J' wr J2 w1) (hR : Rdr J2 w1 rb g s r') : RG J w zb g rb tb s job vn vo L r' J2 w1 := by
  have h1 := h.lt
  have h2 := h.rbx.rd.lt
  exact ⟨h.rbx.read hM hR, h.tx.mv hM (fun e => by rcases e with e | e <;> omega), (hM.old tb h.tx.lt).trans h.jt, hM.ownBase h.on (fun b hb _ e => by rcases e with e | e <;> omega), h1⟩
theorem RG.step (h : RG J w zb g rb tb s job vn vo L r J' wr) (hE : Ext J' wr J2 w1) : RG J w zb g rb tb s job vn vo L r J2 w1 :=
  ⟨h.rbx.step hE, h.tx.ext hE, (hE.old tb h.tx.lt).trans h.jt, h.on.ext hE, h.lt⟩
theorem RX.read (h : RX tb eb n vn J' wr) (hg : RG J w zb g rb tb s job vn vo L r J' wr) (hM : Mv (two2 g rb) J' wr J' w1) : RX tb eb n vn J' w1 := by
  have h1 := hg.lt
  have h2 := hg.rbx.rd.lt
  have h3 := h.lt
  exact ⟨h.bx.mv hM (fun e => by rcases e with e | e <;> omega), h.lt, h.jx, h.nn⟩
theorem RX.new (h : RG J w zb g rb tb s job vn vo L r J' wr) (n : Nee) : RX tb wr.heap.size n vn J' (wr.alloc (.cells #[.string (strB n.path), .bool n.hv, .string (strB n.cont)] 38)) :=
  ⟨EBox.new wr n, h.tx.lt, h.rbx.ext.inv.nil (Nat.le_refl _), fun e => by have := (h.on.lt _ e).2; omega⟩
theorem own_setR {B : Nat} {T : TypeId} {size n : Nat} {v : Value} {cs : List Value} (h : Own J' wr B T size v n cs) {p : Addr} (hp : v.ownBlock ≠ some p.block) (u : Value) : Own J' (wr.setCell p u) B T size v n cs :=
  h.kept fun b e => ⟨Below.heap_setCell wr p u b (fun e2 => hp (by rw [e, e2])), rfl⟩
theorem Rdr.set (h : Rdr J' wr rb g s r) {p : Addr} (hr : rb ≠ p.block) (hg : g ≠ p.block) (u : Value) : Rdr J' (wr.setCell p u) rb g s r :=
  ⟨(Below.heap_setCell wr p u rb hr).trans h.bx, h.jr, h.cu.store (fun e => hg e.symm) u, h.lt⟩
theorem RB.set (h : RB J w zb g rb s r J' wr) {p : Addr} (hp : rb < p.block) (hJ : J' p.block = []) (u : Value) : RB J w zb g rb s r J' (wr.setCell p u) := by
  have h1 := h.lo
  have h2 := h.rd.lt
  exact ⟨h.ext.setCell (by omega) hJ u, (Below.heap_setCell wr p u zb (by omega)).trans h.zx, h.jz, h.rd.set (by omega) (by omega) u, h1⟩
/-- a field of the need's box is written -/
theorem RG.xset (h : RG J w zb g rb tb s job vn vo L r J' wr) (hx : RX tb eb n vn J' wr) (i : Nat) (u : Value) : RG J w zb g rb tb s job vn vo L r J' (wr.setCell ⟨eb, i, none⟩ u) := by
  have h1 := hx.lt
  have h2 := h.lt
  exact ⟨h.rbx.set (p := ⟨eb, i, none⟩) (by show rb < eb; omega) hx.jx u, (Below.heap_setCell wr _ u tb (by show tb ≠ eb; omega)).trans h.tx, h.jt, own_setR h.on hx.nn u, h2⟩
theorem RX.set1 (hx : RX tb eb n vn J' wr) (b : Bool) : RX tb eb ⟨n.path, b, n.cont⟩ vn J' (wr.setCell ⟨eb, 1, none⟩ (.bool b)) := ⟨blk_set_J hx.bx 1 (.bool b), hx.lt, hx.jx, hx.nn⟩
theorem RX.set2 (hx : RX tb eb n vn J' wr) (c : List UInt8) : RX tb eb ⟨n.path, n.hv, c⟩ vn J' (wr.setCell ⟨eb, 2, none⟩ (.string (strB c))) := ⟨blk_set_J hx.bx 2 (.string (strB c)), hx.lt, hx.jx, hx.nn⟩
theorem RG.oset (h : RG J w zb g rb tb s job vn vo L r J' wr) (u : Value) : RG J w zb g rb tb s job vn u L r J' (wr.setCell ⟨tb, 2, none⟩ u) :=
  ⟨h.rbx.set (p := ⟨tb, 2, none⟩) h.lt h.jt u, blk_set_J h.tx 2 u, h.jt, own_setR h.on (fun e => by have := (h.on.lt _ e).1; simp only at this; omega) u, h.lt⟩
theorem RG.new (h : RB J w zb g rb s r J' wr) (job : List UInt8) : RG J w zb g rb wr.heap.size s job (.slice none 0 0) (.slice none 0 0) [] r J' (wr.alloc (.cells #[.string (strB job), .slice none 0 0, .slice none 0 0] 26)) :=
  ⟨h.step ((Ext.refl h.ext.inv).alloc _), TBox.new wr ⟨job, [], []⟩ _ _, h.ext.inv.nil (Nat.le_refl _), Own.nil _ _ _ _ _, h.rd.rlt⟩
/-- a need more -/
theorem RG.need (h : RG J w zb g rb tb s job vn vo L r J' w1) (ho : Own J2 w2 (tb + 1) 38 3 v2 (L.length + 1) (ndC L ++ ndC [n])) (hg : Grew J' w1 vn J2 w2 v2) :
    TBox w2 tb ⟨job, [], []⟩ vn vo ∧ RG J w zb g rb tb s job v2 vo (L ++ [n]) r J2 (w2.setCell ⟨tb, 1, none⟩ v2) := by
  have h1 := h.lt
  have h2 := h.rbx.rd.lt
  have h3 := h.rbx.lo
  have hk : ∀ b, b ≤ tb → b < w1.heap.size → w2.heap[b]? = w1.heap[b]? ∧ J2 b = J' b := fun b hb hlt =>
    ⟨hg.grown.block b hlt (h.on.ne (by omega)), hg.other b hlt (h.on.ne (by omega))⟩
  have hE := h.rbx.ext.grew (h.on.lower (by omega)) hg
  have ktb := hk tb (by omega) h.tx.lt
  have kzb := hk zb (by omega) h.rbx.zx.lt
  have krb := hk rb (by omega) h.rbx.rd.rlt
  have kgb := hk g (by omega) h.rbx.rd.cu.lt
  have hT : TBox w2 tb ⟨job, [], []⟩ vn vo := ktb.1.trans h.tx
  have hjt : J2 tb = [] := ktb.2.trans h.jt
  have hR : Rdr J2 w2 rb g s r := ⟨krb.1.trans h.rbx.rd.bx, krb.2.trans h.rbx.rd.jr, ⟨kgb.1.trans h.rbx.rd.cu.1, kgb.2.trans h.rbx.rd.cu.2.1, h.rbx.rd.cu.2.2⟩, h2⟩
  have hB : RB J w zb g rb s r J2 w2 := ⟨hE, kzb.1.trans h.rbx.zx, kzb.2.trans h.rbx.jz, hR, h3⟩
  refine ⟨hT, hB.set (p := ⟨tb, 1, none⟩) h1 hjt v2, blk_set_J hT 1 v2, hjt, ?_, h1⟩
  have := own_setR ho (p := ⟨tb, 1, none⟩) (fun e => by have := (ho.lt _ e).1; simp only at this; omega) v2
  rw [List.length_append, ndC_append]; exact this
end
theorem txtR_len (s : List UInt8) (m : Nat) (r : Rs) : (txtR s m r).1.length ≤ m := by
  unfold txtR
  split
  · simp
  · split
    · rename_i t c h; have := (rdT_ok h).2.2; simp only; omega
    · simp
theorem numR_le (s : List UInt8) (m : Nat) (r : Rs) : (numR s m r).1 ≤ m := by
  unfold numR
  split
  · simp
  · split
    · rename_i n c h; exact (askU_ok h).2.2
    · simp
theorem neeR_len (s : List UInt8) (r : Rs) : (neeR s r).1.path.length ≤ 60 ∧ (neeR s r).1.cont.length ≤ 256 := by
  unfold neeR
  simp only
  split
  · exact ⟨txtR_len _ _ _, txtR_len _ _ _⟩
  · exact ⟨txtR_len _ _ _, by simp⟩
theorem neesR_len (s : List UInt8) : ∀ (n : Nat) (L : List Nee) (r : Rs), (∀ x ∈ L, x.path.length ≤ 60 ∧ x.cont.length ≤ 256) →
    (∀ x ∈ (neesR s n L r).1, x.path.length ≤ 60 ∧ x.cont.length ≤ 256) ∧ (neesR s n L r).1.length ≤ L.length + n
  | 0, L, r, h => ⟨h, by simp [neesR]⟩
  | n + 1, L, r, h => by
    unfold neesR
    split
    · exact ⟨h, by simp⟩
    · have := neesR_len s n (L ++ [(neeR s r).1]) (neeR s r).2 (fun x hx => by
        rcases List.mem_append.1 hx with hx | hx
        · exact h x hx
        · rw [List.mem_singleton.1 hx]; exact neeR_len s r)
      exact ⟨this.1, by have := this.2; simp at this; omega⟩
theorem rdTs_len : ∀ {n : Nat} {l : List UInt8} {m : Int} {ts : List (List UInt8)} {k : Nat}, rdTs n l m = .ok (ts, k) → ∀ t ∈ ts, (t.length : Int) ≤ m
  | 0, l, m, ts, k, h, t, ht => by
    simp only [rdTs, Except.ok.injEq, Prod.mk.injEq] at h
    rw [← h.1] at ht; cases ht
  | n + 1, l, m, ts, k, h, t, ht => by
    rw [rdTs] at h
    split at h
    · cases h
    · rename_i t1 k1 h1
      split at h
      · cases h
      · rename_i ts' k2 h2
        simp only [Except.ok.injEq, Prod.mk.injEq] at h
        rw [← h.1] at ht
        rcases List.mem_cons.1 ht with rfl | ht
        · exact (rdT_ok h1).2.2
        · exact rdTs_len h2 t ht
theorem rdL_len {l : List UInt8} {m q : Int} {ts : List (List UInt8)} {k : Nat} (h : rdL l m q = .ok (ts, k)) : (ts.length : Int) ≤ m ∧ ∀ t ∈ ts, (t.length : Int) ≤ q := by
  unfold rdL at h
  split at h
  · cases h
  · rename_i n k1 h1
    split at h
    · cases h
    · rename_i ts' k2 h2
      simp only [Except.ok.injEq, Prod.mk.injEq] at h
      obtain ⟨rfl, rfl⟩ := h
      rw [(rdTs_ok h2).1]
      exact ⟨(cnt_ok h1).2.1, rdTs_len h2⟩
/-- bytes of a text in a row of their own -/
theorem conv_bytes {J : Jm} {w : World} (hI : Inv J w) (s : List UInt8) (hs : s.length ≤ 9223372036854775807) :
    ∃ W J1 c, (convert 9 54 (.string (strB s))).run Try.prog w = .ok (.slice (some ⟨w.heap.size, 0, none⟩) s.length c) W ∧ Ext J w J1 W ∧ Bs J1 (.slice (some ⟨w.heap.size, 0, none⟩) s.length c) s := by
  obtain ⟨h1, h2⟩ := bytes_row hI s hs
  refine ⟨_, _, _, ?_, h1, h2⟩
  have := Lib.run_convert_string_bytes (P := Try.prog) w 9 54 5 (strB s) Try.underlying9 Try.underlying54 Try.underlying5
  rw [strB_size] at this
  exact this
end Go.Proofs.Ytldicbhjmjjfbaa
