/- What stands in memory while Get reads. -/
import Derived.Test.YtnnkgjaahmflmaaCellRead
import Derived.Test.YtnnkgjaahmflmaaCellPage
namespace Go.Proofs.Ytnnkgjaahmflmaa
open Go.RowKit
set_option linter.unusedVariables false

theorem rTxt_len (n : Nat) (s : Rst) : (rTxt n s).1.length ≤ s.b.length ∧ (rTxt n s).2.b.length ≤ s.b.length := by
  unfold rTxt
  split
  · exact ⟨Nat.zero_le _, Nat.le_refl _⟩
  · simp only [List.length_take, List.length_drop]; omega
theorem rNum_len (most : Nat) (s : Rst) : (rNum most s).1 ≤ most ∧ (rNum most s).2.b.length ≤ s.b.length := by
  unfold rNum
  split
  · exact ⟨Nat.zero_le _, Nat.le_refl _⟩
  · rename_i n c h
    have := askU_le h
    simp only [List.length_drop]; omega
theorem rKey_len (s : Rst) : (rKey s).1.length ≤ s.b.length ∧ (rKey s).2.b.length ≤ s.b.length := by
  have h1 := rNum_len 64 s
  have h2 := rTxt_len (rNum 64 s).1 (rNum 64 s).2
  unfold rKey; omega
theorem rTwo_len (s : Rst) : (rTwo s).2.b.length ≤ s.b.length := (rTxt_len 2 s).2
def ClN (N : Nat) (x : Cl) : Prop := x.key.length ≤ N ∧ x.val.length ≤ N
theorem rLeaf_len (s : Rst) : ClN s.b.length (rLeaf s).1 ∧ (rLeaf s).2.b.length ≤ s.b.length := by
  have h1 := rKey_len s
  have h2 := rNum_len 9217 (rKey s).2
  have h3 := rTwo_len (rNum 9217 (rKey s).2).2
  have h4 := rTxt_len ((rNum 9217 (rKey s).2).1 / 2) (rNum 9217 (rKey s).2).2
  unfold rLeaf ClN
  simp only []
  split
  · simp only [List.length_nil]; omega
  · simp only []; omega
theorem rLeafs_len : ∀ (c : Nat) (s : Rst) (I : List Cl) (N : Nat), s.b.length ≤ N → (∀ x ∈ I, ClN N x) → (∀ x ∈ (rLeafs c s I).1, ClN N x) ∧ (rLeafs c s I).1.length ≤ I.length + c
  | 0, s, I, N, _, h => ⟨h, Nat.le_refl _⟩
  | c + 1, s, I, N, hs, h => by
    have h1 := rLeaf_len s
    unfold rLeafs
    split
    · have h2 : ∀ x ∈ I ++ [(rLeaf s).1], ClN N x := by
        intro x hx
        rcases List.mem_append.1 hx with hx | hx
        · exact h x hx
        · rw [List.mem_singleton.1 hx]; unfold ClN at h1 ⊢; omega
      have := rLeafs_len c (rLeaf s).2 (I ++ [(rLeaf s).1]) N (by omega) h2
      exact ⟨this.1, by have h3 := this.2; simp only [List.length_append, List.length_cons, List.length_nil] at h3; omega⟩
    · exact ⟨h, by simp⟩
theorem rInns_len : ∀ (c : Nat) (s : Rst) (I : List Cl) (K : List Int) (N : Nat), s.b.length ≤ N → (∀ x ∈ I, ClN N x) → (∀ x ∈ (rInns c s I K).1, ClN N x) ∧ (rInns c s I K).1.length ≤ I.length + c
  | 0, s, I, K, N, _, h => ⟨h, Nat.le_refl _⟩
  | c + 1, s, I, K, N, hs, h => by
    have h1 := rKey_len s
    have h0 := rTwo_len (rKey s).2
    unfold rInns
    split
    · have h2 : ∀ x ∈ I ++ [⟨(rKey s).1, [], 0, 0⟩], ClN N x := by
        intro x hx
        rcases List.mem_append.1 hx with hx | hx
        · exact h x hx
        · rw [List.mem_singleton.1 hx]; exact ⟨by simp only []; omega, Nat.zero_le _⟩
      have := rInns_len c (rTwo (rKey s).2).2 (I ++ [⟨(rKey s).1, [], 0, 0⟩]) (K ++ [(rTwo (rKey s).2).1]) N (by omega) h2
      exact ⟨this.1, by have h3 := this.2; simp only [List.length_append, List.length_cons, List.length_nil] at h3; omega⟩
    · exact ⟨h, by simp⟩
theorem rNode_S (leaf : Bool) (l : List UInt8) (h : l.length ≤ 1048576) : NdS (rNode leaf l).1 := by
  have h1 := rNum_len 240 ⟨l, true⟩
  have h2 := rTwo_len (rNum 240 ⟨l, true⟩).2
  simp only at h1
  unfold rNode NdS
  simp only []
  split
  · have := rLeafs_len (rNum 240 ⟨l, true⟩).1 (rNum 240 ⟨l, true⟩).2 [] 1048576 (by omega) (fun x h => by cases h)
    refine ⟨by have := this.2; simp only [List.length_nil] at this ⊢; omega, fun x hx => ?_⟩
    have := this.1 x hx
    unfold ClN at this; omega
  · have := rInns_len (rNum 240 ⟨l, true⟩).1 (rTwo (rNum 240 ⟨l, true⟩).2).2 [] [(rTwo (rNum 240 ⟨l, true⟩).2).1] 1048576 (by omega) (fun x h => by cases h)
    refine ⟨by have := this.2; simp only [List.length_nil] at this ⊢; omega, fun x hx => ?_⟩
    have := this.1 x hx
    unfold ClN at this; omega

/-- a node whose lists are the call's own -/
def NdO (J : Jm) (w : World) (B : Nat) (v : Value) (n : Nd) : Prop := ∃ vi vk, v = .agg #[.bool n.leaf, vi, vk] ∧ Own J w B 55 4 vi n.items.length (clC n.items) ∧ Own J w B 3 1 vk n.kids.length (kcs n.kids)
theorem NdO.v {J : Jm} {w : World} {B : Nat} {v : Value} {n : Nd} (h : NdO J w B v n) : NdV J v n := by
  obtain ⟨vi, vk, h0, h1, h2⟩ := h
  exact ⟨vi, vk, h0, h1.sl, h2.sl⟩
theorem NdO.ext {J J' : Jm} {w w' : World} {B : Nat} {v : Value} {n : Nd} (h : NdO J w B v n) (hE : Ext J w J' w') : NdO J' w' B v n := by
  obtain ⟨vi, vk, h0, h1, h2⟩ := h
  exact ⟨vi, vk, h0, h1.ext hE, h2.ext hE⟩
structure GS (J : Jm) (w : World) (nb rb : Nat) (leaf : Bool) (vi vk : Value) (I : List Cl) (K : List Int) (s : Rst) (J' : Jm) (wr : World) : Prop where
  ext : Ext J w J' wr
  nbx : NBox wr nb leaf vi vk
  jn : J' nb = []
  oi : Own J' wr (rb + 1) 55 4 vi I.length (clC I)
  ok : Own J' wr (rb + 1) 3 1 vk K.length (kcs K)
  rd : Rdr J' wr rb s
  lo : w.heap.size ≤ nb ∧ nb < rb
structure GX (rb xb : Nat) (x : Cl) (vi vk : Value) (J' : Jm) (wr : World) : Prop where
  bx : XBox wr xb x
  lt : rb < xb
  jx : J' xb = []
  ni : vi.ownBlock ≠ some xb
  nk : vk.ownBlock ≠ some xb
theorem Rdr.ext {J J' : Jm} {w w' : World} {rb : Nat} {s : Rst} (h : Rdr J w rb s) (hle : J.le J') (hh : w'.heap[rb]? = w.heap[rb]?) (hj : J' rb = J rb) : Rdr J' w' rb s := by
  obtain ⟨A, c, h1, h2, h3, h4⟩ := h
  exact ⟨A, c, hh.trans h1, h2.mono hle, hj.trans h3, h4⟩
section
variable {J J' J2 : Jm} {w wr w1 w2 : World} {nb rb xb : Nat} {leaf : Bool} {vi vk v2 : Value} {I : List Cl} {K : List Int} {s s' : Rst} {x : Cl}
theorem GS.nlt (h : GS J w nb rb leaf vi vk I K s J' wr) : nb < wr.heap.size := (Array.getElem?_eq_some_iff.1 h.nbx).1
theorem GS.read (h : GS J w nb rb leaf vi vk I K s J' wr) (hM : Mv (· = rb) J' wr J' w1) (hR : Rdr J' w1 rb s') : GS J w nb rb leaf vi vk I K s' J' w1 :=
  ⟨h.ext.moved hM fun b hb e => by have := h.lo; omega, (hM.block nb h.nlt (by have := h.lo; omega)).trans h.nbx, h.jn, hM.ownBase h.oi (fun b h1 _ => by show ¬ b = rb; omega), hM.ownBase h.ok (fun b h1 _ => by show ¬ b = rb; omega), hR, h.lo⟩
theorem GX.read (h : GX rb xb x vi vk J' wr) (hM : Mv (· = rb) J' wr J' w1) : GX rb xb x vi vk J' w1 :=
  ⟨(hM.block xb (Array.getElem?_eq_some_iff.1 h.bx).1 (by have := h.lt; show ¬ xb = rb; omega)).trans h.bx, h.lt, h.jx, h.ni, h.nk⟩
theorem GS.step (h : GS J w nb rb leaf vi vk I K s J' wr) (hE : Ext J' wr J2 w1) : GS J w nb rb leaf vi vk I K s J2 w1 :=
  ⟨h.ext.trans hE, (hE.below.block nb h.nlt).trans h.nbx, (hE.old nb h.nlt).trans h.jn, h.oi.ext hE, h.ok.ext hE, h.rd.ext (hE.le h.ext.inv) (hE.below.block rb h.rd.lt) (hE.old rb h.rd.lt), h.lo⟩
theorem GX.step (h : GX rb xb x vi vk J' wr) (hE : Ext J' wr J2 w1) : GX rb xb x vi vk J2 w1 :=
  ⟨(hE.below.block xb (Array.getElem?_eq_some_iff.1 h.bx).1).trans h.bx, h.lt, (hE.old xb (Array.getElem?_eq_some_iff.1 h.bx).1).trans h.jx, h.ni, h.nk⟩
theorem GX.new (h : GS J w nb rb leaf vi vk I K s J' wr) (x : Cl) (c : Obj) (hc : c = .cells [.string (strB x.key), .string (strB x.val), .int .i64 x.page, .int .i64 x.len].toArray 55 (0, 0)) : GX rb wr.heap.size x vi vk J' (wr.alloc c) := by
  subst hc
  exact ⟨heap_alloc_new wr _, h.rd.lt, h.ext.inv.nil (Nat.le_refl _), fun e => by have := (h.oi.lt _ e).2; omega, fun e => by have := (h.ok.lt _ e).2; omega⟩
theorem own_set {B : Nat} {T : TypeId} {size n : Nat} {v : Value} {cs : List Value} (h : Own J' wr B T size v n cs) {p : Addr} (hp : v.ownBlock ≠ some p.block) (u : Value) : Own J' (wr.setCell p u) B T size v n cs :=
  h.kept fun b e => ⟨Below.heap_setCell wr p u b (fun e2 => hp (by rw [e, e2])), rfl⟩
theorem GS.xset (h : GS J w nb rb leaf vi vk I K s J' wr) (hx : GX rb xb x vi vk J' wr) (i : Nat) (u : Value) : GS J w nb rb leaf vi vk I K s J' (wr.setCell ⟨xb, i, none⟩ u) := by
  have h1 := hx.lt
  have h2 := h.lo
  refine ⟨h.ext.setCell (by show w.heap.size ≤ xb; omega) hx.jx u, (Below.heap_setCell wr _ u nb (by show nb ≠ xb; omega)).trans h.nbx, h.jn, own_set h.oi hx.ni u, own_set h.ok hx.nk u, h.rd.ext (Jm.le_refl _) (Below.heap_setCell wr _ u rb (by show rb ≠ xb; omega)) rfl, h2⟩
theorem GX.set (hx : GX rb xb x vi vk J' wr) (i : Nat) (u : Value) (y : Cl) (hy : [.string (strB x.key), .string (strB x.val), .int .i64 x.page, .int .i64 x.len].set i u = [.string (strB y.key), .string (strB y.val), .int .i64 y.page, .int .i64 y.len]) : GX rb xb y vi vk J' (wr.setCell ⟨xb, i, none⟩ u) :=
  ⟨by have := blk_set_J hx.bx i u; rw [hy] at this; exact this, hx.lt, hx.jx, hx.ni, hx.nk⟩
/-- an item more -/
theorem GS.item (h : GS J w nb rb leaf vi vk I K s J' w1) (ho : Own J2 w2 (rb + 1) 55 4 v2 (I.length + 1) (clC I ++ clC [x])) (hg : Grew J' w1 vi J2 w2 v2) :
    GS J w nb rb leaf v2 vk (I ++ [x]) K s J2 (w2.setCell ⟨nb, 1, none⟩ v2) := by
  have h2 := h.lo
  have hne := h.oi.ne (b := nb) (by omega)
  have hnr := h.oi.ne (b := rb) (by omega)
  have hE := h.ext.grew (h.oi.lower (by omega)) hg
  have hj : J2 nb = [] := (hg.other nb h.nlt hne).trans h.jn
  have hb : NBox w2 nb leaf vi vk := (hg.grown.block nb h.nlt hne).trans h.nbx
  have hk : Own J2 w2 (rb + 1) 3 1 vk K.length (kcs K) := h.ok.grew_other h.oi hg (by decide)
  have hr : Rdr J2 w2 rb s := h.rd.ext hg.le (hg.grown.block rb h.rd.lt hnr) (hg.other rb h.rd.lt hnr)
  have hset : ∀ {T : TypeId} {size n : Nat} {v : Value} {cs : List Value} (hq : Own J2 w2 (rb + 1) T size v n cs), Own J2 (w2.setCell ⟨nb, 1, none⟩ v2) (rb + 1) T size v n cs := fun hq =>
    own_set hq (fun e => by have := (hq.lt _ e).1; simp only at this; omega) _
  refine ⟨hE.setCell h2.1 hj _, blk_set_J hb 1 v2, hj, ?_, hset hk, hr.ext (Jm.le_refl _) (Below.heap_setCell w2 _ v2 rb (by show rb ≠ nb; omega)) rfl, h2⟩
  rw [List.length_append, clC_append]
  exact hset ho
/-- a kid more -/
theorem GS.kid (h : GS J w nb rb leaf vi vk I K s J' w1) {k : Int} (ho : Own J2 w2 (rb + 1) 3 1 v2 (K.length + 1) (kcs K ++ kcs [k])) (hg : Grew J' w1 vk J2 w2 v2) :
    GS J w nb rb leaf vi v2 I (K ++ [k]) s J2 (w2.setCell ⟨nb, 2, none⟩ v2) := by
  have h2 := h.lo
  have hne := h.ok.ne (b := nb) (by omega)
  have hnr := h.ok.ne (b := rb) (by omega)
  have hE := h.ext.grew (h.ok.lower (by omega)) hg
  have hj : J2 nb = [] := (hg.other nb h.nlt hne).trans h.jn
  have hb : NBox w2 nb leaf vi vk := (hg.grown.block nb h.nlt hne).trans h.nbx
  have hk : Own J2 w2 (rb + 1) 55 4 vi I.length (clC I) := h.oi.grew_other h.ok hg (by decide)
  have hr : Rdr J2 w2 rb s := h.rd.ext hg.le (hg.grown.block rb h.rd.lt hnr) (hg.other rb h.rd.lt hnr)
  have hset : ∀ {T : TypeId} {size n : Nat} {v : Value} {cs : List Value} (hq : Own J2 w2 (rb + 1) T size v n cs), Own J2 (w2.setCell ⟨nb, 2, none⟩ v2) (rb + 1) T size v n cs := fun hq =>
    own_set hq (fun e => by have := (hq.lt _ e).1; simp only at this; omega) _
  refine ⟨hE.setCell h2.1 hj _, blk_set_J hb 2 v2, hj, hset hk, ?_, hr.ext (Jm.le_refl _) (Below.heap_setCell w2 _ v2 rb (by show rb ≠ nb; omega)) rfl, h2⟩
  rw [List.length_append, kcs_append]
  exact hset ho
/-- a kid more, beside an item's box -/
theorem GX.kid (h : GX rb xb x vi vk J' w1) (hg : Grew J' w1 vk J2 w2 v2) (hn : nb < rb) : GX rb xb x vi v2 J2 (w2.setCell ⟨nb, 2, none⟩ v2) := by
  have hlt := (Array.getElem?_eq_some_iff.1 h.bx).1
  have h1 := h.lt
  refine ⟨(Below.heap_setCell w2 _ v2 xb (by show xb ≠ nb; omega)).trans ((hg.grown.block xb hlt (fun e => h.nk e.symm)).trans h.bx), h.lt, (hg.other xb hlt (fun e => h.nk e.symm)).trans h.jx, h.ni, fun e => ?_⟩
  rcases hg.home xb e with h' | h'
  · exact h.nk h'
  · omega
theorem GS.nb_item (h : GS J w nb rb leaf vi vk I K s J' w1) (hg : Grew J' w1 vi J2 w2 v2) : NBox w2 nb leaf vi vk := (hg.grown.block nb h.nlt (h.oi.ne (b := nb) (by have := h.lo; omega))).trans h.nbx
theorem GS.nb_kid (h : GS J w nb rb leaf vi vk I K s J' w1) (hg : Grew J' w1 vk J2 w2 v2) : NBox w2 nb leaf vi vk := (hg.grown.block nb h.nlt (h.ok.ne (b := nb) (by have := h.lo; omega))).trans h.nbx
theorem info_cell : (Try.prog.info? 55).map (fun i => (i.zero, i.size, i.bytes)) = some (some (.agg #[.string ByteArray.empty, .string ByteArray.empty, .int .i64 0, .int .i64 0]), 4, 48) := by kernel_rfl
theorem info_int : (Try.prog.info? 3).map (fun i => (i.zero, i.size, i.bytes)) = some (some (.int .i64 0), 1, 8) := by kernel_rfl
end
end Go.Proofs.Ytnnkgjaahmflmaa
