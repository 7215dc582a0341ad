/- A small vocabulary for memory that is written once: what leading cells of which blocks never change any more, slices that read out of them, rows that a call owns and appends to. No program text in it. -/
import Derived.Test.YtldicbhjmjjfbaaProg
import Derived.WalkKit
import Derived.KernelRfl
import Derived.RowKit
import Derived.Laws.Rows
import Derived.Laws.IdiomArrays
import Derived.Laws.AppendOwn
import Derived.Lib.AppendStr
import Derived.Deep.Draws
import Derived.Lib.Hide
import Derived.Lib.SlBytesConst
import Derived.Deep.DeepMust
import Derived.Deep.RegionHeld3
import Derived.StillTailTactics
import Derived.Deep.QuietTactic
import Derived.BigQuiet
import Derived.Laws.BytesArg
namespace Go.Proofs.Ytldicbhjmjjfbaa
open Go.RowKit

/-- Of each block the leading cells that never change any more. -/
abbrev Jm := Nat → List Value

structure Inv (J : Jm) (w : World) : Prop where
  cells : ∀ b, J b ≠ [] → ∃ c T fz, w.heap[b]? = some (.cells c T fz) ∧ J b <+: c.toList

theorem Inv.lt {J : Jm} {w : World} (h : Inv J w) {b : Nat} (hb : J b ≠ []) : b < w.heap.size := by
  obtain ⟨c, T, fz, hc, _⟩ := h.cells b hb
  exact (Array.getElem?_eq_some_iff.1 hc).1
theorem Inv.nil {J : Jm} {w : World} (h : Inv J w) {b : Nat} (hb : w.heap.size ≤ b) : J b = [] := by
  by_cases e : J b = []
  · exact e
  · have := h.lt e; omega
theorem Inv.cell {J : Jm} {w : World} (h : Inv J w) {b i : Nat} {v : Value} (hv : (J b)[i]? = some v) : w.cell? ⟨b, i, none⟩ = some v := by
  have hb : J b ≠ [] := by intro e; simp [e] at hv
  obtain ⟨c, T, fz, hc, hp⟩ := h.cells b hb
  obtain ⟨r, hr⟩ := hp
  rw [cell_of_row w b i c T fz hc]
  have hi : i < (J b).length := (List.getElem?_eq_some_iff.1 hv).1
  have : c.toList[i]? = some v := by rw [← hr, List.getElem?_append_left hi]; exact hv
  simpa using this
theorem Inv.of_heap {J : Jm} {w w' : World} (h : Inv J w) (hh : ∀ b, J b ≠ [] → w'.heap[b]? = w.heap[b]?) : Inv J w' :=
  ⟨fun b hb => by obtain ⟨c, T, fz, hc, hp⟩ := h.cells b hb; exact ⟨c, T, fz, (hh b hb).trans hc, hp⟩⟩
theorem Inv.below {J : Jm} {w w' : World} (h : Inv J w) (hb : Below w.heap.size w w') : Inv J w' := h.of_heap fun b hn => hb.block b (h.lt hn)
theorem Inv.alloc {J : Jm} {w : World} (h : Inv J w) (o : Obj) : Inv J (w.alloc o) := h.of_heap fun b hn => Below.heap_alloc w o b (h.lt hn)
theorem Inv.drew {J : Jm} {w : World} (h : Inv J w) : Inv J w.drew := ⟨h.cells⟩
theorem Inv.drewN {J : Jm} {w : World} (h : Inv J w) (n : Nat) : Inv J (w.drewN n) := ⟨h.cells⟩
theorem Inv.setCell {J : Jm} {w : World} (h : Inv J w) {a : Addr} (ha : J a.block = []) (v : Value) : Inv J (w.setCell a v) :=
  h.of_heap fun b hn => Below.heap_setCell w a v b (fun e => hn (e ▸ ha))
theorem Inv.setRow {J : Jm} {w : World} (h : Inv J w) {g : Nat} (hg : J g = []) (cs : Array Value) : Inv J (w.setRow g cs) :=
  h.of_heap fun b hn => setRow_other w g b cs (fun e => hn (e ▸ hg))

/-- All that stands in memory: what comes in is not written. -/
def J0 (w : World) : Jm := fun b => match w.heap[b]? with | some (.cells c _ _) => c.toList | _ => []
theorem Inv.zero (w : World) : Inv (J0 w) w := by
  refine ⟨fun b hb => ?_⟩
  unfold J0 at hb ⊢
  split at hb
  · rename_i c T fz hc
    exact ⟨c, T, fz, hc, by simp⟩
  · exact absurd rfl hb

/-- One block's leading cells laid down. -/
def Jm.put (J : Jm) (b : Nat) (cs : List Value) : Jm := fun k => if k = b then cs else J k
theorem Jm.put_same (J : Jm) (b : Nat) (cs : List Value) : J.put b cs b = cs := by simp [Jm.put]
theorem Jm.put_other (J : Jm) (b : Nat) (cs : List Value) {k : Nat} (h : k ≠ b) : J.put b cs k = J k := by simp [Jm.put, h]

def Jm.le (J J' : Jm) : Prop := ∀ b, J b <+: J' b
theorem Jm.le_refl (J : Jm) : J.le J := fun _ => List.prefix_refl _
theorem Jm.le.trans {J J' J'' : Jm} (h : J.le J') (k : J'.le J'') : J.le J'' := fun b => (h b).trans (k b)
theorem Jm.le_put {J : Jm} {b : Nat} {cs : List Value} (h : J b <+: cs) : J.le (J.put b cs) := by
  intro k
  by_cases e : k = b
  · subst e; rw [Jm.put_same]; exact h
  · rw [Jm.put_other _ _ _ e]; exact List.prefix_refl _
theorem Inv.put {J : Jm} {w : World} (h : Inv J w) {b : Nat} {c : Array Value} {T : TypeId} {fz : Nat × Nat} {cs : List Value}
    (hb : w.heap[b]? = some (.cells c T fz)) (hp : cs <+: c.toList) : Inv (J.put b cs) w := by
  refine ⟨fun k hk => ?_⟩
  by_cases e : k = b
  · subst e; rw [Jm.put_same] at *; exact ⟨c, T, fz, hb, hp⟩
  · rw [Jm.put_other _ _ _ e] at *; exact h.cells k hk

theorem below_setRow {B : Nat} {a w : World} (h : Below B a w) {g : Nat} (hg : B ≤ g) (cs : Array Value) : Below B a (w.setRow g cs) :=
  h.trans ⟨rfl, rfl, rfl, by simp, fun k hk => setRow_other w g k cs (by omega)⟩
/-- What a call of its own memory leaves: all that was there is as it was, new blocks may be laid down. -/
structure Ext (J : Jm) (w : World) (J' : Jm) (w' : World) : Prop where
  below : Below w.heap.size w w'
  inv : Inv J' w'
  old : ∀ b, b < w.heap.size → J' b = J b
theorem Ext.refl {J : Jm} {w : World} (h : Inv J w) : Ext J w J w := ⟨Below.refl _ _, h, fun _ _ => rfl⟩
theorem Ext.trans {J J1 J2 : Jm} {w w1 w2 : World} (h : Ext J w J1 w1) (k : Ext J1 w1 J2 w2) : Ext J w J2 w2 :=
  ⟨h.below.trans (k.below.mono h.below.size), k.inv, fun b hb => (k.old b (Nat.lt_of_lt_of_le hb h.below.size)).trans (h.old b hb)⟩
theorem Ext.le {J J' : Jm} {w w' : World} (hI : Inv J w) (h : Ext J w J' w') : J.le J' := by
  intro b
  by_cases hb : b < w.heap.size
  · rw [h.old b hb]; exact List.prefix_refl _
  · rw [hI.nil (by omega)]; exact List.nil_prefix
theorem Ext.of_below {J : Jm} {w w' : World} (hI : Inv J w) (h : Below w.heap.size w w') : Ext J w J w' := ⟨h, hI.below h, fun _ _ => rfl⟩

/-- A slice's n elements of `size` cells each read as the cells cs, for good. -/
def Sl (J : Jm) (size : Nat) (v : Value) (n : Nat) (cs : List Value) : Prop :=
  cs.length = n * size ∧ ∃ A c, v = .slice A n c ∧ n ≤ c ∧ c ≤ maxLen ∧ (A = none → c = 0) ∧
    ∀ a, A = some a → n = 0 ∨ (a.spot = none ∧ ((J a.block).drop a.off).take (n * size) = cs)
theorem Sl.mono {J J' : Jm} {size : Nat} {v : Value} {n : Nat} {cs : List Value} (h : Sl J size v n cs) (hle : J.le J') : Sl J' size v n cs := by
  obtain ⟨hl, A, c, hv, hn, hm, h0, ha⟩ := h
  refine ⟨hl, A, c, hv, hn, hm, h0, fun a e => (ha a e).imp id fun ⟨hs, hcs⟩ => ⟨hs, ?_⟩⟩
  obtain ⟨r, hr⟩ := hle a.block
  rw [← hr]
  by_cases hlt : a.off ≤ (J a.block).length
  · rw [List.drop_append_of_le_length hlt, List.take_append_of_le_length, hcs]
    have : (((J a.block).drop a.off).take (n * size)).length = n * size := by rw [hcs, hl]
    rw [List.length_take] at this; omega
  · have : cs = [] := by rw [← hcs, List.drop_eq_nil_of_le (by omega)]; simp
    subst this
    have : n * size = 0 := by simpa using hl.symm
    simp [this]
theorem Sl.nil (J : Jm) (size : Nat) : Sl J size (.slice none 0 0) 0 [] := ⟨by simp, none, 0, rfl, Nat.le_refl _, by simp, fun _ => rfl, fun _ h => by cases h⟩
theorem Sl.cell {J : Jm} {size : Nat} {A : Option Addr} {c n m : Nat} {cs : List Value} (h : Sl J size (.slice A m c) n cs) {w : World} (hI : Inv J w) {j : Nat} {x : Value} (hx : cs[j]? = some x) :
    ∃ b o, A = some ⟨b, o, none⟩ ∧ w.cell? ⟨b, o + j, none⟩ = some x := by
  obtain ⟨hl, A', c', hv, hn, hm, h0, ha⟩ := h
  cases hv
  have hj : j < cs.length := (List.getElem?_eq_some_iff.1 hx).1
  cases A with
  | none => have := h0 rfl; simp_all
  | some a =>
    rcases ha a rfl with h | ⟨hs, hcs⟩
    · simp_all
    · refine ⟨a.block, a.off, by cases a; simp_all, hI.cell ?_⟩
      rw [← hcs, List.getElem?_take, List.getElem?_drop] at hx
      split at hx
      · exact hx
      · cases hx
theorem Sl.form {J : Jm} {size : Nat} {v : Value} {n : Nat} {cs : List Value} (h : Sl J size v n cs) : ∃ A c, v = .slice A n c ∧ n ≤ c ∧ c ≤ maxLen := by
  obtain ⟨_, A, c, hv, hn, hm, _⟩ := h
  exact ⟨A, c, hv, hn, hm⟩

/-- bytes as cells -/
def bv (x : UInt8) : Value := .int .u8 x.toNat
def bcs (l : List UInt8) : List Value := l.map bv
@[simp] theorem bcs_length (l : List UInt8) : (bcs l).length = l.length := by simp [bcs]
@[simp] theorem bcs_append (l k : List UInt8) : bcs (l ++ k) = bcs l ++ bcs k := by simp [bcs]
@[simp] theorem bcs_nil : bcs [] = [] := rfl
@[simp] theorem bcs_cons (x : UInt8) (l : List UInt8) : bcs (x :: l) = bv x :: bcs l := rfl
theorem bcs_one (l : List UInt8) : ∀ u ∈ bcs l, u.oneCell' = true := by
  intro u hu
  simp only [bcs, List.mem_map] at hu
  obtain ⟨b, _, rfl⟩ := hu
  rfl
theorem bcs_get (l : List UInt8) (j : Nat) : (bcs l)[j]? = l[j]?.map bv := by simp [bcs]
theorem bv_inj {x y : UInt8} (h : bv x = bv y) : x = y := by
  simp [bv] at h; exact UInt8.toNat_inj.1 (by omega)
theorem bcs_inj : ∀ {l k : List UInt8}, bcs l = bcs k → l = k
  | [], [], _ => rfl
  | [], y :: k, h => by simp at h
  | x :: l, [], h => by simp at h
  | x :: l, y :: k, h => by
    simp at h
    rw [bv_inj h.1, bcs_inj h.2]

/-- A slice of bytes reads as l, for good. -/
def Bs (J : Jm) (v : Value) (l : List UInt8) : Prop := Sl J 1 v l.length (bcs l)
theorem Bs.mono {J J' : Jm} {v : Value} {l : List UInt8} (h : Bs J v l) (hle : J.le J') : Bs J' v l := Sl.mono h hle
theorem Bs.form {J : Jm} {v : Value} {l : List UInt8} (h : Bs J v l) : ∃ A c, v = .slice A l.length c ∧ l.length ≤ c ∧ c ≤ maxLen := Sl.form h
theorem Bs.cell {J : Jm} {A : Option Addr} {c m : Nat} {l : List UInt8} (h : Bs J (.slice A m c) l) {w : World} (hI : Inv J w) {j : Nat} (hj : j < l.length) :
    ∃ b o, A = some ⟨b, o, none⟩ ∧ w.cell? ⟨b, o + j, none⟩ = some (.int .u8 (l[j]).toNat) :=
  Sl.cell h hI (by rw [bcs_get, List.getElem?_eq_getElem hj]; rfl)

/-- bytes as a string -/
def strB (l : List UInt8) : ByteArray := ⟨l.toArray⟩
@[simp] theorem strB_data (l : List UInt8) : (strB l).data.toList = l := by simp [strB]
@[simp] theorem strB_size (l : List UInt8) : (strB l).size = l.length := by simp [strB, ByteArray.size]
theorem strB_toList (l : List UInt8) : (strB l).toList = l := by rw [ByteArray.toList_eq, strB_data]
theorem strB_of (s : ByteArray) : strB s.data.toList = s := by simp [strB]
theorem Bs.string {P : Program} {J : Jm} {w : World} (hI : Inv J w) {v : Value} {l : List UInt8} (hb : Bs J v l) (src dst e : TypeId) (hs : P.underlying src = some (.slice e)) (he : P.underlying e = some (.int .u8)) (hd : P.underlying dst = some .string) :
    (convert src dst v).run P w = .ok (.string (strB l)) w := by
  obtain ⟨A, c, rfl, _, _⟩ := hb.form
  cases l with
  | nil =>
    rw [run_convert_bytes_string w src dst e _ _ c hs he hd]
    cases A <;> simp [Conv.bytesToString, loadCells, loadCellsFrom, strB] <;> rfl
  | cons x l =>
    obtain ⟨b, o, rfl, _⟩ := hb.cell hI (j := 0) (by simp)
    have h := run_convert_bytes_arg (P := P) w src e hs he b o (x :: l).length c ((x :: l).map fun y => (y.toNat : Int)) (by simp) (fun i hi => by
      obtain ⟨b', o', hbo, hc⟩ := hb.cell hI hi
      cases hbo
      rw [hc, List.getD_eq_getElem?_getD, List.getElem?_map, List.getElem?_eq_getElem hi]; rfl) dst hd
    rw [h]
    congr 1
    congr 1
    simp only [strOfNums, strB, List.map_map]
    congr 1
    rw [List.map_congr_left (g := id) (fun y _ => by simp)]
    simp
/-- A row that the call owns and may append to: its leading cells are laid down up to its end, no further. -/
def Own (J : Jm) (w : World) (base : Nat) (T : TypeId) (size : Nat) (v : Value) (n : Nat) (cs : List Value) : Prop :=
  w.ownsRow base T size v n cs ∧ ∀ b, v.ownBlock = some b → J b = cs
theorem Own.nil (J : Jm) (w : World) (base : Nat) (T : TypeId) (size : Nat) : Own J w base T size (.slice none 0 0) 0 [] :=
  ⟨World.ownsRow_nil w base T size, fun b h => by simp [Value.ownBlock] at h⟩
theorem Own.made {J : Jm} {w : World} (hI : Inv J w) (base : Nat) (T : TypeId) (size : Nat) (cur : Array Value) (cap : Nat) (hb : base ≤ w.heap.size) (hm : cap ≤ maxLen) (hs : cur.size = cap * size) :
    Own J (w.alloc (.cells cur T)) base T size (.slice (some ⟨w.heap.size, 0, none⟩) 0 cap) 0 [] :=
  ⟨World.ownsRow_made w cur cap hb hm hs, fun b h => by simp [Value.ownBlock] at h; subst h; exact hI.nil (Nat.le_refl _)⟩
theorem Own.sl {J : Jm} {w : World} {base : Nat} {T : TypeId} {size : Nat} {v : Value} {n : Nat} {cs : List Value} (h : Own J w base T size v n cs) : Sl J size v n cs := by
  obtain ⟨⟨hl, h⟩, hJ⟩ := h
  refine ⟨hl, ?_⟩
  rcases h with ⟨rfl, rfl⟩ | ⟨g, cap, cur, rfl, hb, hg, hn, hm, hs, ht⟩
  · exact ⟨none, 0, rfl, Nat.le_refl _, by simp, fun _ => rfl, fun _ e => by cases e⟩
  · refine ⟨_, _, rfl, hn, hm, (fun e => by cases e), fun a e => ?_⟩
    cases e
    right
    refine ⟨rfl, ?_⟩
    rw [hJ g rfl]
    simp [← hl]
theorem Own.lt {J : Jm} {w : World} {base : Nat} {T : TypeId} {size : Nat} {v : Value} {n : Nat} {cs : List Value} (h : Own J w base T size v n cs) : ∀ b, v.ownBlock = some b → base ≤ b ∧ b < w.heap.size := h.1.lt
theorem Own.kept {J J' : Jm} {w w' : World} {base : Nat} {T : TypeId} {size : Nat} {v : Value} {n : Nat} {cs : List Value} (h : Own J w base T size v n cs)
    (hh : ∀ b, v.ownBlock = some b → w'.heap[b]? = w.heap[b]? ∧ J' b = J b) : Own J' w' base T size v n cs := by
  obtain ⟨⟨hl, h⟩, hJ⟩ := h
  refine ⟨⟨hl, ?_⟩, fun b e => (hh b e).2.trans (hJ b e)⟩
  rcases h with h | ⟨g, cap, cur, rfl, hb, hg, rest⟩
  · exact .inl h
  · exact .inr ⟨g, cap, cur, rfl, hb, (hh g rfl).1.trans hg, rest⟩
theorem Own.ext {J J' : Jm} {w w' : World} {base : Nat} {T : TypeId} {size : Nat} {v : Value} {n : Nat} {cs : List Value} (h : Own J w base T size v n cs) (he : Ext J w J' w') : Own J' w' base T size v n cs :=
  h.kept fun b e => ⟨he.below.block b (h.lt b e).2, he.old b (h.lt b e).2⟩
theorem Own.lower {J : Jm} {w : World} {base base' : Nat} {T : TypeId} {size : Nat} {v : Value} {n : Nat} {cs : List Value} (h : Own J w base T size v n cs) (hb : base' ≤ base) : Own J w base' T size v n cs := by
  obtain ⟨⟨hl, h⟩, hJ⟩ := h
  refine ⟨⟨hl, ?_⟩, hJ⟩
  rcases h with h | ⟨g, cap, cur, rfl, hb', rest⟩
  · exact .inl h
  · exact .inr ⟨g, cap, cur, rfl, by omega, rest⟩
theorem Own.drewN {J : Jm} {w : World} {base : Nat} {T : TypeId} {size : Nat} {v : Value} {n : Nat} {cs : List Value} (h : Own J w base T size v n cs) (m : Nat) : Own J (w.drewN m) base T size v n cs := h.kept fun _ _ => ⟨rfl, rfl⟩
theorem Own.alloc {J : Jm} {w : World} {base : Nat} {T : TypeId} {size : Nat} {v : Value} {n : Nat} {cs : List Value} (h : Own J w base T size v n cs) (o : Obj) : Own J (w.alloc o) base T size v n cs :=
  h.kept fun b e => ⟨Below.heap_alloc w o b (h.lt b e).2, rfl⟩


/-- What an append does: the row's block is written behind its end, or there is a new one. -/
structure Grew (J : Jm) (w : World) (v : Value) (J' : Jm) (w' : World) (v' : Value) : Prop where
  grown : w.grownBy w' v.ownBlock
  inv : Inv J' w'
  le : J.le J'
  other : ∀ b, b < w.heap.size → some b ≠ v.ownBlock → J' b = J b
  home : ∀ b, v'.ownBlock = some b → v.ownBlock = some b ∨ w.heap.size ≤ b

theorem append_J_of {J : Jm} {w : World} (hI : Inv J w) {r : Result Value} (base : Nat) (e : TypeId) (zc : Array Value) (size bytes : Nat)
    (hzs : zc.size = size)
    (v : Value) (n : Nat) (xs : List Value) (hown : Own J w base e size v n xs) (m : Nat) (news : List Value) (hl : news.length = m * size)
    (h63 : n + m ≤ maxLen) (hbytes : (n + m) * bytes ≤ 140737488355328) (hbase : base ≤ w.heap.size)
    (hnil0 : v = .slice none 0 0 → m = 0 → r = .ok (.slice none 0 0) w)
    (hnil : v = .slice none 0 0 → 0 < m → r = .ok (.slice (some ⟨w.heap.size, 0, none⟩) m (grownCap w m 0 e)) (w.drew.alloc (.cells (news.toArray ++ Builtin.zeroCells zc (grownCap w m 0 e - m)) e)))
    (hroom : ∀ g cap cur, v = .slice (some ⟨g, 0, none⟩) n cap → w.heap[g]? = some (.cells cur e (0, 0)) → n + m ≤ cap → n * size + news.length ≤ cur.size →
      r = .ok (.slice (some ⟨g, 0, none⟩) (n + m) cap) (w.setRow g (cur.toList.take (n * size) ++ news ++ cur.toList.drop (n * size + news.length)).toArray))
    (hgrow : ∀ g cap, v = .slice (some ⟨g, 0, none⟩) n cap → (∀ j u, xs[j]? = some u → w.cell? ((⟨g, 0, none⟩ : Addr).add j) = some u) → cap < n + m → xs.length = n * size →
      Builtin.nextslicecap (n + m) cap * bytes ≤ 281474976710656 →
      r = .ok (.slice (some ⟨w.heap.size, 0, none⟩) (n + m) (grownCap w (n + m) cap e)) (w.drew.alloc (.cells (xs.toArray ++ news.toArray ++ Builtin.zeroCells zc (grownCap w (n + m) cap e - (n + m))) e))) :
    ∃ v' w' J', r = .ok v' w' ∧ Own J' w' base e size v' (n + m) (xs ++ news) ∧ Grew J w v J' w' v' ∧
      (v' = .slice none 0 0 ↔ v = .slice none 0 0 ∧ m = 0) := by
  obtain ⟨hown, hJ⟩ := hown
  have hsmall : n + m ≤ 9223372036854775807 := by simp only [maxLen] at h63; omega
  have hlen : (xs ++ news).length = (n + m) * size := by rw [List.length_append, hown.1, hl, Nat.add_mul]
  have grown : ∀ (old : Nat), old < n + m → ∀ (v : Value),
      let w' := (w.drew.alloc (.cells (xs.toArray ++ news.toArray ++ Builtin.zeroCells zc (grownCap w (n + m) old e - (n + m))) e))
      let v' := Value.slice (some ⟨w.heap.size, 0, none⟩) (n + m) (grownCap w (n + m) old e)
      Own (J.put w.heap.size (xs ++ news)) w' base e size v' (n + m) (xs ++ news) ∧ Grew J w v (J.put w.heap.size (xs ++ news)) w' v' := by
    intro old ho v w' v'
    have hge := grownCap_ge w (n + m) old e
    have hcm : grownCap w (n + m) old e ≤ maxLen := grownCap_le_maxLen w (n + m) old e h63
    have hnew : w'.heap[w.heap.size]? = some (.cells (xs.toArray ++ news.toArray ++ Builtin.zeroCells zc (grownCap w (n + m) old e - (n + m))) e (0, 0)) := heap_alloc_new w.drew _
    refine ⟨⟨⟨hlen, .inr ⟨w.heap.size, _, _, rfl, hbase, hnew, hge, hcm, ?_, ?_⟩⟩, ?_⟩, ⟨⟨rfl, rfl, rfl, by simp [w'], fun k hk _ => Below.heap_alloc w.drew _ k hk⟩, ?_, ?_, ?_, ?_⟩⟩
    · simp only [Array.size_append, List.size_toArray, size_zeroCells, hzs, hown.1, hl, ← Nat.add_mul]
      congr 1
      omega
    · simp only [Array.toList_append, List.append_assoc]
      rw [← List.append_assoc, ← hlen]
      exact List.take_left
    · intro b hb
      simp [v', Value.ownBlock] at hb
      subst hb
      exact Jm.put_same _ _ _
    · refine Inv.put (hI.drew.alloc _) hnew ?_
      simp only [Array.toList_append, List.append_assoc]
      rw [← List.append_assoc]
      exact List.prefix_append _ _
    · refine Jm.le_put ?_
      rw [hI.nil (Nat.le_refl _)]; exact List.nil_prefix
    · intro b hb _
      exact Jm.put_other _ _ _ (by omega)
    · intro b hb
      simp [v', Value.ownBlock] at hb
      exact .inr (by omega)
  rcases hown.2 with ⟨rfl, rfl⟩ | ⟨g, cap, cur, rfl, hbg, hg, hnc, hcm, hcs, htake⟩
  · have hx : xs = [] := List.eq_nil_of_length_eq_zero (by simpa using hown.1)
    subst hx
    by_cases hm : m = 0
    · subst hm
      have hn : news = [] := List.eq_nil_of_length_eq_zero (by simpa using hl)
      subst hn
      exact ⟨.slice none 0 0, w, J, hnil0 rfl rfl, Own.nil J w base e size, ⟨⟨rfl, rfl, rfl, Nat.le_refl _, fun _ _ _ => rfl⟩, hI, Jm.le_refl _, fun _ _ _ => rfl, fun _ h => by simp [Value.ownBlock] at h⟩, by simp⟩
    · have hr := hnil rfl (by omega)
      have hgr := grown 0 (by omega) (.slice none 0 0)
      simp only [Nat.zero_add, List.nil_append, Array.empty_append] at hgr ⊢
      exact ⟨_, _, _, hr, hgr.1, hgr.2, by simp [hm]⟩
  · have hJg : J g = xs := hJ g rfl
    by_cases hroom' : n + m ≤ cap
    · have hfit : n * size + news.length ≤ cur.size := by rw [hl, hcs, ← Nat.add_mul]; exact Nat.mul_le_mul_right _ hroom'
      have hr := hroom g cap cur rfl hg hroom' hfit
      have hrow := setRow_heap w g cur (cur.toList.take (n * size) ++ news ++ cur.toList.drop (n * size + news.length)).toArray e (0, 0) hg
      have hpre : xs ++ news <+: (cur.toList.take (n * size) ++ news ++ cur.toList.drop (n * size + news.length)) := by
        rw [htake]; exact List.prefix_append _ _
      refine ⟨_, _, J.put g (xs ++ news), hr, ⟨⟨hlen, .inr ⟨g, cap, _, rfl, hbg, hrow, hroom', hcm, ?_, ?_⟩⟩, ?_⟩, ⟨⟨rfl, rfl, rfl, by simp, fun k _ hk => setRow_other w g k _ (fun e => hk (by simp [Value.ownBlock, e]))⟩, ?_, ?_, ?_, ?_⟩, by simp⟩
      · simp only [List.size_toArray, List.length_append, List.length_take, List.length_drop, Array.length_toList]
        omega
      · rw [htake, ← hlen]
        exact List.take_left
      · intro b hb
        simp [Value.ownBlock] at hb
        subst hb
        exact Jm.put_same _ _ _
      · refine ⟨fun b hb => ?_⟩
        by_cases e : b = g
        · subst e; rw [Jm.put_same] at *; exact ⟨_, _, _, hrow, by simpa using hpre⟩
        · rw [Jm.put_other _ _ _ e] at *
          obtain ⟨c', T, fz, hc, hp⟩ := hI.cells b hb
          exact ⟨c', T, fz, (setRow_other w g b _ e).trans hc, hp⟩
      · refine Jm.le_put ?_
        rw [hJg]; exact List.prefix_append _ _
      · intro b _ hb
        exact Jm.put_other _ _ _ (fun e => hb (by simp [Value.ownBlock, e]))
      · intro b hb
        simp [Value.ownBlock] at hb
        subst hb
        exact .inl rfl
    · have holds : ∀ j u, xs[j]? = some u → w.cell? ((⟨g, 0, none⟩ : Addr).add j) = some u := hown.cells (g := g) rfl
      have hr := hgrow g cap rfl holds (by omega) hown.1 (growslice_fits (by omega) hbytes)
      have hgr := grown cap (by omega) (.slice (some ⟨g, 0, none⟩) n cap)
      exact ⟨_, _, _, hr, hgr.1, hgr.2, by simp⟩

/-- append(v, x...), x a slice whose cells are there (or none). -/
theorem run_append_J {P : Program} {J : Jm} {w : World} (hI : Inv J w) (base : Nat) (t ty e : TypeId) (i : TypeInfo) (z : Value) (size bytes : Nat) (ht : P.underlying t = some (.slice e)) (hi : P.info? e = some i) (hz : i.zero = some z)
    (hsize : i.size = size) (hby : i.bytes = bytes) (hzs : z.cells.size = size)
    (v : Value) (n : Nat) (xs : List Value) (hown : Own J w base e size v n xs)
    (A : Option Addr) (m c : Nat) (news : List Value) (hA : A = none → m = 0) (hl : news.length = m * size) (hnews : ∀ a, A = some a → ∀ j u, news[j]? = some u → w.cell? (a.add j) = some u) (h1 : ∀ u ∈ news, u.oneCell' = true)
    (h63 : n + m ≤ maxLen) (hbytes : (n + m) * bytes ≤ 140737488355328) (hbase : base ≤ w.heap.size) :
    ∃ v' w' J', (Builtin.append_ #[t, t] ty #[v, .slice A m c]).run P w = .ok v' w' ∧ Own J' w' base e size v' (n + m) (xs ++ news) ∧ Grew J w v J' w' v' ∧
      (v' = .slice none 0 0 ↔ v = .slice none 0 0 ∧ m = 0) := by
  subst hsize
  subst hby
  have hsmall : n + m ≤ 9223372036854775807 := by simp only [maxLen] at h63; omega
  refine append_J_of hI base e z.cells i.size i.bytes hzs v n xs hown m news hl h63 hbytes hbase ?_ ?_ ?_ ?_
  · rintro rfl rfl
    have hn : news = [] := List.eq_nil_of_length_eq_zero (by simpa using hl)
    subst hn
    cases A <;> simp [Builtin.append_, run_underlying ht, sizeOf, typeInfo, hi, Builtin.lenOf, Builtin.firstCells, loadCells, loadCellsFrom]
  · rintro rfl hm
    cases A with
    | none => have := hA rfl; omega
    | some a =>
      have hn0 : n = 0 := by
        rcases hown.1.2 with ⟨_, h⟩ | ⟨g, cap, cur, h, _⟩
        · exact h
        · cases h
      subst hn0
      exact run_append_nil (P := P) w t ty e i z ht hi hz a m c news hl (hnews a rfl) hm (by omega) (by simp only [Nat.zero_add] at hbytes; omega)
  · rintro g cap cur rfl hg hroom hfit
    cases A with
    | none =>
      have hm := hA rfl
      subst hm
      have hn : news = [] := List.eq_nil_of_length_eq_zero (by simpa using hl)
      subst hn
      have hcap : n ≤ cap := by simpa using hroom
      have hst := run_storeCells_at P g (n * i.size) e [] 0 cur w hg (by simpa using hfit) (by simp)
      simp only [Nat.add_zero, List.length_nil] at hst
      simp [Builtin.append_, run_underlying ht, sizeOf, typeInfo, hi, Builtin.lenOf, Builtin.firstCells, hcap, Addr.add_lit] at hst ⊢
      rw [hst]; rfl
    | some a => exact run_append_room (P := P) w t ty e i ht hi g n cap cur hg a m c news hl (hnews a rfl) h1 hroom hfit
  · rintro g cap rfl holds hlt hxl hfit
    cases A with
    | none =>
      have hm := hA rfl
      subst hm
      exfalso
      rcases hown.1.2 with ⟨h, _⟩ | ⟨g', cap', cur, h, _, _, hnc, _⟩
      · cases h
      · cases h; omega
    | some a => exact run_append_grow (P := P) w t ty e i z ht hi hz ⟨g, 0, none⟩ n cap xs hxl holds a m c news hl (hnews a rfl) hlt (by omega) hfit

/-- append(v, s...), s a string. -/
theorem run_append_str_J {P : Program} {J : Jm} {w : World} (hI : Inv J w) (base : Nat) (t u ty e : TypeId) (i : TypeInfo) (ht : P.underlying t = some (.slice e)) (hu : P.underlying u = some .string) (hi : P.info? e = some i) (hz : i.zero = some (.int .u8 0))
    (hsize : i.size = 1) (hby : i.bytes = 1)
    (v : Value) (n : Nat) (xs : List Value) (hown : Own J w base e 1 v n xs) (s : ByteArray)
    (h63 : n + s.size ≤ 140737488355328) (hbase : base ≤ w.heap.size) :
    ∃ v' w' J', (Builtin.append_ #[t, u] ty #[v, .string s]).run P w = .ok v' w' ∧ Own J' w' base e 1 v' (n + s.size) (xs ++ bcs s.data.toList) ∧ Grew J w v J' w' v' ∧
      (v' = .slice none 0 0 ↔ v = .slice none 0 0 ∧ s.size = 0) := by
  have hb : bcs s.data.toList = Lib.strCells s := rfl
  rw [hb]
  refine append_J_of hI base e #[.int .u8 0] 1 1 rfl v n xs hown s.size (Lib.strCells s) (by rw [Lib.strCells_length, Nat.mul_one]) (by simp only [maxLen]; omega) (by omega) hbase ?_ ?_ ?_ ?_
  · rintro rfl h0
    have hs : s.size = 0 := h0
    simp [Builtin.append_, run_underlying ht, run_underlying hu, sizeOf, typeInfo, hi, Builtin.lenOf, hs, Builtin.firstCells]
  · rintro rfl hm
    rw [run_append_nil_string (P := P) w t u ty e i (.int .u8 0) ht hu hi hz s hm (by omega) (by rw [hby]; omega)]
    congr 2
    congr 2
    simp [Lib.strCells]
    apply Array.ext'
    simp
  · rintro g cap cur rfl hg hroom hfit
    have := Lib.run_append_room_string (P := P) w t u ty e i ht hu hi hsize g n cap cur hg s hroom (by simpa [Lib.strCells_length] using hfit)
    simpa [Lib.strCells_length] using this
  · rintro g cap rfl holds hlt hxl hfit
    have := Lib.run_append_grow_string (P := P) w t u ty e i (.int .u8 0) ht hu hi hz ⟨g, 0, none⟩ n cap xs (by rw [hsize]; exact hxl) holds s hlt (by omega) (by rw [hby]; exact hfit)
    exact this

theorem Ext.grew {J J1 J2 : Jm} {w w1 w2 : World} (h : Ext J w J1 w1) {T : TypeId} {size : Nat} {v v' : Value} {n : Nat} {xs : List Value} (ho : Own J1 w1 w.heap.size T size v n xs) (g : Grew J1 w1 v J2 w2 v') : Ext J w J2 w2 :=
  ⟨h.below.grown g.grown h.below.size (fun k hk => (ho.lt k hk).1), g.inv,
    fun b hb => (g.other b (Nat.lt_of_lt_of_le hb h.below.size) (fun e => by have := (ho.lt b e.symm).1; omega)).trans (h.old b hb)⟩
theorem Ext.alloc {J J1 : Jm} {w w1 : World} (h : Ext J w J1 w1) (o : Obj) : Ext J w J1 (w1.alloc o) := ⟨h.below.alloc h.below.size o, h.inv.alloc o, h.old⟩
theorem Ext.drew {J J1 : Jm} {w w1 : World} (h : Ext J w J1 w1) : Ext J w J1 w1.drew := ⟨h.below.drew, h.inv.drew, h.old⟩
theorem Ext.drewN {J J1 : Jm} {w w1 : World} (h : Ext J w J1 w1) (n : Nat) : Ext J w J1 (w1.drewN n) := ⟨⟨h.below.os, h.below.tape, h.below.output, h.below.size, h.below.block⟩, h.inv.drewN n, h.old⟩
theorem Ext.setCell {J J1 : Jm} {w w1 : World} (h : Ext J w J1 w1) {p : Addr} (hp : w.heap.size ≤ p.block) (hJ : J1 p.block = []) (u : Value) : Ext J w J1 (w1.setCell p u) := ⟨h.below.setCell hp u, h.inv.setCell hJ u, h.old⟩
/-- a block of the call's own is laid down -/
theorem Ext.put {J J1 : Jm} {w w1 : World} (h : Ext J w J1 w1) {b : Nat} {c : Array Value} {T : TypeId} {fz : Nat × Nat} {cs : List Value} (hw : w.heap.size ≤ b)
    (hb : w1.heap[b]? = some (.cells c T fz)) (hp : cs <+: c.toList) : Ext J w (J1.put b cs) w1 :=
  ⟨h.below, h.inv.put hb hp, fun k hk => (Jm.put_other _ _ _ (by omega)).trans (h.old k hk)⟩
/-- another row, not the one that grew -/
theorem Own.grew_other {J J' : Jm} {w w' : World} {base base' : Nat} {T T' : TypeId} {size size' : Nat} {v u u' : Value} {n n' : Nat} {cs cs' : List Value} (h : Own J w base T size v n cs) (hu : Own J w base' T' size' u n' cs')
    (g : Grew J w u J' w' u') (hne : T ≠ T') : Own J' w' base T size v n cs := by
  have key : ∀ b, v.ownBlock = some b → some b ≠ u.ownBlock := by
    intro b hb e
    have h1 := h.1.2; have h2 := hu.1.2
    rcases h1 with ⟨rfl, _⟩ | ⟨g1, cap1, cur1, rfl, _, hg1, _⟩
    · simp [Value.ownBlock] at hb
    · rcases h2 with ⟨rfl, _⟩ | ⟨g2, cap2, cur2, rfl, _, hg2, _⟩
      · simp [Value.ownBlock] at e
      · simp [Value.ownBlock] at hb e
        subst hb; subst e
        rw [hg1] at hg2
        injection hg2 with hg2
        injection hg2 with _ ht
        exact hne ht
  exact h.kept fun b e => ⟨g.grown.block b (h.lt b e).2 (key b e), g.other b (h.lt b e).2 (key b e)⟩

section
variable {P : Program} {ops : Array Oper} {rest : List Oper} {o : Oper} {a : Act} {Q : Exit → Act → World → Prop} {w : World}
theorem wpList_run {v : Value} {w' : World} (hgd : o.guard = none) (hrun : (execOp a.eval o).run P w = .ok (.value v) w') (h : wpList P ops Q rest (a.put o.dst v) w') : wpList P ops Q (o :: rest) a w :=
  wpList_plain hgd fun K hK => by unfold Oper.wp; rw [hrun]; exact hK _ _ h
/-- append(s, x...) onto a row of the call's own; x reads out of memory, once for all. -/
theorem wpList_append_J (hgd : o.guard = none) {J : Jm} {s x : Operand} {t e : TypeId} (z : Value) (size bytes : Nat)
    (ho : o.op = .call { callee := .builtin .append, args := #[s, x], argTypes := #[t, t] })
    (ht : P.underlying t = some (.slice e)) (hinfo : (P.info? e).map (fun i => (i.zero, i.size, i.bytes)) = some (some z, size, bytes)) (hzs : z.cells.size = size)
    {v : Value} {n : Nat} {xs : List Value} {base : Nat} (hs : a.eval s = v) (hI : Inv J w) (hown : Own J w base e size v n xs)
    {A : Option Addr} {m c : Nat} {news : List Value} (hx : a.eval x = .slice A m c) (hsl : Sl J size (.slice A m c) m news) (h1 : ∀ u ∈ news, u.oneCell' = true)
    (h63 : n + m ≤ maxLen) (hbytes : (n + m) * bytes ≤ 140737488355328) (hbase : base ≤ w.heap.size)
    (h : ∀ v' w' J', Own J' w' base e size v' (n + m) (xs ++ news) → Grew J w v J' w' v' → (v' = .slice none 0 0 ↔ v = .slice none 0 0 ∧ m = 0) → wpList P ops Q rest (a.put o.dst v') w') : wpList P ops Q (o :: rest) a w := by
  obtain ⟨i, hi, hz, hsz, hby⟩ : ∃ i, P.info? e = some i ∧ i.zero = some z ∧ i.size = size ∧ i.bytes = bytes := by
    cases hh : P.info? e with
    | none => simp [hh] at hinfo
    | some i => simp [hh] at hinfo; exact ⟨i, rfl, hinfo⟩
  obtain ⟨hl, A', c', hv, _, _, h0, ha⟩ := id hsl
  cases hv
  obtain ⟨v', w', J', hr, h2, h3, h4⟩ := run_append_J (P := P) hI base t o.type e i z size bytes ht hi hz hsz hby hzs v n xs hown A m c news (fun e => by rename_i hn _ ; have := h0 e; omega) hl
    (fun ad e j u hu => by
      subst e
      obtain ⟨b, of, hb, hc⟩ := hsl.cell hI hu
      cases hb
      have : (⟨b, of, none⟩ : Addr).add j = ⟨b, of + j, none⟩ := by unfold Addr.add; split <;> simp_all
      rw [this]; exact hc) h1 h63 hbytes hbase
  refine wpList_run hgd (v := v') (w' := w') ?_ (h v' w' J' h2 h3 h4)
  unfold execOp
  simp only [ho, resolve, invoke, builtin, Sem.run_bind, Sem.run_pure, Result.andThen_ok, List.map_toArray, List.map_cons, List.map_nil, hs, hx, hr]
/-- append(s, x..) of elements that stand in a block of their own just made. -/
theorem wpList_append_lit (hgd : o.guard = none) {J : Jm} {s x : Operand} {t e : TypeId} (z : Value) (size bytes : Nat)
    (ho : o.op = .call { callee := .builtin .append, args := #[s, x], argTypes := #[t, t] })
    (ht : P.underlying t = some (.slice e)) (hinfo : (P.info? e).map (fun i => (i.zero, i.size, i.bytes)) = some (some z, size, bytes)) (hzs : z.cells.size = size)
    {v : Value} {n : Nat} {xs : List Value} {base : Nat} (hs : a.eval s = v) (hI : Inv J w) (hown : Own J w base e size v n xs)
    {b m c : Nat} {news : List Value} {T' : TypeId} {fz : Nat × Nat} (hx : a.eval x = .slice (some ⟨b, 0, none⟩) m c) (hb : w.heap[b]? = some (.cells news.toArray T' fz)) (hl : news.length = m * size) (h1 : ∀ u ∈ news, u.oneCell' = true)
    (h63 : n + m ≤ maxLen) (hbytes : (n + m) * bytes ≤ 140737488355328) (hbase : base ≤ w.heap.size)
    (h : ∀ v' w' J', Own J' w' base e size v' (n + m) (xs ++ news) → Grew J w v J' w' v' → (v' = .slice none 0 0 ↔ v = .slice none 0 0 ∧ m = 0) → wpList P ops Q rest (a.put o.dst v') w') : wpList P ops Q (o :: rest) a w := by
  obtain ⟨i, hi, hz, hsz, hby⟩ : ∃ i, P.info? e = some i ∧ i.zero = some z ∧ i.size = size ∧ i.bytes = bytes := by
    cases hh : P.info? e with
    | none => simp [hh] at hinfo
    | some i => simp [hh] at hinfo; exact ⟨i, rfl, hinfo⟩
  obtain ⟨v', w', J', hr, h2, h3, h4⟩ := run_append_J (P := P) hI base t o.type e i z size bytes ht hi hz hsz hby hzs v n xs hown (some ⟨b, 0, none⟩) m c news (fun e => by cases e) hl
    (fun ad e j u hu => by
      cases e
      have : (⟨b, 0, none⟩ : Addr).add j = ⟨b, j, none⟩ := by unfold Addr.add; split <;> simp_all
      rw [this, cell_of_row w b j _ _ _ hb]; simpa using hu) h1 h63 hbytes hbase
  refine wpList_run hgd (v := v') (w' := w') ?_ (h v' w' J' h2 h3 h4)
  unfold execOp
  simp only [ho, resolve, invoke, builtin, Sem.run_bind, Sem.run_pure, Result.andThen_ok, List.map_toArray, List.map_cons, List.map_nil, hs, hx, hr]
/-- append(s, x...), x a string. -/
theorem wpList_append_str (hgd : o.guard = none) {J : Jm} {s x : Operand} {t u e : TypeId}
    (ho : o.op = .call { callee := .builtin .append, args := #[s, x], argTypes := #[t, u] })
    (ht : P.underlying t = some (.slice e)) (hu : P.underlying u = some .string) (hinfo : (P.info? e).map (fun i => (i.zero, i.size, i.bytes)) = some (some (.int .u8 0), 1, 1))
    {v : Value} {n : Nat} {xs : List Value} {base : Nat} (hs : a.eval s = v) (hI : Inv J w) (hown : Own J w base e 1 v n xs)
    {str : ByteArray} (hx : a.eval x = .string str)
    (h63 : n + str.size ≤ 140737488355328) (hbase : base ≤ w.heap.size)
    (h : ∀ v' w' J', Own J' w' base e 1 v' (n + str.size) (xs ++ bcs str.data.toList) → Grew J w v J' w' v' → (v' = .slice none 0 0 ↔ v = .slice none 0 0 ∧ str.size = 0) → wpList P ops Q rest (a.put o.dst v') w') : wpList P ops Q (o :: rest) a w := by
  obtain ⟨i, hi, hz, hsz, hby⟩ : ∃ i, P.info? e = some i ∧ i.zero = some (.int .u8 0) ∧ i.size = 1 ∧ i.bytes = 1 := by
    cases hh : P.info? e with
    | none => simp [hh] at hinfo
    | some i => simp [hh] at hinfo; exact ⟨i, rfl, hinfo⟩
  obtain ⟨v', w', J', hr, h2, h3, h4⟩ := run_append_str_J (P := P) hI base t u o.type e i ht hu hi hz hsz hby v n xs hown str h63 hbase
  refine wpList_run hgd (v := v') (w' := w') ?_ (h v' w' J' h2 h3 h4)
  unfold execOp
  simp only [ho, resolve, invoke, builtin, Sem.run_bind, Sem.run_pure, Result.andThen_ok, List.map_toArray, List.map_cons, List.map_nil, hs, hx, hr]
end

theorem info_parts_J {P : Program} {e : TypeId} {z : Value} {size bytes : Nat} (hinfo : (P.info? e).map (fun i => (i.zero, i.size, i.bytes)) = some (some z, size, bytes)) :
    ∃ i, P.info? e = some i ∧ i.zero = some z ∧ i.size = size ∧ i.bytes = bytes := by
  cases hh : P.info? e with
  | none => simp [hh] at hinfo
  | some i => simp [hh] at hinfo; exact ⟨i, rfl, hinfo⟩
/-- make([]T, n): a block of zeros. -/
theorem run_make_J {P : Program} {t e : TypeId} {z : Value} {size bytes : Nat} (ht : P.underlying t = some (.slice e)) (hinfo : (P.info? e).map (fun i => (i.zero, i.size, i.bytes)) = some (some z, size, bytes))
    (x : Int) (n : Nat) (hx : x = n) (hb : bytes * n ≤ 281474976710656) (h63 : n ≤ 9223372036854775807) (W : World) :
    (Instr.makeSlice t (.int .i64 x) (.int .i64 x)).run P W = .ok (.slice (some ⟨W.heap.size, 0, none⟩) n n) (W.alloc (.cells (madeCells z.cells (n * size)) e)) := by
  obtain ⟨i, hi, hz, hs, hby⟩ := info_parts_J hinfo
  subst hx
  have := run_make (P := P) W t e i z ht hi hz .i64 .i64 n n (by omega) (Int.le_refl _) (by rw [hby, ← Int.natCast_mul]; omega) (by omega)
  rw [this, hs]; simp
theorem madeCells_u8 (n : Nat) : madeCells (Value.int .u8 0).cells n = (bcs (List.replicate n 0)).toArray := by
  apply Array.ext_getElem?
  intro i
  simp [madeCells, bcs, Value.cells]
  by_cases h : i < n
  · simp [h, bv, Nat.mod_one]
  · simp [h]
section
variable {P : Program} {ops : Array Oper} {rest : List Oper} {o : Oper} {a : Act} {Q : Exit → Act → World → Prop} {w : World}
/-- copy(d, s): d stands in a block of the call's own, s reads out of memory; elements of one cell. -/
theorem wpList_copy_J (hgd : o.guard = none) {J : Jm} {d s : Operand} {dT sT e : TypeId} (ho : o.op = .call { callee := .builtin .copy, args := #[d, s], argTypes := #[dT, sT] })
    (ht : P.underlying dT = some (.slice e)) (hinfo : (P.info? e).map (·.size) = some 1)
    {g off dn dc : Nat} {cur : Array Value} {T : TypeId} (hd : a.eval d = .slice (some ⟨g, off, none⟩) dn dc) (hg : w.heap[g]? = some (.cells cur T (0, 0))) (hfit : off + dn ≤ cur.size)
    {A : Option Addr} {m c : Nat} {news : List Value} (hs : a.eval s = .slice A m c) (hI : Inv J w) (hsl : Sl J 1 (.slice A m c) m news) (h1 : ∀ u ∈ news, u.oneCell' = true)
    (h : wpList P ops Q rest (a.put o.dst (.int .i64 (min m dn : Nat))) (w.setRow g (cur.toList.take off ++ news.take (min m dn) ++ cur.toList.drop (off + min m dn)).toArray)) : wpList P ops Q (o :: rest) a w := by
  obtain ⟨i, hi, hsz⟩ : ∃ i, P.info? e = some i ∧ i.size = 1 := by
    cases hh : P.info? e with
    | none => simp [hh] at hinfo
    | some i => simp [hh] at hinfo; exact ⟨i, rfl, hinfo⟩
  have hl : news.length = m := by simpa using hsl.1
  have hlk : (news.take (min m dn)).length = min m dn := by rw [List.length_take, hl]; omega
  have hfc : (Builtin.firstCells 1 (min m dn) (.slice A m c)).run P w = .ok (news.take (min m dn)).toArray w := by
    cases A with
    | none =>
      obtain ⟨_, A, c', hv, hn, _, h0, _⟩ := hsl
      cases hv
      have hc := h0 rfl
      have : m = 0 := by omega
      subst this
      simp [Builtin.firstCells]
    | some ad =>
      refine run_firstCells_some (P := P) w 1 (min m dn) ad m c (news.take (min m dn)) (by rw [hlk, Nat.mul_one]) fun j v hv => ?_
      have hv' : news[j]? = some v := by
        rw [List.getElem?_take] at hv
        split at hv
        · exact hv
        · cases hv
      obtain ⟨b, of, hb, hc⟩ := hsl.cell hI hv'
      cases hb
      have : (⟨b, of, none⟩ : Addr).add j = ⟨b, of + j, none⟩ := by unfold Addr.add; split <;> simp_all
      rw [this]; exact hc
  have hst := run_storeCells_at P g off T (news.take (min m dn)) 0 cur w hg (by rw [hlk]; omega) (fun v hv => h1 v (List.mem_of_mem_take hv))
  simp only [Nat.add_zero, hlk] at hst
  refine wpList_run hgd (v := .int .i64 (min m dn : Nat)) ?_ h
  unfold execOp
  simp only [ho, resolve, invoke, builtin, Sem.run_bind, Sem.run_pure, Result.andThen_ok, List.map_toArray, List.map_cons, List.map_nil, hs, hd]
  simp [Builtin.copy_, run_underlying ht, sizeOf, typeInfo, hi, hsz, Builtin.lenOf]
  have hfc' : (Builtin.firstCells 1 (Nat.min m dn) (.slice A m c)).run P w = .ok (news.take (min m dn)).toArray w := hfc
  simp only [hfc', Result.andThen_ok]
  simp [hst, goInt]
end

theorem blk_cell_J {w : World} {g : Nat} {cs : List Value} {T : TypeId} (hg : w.heap[g]? = some (.cells cs.toArray T (0, 0))) (i : Nat) {v : Value} (hi : cs[i]? = some v) : w.cell? ⟨g, i, none⟩ = some v := by
  rw [cell_of_row w g i _ _ _ hg]; simpa using hi
theorem blk_set_J {w : World} {g : Nat} {cs : List Value} {T : TypeId} (hg : w.heap[g]? = some (.cells cs.toArray T (0, 0))) (i : Nat) (v : Value) : (w.setCell ⟨g, i, none⟩ v).heap[g]? = some (.cells (cs.set i v).toArray T (0, 0)) := by
  rw [heap_setCell_same w g i _ T v hg]; simp
theorem bcs_set (l : List UInt8) (i : Nat) (x : UInt8) : (bcs l).set i (bv x) = bcs (l.set i x) := by simp [bcs, List.map_set]

/-- a block of bytes of the call's own, laid down -/
theorem Bs.of_block (J : Jm) {g : Nat} {l : List UInt8} {n : Nat} (hn : l.length = n) (hm : n ≤ maxLen) : Bs (J.put g (bcs l)) (.slice (some ⟨g, 0, none⟩) n n) l := by
  subst hn
  refine ⟨by simp, _, _, rfl, Nat.le_refl _, hm, (fun e => by cases e), fun a e => ?_⟩
  cases e
  refine .inr ⟨rfl, ?_⟩
  rw [Jm.put_same]; simp [bcs, List.take_of_length_le]
/-- What stands of a slice of bytes up to a place. -/
theorem Bs.take {J : Jm} {A : Option Addr} {c m : Nat} {l : List UInt8} (h : Bs J (.slice A m c) l) (k : Nat) (hk : k ≤ l.length) : Bs J (.slice A k c) (l.take k) := by
  obtain ⟨hl, A', c', hv, hn, hm, h0, ha⟩ := h
  cases hv
  have hlk : (l.take k).length = k := by simp [hk]
  refine ⟨by simp, A, c, by rw [hlk], by omega, hm, h0, fun a e => ?_⟩
  rcases ha a e with h | ⟨hs, hcs⟩
  · exact .inl (by omega)
  · refine .inr ⟨hs, ?_⟩
    rw [hlk, bcs, List.map_take, ← bcs, ← hcs, List.take_take]
    congr 1; omega

/-- a literal of bytes: a block of the call's own, laid down at once -/
theorem Ext.lit {J J1 : Jm} {w w1 : World} (h : Ext J w J1 w1) (T : TypeId) (l : List UInt8) : Ext J w (J1.put w1.heap.size (bcs l)) (w1.alloc (.cells (bcs l).toArray T)) :=
  (h.alloc _).put h.below.size (heap_alloc_new _ _) (by simp)
theorem Ext.litF {J J1 : Jm} {w w1 : World} (h : Ext J w J1 w1) (T : TypeId) (l : List UInt8) (fz : Nat × Nat) : Ext J w (J1.put w1.heap.size (bcs l)) (w1.alloc (.cells (bcs l).toArray T fz)) :=
  (h.alloc _).put h.below.size (heap_alloc_new _ _) (by simp)
theorem Ext.bs {J J1 : Jm} {w w1 : World} (h : Ext J w J1 w1) (hI : Inv J w) {v : Value} {l : List UInt8} (hb : Bs J v l) : Bs J1 v l := hb.mono (h.le hI)
theorem Own.bs {J : Jm} {w : World} {base : Nat} {T : TypeId} {v : Value} {n : Nat} {l : List UInt8} (h : Own J w base T 1 v n (bcs l)) : Bs J v l := by
  have hs := h.sl
  have : n = l.length := by have := hs.1; simpa using this.symm
  subst this
  exact hs

theorem Ext.step {J J1 : Jm} {w w1 w2 : World} (h : Ext J w J1 w1) (hb : Below w1.heap.size w1 w2) : Ext J w J1 w2 := h.trans (Ext.of_below h.inv hb)
/-- a literal of values: a block of the call's own, laid down at once -/
theorem Ext.litV {J J1 : Jm} {w w1 : World} (h : Ext J w J1 w1) (T : TypeId) (cs : List Value) : Ext J w (J1.put w1.heap.size cs) (w1.alloc (.cells cs.toArray T)) :=
  (h.alloc _).put h.below.size (heap_alloc_new _ _) (by simp)
theorem Jm.le_new {J : Jm} {w : World} (hI : Inv J w) (cs : List Value) : J.le (J.put w.heap.size cs) := Jm.le_put (by rw [hI.nil (Nat.le_refl _)]; exact List.nil_prefix)
theorem Sl.of_block (J : Jm) {g : Nat} {cs : List Value} {n size : Nat} (hn : cs.length = n * size) (hm : n ≤ maxLen) : Sl (J.put g cs) size (.slice (some ⟨g, 0, none⟩) n n) n cs := by
  refine ⟨hn, _, _, rfl, Nat.le_refl _, hm, (fun e => by cases e), fun a e => ?_⟩
  cases e
  refine .inr ⟨rfl, ?_⟩
  rw [Jm.put_same]; simp [← hn]
theorem Bs.nil (J : Jm) : Bs J (.slice none 0 0) [] := Sl.nil J 1

theorem zeroCells_one (z : Value) (n : Nat) : (Builtin.zeroCells #[z] n).toList = List.replicate n z := by
  apply List.ext_getElem?
  intro i
  simp [Builtin.zeroCells, List.getElem?_replicate, List.getElem?_map]
  by_cases h : i < n
  · simp [h, Nat.mod_one]
  · simp [h]
/-- clear(v), v a row of the call's own of elements of one cell: zeros stand in it. -/
theorem run_clear_J {P : Program} {J : Jm} {w : World} (hI : Inv J w) {t ty T : TypeId} {z : Value} {bytes base : Nat} (ht : P.underlying t = some (.slice T)) (hinfo : (P.info? T).map (fun i => (i.zero, i.size, i.bytes)) = some (some z, 1, bytes)) (hz : z.cells = #[z]) (h1 : z.oneCell' = true)
    {v : Value} {n : Nat} {cs : List Value} (hown : Own J w base T 1 v n cs) :
    ∃ w' J', (Builtin.clear_ #[t] ty #[v]).run P w = .ok (.tuple #[]) w' ∧ Own J' w' base T 1 v n (List.replicate n z) ∧ Inv J' w' ∧ w.grownBy w' v.ownBlock ∧ w'.heap.size = w.heap.size ∧ ∀ b, some b ≠ v.ownBlock → J' b = J b := by
  obtain ⟨i, hi, hiz, hs, hby⟩ := info_parts_J hinfo
  obtain ⟨⟨hl, hv⟩, hJ⟩ := hown
  rcases hv with ⟨rfl, rfl⟩ | ⟨g, cap, cur, rfl, hb, hg, hn, hm, hsz, htk⟩
  · refine ⟨w, J, ?_, ?_, hI, World.grownBy.mk rfl rfl rfl (Nat.le_refl _) (fun _ _ _ => rfl), rfl, fun _ _ => rfl⟩
    · simp [Builtin.clear_, run_underlying ht]
    · simpa using Own.nil J w base T 1
  · by_cases h0 : n = 0
    · subst h0
      have : cs = [] := List.eq_nil_of_length_eq_zero (by simpa using hl)
      subst this
      refine ⟨w, J, ?_, ?_, hI, World.grownBy.mk rfl rfl rfl (Nat.le_refl _) (fun _ _ _ => rfl), rfl, fun _ _ => rfl⟩
      · simp [Builtin.clear_, run_underlying ht]
      · exact ⟨⟨by simp, .inr ⟨g, cap, cur, rfl, hb, hg, hn, hm, hsz, by simp⟩⟩, hJ⟩
    · have hfit : 0 + 0 + (List.replicate n z).length ≤ cur.size := by simp; omega
      have hst := run_storeCells_at P g 0 T (List.replicate n z) 0 cur w hg hfit (fun u hu => by rw [List.eq_of_mem_replicate hu]; exact h1)
      have hrow := setRow_heap w g cur (cur.toList.take (0 + 0) ++ List.replicate n z ++ cur.toList.drop (0 + 0 + (List.replicate n z).length)).toArray T (0, 0) hg
      refine ⟨_, J.put g (List.replicate n z), ?_, ⟨⟨by simp, .inr ⟨g, cap, _, rfl, hb, hrow, hn, hm, ?_, ?_⟩⟩, ?_⟩, ?_, World.grownBy.mk rfl rfl rfl (by simp) (fun k _ hk => setRow_other w g k _ (fun e => hk (by simp [Value.ownBlock, e]))), by simp, ?_⟩
      · obtain ⟨m, rfl⟩ : ∃ m, n = m + 1 := ⟨n - 1, by omega⟩
        have hv : ∀ w, (zeroValue T).run P w = .ok z w := fun w => by simp [zeroValue, typeInfo, hi, hiz]
        have hzc : (Builtin.zeroCells z.cells (m + 1)).toList = List.replicate (m + 1) z := by rw [hz]; exact zeroCells_one z _
        simp [Builtin.clear_, run_underlying ht, hv, hzc]
        rw [hst]
        simp
      · simp; omega
      · simp
      · intro b hb'
        simp [Value.ownBlock] at hb'
        subst hb'
        exact Jm.put_same _ _ _
      · refine ⟨fun b hb' => ?_⟩
        by_cases e : b = g
        · subst e; rw [Jm.put_same] at *; exact ⟨_, _, _, hrow, by simp⟩
        · rw [Jm.put_other _ _ _ e] at *
          obtain ⟨c', T', fz, hc, hp⟩ := hI.cells b hb'
          exact ⟨c', T', fz, (setRow_other w g b _ e).trans hc, hp⟩
      · intro b hb'
        exact Jm.put_other _ _ _ (fun e => hb' (by simp [Value.ownBlock, e]))
section
variable {P : Program} {ops : Array Oper} {rest : List Oper} {o : Oper} {a : Act} {Q : Exit → Act → World → Prop} {w : World}
theorem wpList_clear_J (hgd : o.guard = none) {J : Jm} {s : Operand} {t T : TypeId} {z : Value} {bytes base : Nat} (ho : o.op = .call { callee := .builtin .clear, args := #[s], argTypes := #[t] })
    (ht : P.underlying t = some (.slice T)) (hinfo : (P.info? T).map (fun i => (i.zero, i.size, i.bytes)) = some (some z, 1, bytes)) (hz : z.cells = #[z]) (h1 : z.oneCell' = true)
    {v : Value} {n : Nat} {cs : List Value} (hs : a.eval s = v) (hI : Inv J w) (hown : Own J w base T 1 v n cs)
    (h : ∀ w' J', Own J' w' base T 1 v n (List.replicate n z) → Inv J' w' → w.grownBy w' v.ownBlock → w'.heap.size = w.heap.size → (∀ b, some b ≠ v.ownBlock → J' b = J b) → wpList P ops Q rest (a.put o.dst (.tuple #[])) w') : wpList P ops Q (o :: rest) a w := by
  obtain ⟨w', J', hr, h2, h3, h4, h5, h6⟩ := run_clear_J (P := P) hI (ty := o.type) ht hinfo hz h1 hown
  refine wpList_run hgd (v := .tuple #[]) (w' := w') ?_ (h w' J' h2 h3 h4 h5 h6)
  unfold execOp
  simp only [ho, resolve, invoke, builtin, Sem.run_bind, Sem.run_pure, Result.andThen_ok, List.map_toArray, List.map_cons, List.map_nil, hs, hr]
end

section
variable {P : Program} {ops : Array Oper} {o : Oper} {a : Act} {K : Act → World → Prop} {Q : Exit → Act → World → Prop} {w : World} {E : Prop}
theorem step_run {v : Value} {w' : World} (hgd : o.guard = none) (hrun : (execOp a.eval o).run P w = .ok (.value v) w') (h : K (a.put o.dst v) w') : if Region.wanted o (yielded ops a.tmps) = true then o.wp P a w K Q else E := by
  rw [if_pos (by simp [Region.wanted, hgd])]
  unfold Oper.wp; rw [hrun]; exact h
/-- append(s, x..) of elements just made, in a region that draws its order. -/
theorem step_append_lit (hgd : o.guard = none) {J : Jm} {s x : Operand} {t e : TypeId} (z : Value) (size bytes : Nat)
    (ho : o.op = .call { callee := .builtin .append, args := #[s, x], argTypes := #[t, t] })
    (ht : P.underlying t = some (.slice e)) (hinfo : (P.info? e).map (fun i => (i.zero, i.size, i.bytes)) = some (some z, size, bytes)) (hzs : z.cells.size = size)
    {v : Value} {n : Nat} {xs : List Value} {base : Nat} (hs : a.eval s = v) (hI : Inv J w) (hown : Own J w base e size v n xs)
    {b m c : Nat} {news : List Value} {T' : TypeId} {fz : Nat × Nat} (hx : a.eval x = .slice (some ⟨b, 0, none⟩) m c) (hb : w.heap[b]? = some (.cells news.toArray T' fz)) (hl : news.length = m * size) (h1 : ∀ u ∈ news, u.oneCell' = true)
    (h63 : n + m ≤ maxLen) (hbytes : (n + m) * bytes ≤ 140737488355328) (hbase : base ≤ w.heap.size)
    (h : ∀ v' w' J', Own J' w' base e size v' (n + m) (xs ++ news) → Grew J w v J' w' v' → K (a.put o.dst v') w') : if Region.wanted o (yielded ops a.tmps) = true then o.wp P a w K Q else E := by
  obtain ⟨i, hi, hz, hsz, hby⟩ := info_parts_J hinfo
  obtain ⟨v', w', J', hr, h2, h3, h4⟩ := run_append_J (P := P) hI base t o.type e i z size bytes ht hi hz hsz hby hzs v n xs hown (some ⟨b, 0, none⟩) m c news (fun e => by cases e) hl
    (fun ad e j u hu => by
      cases e
      have : (⟨b, 0, none⟩ : Addr).add j = ⟨b, j, none⟩ := by unfold Addr.add; split <;> simp_all
      rw [this, cell_of_row w b j _ _ _ hb]; simpa using hu) h1 h63 hbytes hbase
  refine step_run hgd (v := v') (w' := w') ?_ (h v' w' J' h2 h3)
  unfold execOp
  simp only [ho, resolve, invoke, builtin, Sem.run_bind, Sem.run_pure, Result.andThen_ok, List.map_toArray, List.map_cons, List.map_nil, hs, hx, hr]
end

theorem Inv.anti {J J' : Jm} {w : World} (h : Inv J' w) (hle : J.le J') : Inv J w := by
  refine ⟨fun b hb => ?_⟩
  have hb' : J' b ≠ [] := by
    intro e
    have := hle b
    rw [e] at this
    exact hb (List.prefix_nil.1 this)
  obtain ⟨c, T, fz, hc, hp⟩ := h.cells b hb'
  exact ⟨c, T, fz, hc, (hle b).trans hp⟩
theorem Own.drew {J : Jm} {w : World} {base : Nat} {T : TypeId} {size : Nat} {v : Value} {n : Nat} {cs : List Value} (h : Own J w base T size v n cs) : Own J w.drew base T size v n cs := h.kept fun _ _ => ⟨rfl, rfl⟩
theorem Sl.jcell {J : Jm} {size : Nat} {A : Option Addr} {c n m : Nat} {cs : List Value} (h : Sl J size (.slice A m c) n cs) {j : Nat} {x : Value} (hx : cs[j]? = some x) :
    ∃ b o, A = some ⟨b, o, none⟩ ∧ (J b)[o + j]? = some x := by
  obtain ⟨hl, A', c', hv, hn, hm, h0, ha⟩ := h
  cases hv
  have hj : j < cs.length := (List.getElem?_eq_some_iff.1 hx).1
  cases A with
  | none => have := h0 rfl; simp_all
  | some a =>
    rcases ha a rfl with h | ⟨hs, hcs⟩
    · simp_all
    · refine ⟨a.block, a.off, by cases a; simp_all, ?_⟩
      rw [← hcs, List.getElem?_take, List.getElem?_drop] at hx
      split at hx
      · exact hx
      · cases hx
theorem Bs.jcell {J : Jm} {A : Option Addr} {c m : Nat} {l : List UInt8} (h : Bs J (.slice A m c) l) {j : Nat} (hj : j < l.length) :
    ∃ b o, A = some ⟨b, o, none⟩ ∧ (J b)[o + j]? = some (.int .u8 (l[j]).toNat) :=
  Sl.jcell h (by rw [bcs_get, List.getElem?_eq_getElem hj]; rfl)
end Go.Proofs.Ytldicbhjmjjfbaa
