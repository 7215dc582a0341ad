/- Traces as they stand in memory. -/
import Derived.Test.YtldicbhjmjjfbaaRecPure
import Derived.Test.YtldicbhjmjjfbaaJStr
import Derived.Test.YtldicbhjmjjfbaaMv
namespace Go.Proofs.Ytldicbhjmjjfbaa
open Go.RowKit
set_option linter.unusedVariables false

def neV (n : Nee) : Value := .agg #[.string (strB n.path), .bool n.hv, .string (strB n.cont)]
def ndC : List Nee → List Value
  | [] => []
  | x :: r => .string (strB x.path) :: .bool x.hv :: .string (strB x.cont) :: ndC r
theorem ndC_length (l : List Nee) : (ndC l).length = l.length * 3 := by
  induction l with
  | nil => rfl
  | cons a r ih => simp only [ndC, List.length_cons, ih]; omega
theorem ndC_append (l k : List Nee) : ndC (l ++ k) = ndC l ++ ndC k := by
  induction l with
  | nil => rfl
  | cons a r ih => simp only [List.cons_append, ndC, ih]
theorem ndC_one (l : List Nee) : ∀ u ∈ ndC l, u.oneCell' = true := by
  induction l with
  | nil => intro u hu; cases hu
  | cons a r ih =>
    intro u hu
    simp only [ndC, List.mem_cons] at hu
    rcases hu with rfl | rfl | rfl | hu
    · rfl
    · rfl
    · rfl
    · exact ih u hu
theorem ndC_at : ∀ (l : List Nee) (k : Nat) (hk : k < l.length), (ndC l)[k * 3]? = some (.string (strB l[k].path)) ∧ (ndC l)[k * 3 + 1]? = some (.bool l[k].hv) ∧ (ndC l)[k * 3 + 2]? = some (.string (strB l[k].cont))
  | x :: r, 0, _ => ⟨rfl, rfl, rfl⟩
  | x :: r, k + 1, h => by
    have := ndC_at r k (by simpa using h)
    simp only [ndC, show (k + 1) * 3 = k * 3 + 1 + 1 + 1 by omega, List.getElem?_cons_succ, List.getElem_cons_succ]
    exact this
abbrev Ns (J : Jm) (v : Value) (l : List Nee) : Prop := Sl J 3 v l.length (ndC l)
def TrV (J : Jm) (v : Value) (t : Trc) : Prop := ∃ vn vo, v = .agg #[.string (strB t.job), vn, vo] ∧ Ns J vn t.needs ∧ Ss J vo t.outs
theorem TrV.mono {J J' : Jm} {v : Value} {t : Trc} (h : TrV J v t) (hle : J.le J') : TrV J' v t := by
  obtain ⟨vi, vk, h0, h1, h2⟩ := h
  exact ⟨vi, vk, h0, Sl.mono h1 hle, Sl.mono h2 hle⟩
theorem TrV.parts {J : Jm} {v : Value} {t : Trc} (h : TrV J v t) : ∃ An cn Ao co, v = .agg #[.string (strB t.job), .slice An t.needs.length cn, .slice Ao t.outs.length co] ∧ Ns J (.slice An t.needs.length cn) t.needs ∧ Ss J (.slice Ao t.outs.length co) t.outs := by
  obtain ⟨vn, vo, rfl, hn, ho⟩ := h
  obtain ⟨An, cn, rfl, -, -⟩ := hn.form
  obtain ⟨Ao, co, rfl, -, -⟩ := ho.form
  exact ⟨_, _, _, _, rfl, hn, ho⟩
theorem TrV.mk {J : Jm} {t : Trc} {vn vo : Value} (hn : Ns J vn t.needs) (ho : Ss J vo t.outs) : TrV J (.agg #[.string (strB t.job), vn, vo]) t := ⟨_, _, rfl, hn, ho⟩
theorem Ns.cell {J : Jm} {A : Option Addr} {c m : Nat} {l : List Nee} (h : Ns J (.slice A m c) l) {w : World} (hI : Inv J w) {k : Nat} (hk : k < l.length) :
    ∃ b o, A = some ⟨b, o, none⟩ ∧ w.cell? ⟨b, o + k * 3, none⟩ = some (.string (strB l[k].path)) ∧ w.cell? ⟨b, o + k * 3 + 1, none⟩ = some (.bool l[k].hv) ∧ w.cell? ⟨b, o + k * 3 + 2, none⟩ = some (.string (strB l[k].cont)) := by
  obtain ⟨q0, q1, q2⟩ := ndC_at l k hk
  obtain ⟨b, o, hA, c0⟩ := Sl.cell h hI q0
  obtain ⟨b1, o1, hA1, c1⟩ := Sl.cell h hI q1
  obtain ⟨b2, o2, hA2, c2⟩ := Sl.cell h hI q2
  rw [hA] at hA1 hA2
  cases hA1; cases hA2
  exact ⟨b, o, hA, c0, c1, c2⟩
theorem info_need : (Try.prog.info? 38).map (fun i => (i.zero, i.size, i.bytes)) = some (some (.agg #[.string ByteArray.empty, .bool false, .string ByteArray.empty]), 3, 40) := by kernel_rfl
/-- the box of a trace -/
def TBox (w : World) (b : Nat) (t : Trc) (vn vo : Value) : Prop := w.heap[b]? = some (.cells [.string (strB t.job), vn, vo].toArray 26 (0, 0))
theorem TBox.lt {w : World} {b : Nat} {t : Trc} {vn vo : Value} (h : TBox w b t vn vo) : b < w.heap.size := (Array.getElem?_eq_some_iff.1 h).1
theorem TBox.ext {J J' : Jm} {w w' : World} {b : Nat} {t : Trc} {vn vo : Value} (h : TBox w b t vn vo) (e : Ext J w J' w') : TBox w' b t vn vo := (e.below.block b h.lt).trans h
theorem TBox.below {w w' : World} {b : Nat} {t : Trc} {vn vo : Value} (h : TBox w b t vn vo) (e : Below w.heap.size w w') : TBox w' b t vn vo := (e.block b h.lt).trans h
theorem TBox.mv {S : Nat → Prop} {J J' : Jm} {w w' : World} {b : Nat} {t : Trc} {vn vo : Value} (h : TBox w b t vn vo) (e : Mv S J w J' w') (hs : ¬ S b) : TBox w' b t vn vo := (e.block b h.lt hs).trans h
theorem TBox.new (w : World) (t : Trc) (vn vo : Value) : TBox (w.alloc (.cells #[.string (strB t.job), vn, vo] 26)) w.heap.size t vn vo := heap_alloc_new _ _
theorem TBox.c0 {w : World} {b : Nat} {t : Trc} {vn vo : Value} (h : TBox w b t vn vo) : w.cell? ⟨b, 0, none⟩ = some (.string (strB t.job)) := blk_cell_J h 0 rfl
theorem TBox.c1 {w : World} {b : Nat} {t : Trc} {vn vo : Value} (h : TBox w b t vn vo) : w.cell? ⟨b, 1, none⟩ = some vn := blk_cell_J h 1 rfl
theorem TBox.c2 {w : World} {b : Nat} {t : Trc} {vn vo : Value} (h : TBox w b t vn vo) : w.cell? ⟨b, 2, none⟩ = some vo := blk_cell_J h 2 rfl
/-- the box of a need -/
def EBox (w : World) (b : Nat) (n : Nee) : Prop := w.heap[b]? = some (.cells [.string (strB n.path), .bool n.hv, .string (strB n.cont)].toArray 38 (0, 0))
theorem EBox.lt {w : World} {b : Nat} {n : Nee} (h : EBox w b n) : b < w.heap.size := (Array.getElem?_eq_some_iff.1 h).1
theorem EBox.ext {J J' : Jm} {w w' : World} {b : Nat} {n : Nee} (h : EBox w b n) (e : Ext J w J' w') : EBox w' b n := (e.below.block b h.lt).trans h
theorem EBox.below {w w' : World} {b : Nat} {n : Nee} (h : EBox w b n) (e : Below w.heap.size w w') : EBox w' b n := (e.block b h.lt).trans h
theorem EBox.mv {S : Nat → Prop} {J J' : Jm} {w w' : World} {b : Nat} {n : Nee} (h : EBox w b n) (e : Mv S J w J' w') (hs : ¬ S b) : EBox w' b n := (e.block b h.lt hs).trans h
theorem EBox.new (w : World) (n : Nee) : EBox (w.alloc (.cells #[.string (strB n.path), .bool n.hv, .string (strB n.cont)] 38)) w.heap.size n := heap_alloc_new _ _
theorem EBox.c0 {w : World} {b : Nat} {n : Nee} (h : EBox w b n) : w.cell? ⟨b, 0, none⟩ = some (.string (strB n.path)) := blk_cell_J h 0 rfl
theorem EBox.c1 {w : World} {b : Nat} {n : Nee} (h : EBox w b n) : w.cell? ⟨b, 1, none⟩ = some (.bool n.hv) := blk_cell_J h 1 rfl
theorem EBox.c2 {w : World} {b : Nat} {n : Nee} (h : EBox w b n) : w.cell? ⟨b, 2, none⟩ = some (.string (strB n.cont)) := blk_cell_J h 2 rfl
end Go.Proofs.Ytldicbhjmjjfbaa
