/- A region that draws its order: operations at its head that yield alike wherever S holds; behind them a chain that keeps S up to the operation that waits for the head. -/
import Derived.Test.YtnnkgjaahmflmaaMv
import Derived.OrdersHeld
import Derived.StillTail
import Derived.Deep.RegionHeld3
namespace Go.Proofs.Ytnnkgjaahmflmaa
open Go.RowKit

section
variable {P : Program} {ops : Array Oper} {Q : Exit → Act → World → Prop} {md : Region.Mode} {S : World → Prop}
def wpAnyM (P : Program) (md : Region.Mode) (ops : Array Oper) (Q : Exit → Act → World → Prop) (S : World → Prop) (m : Nat) : Nat → Array Bool → Act → World → Prop
  | 0, _, _, _ => False
  | f + 1, listed, a, w => (Region.ready md ops listed = [] → Q .normal a w) ∧
    ∀ j ∈ Region.ready md ops listed, wpOp P ops Q j (fun a' w' => if j = m then wpAny P md ops Q f (listed.setIfInBounds j true) a' w' else S w' ∧ wpAnyM P md ops Q S m f (listed.setIfInBounds j true) a' w') a w
theorem wpAny_of_M {m : Nat} : ∀ (f : Nat) (listed : Array Bool) (a : Act) (w : World), wpAnyM P md ops Q S m f listed a w → wpAny P md ops Q f listed a w
  | 0, _, _, _, h => h.elim
  | f + 1, listed, a, w, h => ⟨h.1, fun j hj => wpOp_mono (fun a' w' h' => by
      by_cases e : j = m
      · rw [if_pos e] at h'; exact h'
      · rw [if_neg e] at h'; exact wpAny_of_M f _ _ _ h'.2) (h.2 j hj)⟩
def Closed (md : Region.Mode) (ops : Array Oper) (listed : Array Bool) : Prop :=
  ∀ j oj, ops[j]? = some oj → listed.getD j false = true → ∀ e ∈ oj.after, Region.binds md e = true → listed.getD e.on false = true
theorem Closed.set {i : Nat} {listed : Array Bool} (h : Closed md ops listed) (hi : i ∈ Region.ready md ops listed) : Closed md ops (listed.setIfInBounds i true) := by
  obtain ⟨_, oi, hoi, hall⟩ := mem_ready.1 hi
  intro j oj hj hl e he hb
  by_cases hij : i = j
  · subst hij
    have : oj = oi := Option.some.inj (hj.symm.trans hoi)
    subst this
    exact getD_set_true (hall e he hb)
  · rw [getD_set_ne false hij] at hl
    exact getD_set_true (h j oj hj hl e he hb)
/-- each operation ahead of number m is waited for by a later one, up to m -/
def sinkM (md : Region.Mode) (ops : Array Oper) (m : Nat) : Bool :=
  (List.range m).all fun i => (List.range (m + 1)).any fun j => decide (i < j) && Region.waitsFor md ops j i
theorem m_waits {m : Nat} {listed : Array Bool} (hs : sinkM md ops m = true) (hc : Closed md ops listed) :
    ∀ (d i : Nat), m - i = d → i < m → listed.getD i false = false → m ∉ Region.ready md ops listed := by
  intro d
  induction d using Nat.strongRecOn with
  | _ d ih =>
    intro i hd hi hun hr
    obtain ⟨j, hj, hj2⟩ := List.any_eq_true.1 (List.all_eq_true.1 hs i (List.mem_range.2 hi))
    simp only [Bool.and_eq_true, decide_eq_true_eq] at hj2
    obtain ⟨oj, hoj, e, he, hb, hon⟩ := Region.waitsFor_spec hj2.2
    have hjn := List.mem_range.1 hj
    by_cases hjm : j = m
    · subst hjm
      obtain ⟨_, om', hom', hall⟩ := mem_ready.1 hr
      have : om' = oj := Option.some.inj (hom'.symm.trans hoj)
      subst this
      have h2 := hall e he hb
      rw [hon, hun] at h2
      cases h2
    · cases hl : listed.getD j false with
      | true =>
        have h2 := hc j oj hoj hl e he hb
        rw [hon, hun] at h2
        cases h2
      | false => exact ih (m - j) (by omega) j rfl (by omega) hl hr
theorem wpAnyM_first {m i : Nat} {oi : Oper} {v : Value} (hi : ops[i]? = some oi) (hsel : ∀ (j : Nat) (o : Oper) cs b, ops[j]? = some o → o.op ≠ .select cs b)
    (hQ : ∀ c a w, Q (.panic c) (a.put oi.dst v) w → Q (.panic c) a w) (hs : sinkM md ops m = true) (him : i < m) :
    ∀ (f : Nat) (listed : Array Bool) (a : Act) (w : World), Closed md ops listed →
      (∀ j oj, ops[j]? = some oj → j ≠ i → listed.getD j true = false → (∀ e ∈ oj.after, Region.binds md e = true → e.on ≠ i) → oi.apart ops oj = true) →
      i ∈ Region.ready md ops listed → YieldsIf P ops S oi v a → S w →
      wpAnyM P md ops Q S m f (listed.setIfInBounds i true) (a.put oi.dst v) w → wpAnyM P md ops Q S m (f + 1) listed a w := by
  intro f
  induction f with
  | zero => intro listed a w _ _ _ _ _ H; exact H.elim
  | succ f ih =>
    intro listed a w hcl hfree hr hy hS H
    have hun := (mem_ready.1 hr).1
    refine ⟨fun h => (by rw [h] at hr; cases hr), fun j hj => ?_⟩
    by_cases hji : j = i
    · subst hji; exact hy.wpOp hi hS (by rw [if_neg (by omega)]; exact ⟨hS, H⟩)
    · have hjm : j ≠ m := fun e => m_waits hs hcl _ i rfl him (getD_both hun) (e ▸ hj)
      have h1 := H.2 j (ready_mono hj hji)
      simp only [if_neg hjm] at h1 ⊢
      obtain ⟨hjun, oj, hoj, hall⟩ := mem_ready.1 hj
      have hnot : ∀ e ∈ oj.after, Region.binds md e = true → e.on ≠ i := fun e he hb heq => by
        have h1 := hall e he hb
        rw [heq, getD_both hun] at h1
        cases h1
      have h2 := wpOp_putIf hoj (hfree j oj hoj hji hjun hnot) (fun cs b => hsel i oi cs b hi) (fun cs b => hsel j oj cs b hoj) hQ hy h1
      have hfree' : ∀ k ok, ops[k]? = some ok → k ≠ i → (listed.setIfInBounds j true).getD k true = false →
          (∀ e ∈ ok.after, Region.binds md e = true → e.on ≠ i) → oi.apart ops ok = true := fun k ok hk hki hun hno => by
        refine hfree k ok hk hki ?_ hno
        by_cases hjk : j = k
        · subst hjk; exact hjun
        · rw [getD_set_ne true hjk] at hun; exact hun
      refine wpOp_mono (fun a' w' h3 => ⟨h3.2.1, ih (listed.setIfInBounds j true) a' w' (hcl.set hj) hfree' (ready_mono hr (Ne.symm hji)) h3.1 h3.2.1 ?_⟩) h2
      rw [Array.setIfInBounds_comm _ _ hji]
      exact h3.2.2
/-- the chain: S is kept by its first k operations -/
def wpListM (P : Program) (ops : Array Oper) (Q : Exit → Act → World → Prop) (S : World → Prop) : Nat → List Oper → Act → World → Prop
  | 0, l, a, w => wpList P ops Q l a w
  | _ + 1, [], _, _ => False
  | k + 1, o :: l, a, w => if Region.wanted o (yielded ops a.tmps) then o.wp P a w (fun a' w' => S w' ∧ wpListM P ops Q S k l a' w') Q ∨ (o.asks P a w ∧ LetsOut Q) else S w ∧ wpListM P ops Q S k l (a.put o.dst undef) w
theorem wpAnyM_of_seq : ∀ (l : List Oper) (k c : Nat) (listed : Array Bool) (a : Act) (w : World), (∀ j, l[j]? = ops[k + j]?) → Region.seqB md ops l.length k listed = true → c < l.length →
    wpListM P ops Q S c l a w → wpAnyM P md ops Q S (k + c) l.length listed a w
  | [], _, _, _, _, _, _, _, hc, _ => absurd hc (Nat.not_lt_zero _)
  | o :: l, k, 0, listed, a, w, hl, hB, _, h => by
    have h0 : ops[k]? = some o := by simpa using (hl 0).symm
    simp only [List.length_cons, Region.seqB, Bool.and_eq_true, decide_eq_true_eq] at hB
    refine ⟨fun h1 => (by rw [hB.1] at h1; cases h1), fun i hi => ?_⟩
    rw [hB.1] at hi
    have hik : i = k := by simpa using hi
    subst hik
    have hw : wpOp P ops Q i (wpList P ops Q l) a w := by unfold wpOp; simp only [h0]; exact h
    refine wpOp_mono (fun a' w' h' => ?_) hw
    rw [if_pos (by omega)]
    exact wpAny_of_seq l (i + 1) _ a' w' (fun j => by have := hl (j + 1); simpa [Nat.add_assoc, Nat.add_comm 1 j] using this) hB.2 h'
  | o :: l, k, c + 1, listed, a, w, hl, hB, hc, h => by
    have h0 : ops[k]? = some o := by simpa using (hl 0).symm
    simp only [List.length_cons, Region.seqB, Bool.and_eq_true, decide_eq_true_eq] at hB
    refine ⟨fun h1 => (by rw [hB.1] at h1; cases h1), fun i hi => ?_⟩
    rw [hB.1] at hi
    have hik : i = k := by simpa using hi
    subst hik
    have hw : wpOp P ops Q i (fun a' w' => S w' ∧ wpListM P ops Q S c l a' w') a w := by unfold wpOp; simp only [h0]; exact h
    refine wpOp_mono (fun a' w' h' => ?_) hw
    rw [if_neg (by omega)]
    refine ⟨h'.1, ?_⟩
    have := wpAnyM_of_seq l (i + 1) c (listed.setIfInBounds i true) a' w' (fun j => by have := hl (j + 1); simpa [Nat.add_assoc, Nat.add_comm 1 j] using this) hB.2 (by simpa using hc) h'.2
    rwa [show i + 1 + c = i + (c + 1) by omega] at this
def wpStillIf (P : Program) (ops : Array Oper) (S : World → Prop) (L : Act → Prop) : List Oper → Act → Prop
  | [], a => L a
  | o :: l, a => ∃ v, YieldsIf P ops S o v a ∧ wpStillIf P ops S L l (a.put o.dst v)
theorem wpAnyM_lex {n c g : Nat} {w : World} {tail : List Oper} (hsel : Region.noSelect ops = true) (hQ : ∀ c d v a w, Q (.panic c) (Act.put a d v) w → Q (.panic c) a w)
    (hs : sinkM md ops (n + c) = true) (ht : ∀ j, tail[j]? = ops[n + j]?) (hg : tail.length = g) (hc : c < g) (hS : S w) :
    ∀ (l : List Oper) (k : Nat) (listed : Array Bool) (a : Act), (∀ j, j < l.length → l[j]? = ops[k + j]?) → k + l.length = n → Closed md ops listed →
    Region.lexHead md ops g l.length k listed = true → wpStillIf P ops S (fun a' => wpListM P ops Q S c tail a' w) l a → wpAnyM P md ops Q S (n + c) (l.length + g) listed a w
  | [], k, listed, a, _, hk, _, hB, h => by
    obtain rfl : k = n := by simpa using hk
    subst hg
    rw [List.length_nil, Nat.zero_add]
    exact wpAnyM_of_seq tail k c listed a w ht (by simpa [Region.lexHead] using hB) hc h
  | o :: l, k, listed, a, hl, hk, hcl, hB, h => by
    have h0 : ops[k]? = some o := by simpa using (hl 0 (by simp)).symm
    simp only [List.length_cons, Region.lexHead, Bool.and_eq_true] at hB
    obtain ⟨⟨hr, hf⟩, hB'⟩ := hB
    have hkn : k < n := by simp only [List.length_cons] at hk; omega
    have hr' : k ∈ Region.ready md ops listed := by simpa using hr
    obtain ⟨v, hy, hK⟩ := h
    rw [List.length_cons, show l.length + 1 + g = (l.length + g) + 1 by omega]
    exact wpAnyM_first h0 (Region.noSelect_spec hsel) (fun c a w => hQ c _ _ a w) hs (by omega) _ listed a w hcl (Region.free_spec h0 hf) hr' hy hS
      (wpAnyM_lex hsel hQ hs ht hg hc hS l (k + 1) _ _ (fun j hj => by have := hl (j + 1) (by simp; omega); simpa [Nat.add_assoc, Nat.add_comm 1 j] using this) (by simp only [List.length_cons] at hk; omega) (hcl.set hr') hB' hK)
def floatB (ops : Array Oper) (n c : Nat) : Bool :=
  Region.noSelect ops && decide (n + c < ops.size) && sinkM .any ops (n + c) && Region.lexHead .any ops (ops.size - n) n 0 (Array.replicate ops.size false)
end
section
variable {P : Program} {Q : Exit → Act → World → Prop} {S : World → Prop}
theorem wp_region_float {id : Nat} {a : Act} {w : World} {l : List Oper} (n c : Nat) (hm : P.follows .mixedOrders = true) (hB : floatB l.toArray n c = true) (hS : S w.drew)
    (h : wpStillIf P l.toArray S (fun a' => wpListM P l.toArray (NoPanic Q) S c (l.drop n) a' w.drew) (l.take n) a) : (Code.region id l.toArray true).wp P Q a w := by
  simp only [floatB, Bool.and_eq_true, decide_eq_true_eq] at hB
  obtain ⟨⟨⟨hsel, hn⟩, hs⟩, hlex⟩ := hB
  have hn' : n + c < l.length := by simpa using hn
  have htl : (l.take n).length = n := by simp; omega
  have hdl : (l.drop n).length = l.toArray.size - n := by simp
  refine wp_region_noPanic (wp_region_any hm (wpAny_of_M (S := S) (m := n + c) _ _ _ _ ?_))
  have H := wpAnyM_lex (md := .any) (g := l.toArray.size - n) (c := c) (n := n) (S := S) (w := w.drew) (tail := l.drop n) (Q := NoPanic Q) (P := P) hsel (fun _ _ _ _ _ h => h) hs (fun j => by simp [List.getElem?_drop]) hdl (by simp; omega) hS (l.take n) 0 (Array.replicate l.toArray.size false) a (fun j hj => by
    have hj' : j < n := by rw [htl] at hj; exact hj
    simp [hj']) (by simpa using htl) (fun j oj _ hl => by rw [getD_replicate_false] at hl; cases hl) (by rw [htl]; exact hlex) h
  rw [htl, show n + (l.toArray.size - n) = l.toArray.size by simp; omega] at H
  exact H
theorem wpStillIf_cons {ops : Array Oper} {L : Act → Prop} {o : Oper} {l : List Oper} {a : Act} {v : Value} (hw : Region.wanted o (yielded ops a.tmps) = true) (hv : ∀ w, S w → (execOp a.eval o).run P w = .ok (.value v) w)
    (h : wpStillIf P ops S L l (a.put o.dst v)) : wpStillIf P ops S L (o :: l) a := ⟨v, .inl ⟨hw, hv⟩, h⟩
theorem wpStillIf_nil {ops : Array Oper} {L : Act → Prop} {a : Act} (h : L a) : wpStillIf P ops S L [] a := h
theorem oper_wp_then {o : Oper} {a : Act} {w : World} {K X : Act → World → Prop} (h : o.wp P a w K (Exit.then X Q)) : o.wp P a w K Q := by
  unfold Oper.wp at *
  generalize (execOp a.eval o).run P w = r at *
  cases r with
  | ok n w' =>
    cases n <;> simp only [Oper.upon] at h ⊢
    all_goals first
      | exact h
      | exact Calls.mono h fun e w'' he => by cases e <;> exact he
      | exact Rows.mono h fun u w'' he => he
  | halt x w' => cases x <;> simp only [Oper.upon] at h ⊢ <;> exact h
theorem wpListM_wp {ops : Array Oper} {k : Nat} {o : Oper} {l : List Oper} {a : Act} {w : World} (h : wpList P ops (Exit.then (fun a w => S w ∧ wpListM P ops Q S k l a w) Q) [o] a w) : wpListM P ops Q S (k + 1) (o :: l) a w := by
  unfold wpListM
  unfold wpList at h
  by_cases hw : Region.wanted o (yielded ops a.tmps) = true
  · rw [if_pos hw] at h ⊢
    exact h.imp oper_wp_then id
  · rw [if_neg hw] at h ⊢
    exact h
theorem wpListM_run {ops : Array Oper} {k : Nat} {o : Oper} {l : List Oper} {a : Act} {w w' : World} {v : Value} (hgd : o.guard = none) (hrun : (execOp a.eval o).run P w = .ok (.value v) w') (hS : S w')
    (h : wpListM P ops Q S k l (a.put o.dst v) w') : wpListM P ops Q S (k + 1) (o :: l) a w := by
  unfold wpListM
  rw [if_pos (by simp [Region.wanted, hgd])]
  refine .inl ?_
  unfold Oper.wp
  rw [hrun]
  exact ⟨hS, h⟩
theorem wpListM_zero {ops : Array Oper} {l : List Oper} {a : Act} {w : World} (h : wpList P ops Q l a w) : wpListM P ops Q S 0 l a w := h
theorem cell_drew {w : World} {a : Addr} {x : Option Value} (h : w.cell? a = x) : w.drew.cell? a = x := h
theorem wpListM_step {ops : Array Oper} {k : Nat} {o : Oper} {l : List Oper} {a : Act} {w : World} (hgd : o.guard = none)
    (h : ∀ K : Act → World → Prop, Hid (∀ a w, S w → wpListM P ops Q S k l a w → K a w) → o.wp P a w K Q) : wpListM P ops Q S (k + 1) (o :: l) a w := by
  unfold wpListM
  rw [if_pos (by simp [Region.wanted, hgd])]
  exact .inl (h _ fun a w h1 h2 => ⟨h1, h2⟩)
end
end Go.Proofs.Ytnnkgjaahmflmaa
