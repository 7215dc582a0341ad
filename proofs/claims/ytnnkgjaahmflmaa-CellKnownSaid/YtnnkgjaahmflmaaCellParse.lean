/- Reading a page, in plain Lean. -/
import Derived.Test.YtnnkgjaahmflmaaCellPure
import Derived.Test.YtnnkgjaahmflmaaWireE
namespace Go.Proofs.Ytnnkgjaahmflmaa
set_option linter.unusedVariables false

/-- what a reader has left, and whether it went well -/
structure Rst where
  b : List UInt8
  ok : Bool
def rNum (most : Nat) (s : Rst) : Nat × Rst := match askU s.b most with
  | .error _ => (0, ⟨s.b, false⟩)
  | .ok (n, c) => (n, ⟨s.b.drop c, s.ok⟩)
def rTxt (n : Nat) (s : Rst) : List UInt8 × Rst := if s.b.length < n then ([], ⟨s.b, false⟩) else (s.b.take n, ⟨s.b.drop n, s.ok⟩)
def twoOf : List UInt8 → Int
  | x :: y :: _ => (x.toNat : Int) + 256 * y.toNat
  | _ => 0
def rTwo (s : Rst) : Int × Rst := (twoOf (rTxt 2 s).1, (rTxt 2 s).2)
def rKey (s : Rst) : List UInt8 × Rst := rTxt (rNum 64 s).1 (rNum 64 s).2
/-- an item of a leaf -/
def rLeaf (s : Rst) : Cl × Rst :=
  let k := rNum 9217 (rKey s).2
  if k.1 % 2 = 1 then (⟨(rKey s).1, [], (rTwo k.2).1, (k.1 / 2 : Nat)⟩, (rTwo k.2).2) else (⟨(rKey s).1, (rTxt (k.1 / 2) k.2).1, 0, 0⟩, (rTxt (k.1 / 2) k.2).2)
def rLeafs : Nat → Rst → List Cl → List Cl × Rst
  | 0, s, I => (I, s)
  | c + 1, s, I => if (rLeaf s).2.ok = true then rLeafs c (rLeaf s).2 (I ++ [(rLeaf s).1]) else (I, (rLeaf s).2)
def rInns : Nat → Rst → List Cl → List Int → List Cl × List Int × Rst
  | 0, s, I, K => (I, K, s)
  | c + 1, s, I, K => if (rTwo (rKey s).2).2.ok = true then rInns c (rTwo (rKey s).2).2 (I ++ [⟨(rKey s).1, [], 0, 0⟩]) (K ++ [(rTwo (rKey s).2).1]) else (I, K ++ [(rTwo (rKey s).2).1], (rTwo (rKey s).2).2)
/-- what is read of a page's bytes behind the first -/
def rNode (leaf : Bool) (l : List UInt8) : Nd × Bool :=
  let c := rNum 240 ⟨l, true⟩
  if leaf = true then (⟨true, (rLeafs c.1 c.2 []).1, []⟩, (rLeafs c.1 c.2 []).2.ok)
  else (⟨false, (rInns c.1 (rTwo c.2).2 [] [(rTwo c.2).1]).1, (rInns c.1 (rTwo c.2).2 [] [(rTwo c.2).1]).2.1⟩, (rInns c.1 (rTwo c.2).2 [] [(rTwo c.2).1]).2.2.ok)
def getN (b : List UInt8) : Option Nd := match b with
  | [] => none
  | h :: l => if b.length = 240 ∧ (h = 1 ∨ h = 2) then
      (if (rNode (decide (h = 1)) l).2 = true ∧ wrong (rNode (decide (h = 1)) l).1 = 0 ∧ page (rNode (decide (h = 1)) l).1 = b then some (rNode (decide (h = 1)) l).1 else none)
    else none
theorem getN_some {b : List UInt8} {n : Nd} (h : getN b = some n) : wrong n = 0 ∧ page n = b := by
  unfold getN at h
  split at h
  · cases h
  · split at h
    · split at h
      · rename_i h1; cases h; exact h1.2
      · cases h
    · cases h

theorem rNum_uv {n most : Nat} (h : n ≤ most) (hm : most < 2 ^ 64) (r : List UInt8) : rNum most ⟨uv n ++ r, true⟩ = (n, ⟨r, true⟩) := by
  have e := rdU_uv (n := n) (by omega) r
  unfold rNum askU
  simp only [e, if_neg (show ¬ most < n by omega), List.drop_left]
theorem rTxt_app (t r : List UInt8) : rTxt t.length ⟨t ++ r, true⟩ = (t, ⟨r, true⟩) := by
  unfold rTxt
  rw [if_neg (by simp only [List.length_append]; omega)]
  simp only [List.take_left, List.drop_left]
theorem rTwo_two {k : Int} (h0 : 0 ≤ k) (h1 : k ≤ 65535) (r : List UInt8) : rTwo ⟨two k ++ r, true⟩ = (k, ⟨r, true⟩) := by
  unfold rTwo
  rw [show rTxt 2 ⟨two k ++ r, true⟩ = (two k, ⟨r, true⟩) from rTxt_app (two k) r]
  refine Prod.ext ?_ rfl
  simp only [two, twoOf]
  rw [toNat_of (by omega), toNat_of (by omega)]
  omega
theorem rKey_ut {t : List UInt8} (h : t.length ≤ 64) (r : List UInt8) : rKey ⟨ut t ++ r, true⟩ = (t, ⟨r, true⟩) := by
  unfold rKey ut
  rw [List.append_assoc, rNum_uv h (by omega)]
  exact rTxt_app t r
theorem rLeaf_form {x : Cl} (h : okItem x true = true) (k : Int) (r : List UInt8) : rLeaf ⟨formI true x k ++ r, true⟩ = (x, ⟨r, true⟩) := by
  have hb := okItem_le h
  obtain ⟨key, val, pg, ln⟩ := x
  simp only at hb
  unfold rLeaf formI
  simp only [Bool.true_eq_false, if_false, List.append_assoc]
  rw [rKey_ut (by omega)]
  by_cases hp : 0 < pg
  · have hv : val = [] ∧ 1 ≤ ln := by
      unfold okItem at h
      rw [if_neg (by show ¬ (key.length < 1 ∨ 64 < key.length); omega), if_neg (by show ¬ (pg = 0 ∧ ln = 0); omega)] at h
      simp only [Bool.and_eq_true, decide_eq_true_eq] at h
      exact ⟨h.1.1.2, h.2.1⟩
    obtain ⟨m, rfl⟩ := Int.eq_ofNat_of_zero_le hb.2.2.2.2.2.1
    obtain ⟨rfl, -⟩ := hv
    rw [if_pos hp, List.append_assoc, show (2 * (m : Int) + 1).toNat = 2 * m + 1 by omega]
    simp only [rNum_uv (show 2 * m + 1 ≤ 9217 by omega) (by omega)]
    rw [if_pos (show (2 * m + 1) % 2 = 1 by omega), rTwo_two (by omega) (by omega), show (2 * m + 1) / 2 = m by omega]
  · have hz : pg = 0 ∧ ln = 0 := by
      refine ⟨by omega, ?_⟩
      unfold okItem at h
      rw [if_neg (by show ¬ (key.length < 1 ∨ 64 < key.length); omega)] at h
      by_cases hl : ln = 0
      · exact hl
      · rw [if_neg (by show ¬ (pg = 0 ∧ ln = 0); omega)] at h
        simp only [Bool.and_eq_true, decide_eq_true_eq] at h
        omega
    obtain ⟨rfl, rfl⟩ := hz
    rw [if_neg (show ¬ (0 : Int) < 0 by decide), List.append_assoc]
    simp only [rNum_uv (show 2 * val.length ≤ 9217 by omega) (by omega)]
    rw [if_neg (show ¬ 2 * val.length % 2 = 1 by omega), show 2 * val.length / 2 = val.length by omega, rTxt_app]
theorem rInn_form {x : Cl} (h : okItem x false = true) {k : Int} (h0 : 0 ≤ k) (h1 : k ≤ 65535) (r : List UInt8) : rTwo (rKey ⟨formI false x k ++ r, true⟩).2 = (k, ⟨r, true⟩) ∧ (rKey ⟨formI false x k ++ r, true⟩).1 = x.key ∧ x = ⟨x.key, [], 0, 0⟩ := by
  have hb := okItem_le h
  unfold formI
  rw [if_pos rfl, List.append_assoc, rKey_ut (by omega)]
  refine ⟨rTwo_two h0 h1 r, rfl, ?_⟩
  obtain ⟨key, val, pg, ln⟩ := x
  unfold okItem at h
  simp only at hb
  rw [if_neg (by show ¬ (key.length < 1 ∨ 64 < key.length); omega)] at h
  split at h
  · rename_i h2; obtain ⟨rfl, rfl⟩ := h2
    simp at h; subst h; rfl
  · simp at h
theorem rLeafs_form : ∀ (l : List Cl) (ks : List Int) (r : List UInt8) (I : List Cl), (∀ x ∈ l, okItem x true = true) → rLeafs l.length ⟨formL true l ks ++ r, true⟩ I = (I ++ l, ⟨r, true⟩)
  | [], _, r, I, _ => by simp [rLeafs, formL]
  | x :: l, ks, r, I, h => by
    have e := rLeaf_form (h x List.mem_cons_self) (ks.headD 0) (formL true l ks.tail ++ r)
    simp only [List.length_cons, rLeafs, formL, List.append_assoc, e, if_true]
    rw [rLeafs_form l ks.tail r (I ++ [x]) fun y hy => h y (List.mem_cons_of_mem _ hy)]
    simp
theorem rInns_form : ∀ (l : List Cl) (ks : List Int) (r : List UInt8) (I : List Cl) (K : List Int), ks.length = l.length → (∀ x ∈ l, okItem x false = true) → (∀ k ∈ ks, 1 ≤ k ∧ k ≤ 65535) → rInns l.length ⟨formL false l ks ++ r, true⟩ I K = (I ++ l, K ++ ks, ⟨r, true⟩)
  | [], [], r, I, K, _, _, _ => by simp [rInns, formL]
  | x :: l, k :: ks, r, I, K, hl, h, hk => by
    have hk1 := hk k List.mem_cons_self
    obtain ⟨e1, e2, e3⟩ := rInn_form (h x List.mem_cons_self) (k := k) (by omega) (by omega) (formL false l ks ++ r)
    simp only [List.length_cons, rInns, formL, List.append_assoc, List.headD_cons, List.tail_cons, e1, e2, if_true]
    rw [← e3, rInns_form l ks r (I ++ [x]) (K ++ [k]) (by simpa using hl) (fun y hy => h y (List.mem_cons_of_mem _ hy)) fun y hy => hk y (List.mem_cons_of_mem _ hy)]
    simp
theorem rNode_form {n : Nd} (hr : right n = true) (hn : n.items.length ≤ 240) (r : List UInt8) : rNode n.leaf ((form n).tail ++ r) = (n, true) := by
  obtain ⟨leaf, items, kids⟩ := n
  have hi := right_at hr
  simp only at hn hi
  unfold rNode form formH
  cases leaf with
  | true =>
    have hk : kids = [] := by
      unfold right okKids at hr
      simp at hr; exact hr.2
    subst hk
    simp only [if_true, List.cons_append, List.tail_cons, List.append_nil, List.append_assoc]
    rw [rNum_uv hn (by omega)]
    simp only [rLeafs_form items _ r [] hi, List.nil_append]
  | false =>
    obtain ⟨h1, h2, h3⟩ := right_kids hr rfl
    simp only at h1 h2 h3
    obtain ⟨k, ks, rfl⟩ : ∃ k ks, kids = k :: ks := by cases kids with
      | nil => simp at h2
      | cons k ks => exact ⟨k, ks, rfl⟩
    have hk := h3 k List.mem_cons_self
    simp only [Bool.false_eq_true, if_false, List.cons_append, List.tail_cons, List.headD_cons, List.append_assoc]
    rw [rNum_uv hn (by omega)]
    simp only [rTwo_two (show 0 ≤ k by omega) hk.2]
    rw [rInns_form items ks r [] [k] (by simpa using h2) hi fun y hy => h3 y (List.mem_cons_of_mem _ hy)]
    simp
theorem formU_ge (n : Nd) : ∀ k, 1 + k ≤ (formU n k).length
  | 0 => by simp only [formU, formH]; simp only [List.cons_append, List.length_cons]; omega
  | k + 1 => by
    have ih := formU_ge n k
    have := uv_pos ((n.items.getD k ⟨[], [], 0, 0⟩).key.length)
    simp only [formU, List.length_append, formI, ut]; omega
theorem form_cons (n : Nd) : form n = (if n.leaf = true then 1 else 2) :: (form n).tail := by simp [form, formH]
/-- a node that fits is got from its page -/
theorem getN_page {n : Nd} (h : wrong n = 0) : getN (page n) = some n := by
  have hr : right n = true := by unfold wrong at h; split at h; · assumption
                                 · cases h
  have hf : (form n).length ≤ 240 := by unfold wrong at h; rw [if_pos hr] at h; split at h; · cases h
                                        · omega
  have hg := formU_ge n n.items.length
  rw [formU_end] at hg
  have hp : page n = (if n.leaf = true then 1 else 2) :: ((form n).tail ++ List.replicate (240 - (form n).length) 0) := by
    unfold page; rw [form_cons n]; simp
  have hl : (page n).length = 240 := by unfold page; simp; omega
  have hd : (decide ((if n.leaf = true then (1 : UInt8) else 2) = 1)) = n.leaf := by cases n.leaf <;> rfl
  have hd2 : (if n.leaf = true then (1 : UInt8) else 2) = 1 ∨ (if n.leaf = true then (1 : UInt8) else 2) = 2 := by cases n.leaf <;> decide
  unfold getN
  split
  · rename_i e; rw [e] at hl; cases hl
  · rename_i b0 l e
    have e2 := hp.symm.trans e
    simp only [List.cons.injEq] at e2
    obtain ⟨rfl, rfl⟩ := e2
    rw [hd, rNode_form hr (by omega), if_pos ⟨by first | exact hl | (rw [← e]; exact hl), hd2⟩, if_pos ⟨rfl, h, e⟩]
end Go.Proofs.Ytnnkgjaahmflmaa
