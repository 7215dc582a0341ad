/- What the fifth region of Join lays down. -/
import Derived.Test.YtnnkgjaahmflmaaCellJoinP
import Derived.Test.YtnnkgjaahmflmaaCellRS
import Derived.Test.YtnnkgjaahmflmaaCellClone
namespace Go.Proofs.Ytnnkgjaahmflmaa
open Go.RowKit
set_option linter.unusedVariables false

abbrev PJ := Nat → Value → Jm → World → Prop
def Stab (P : PJ) : Prop := ∀ j x J1 X1 J2 X2, Inv J1 X1 → P j x J1 X1 → Ext J1 X1 J2 X2 → P j x J2 X2
def RG (J : Jm) (W : World) (P : PJ) (L : Nat → Bool) (v : Nat → Value) (X : World) : Prop := ∃ J', Ext J W J' X ∧ ∀ j, L j = true → P j (v j) J' X
theorem RG.start {J : Jm} {W : World} {P : PJ} {v : Nat → Value} (hI : Inv J W) : RG J W P (fun _ => false) v W.drew := ⟨J, (Ext.refl hI).drew, fun _ h => (by cases h)⟩
theorem RG.put {J J' J5 : Jm} {W X X5 : World} {P : PJ} {L : Nat → Bool} {v : Nat → Value} (hs : Stab P) (h0 : Ext J W J' X) (h : ∀ j, L j = true → P j (v j) J' X) {q : Nat} {x : Value} (hE : Ext J' X J5 X5) (hx : P q x J5 X5) : RG J W P (updB L q) (updV v q x) X5 := by
  refine ⟨J5, h0.trans hE, fun j hL => ?_⟩
  by_cases hj : j = q
  · subst hj
    rw [updV_at]; exact hx
  · rw [updB_ne hj] at hL
    rw [updV_ne hj]
    exact hs _ _ _ _ _ _ h0.inv (h j hL) hE
theorem RG.same {J J' : Jm} {W X : World} {P : PJ} {L : Nat → Bool} {v : Nat → Value} (hs : Stab P) (h0 : Ext J W J' X) (h : ∀ j, L j = true → P j (v j) J' X) {q : Nat} {x : Value} (hx : P q x J' X) : RG J W P (updB L q) (updV v q x) X :=
  RG.put hs h0 h (Ext.refl h0.inv) hx
def pJ5 (B ab bb : Nat) (a b : Nd) (sI sA sB : Value) : PJ
  | 0, x, _, _ => x = .pointer (some ⟨ab, 0, none⟩)
  | 1, x, _, _ => x = .bool a.leaf
  | 2, x, _, _ => x = .pointer (some ⟨ab, 1, none⟩)
  | 3, x, _, _ => x = sI
  | 4, x, J, X => Own J X B 55 4 x a.items.length (clC a.items)
  | 5, x, _, _ => x = .pointer (some ⟨ab, 2, none⟩)
  | 6, x, _, _ => x = sA
  | 7, x, _, _ => x = .pointer (some ⟨bb, 2, none⟩)
  | 8, x, _, _ => x = sB
  | 9, x, J, _ => KsL J x [a.kids, b.kids]
  | 10, x, J, X => Own J X B 3 1 x (a.kids ++ b.kids).length (kcs (a.kids ++ b.kids))
  | 11, x, J, X => ∃ vi vk, x = .agg #[.bool a.leaf, vi, vk] ∧ Own J X B 55 4 vi a.items.length (clC a.items) ∧ Own J X B 3 1 vk (a.kids ++ b.kids).length (kcs (a.kids ++ b.kids))
  | 12, x, J, X => ∃ n, x = .pointer (some ⟨n, 0, none⟩) ∧ NBox X n false (.slice none 0 0) (.slice none 0 0) ∧ B ≤ n ∧ J n = []
  | _, _, _, _ => True
theorem ndv_open {J : Jm} {l : Bool} {vi vk : Value} {n : Nd} (h : NdV J (.agg #[.bool l, vi, vk]) n) : Cls J vi n.items ∧ Ks J vk n.kids := by
  obtain ⟨ui, uk, h0, h1, h2⟩ := h
  simp only [Value.agg.injEq, Array.mk.injEq, List.cons.injEq] at h0
  obtain ⟨-, rfl, rfl, -⟩ := h0
  exact ⟨h1, h2⟩
theorem KsL.mono' {J J' : Jm} {v : Value} {ls : List (List Int)} (h : KsL J v ls) (hle : J.le J') : KsL J' v ls := h.mono hle
theorem pJ5_stab (B ab bb : Nat) (a b : Nd) (sI sA sB : Value) : ∀ j x J1 X1 J2 X2, Inv J1 X1 → pJ5 B ab bb a b sI sA sB j x J1 X1 → Ext J1 X1 J2 X2 → pJ5 B ab bb a b sI sA sB j x J2 X2 := by
  intro j x J1 X1 J2 X2 hI h hE
  unfold pJ5 at *
  split
  all_goals first | exact h | exact Own.ext h hE | exact KsL.mono h (hE.le hI) | trivial | skip
  · obtain ⟨vi, vk, h0, h1, h2⟩ := h
    exact ⟨vi, vk, h0, h1.ext hE, h2.ext hE⟩
  · obtain ⟨n, h0, h1, h2, h3⟩ := h
    exact ⟨n, h0, h1.ext hE, h2, (hE.old n (Array.getElem?_eq_some_iff.1 h1).1).trans h3⟩
theorem KsL.lit {J : Jm} {g : Nat} {u v : Value} {l k : List Int} (hu : Ks (J.put g [u, v]) u l) (hv : Ks (J.put g [u, v]) v k) : KsL (J.put g [u, v]) (.slice (some ⟨g, 0, none⟩) 2 2) [l, k] :=
  ⟨[u, v], Sl.of_block J (n := 2) (size := 1) rfl (by decide), fun i x hx => by
    match i, hx with
    | 0, hx => cases hx; exact ⟨u, rfl, hu⟩
    | 1, hx => cases hx; exact ⟨v, rfl, hv⟩⟩
theorem fill_put13 {ops : Array Oper} {L : Nat → Bool} {v : Nat → Value} {a : Act} (d0 d1 d2 d3 d4 d5 d6 d7 d8 d9 d10 d11 d12 : Tmp) (hall : ∀ j, j < 13 → L j = true) (h0 : dstOf ops 0 = some d0) (h1 : dstOf ops 1 = some d1) (h2 : dstOf ops 2 = some d2) (h3 : dstOf ops 3 = some d3) (h4 : dstOf ops 4 = some d4) (h5 : dstOf ops 5 = some d5) (h6 : dstOf ops 6 = some d6) (h7 : dstOf ops 7 = some d7) (h8 : dstOf ops 8 = some d8) (h9 : dstOf ops 9 = some d9) (h10 : dstOf ops 10 = some d10) (h11 : dstOf ops 11 = some d11) (h12 : dstOf ops 12 = some d12) :
    fillP ops L v a 13 = ((((((((((((a.put (some d0) (v 0)).put (some d1) (v 1)).put (some d2) (v 2)).put (some d3) (v 3)).put (some d4) (v 4)).put (some d5) (v 5)).put (some d6) (v 6)).put (some d7) (v 7)).put (some d8) (v 8)).put (some d9) (v 9)).put (some d10) (v 10)).put (some d11) (v 11)).put (some d12) (v 12) := by
  rw [← h0, ← h1, ← h2, ← h3, ← h4, ← h5, ← h6, ← h7, ← h8, ← h9, ← h10, ← h11, ← h12, fill_congr (L' := fun _ => true) 13 hall]
  rfl
theorem Jn.start {J J9 : Jm} {w W X : World} {nb : Nat} {l : Bool} {vi vk : Value} {I : List Cl} {K : List Int} (hE : Ext J w J W) (hX : Ext J W J9 X) (hn : NBox X nb false (.slice none 0 0) (.slice none 0 0)) (hj : J9 nb = []) (hlo : W.heap.size ≤ nb)
    (hi : Own J9 X W.heap.size 55 4 vi I.length (clC I)) (hk : Own J9 X W.heap.size 3 1 vk K.length (kcs K)) : Jn J w nb l vi vk I K J9 (put3 X nb (.bool l) vi vk) :=
  ⟨put3_e (hE.trans hX) (Nat.le_trans hE.below.size hlo) hj _ _ _, put3_at hn, hj, put3_own (hi.lower hE.below.size) (own_ne_node hi hn (by decide)), put3_own (hk.lower hE.below.size) (own_ne_node hk hn (by decide)), Nat.le_trans hE.below.size hlo⟩
end Go.Proofs.Ytnnkgjaahmflmaa
