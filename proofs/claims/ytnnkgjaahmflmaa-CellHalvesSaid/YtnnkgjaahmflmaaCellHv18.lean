/- What stands while the halves' law joins. -/
import Derived.Test.YtnnkgjaahmflmaaCellRJoin
import Derived.Test.YtnnkgjaahmflmaaCellRHalf
namespace Go.Proofs.Ytnnkgjaahmflmaa
open Go.RowKit
set_option linter.unusedVariables false

/-- a row of the call's own: what stands in it is not told -/
def Rwk (w : World) (base : Nat) (T : TypeId) (size : Nat) (v : Value) (n : Nat) : Prop := ∃ xs, w.ownsRow base T size v n xs
theorem Own.rwk {J : Jm} {w : World} {base : Nat} {T : TypeId} {size n : Nat} {v : Value} {cs : List Value} (h : Own J w base T size v n cs) : Rwk w base T size v n := ⟨cs, h.1⟩
theorem zeroCells_mem (z : Array Value) (n : Nat) (h : ∀ u ∈ z, u.oneCell' = true) : ∀ u ∈ (Builtin.zeroCells z n).toList, u.oneCell' = true := by
  intro u hu
  unfold Builtin.zeroCells at hu
  simp at hu
  obtain ⟨k, hk, rfl⟩ := hu
  have hz : k % z.size < z.size := Nat.mod_lt _ (by
    rcases Nat.eq_zero_or_pos z.size with e | e
    · rw [e] at hk; simp at hk
    · exact e)
  rw [getElem!_pos z _ hz]
  exact h _ (Array.getElem_mem hz)
theorem run_clear_R {P : Program} {w : World} {t ty T : TypeId} {z : Value} {size bytes base : Nat} (ht : P.underlying t = some (.slice T)) (hinfo : (P.info? T).map (fun i => (i.zero, i.size, i.bytes)) = some (some z, size, bytes)) (hz : z.cells.size = size) (h1 : ∀ u ∈ z.cells, u.oneCell' = true)
    {v : Value} {n : Nat} (hown : Rwk w base T size v n) :
    ∃ w', (Builtin.clear_ #[t] ty #[v]).run P w = .ok (.tuple #[]) w' ∧ Below base w w' ∧ (∀ base' T' size' u m, Rwk w base' T' size' u m → Rwk w' base' T' size' u m) ∧ ∀ k, some k ≠ v.ownBlock → w'.heap[k]? = w.heap[k]? := by
  obtain ⟨i, hi, hiz, hs, hby⟩ := info_parts_J hinfo
  obtain ⟨xs, hl, hv⟩ := hown
  rcases hv with ⟨rfl, rfl⟩ | ⟨g, cap, cur, rfl, hb, hg, hn, hm, hsz, htk⟩
  · refine ⟨w, ?_, Below.refl _ _, fun _ _ _ _ _ h => h, fun _ _ => rfl⟩
    simp [Builtin.clear_, run_underlying ht]
  · by_cases h0 : n = 0
    · subst h0
      refine ⟨w, ?_, Below.refl _ _, fun _ _ _ _ _ h => h, fun _ _ => rfl⟩
      simp [Builtin.clear_, run_underlying ht]
    · have hzl : (Builtin.zeroCells z.cells n).toList.length = n * size := by rw [Array.length_toList, size_zeroCells, hz]
      have hfit : 0 + 0 + (Builtin.zeroCells z.cells n).toList.length ≤ cur.size := by rw [hzl, hsz]; simp only [Nat.zero_add]; exact Nat.mul_le_mul_right _ hn
      have hst := run_storeCells_at P g 0 T (Builtin.zeroCells z.cells n).toList 0 cur w hg hfit (zeroCells_mem _ _ h1)
      have hrow := setRow_heap w g cur (cur.toList.take (0 + 0) ++ (Builtin.zeroCells z.cells n).toList ++ cur.toList.drop (0 + 0 + (Builtin.zeroCells z.cells n).toList.length)).toArray T (0, 0) hg
      have hnew : (cur.toList.take (0 + 0) ++ (Builtin.zeroCells z.cells n).toList ++ cur.toList.drop (0 + 0 + (Builtin.zeroCells z.cells n).toList.length)).toArray.size = cur.size := by
        simp only [List.size_toArray, List.length_append, List.length_take, List.length_drop, Array.length_toList] at hfit ⊢
        omega
      generalize (cur.toList.take (0 + 0) ++ (Builtin.zeroCells z.cells n).toList ++ cur.toList.drop (0 + 0 + (Builtin.zeroCells z.cells n).toList.length)).toArray = nw at *
      refine ⟨w.setRow g nw, ?_, ⟨rfl, rfl, rfl, by simp, fun k hk => setRow_other w g k _ (by omega)⟩, ?_, fun k hk => setRow_other w g k _ (fun e => hk (by simp [Value.ownBlock, e]))⟩
      · obtain ⟨m, rfl⟩ : ∃ m, n = m + 1 := ⟨n - 1, by omega⟩
        have hv : ∀ w, (zeroValue T).run P w = .ok z w := fun w => by simp [zeroValue, typeInfo, hi, hiz]
        simp [Builtin.clear_, run_underlying ht, hv]
        rw [hst]
        simp
      · rintro base' T' size' u m ⟨ys, hyl, hu⟩
        rcases hu with ⟨rfl, rfl⟩ | ⟨g2, cap2, cur2, rfl, hb2, hg2, hn2, hm2, hsz2, htk2⟩
        · exact ⟨ys, hyl, .inl ⟨rfl, rfl⟩⟩
        · by_cases e : g2 = g
          · subst e
            rw [hg] at hg2
            injection hg2 with hg2
            injection hg2 with he1 he2
            subst he1; subst he2
            exact ⟨nw.toList.take (m * size'), by rw [List.length_take, Array.length_toList, hnew, hsz2]; exact Nat.min_eq_left (Nat.mul_le_mul_right _ hn2), .inr ⟨g2, cap2, nw, rfl, hb2, hrow, hn2, hm2, hnew.trans hsz2, rfl⟩⟩
          · exact ⟨ys, hyl, .inr ⟨g2, cap2, cur2, rfl, hb2, (setRow_other w g g2 _ e).trans hg2, hn2, hm2, hsz2, htk2⟩⟩
theorem Rwk.ne_node {w : World} {base : Nat} {T : TypeId} {size n : Nat} {v : Value} (h : Rwk w base T size v n) {b : Nat} {l : Bool} {vi vk : Value} (hb : NBox w b l vi vk) (hne : T ≠ 25) : some b ≠ v.ownBlock := by
  intro e
  obtain ⟨xs, -, hv⟩ := h
  rcases hv with ⟨rfl, _⟩ | ⟨g1, cap1, cur1, rfl, _, hg1, _⟩
  · simp [Value.ownBlock] at e
  · simp [Value.ownBlock] at e
    subst e
    have hb' : w.heap[b]? = _ := hb
    rw [hg1] at hb'
    injection hb' with hb'
    injection hb' with _ ht
    exact hne ht
section
variable {P : Program} {ops : Array Oper} {rest : List Oper} {o : Oper} {a : Act} {Q : Exit → Act → World → Prop} {w : World}
theorem wpList_clear_R (hgd : o.guard = none) {s : Operand} {t T : TypeId} {z : Value} {size bytes base : Nat} (ho : o.op = .call { callee := .builtin .clear, args := #[s], argTypes := #[t] })
    (ht : P.underlying t = some (.slice T)) (hinfo : (P.info? T).map (fun i => (i.zero, i.size, i.bytes)) = some (some z, size, bytes)) (hz : z.cells.size = size) (h1 : ∀ u ∈ z.cells, u.oneCell' = true)
    {v : Value} {n : Nat} (hs : a.eval s = v) (hown : Rwk w base T size v n)
    (h : ∀ w', Below base w w' → (∀ base' T' size' u m, Rwk w base' T' size' u m → Rwk w' base' T' size' u m) → (∀ k, some k ≠ v.ownBlock → w'.heap[k]? = w.heap[k]?) → wpList P ops Q rest (a.put o.dst (.tuple #[])) w') : wpList P ops Q (o :: rest) a w := by
  obtain ⟨w', hr, h2, h3, h4⟩ := run_clear_R (P := P) (ty := o.type) ht hinfo hz h1 hown
  refine wpList_run hgd (v := .tuple #[]) (w' := w') ?_ (h w' h2 h3 h4)
  unfold execOp
  simp only [ho, resolve, invoke, builtin, Sem.run_bind, Sem.run_pure, Result.andThen_ok, List.map_toArray, List.map_cons, List.map_nil, hs, hr]
end

def P18 (B : Nat) (vn vm : Value) (m : Nd) (key : List UInt8) (E : Int) (x : Nd) : PJ
  | 0, u, _, _ => u = vn
  | 1, u, _, _ => u = .string (strB key)
  | 2, u, _, _ => u = vm
  | 3, u, J, _ => NdV J u m
  | 4, u, J, X => ∃ vx, u = .tuple #[vx, .int .i64 E] ∧ NdO J X B vx x
  | 5, u, J, X => ∃ vx, u = .tuple #[vx, .int .i64 E] ∧ NdO J X B vx x
  | 6, u, J, X => NdO J X B u x
  | 7, u, _, _ => u = .int .i64 E
  | 8, u, J, X => ∃ b, u = .pointer (some ⟨b, 0, none⟩) ∧ NBox X b false (.slice none 0 0) (.slice none 0 0) ∧ B ≤ b ∧ J b = []
  | _, _, _, _ => True
theorem P18_stab (B : Nat) (vn vm : Value) (m : Nd) (key : List UInt8) (E : Int) (x : Nd) : Stab (P18 B vn vm m key E x) := by
  intro j u J1 X1 J2 X2 hI h hE
  unfold P18 at *
  split
  all_goals first | exact h | exact NdV.mono h (hE.le hI) | exact NdO.ext h hE | trivial | (obtain ⟨vx, h0, h1⟩ := h; exact ⟨vx, h0, h1.ext hE⟩) | skip
  · obtain ⟨n, h0, h1, h2, h3⟩ := h
    exact ⟨n, h0, h1.ext hE, h2, (hE.old n (Array.getElem?_eq_some_iff.1 h1).1).trans h3⟩
/-- reads and calls, and a store of the sixth yield into the eighth, behind which one more read may stand -/
def RGS (J : Jm) (W : World) (P : PJ) (L : Nat → Bool) (v : Nat → Value) (X : World) : Prop := ∃ J' X0, Ext J W J' X0 ∧ (∀ j, L j = true → P j (v j) J' X0) ∧ (L 9 = false → X = X0) ∧
  (L 9 = true → (∀ j, j < 9 → j ≠ 7 → L j = true) ∧ ∃ b l vi vk, v 8 = .pointer (some ⟨b, 0, none⟩) ∧ v 6 = .agg #[.bool l, vi, vk] ∧ X = put3 X0 b (.bool l) vi vk)
theorem RGS.start {J : Jm} {W : World} {P : PJ} {v : Nat → Value} (hI : Inv J W) : RGS J W P (fun _ => false) v W.drew := ⟨J, _, (Ext.refl hI).drew, fun _ h => (by cases h), fun _ => rfl, fun h => (by cases h)⟩
theorem RGS.put {J J' J5 : Jm} {W X X5 : World} {P : PJ} {L : Nat → Bool} {v : Nat → Value} (hs : Stab P) (h0 : Ext J W J' X) (h : ∀ j, L j = true → P j (v j) J' X) (h9 : L 9 = false) {q : Nat} (hq : q ≠ 9) {x : Value} (hE : Ext J' X J5 X5) (hx : P q x J5 X5) : RGS J W P (updB L q) (updV v q x) X5 := by
  refine ⟨J5, X5, h0.trans hE, fun j hL => ?_, fun _ => rfl, fun e => by rw [updB_ne hq.symm, h9] at e; cases e⟩
  by_cases hj : j = q
  · subst hj
    rw [updV_at]; exact hx
  · rw [updB_ne hj] at hL
    rw [updV_ne hj]
    exact hs _ _ _ _ _ _ h0.inv (h j hL) hE
theorem RGS.pure {J : Jm} {W X : World} {P : PJ} {L : Nat → Bool} {v : Nat → Value} (h : RGS J W P L v X) {q : Nat} (hL : L q = false) (hq : q ≠ 9) {x : Value} (hx : ∀ J' X', P q x J' X') : RGS J W P (updB L q) (updV v q x) X := by
  obtain ⟨J', X0, h1, h2, h3, h4⟩ := h
  refine ⟨J', X0, h1, fun j hL => ?_, fun e => h3 (by rwa [updB_ne hq.symm] at e), fun e => ?_⟩
  · by_cases hj : j = q
    · subst hj
      rw [updV_at]; exact hx _ _
    · rw [updB_ne hj] at hL
      rw [updV_ne hj]
      exact h2 j hL
  · rw [updB_ne hq.symm] at e
    obtain ⟨ha, b, l, vi, vk, e8, e6, hX⟩ := h4 e
    have n8 : 8 ≠ q := fun e => by have := ha 8 (by decide) (by decide); rw [e] at this; rw [this] at hL; cases hL
    have n6 : 6 ≠ q := fun e => by have := ha 6 (by decide) (by decide); rw [e] at this; rw [this] at hL; cases hL
    refine ⟨fun j hj h7 => ?_, b, l, vi, vk, by rw [updV_ne n8]; exact e8, by rw [updV_ne n6]; exact e6, hX⟩
    unfold updB
    split
    · rfl
    · exact ha j hj h7
theorem RGS.nine {J : Jm} {W X : World} {P : PJ} {L : Nat → Bool} {v : Nat → Value} (h : RGS J W P L v X) {q : Nat} (hL : L q = false) (hq : q < 9) (h7 : q ≠ 7) : ∃ J', Ext J W J' X ∧ (∀ j, L j = true → P j (v j) J' X) ∧ L 9 = false := by
  obtain ⟨J', X0, h1, h2, h3, h4⟩ := h
  have h9 : L 9 = false := by
    cases e : L 9 with
    | false => rfl
    | true => have := (h4 e).1 q hq h7; rw [hL] at this; cases this
  cases h3 h9
  exact ⟨J', h1, h2, h9⟩
theorem RGS.at9 {J : Jm} {W X : World} {P : PJ} {L : Nat → Bool} {v : Nat → Value} (h : RGS J W P L v X) (hL : L 9 = false) : ∃ J', Ext J W J' X ∧ (∀ j, L j = true → P j (v j) J' X) := by
  obtain ⟨J', X0, h1, h2, h3, -⟩ := h
  cases h3 hL
  exact ⟨J', h1, h2⟩
theorem ndo_lower {J : Jm} {w : World} {B B' : Nat} {v : Value} {n : Nd} (h : NdO J w B v n) (hb : B' ≤ B) : NdO J w B' v n := by
  obtain ⟨vi, vk, h0, h1, h2⟩ := h
  exact ⟨vi, vk, h0, h1.lower hb, h2.lower hb⟩
theorem ndo_open {J : Jm} {w : World} {B : Nat} {l : Bool} {vi vk : Value} {n : Nd} (h : NdO J w B (.agg #[.bool l, vi, vk]) n) : Own J w B 55 4 vi n.items.length (clC n.items) ∧ Own J w B 3 1 vk n.kids.length (kcs n.kids) := by
  obtain ⟨ui, uk, h0, h1, h2⟩ := h
  simp only [Value.agg.injEq, Array.mk.injEq, List.cons.injEq] at h0
  obtain ⟨-, rfl, rfl, -⟩ := h0
  exact ⟨h1, h2⟩
theorem zcell_one : ∀ u ∈ (Value.agg #[.string ByteArray.empty, .string ByteArray.empty, .int .i64 0, .int .i64 0]).cells, u.oneCell' = true := by
  intro u hu
  simp [Value.cells] at hu
  rcases hu with rfl | rfl <;> rfl
theorem zint_one : ∀ u ∈ (Value.int .i64 0).cells, u.oneCell' = true := by
  intro u hu
  simp [Value.cells] at hu
  subst hu
  rfl
theorem RGS.store {J J' : Jm} {W X : World} {P : PJ} {L : Nat → Bool} {v : Nat → Value} (h0 : Ext J W J' X) (h : ∀ j, L j = true → P j (v j) J' X) (ha : ∀ j, j < 9 → j ≠ 7 → L j = true) (hp : ∀ x J' X', P 9 x J' X') {b : Nat} {l : Bool} {vi vk x : Value} (e8 : v 8 = .pointer (some ⟨b, 0, none⟩)) (e6 : v 6 = .agg #[.bool l, vi, vk]) :
    RGS J W P (updB L 9) (updV v 9 x) (put3 X b (.bool l) vi vk) := by
  refine ⟨J', X, h0, fun j hL => ?_, (fun e => by rw [updB_at] at e; cases e), fun _ => ⟨fun j hj h7 => by rw [updB_ne (by omega)]; exact ha j hj h7, b, l, vi, vk, by rw [updV_ne (by decide)]; exact e8, by rw [updV_ne (by decide)]; exact e6, rfl⟩⟩
  by_cases hj : j = 9
  · subst hj; exact hp _ _ _
  · rw [updB_ne hj] at hL
    rw [updV_ne hj]
    exact h j hL
theorem fill_put10 {ops : Array Oper} {L : Nat → Bool} {v : Nat → Value} {a : Act} (d0 d1 d2 d3 d4 d5 d6 d7 d8 d9 : Option Tmp) (hall : ∀ j, j < 10 → L j = true) (h0 : dstOf ops 0 = d0) (h1 : dstOf ops 1 = d1) (h2 : dstOf ops 2 = d2) (h3 : dstOf ops 3 = d3) (h4 : dstOf ops 4 = d4) (h5 : dstOf ops 5 = d5) (h6 : dstOf ops 6 = d6) (h7 : dstOf ops 7 = d7) (h8 : dstOf ops 8 = d8) (h9 : dstOf ops 9 = d9) :
    fillP ops L v a 10 = (((((((((a.put d0 (v 0)).put d1 (v 1)).put d2 (v 2)).put d3 (v 3)).put d4 (v 4)).put d5 (v 5)).put d6 (v 6)).put d7 (v 7)).put d8 (v 8)).put d9 (v 9) := by
  rw [← h0, ← h1, ← h2, ← h3, ← h4, ← h5, ← h6, ← h7, ← h8, ← h9, fill_congr (L' := fun _ => true) 10 hall]
  rfl
theorem hE_bad {n : Nd} (h : right n = false) : hE n = 2 ∧ hA n = zN ∧ hB n = zN ∧ hK n = [] := by
  have h1 : ¬ hOk n := fun e => by have := e.1; rw [h] at this; cases this
  unfold hE hA hB hK
  rw [if_neg (by rw [h]; decide), if_neg h1, if_neg h1, if_neg h1]
  exact ⟨rfl, rfl, rfl, rfl⟩
theorem hE_ok {n : Nd} (h : hOk n) : hE n = 0 := by unfold hE; rw [if_pos h.1, if_neg h.2]
theorem hE_none {n : Nd} (hr : right n = true) (h : ¬ hOk n) : hE n = 4 := by
  unfold hE
  rw [if_pos hr, if_pos]
  by_cases h0 : halfAt n = 0
  · exact h0
  · exact absurd ⟨hr, h0⟩ h
end Go.Proofs.Ytnnkgjaahmflmaa
