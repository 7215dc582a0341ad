/- The walk of CellKnown. -/
import Derived.Test.YtnnkgjaahmflmaaCellKnownP
import Derived.Test.YtnnkgjaahmflmaaCellRHalf
import Derived.Test.YtnnkgjaahmflmaaCellJoin5
import Derived.Test.YtnnkgjaahmflmaaPool
namespace Go.Proofs.Ytnnkgjaahmflmaa
open Go.RowKit
set_option linter.unusedVariables false
def poolGB (ops : Array Oper) (n : Nat) : Bool :=
  decide (n ≤ ops.size) &&
  (List.range n).all (fun i => match ops[i]? with
    | some o => o.after.all (fun e => !Region.binds .any e || decide (e.on < i)) && (List.range i).all (fun j => decide (dstOf ops j ≠ o.dst))
    | none => false) &&
  (List.range ops.size).all (fun j => decide (j < n) || (List.range n).all (fun i => Region.waitsFor .any ops j i)) &&
  Region.seqB .any ops (ops.size - n) n ((List.replicate n true ++ List.replicate (ops.size - n) false).toArray)
theorem wanted_none {o : Oper} {f : Nat → Option Bool} (h : o.guard = none) : Region.wanted o f = true := by unfold Region.wanted; rw [h]
theorem wanted_some {ops : Array Oper} {o : Oper} {F : Act} {g t : Nat} {b : Bool} (h : o.guard = some (g, b)) (hd : dstOf ops g = some t) (hv : F.tmps.getD t undef = .bool b) : Region.wanted o (yielded ops F.tmps) = true := by
  unfold Region.wanted
  rw [h]
  simp only
  unfold yielded
  unfold dstOf at hd
  rw [show (ops[g]?.bind fun x => x.dst) = some t from hd]
  rw [Array.getD_eq_getD_getElem?] at hv
  by_cases hs : t < F.tmps.size
  · rw [Array.getElem?_eq_getElem hs] at hv
    simp only [Option.getD_some] at hv
    simp [Array.getElem?_eq_getElem hs, hv]
  · rw [Array.getElem?_eq_none (by omega)] at hv
    simp [undef] at hv
section
variable {P : Program} {ops : Array Oper} {Q : Exit → Act → World → Prop} {n : Nat} {a0 : Act} {I : (Nat → Bool) → (Nat → Value) → World → Prop}
theorem pool_anyG (hp : poolGB ops n = true)
    (step : ∀ i o, i < n → ops[i]? = some o → ∀ L v w, I L v w → L i = false → (∀ e ∈ o.after, Region.binds .any e = true → L e.on = true) →
      Region.wanted o (yielded ops (fillP ops L v a0 n).tmps) = true ∧ o.wp P (fillP ops L v a0 n) w (fun a' w' => ∃ x, a' = (fillP ops L v a0 n).put o.dst x ∧ I (updB L i) (updV v i x) w') Q)
    (tail : ∀ L v w, (∀ j, j < n → L j = true) → I L v w → wpList P ops Q (ops.toList.drop n) (fillP ops L v a0 n) w) :
    ∀ (m : Nat) (listed : Array Bool) (v : Nat → Value) (w : World), listed.size = ops.size → cntF listed n = m → (∀ j, n ≤ j → listed.getD j false = false) → I (fun j => listed.getD j false) v w →
      wpAny P .any ops Q (m + (ops.size - n)) listed (fillP ops (fun j => listed.getD j false) v a0 n) w := by
  simp only [poolGB, Bool.and_eq_true, decide_eq_true_eq] at hp
  obtain ⟨⟨⟨hn, hpo⟩, hta⟩, hseq⟩ := hp
  have hop : ∀ i, i < n → ∃ o, ops[i]? = some o ∧ (∀ e ∈ o.after, Region.binds .any e = true → e.on < i) ∧ ∀ j, j < i → dstOf ops j ≠ dstOf ops i := by
    intro i hi
    have h := List.all_eq_true.1 hpo i (List.mem_range.2 hi)
    cases ho : ops[i]? with
    | none => rw [ho] at h; cases h
    | some o =>
      rw [ho] at h
      simp only [Bool.and_eq_true] at h
      refine ⟨o, rfl, fun e he hb => ?_, fun j hj => ?_⟩
      · have := Array.all_eq_true_iff_forall_mem.1 h.1 e he
        simpa [hb] using this
      · have := List.all_eq_true.1 h.2 j (List.mem_range.2 hj)
        simp only [decide_eq_true_eq] at this
        unfold dstOf at this ⊢
        rw [ho]
        exact this
  have hdist : ∀ i j, i < n → j < n → j ≠ i → dstOf ops j ≠ dstOf ops i := fun i j hi hj hne => by
    rcases Nat.lt_or_ge j i with h | h
    · obtain ⟨_, _, _, hd⟩ := hop i hi; exact hd j h
    · obtain ⟨_, _, _, hd⟩ := hop j hj; exact fun e => hd i (by omega) e.symm
  have hgd : ∀ (l : Array Bool) (j : Nat), j < l.size → l.getD j true = l.getD j false := fun l j hj => by simp [Array.getD, hj]
  intro m
  induction m with
  | zero =>
    intro listed v w hsz hc hz hI
    have hall : ∀ j, j < n → listed.getD j false = true := fun j hj => by
      unfold cntF at hc
      have := List.eq_nil_of_length_eq_zero hc
      have h2 := List.filter_eq_nil_iff.1 this j (List.mem_range.2 hj)
      cases hb : listed.getD j false with
      | true => rfl
      | false => rw [hb] at h2; exact absurd rfl h2
    have hl : listed = (List.replicate n true ++ List.replicate (ops.size - n) false).toArray := by
      apply Array.ext
      · simp; omega
      · intro j h1 h2
        have e1 : listed[j] = listed.getD j false := by simp [Array.getD, h1]
        rw [e1]
        simp only [List.getElem_toArray]
        by_cases hj : j < n
        · rw [hall j hj, List.getElem_append_left (by simpa using hj)]; simp
        · rw [hz j (by omega), List.getElem_append_right (by simpa using hj)]; simp
    have hlen : (ops.toList.drop n).length = ops.size - n := by simp
    rw [Nat.zero_add, ← hlen]
    refine wpAny_of_seq (ops.toList.drop n) n listed _ w (fun j => by simp [List.getElem?_drop]) (by rw [hlen, hl]; exact hseq) (tail _ v w hall hI)
  | succ m ih =>
    intro listed v w hsz hc hz hI
    have hne : ∃ j, j < n ∧ listed.getD j false = false := by
      have h1 : ((List.range n).filter fun j => listed.getD j false == false) ≠ [] := fun e => by unfold cntF at hc; rw [e] at hc; cases hc
      obtain ⟨j, hj⟩ := List.exists_mem_of_ne_nil _ h1
      rw [List.mem_filter, List.mem_range] at hj
      exact ⟨j, hj.1, by simpa using hj.2⟩
    have hleast : ∃ j, j < n ∧ listed.getD j false = false ∧ ∀ i, i < j → listed.getD i false = true := by
      obtain ⟨j, hj, hjf⟩ := hne
      induction j using Nat.strongRecOn with
      | _ j ihj =>
        by_cases h : ∃ i, i < j ∧ listed.getD i false = false
        · obtain ⟨i, hi, hif⟩ := h
          exact ihj i hi (by omega) hif
        · refine ⟨j, hj, hjf, fun i hi => ?_⟩
          cases hb : listed.getD i false with
          | true => rfl
          | false => exact absurd ⟨i, hi, hb⟩ h
    rw [show m + 1 + (ops.size - n) = (m + (ops.size - n)) + 1 by omega]
    refine ⟨fun hr => ?_, fun j hj => ?_⟩
    · obtain ⟨j, hjn, hjf, hlow⟩ := hleast
      obtain ⟨o, ho, haf, -⟩ := hop j hjn
      have : j ∈ Region.ready .any ops listed := mem_ready.2 ⟨by rw [hgd _ _ (by omega)]; exact hjf, o, ho, fun e he hb => hlow _ (haf e he hb)⟩
      rw [hr] at this; cases this
    · obtain ⟨hun, o, ho, hall⟩ := mem_ready.1 hj
      have hjs : j < ops.size := by
        rcases Nat.lt_or_ge j ops.size with h | h
        · exact h
        · rw [Array.getElem?_eq_none h] at ho; cases ho
      have hun' : listed.getD j false = false := by rw [← hgd _ _ (by omega)]; exact hun
      have hjn : j < n := by
        rcases Nat.lt_or_ge j n with h | h
        · exact h
        · exfalso
          obtain ⟨i, hi, hif⟩ := hne
          have h1 := List.all_eq_true.1 hta j (List.mem_range.2 hjs)
          simp only [Bool.or_eq_true, decide_eq_true_eq] at h1
          have h2 := List.all_eq_true.1 (h1.resolve_left (by omega)) i (List.mem_range.2 hi)
          obtain ⟨oj, hoj, e, he, hb, hon⟩ := Region.waitsFor_spec h2
          rw [ho] at hoj
          cases hoj
          have := hall e he hb
          rw [hon, hif] at this
          cases this
      have hs := step j o hjn ho (fun j => listed.getD j false) v w hI hun' (fun e he hb => hall e he hb)
      refine wpOp_mono (fun a' w' h => ?_) (show wpOp P ops Q j (fun a' w' => ∃ x, a' = (fillP ops (fun j => listed.getD j false) v a0 n).put o.dst x ∧ I (updB (fun j => listed.getD j false) j) (updV v j x) w') _ w from by
        unfold wpOp
        rw [ho]
        simp only
        rw [if_pos hs.1]
        exact .inl hs.2)
      obtain ⟨x, rfl, hI'⟩ := h
      have hL : (fun i => (listed.setIfInBounds j true).getD i false) = updB (fun j => listed.getD j false) j := by
        funext i
        unfold updB
        by_cases hij : i = j
        · subst hij
          rw [if_pos rfl]
          simp [Array.getD_eq_getD_getElem?, show i < listed.size by omega]
        · rw [if_neg hij]
          simp [Array.getD_eq_getD_getElem?, Array.getElem?_setIfInBounds_ne (Ne.symm hij)]
      have hdst : o.dst = dstOf ops j := by unfold dstOf; rw [ho]; rfl
      have hf := fill_upd (ops := ops) (v := v) (a := a0) (x := x) (L := fun j => listed.getD j false) (i := j) hun' n (fun i hi hne => hdist j i hjn hi hne)
      rw [if_pos hjn] at hf
      have := ih (listed.setIfInBounds j true) (updV v j x) w' (by simpa using hsz) (cnt_set hc hjn hun' (by omega)) (fun i hi => by
        simp [Array.getD_eq_getD_getElem?, Array.getElem?_setIfInBounds_ne (show j ≠ i by omega)]
        have := hz i hi
        simpa [Array.getD_eq_getD_getElem?] using this) (by rw [hL]; exact hI')
      rw [hL, hf, ← hdst] at this
      exact this
end
section
variable {P : Program} {Q : Exit → Act → World → Prop} {a0 : Act} {w0 : World} {l : List Oper}
theorem wp_region_poolG {id : Nat} (n : Nat) (I : (Nat → Bool) → (Nat → Value) → World → Prop) (hm : P.follows .mixedOrders = true) (hp : poolGB l.toArray n = true) (v0 : Nat → Value) (hI : I (fun _ => false) v0 w0.drew)
    (step : ∀ i o, i < n → l[i]? = some o → ∀ L v w, I L v w → L i = false → (∀ e ∈ o.after, Region.binds .any e = true → L e.on = true) →
      Region.wanted o (yielded l.toArray (fillP l.toArray L v a0 n).tmps) = true ∧ o.wp P (fillP l.toArray L v a0 n) w (fun a' w' => ∃ x, a' = (fillP l.toArray L v a0 n).put o.dst x ∧ I (updB L i) (updV v i x) w') Q)
    (tail : ∀ L v w, (∀ j, j < n → L j = true) → I L v w → wpList P l.toArray Q (l.drop n) (fillP l.toArray L v a0 n) w) : (Code.region id l.toArray true).wp P Q a0 w0 := by
  have hrep : ∀ j, (Array.replicate l.toArray.size false).getD j false = false := fun j => by
    simp only [Array.getD_eq_getD_getElem?, Array.getElem?_replicate]
    split <;> rfl
  have hfun : (fun j => (Array.replicate l.toArray.size false).getD j false) = fun _ => false := funext hrep
  have hfill : ∀ k, fillP l.toArray (fun _ => false) v0 a0 k = a0 := by
    intro k
    induction k with
    | zero => rfl
    | succ k ih => unfold fillP; rw [if_neg (by decide), ih]
  have hnl : n ≤ l.toArray.size := by
    simp only [poolGB, Bool.and_eq_true, decide_eq_true_eq] at hp
    exact hp.1.1.1
  refine wp_region_any hm ?_
  have h := pool_anyG (n := n) (a0 := a0) (I := I) hp (fun i o hi ho => step i o hi (by simpa using ho)) (fun L v w h1 h2 => tail L v w h1 h2) n (Array.replicate l.toArray.size false) v0 w0.drew (by simp) (by
    unfold cntF
    rw [List.filter_eq_self.2 (fun j _ => by rw [hrep]; rfl), List.length_range]) (fun j _ => hrep j) (by rw [hfun]; exact hI)
  rw [hfun, hfill, show n + (l.toArray.size - n) = l.toArray.size by omega] at h
  exact h
theorem wp_region_poolG2 {id : Nat} (n : Nat) (I : (Nat → Bool) → (Nat → Value) → World → Prop) (hm : P.follows .mixedOrders = true) (hp : poolGB l.toArray n = true) (v0 : Nat → Value) (hI : I (fun _ => false) v0 w0.drew)
    (step : ∀ i o, i < n → l[i]? = some o → ∀ L v w (F : Act), I L v w → L i = false → (∀ j, waitB l i j = true → L j = true) →
      (∀ d, outB l n d = true → F.tmps.getD d undef = a0.tmps.getD d undef) → (∀ j d, depB l n j d a0.tmps.size = true → L j = true → F.tmps.getD d undef = v j) →
      Region.wanted o (yielded l.toArray F.tmps) = true ∧ o.wp P F w (fun a' w' => ∃ x, a' = F.put o.dst x ∧ I (updB L i) (updV v i x) w') Q)
    (tail : ∀ L v w (F : Act), (∀ j, j < n → L j = true) → I L v w → F = fillP l.toArray L v a0 n → F.defers = a0.defers → (∀ d, outB l n d = true → F.tmps.getD d undef = a0.tmps.getD d undef) → (∀ j d, depB l n j d a0.tmps.size = true → F.tmps.getD d undef = v j) → wpList P l.toArray Q (l.drop n) F w) : (Code.region id l.toArray true).wp P Q a0 w0 := by
  refine wp_region_poolG n I hm hp v0 hI (fun i o hi ho L v w h1 h2 h3 => step i o hi ho L v w _ h1 h2 (fun j hj => ?_) (fun d hd => ?_) (fun j d hd hL => ?_)) (fun L v w h1 h2 => tail L v w _ h1 h2 rfl (fill_defers n) (fun d hd => fill_out n fun j hj => of_decide_eq_true (List.all_eq_true.1 hd j (List.mem_range.2 hj))) (fun j d hd => by
    simp only [depB, Bool.and_eq_true, decide_eq_true_eq] at hd
    refine fill_dep (h1 j hd.1.1.1) hd.1.1.2 hd.1.2 n hd.1.1.1 fun k hk hkj => ?_
    have := List.all_eq_true.1 hd.2 k (List.mem_range.2 hk)
    simp only [Bool.or_eq_true, decide_eq_true_eq] at this
    exact this.resolve_left hkj))
  · obtain ⟨oj, hoj, e, he, hb, hon⟩ := Region.waitsFor_spec hj
    have : o = oj := by
      have h : l.toArray[i]? = some o := by simpa using ho
      rw [h] at hoj
      exact Option.some.inj hoj
    subst this
    rw [← hon]
    exact h3 e he hb
  · refine fill_out n fun j hj => ?_
    have := List.all_eq_true.1 hd j (List.mem_range.2 hj)
    exact of_decide_eq_true this
  · simp only [depB, Bool.and_eq_true, decide_eq_true_eq] at hd
    refine fill_dep hL hd.1.1.2 hd.1.2 n hd.1.1.1 fun k hk hkj => ?_
    have := List.all_eq_true.1 hd.2 k (List.mem_range.2 hk)
    simp only [Bool.or_eq_true, decide_eq_true_eq] at this
    exact this.resolve_left hkj
end
theorem inner_lit {J : Jm} {w : World} (hI : Inv J w) : ∃ J1, Ext J w J1 (((w.alloc (.cells #[.string ⟨#[98]⟩, .string ⟨#[]⟩, .int .i64 0, .int .i64 0] 55)).alloc (.cells #[.int .i64 5, .int .i64 7] 3)).alloc (.cells #[.bool false, .slice (some ⟨w.heap.size, 0, none⟩) 1 1, .slice (some ⟨w.heap.size + 1, 0, none⟩) 2 2] 25)) ∧
    NBox (((w.alloc (.cells #[.string ⟨#[98]⟩, .string ⟨#[]⟩, .int .i64 0, .int .i64 0] 55)).alloc (.cells #[.int .i64 5, .int .i64 7] 3)).alloc (.cells #[.bool false, .slice (some ⟨w.heap.size, 0, none⟩) 1 1, .slice (some ⟨w.heap.size + 1, 0, none⟩) 2 2] 25)) (w.heap.size + 1 + 1) false (.slice (some ⟨w.heap.size, 0, none⟩) 1 1) (.slice (some ⟨w.heap.size + 1, 0, none⟩) 2 2) ∧
    NdV J1 (.agg #[.bool false, .slice (some ⟨w.heap.size, 0, none⟩) 1 1, .slice (some ⟨w.heap.size + 1, 0, none⟩) 2 2]) wN := by
  have hA := ((Ext.refl hI).litV 55 (clC wN.items)).litV 3 (kcs wN.kids)
  have hB := hA.alloc (.cells #[.bool false, .slice (some ⟨w.heap.size, 0, none⟩) 1 1, .slice (some ⟨w.heap.size + 1, 0, none⟩) 2 2] 25)
  have hs1 : (w.alloc (.cells (clC wN.items).toArray 55)).heap.size = w.heap.size + 1 := by simp
  have hs2 : ((w.alloc (.cells (clC wN.items).toArray 55)).alloc (.cells (kcs wN.kids).toArray 3)).heap.size = w.heap.size + 1 + 1 := by simp
  have hN := heap_alloc_new ((w.alloc (.cells (clC wN.items).toArray 55)).alloc (.cells (kcs wN.kids).toArray 3)) (.cells #[.bool false, .slice (some ⟨w.heap.size, 0, none⟩) 1 1, .slice (some ⟨w.heap.size + 1, 0, none⟩) 2 2] 25)
  rw [hs2] at hN
  rw [hs1] at hA hB
  have hV : NdV ((J.put w.heap.size (clC wN.items)).put (w.heap.size + 1) (kcs wN.kids)) (.agg #[.bool false, .slice (some ⟨w.heap.size, 0, none⟩) 1 1, .slice (some ⟨w.heap.size + 1, 0, none⟩) 2 2]) wN :=
    ⟨_, _, rfl, (sl_lit rfl (by decide)).mono (Jm.le_put (by rw [Jm.put_other _ _ _ (by omega), hI.nil (by omega)]; exact List.nil_prefix)), sl_lit rfl (by decide)⟩
  exact ⟨_, hB, hN, hV⟩
theorem strs_lit {J : Jm} {w : World} (hI : Inv J w) (ks : List (List UInt8)) (hl : ks.length ≤ maxLen) : Ext J w (J.put w.heap.size (strsV ks)) (w.alloc (.cells (strsV ks).toArray 9)) ∧ Sl (J.put w.heap.size (strsV ks)) 1 (.slice (some ⟨w.heap.size, 0, none⟩) ks.length ks.length) ks.length (strsV ks) :=
  ⟨(Ext.refl hI).litV _ _, sl_lit (by simp [strsV]) hl⟩
--pk
def PK (vA vB vN : Value) : PJ
  | 0, x, J, _ => NdV J x (leafN [])
  | 1, x, _, _ => x = .int .i64 2
  | 2, x, _, _ => x = .bool true
  | 3, x, _, _ => x = .bool true
  | 4, x, _, _ => x = .agg #[.string ⟨#[97]⟩, .string ⟨#[120, 121]⟩, .int .i64 0, .int .i64 0]
  | 5, x, J, _ => Sl J 4 x 1 (clC kN.items)
  | 6, x, J, _ => NdV J x kN
  | 7, x, _, _ => x = .int .i64 7
  | 8, x, _, _ => x = .bool true
  | 9, x, _, _ => x = .bool true
  | 10, x, _, _ => x = .bool true
  | 11, x, _, _ => x = .agg #[.bool false, .slice none 0 0, .slice none 0 0]
  | 12, x, _, _ => x = .int .i64 2
  | 13, x, _, _ => x = .bool true
  | 14, x, _, _ => x = .bool true
  | 15, x, _, _ => x = .bool true
  | 16, x, _, _ => x = .agg #[.bool false, .slice none 0 0, .slice none 0 0]
  | 17, x, _, _ => x = .int .i64 0
  | 18, x, _, _ => x = .bool true
  | 19, x, _, _ => x = .bool true
  | 20, x, _, _ => x = .bool true
  | 21, x, _, _ => x = .int .i64 7
  | 22, x, _, _ => x = .bool true
  | 23, x, _, _ => x = .bool true
  | 24, x, _, _ => x = .bool true
  | 25, x, _, _ => x = .int .i64 7
  | 26, x, _, _ => x = .bool true
  | 27, x, _, _ => x = .bool true
  | 28, x, _, _ => x = .bool true
  | 29, x, _, _ => x = .int .i64 1
  | 30, x, _, _ => x = .bool true
  | 31, x, _, _ => x = .bool true
  | 32, x, _, _ => x = .bool true
  | 33, x, _, _ => x = .bool false
  | 34, x, _, _ => x = .bool true
  | 35, x, _, _ => x = .bool true
  | 36, x, _, _ => x = .bool true
  | 37, x, _, _ => x = .int .i64 1
  | 38, x, _, _ => x = .bool true
  | 39, x, _, _ => x = .bool true
  | 40, x, _, _ => x = .bool true
  | 41, x, _, _ => x = .bool true
  | 42, x, _, _ => x = .bool true
  | 43, x, _, _ => x = .bool true
  | 44, x, _, _ => x = .int .i64 0
  | 45, x, _, _ => x = .bool true
  | 46, x, _, _ => x = .bool true
  | 47, x, _, _ => x = .bool true
  | 48, x, _, _ => x = .bool false
  | 49, x, _, _ => x = .bool true
  | 50, x, _, _ => x = .bool true
  | 51, x, _, _ => x = .bool true
  | 52, x, _, _ => x = .int .i64 0
  | 53, x, _, _ => x = .bool true
  | 54, x, _, _ => x = .bool true
  | 55, x, _, _ => x = .bool true
  | 56, x, _, _ => x = vA
  | 57, x, J, _ => Sl J 1 x 1 (strsV [[97]])
  | 58, x, J, _ => NdV J x (leafN [[97]])
  | 59, x, _, _ => x = .bool true
  | 60, x, _, _ => x = .bool true
  | 61, x, _, _ => x = .bool true
  | 62, x, _, _ => x = .string (strB [98])
  | 63, x, _, _ => x = .bool true
  | 64, x, _, _ => x = .bool true
  | 65, x, _, _ => x = .bool true
  | 66, x, _, _ => x = vB
  | 67, x, J, _ => Sl J 1 x 2 (strsV [[98], [99]])
  | 68, x, J, _ => NdV J x (leafN [[98], [99]])
  | 69, x, _, _ => x = .bool true
  | 70, x, _, _ => x = .bool true
  | 71, x, _, _ => x = .bool true
  | 72, x, _, _ => x = .int .i64 4
  | 73, x, _, _ => x = .bool true
  | 74, x, _, _ => x = .bool true
  | 75, x, _, _ => x = .bool true
  | 76, x, _, _ => x = .int .i64 0
  | 77, x, _, _ => x = .bool true
  | 78, x, _, _ => x = .bool true
  | 79, x, _, _ => x = .bool true
  | 80, x, _, _ => x = vN
  | 81, x, J, _ => Sl J 1 x 3 (strsV [[97], [98], [99]])
  | 82, x, J, _ => NdV J x (leafN [[97], [98], [99]])
  | 83, x, _, _ => x = .bool true
  | 84, x, _, _ => x = .bool true
  | 85, x, _, _ => x = .bool true
  | 86, x, _, _ => x = .int .i64 2
  | 87, x, _, _ => x = .bool true
  | 88, x, _, _ => x = .bool true
  | _, _, _, _ => True
theorem PK_stab (vA vB vN : Value) : Stab (PK vA vB vN) := by
  intro j x J1 X1 J2 X2 hI h hE
  unfold PK at *
  split
  all_goals first | exact h | exact NdV.mono h (hE.le hI) | exact Sl.mono h (hE.le hI) | trivial
--kp
set_option maxRecDepth 100000 in
set_option maxHeartbeats 8000000 in
theorem cellKnown_walk {J : Jm} {w : World} (hI : Inv J w) : Calls Try.prog 8 #[] w fun e w' => e = .returned (.bool true) ∧ Below w.heap.size w w' := by
  go_enter Try.func8, Try.ntmps8
  go_wp2_with fail
  refine (works_calls hI).mono ?_
  rintro e w1 ⟨rfl, hb1⟩
  have HE := Lib.hid (Ext.of_below hI hb1)
  clear hb1
  go_upto_region 4 with fail
  obtain ⟨J1, hX, hNB, hNV⟩ := inner_lit HE.out.inv
  have HE := Lib.hid (HE.out.trans hX)
  have HN := Lib.hid hNB
  have HV := Lib.hid hNV
  clear hX hNB hNV
  generalize World.alloc (World.alloc (World.alloc w1 _) _) _ = W at *
  generalize w1.heap.size + 1 + 1 = nb at *
  generalize hg1 : w1.heap.size + 1 = b1 at *
  generalize hg0 : w1.heap.size = b0 at HE HN HV ⊢
  clear hg1 hg0
  have hmk := run_make_J (P := Try.prog) (t := 30) Try.underlying30 info_u8 240 240 rfl (by omega) (by omega)
  rw [Nat.mul_one] at hmk
  simp only [madeCells_u8] at hmk
  obtain ⟨zs, hzs⟩ : ∃ zs, zs = bcs (List.replicate 240 0) := ⟨_, rfl⟩
  rw [← hzs] at hmk
  have HZS := Lib.hid hzs
  clear hzs
  go_wp2_with fail
  have hX := (Ext.refl HE.out.inv).litV 5 zs
  have hBs : Bs (J1.put W.heap.size zs) (.slice (some ⟨W.heap.size, 0, none⟩) 240 240) (List.replicate 240 0) := by
    have h := sl_lit (J := J1) (b := W.heap.size) (size := 1) (n := 240) (cs := bcs (List.replicate 240 0)) (by simp) (by decide)
    rw [← HZS.out] at h
    show Sl _ 1 _ (List.replicate 240 0).length (bcs (List.replicate 240 0))
    rw [← HZS.out, List.length_replicate]
    exact h
  refine (Get_calls hX.inv hBs (by rw [List.length_replicate]; decide)).mono ?_
  rintro e w2 ⟨vn, J2, rfl, hX2, hN2⟩
  rw [kn_get240]
  generalize gN (List.replicate 240 0) = GN at hN2
  obtain ⟨G1, g1, G2, g2, rfl, -⟩ := hN2.v.form
  have hX := hX.trans hX2
  have HN := Lib.hid (HN.out.ext hX)
  have HV := Lib.hid (HV.out.mono (hX.le HE.out.inv))
  have HE := Lib.hid (HE.out.trans hX)
  clear hX2 hN2 hBs hX hmk HZS
  go_upto_region 5 with fail
  have hX := (Ext.refl HE.out.inv).alloc (.cells #[.bool GN.leaf, .slice G1 GN.items.length g1, .slice G2 GN.kids.length g2] 25)
  have HN := Lib.hid (HN.out.ext hX)
  have HV := Lib.hid (HV.out.mono (hX.le HE.out.inv))
  have HE := Lib.hid (HE.out.trans hX)
  clear hX
  generalize World.alloc w2 _ = W2 at *
  generalize w2.heap.size = gb1 at *
  have hmk := run_make_J (P := Try.prog) (t := 30) Try.underlying30 info_u8 255 255 rfl (by omega) (by omega)
  rw [Nat.mul_one] at hmk
  simp only [madeCells_u8] at hmk
  obtain ⟨zs, hzs⟩ : ∃ zs, zs = bcs (List.replicate 255 0) := ⟨_, rfl⟩
  rw [← hzs] at hmk
  have HZS := Lib.hid hzs
  clear hzs
  go_wp2_with fail
  have hX := (Ext.refl HE.out.inv).litV 5 zs
  have hBs : Bs (J2.put W2.heap.size zs) (.slice (some ⟨W2.heap.size, 0, none⟩) 255 255) (List.replicate 255 0) := by
    have h := sl_lit (J := J2) (b := W2.heap.size) (size := 1) (n := 255) (cs := bcs (List.replicate 255 0)) (by simp) (by decide)
    rw [← HZS.out] at h
    show Sl _ 1 _ (List.replicate 255 0).length (bcs (List.replicate 255 0))
    rw [← HZS.out, List.length_replicate]
    exact h
  refine (Get_calls hX.inv hBs (by rw [List.length_replicate]; decide)).mono ?_
  rintro e w3 ⟨vn, J3, rfl, hX2, hN2⟩
  rw [kn_get255]
  generalize gN (List.replicate 255 0) = GN at hN2
  obtain ⟨G1, g1, G2, g2, rfl, -⟩ := hN2.v.form
  have hX := hX.trans hX2
  have HN := Lib.hid (HN.out.ext hX)
  have HV := Lib.hid (HV.out.mono (hX.le HE.out.inv))
  have HE := Lib.hid (HE.out.trans hX)
  clear hX2 hN2 hBs hX hmk HZS
  go_upto_region 6 with fail
  have hX := (Ext.refl HE.out.inv).alloc (.cells #[.bool GN.leaf, .slice G1 GN.items.length g1, .slice G2 GN.kids.length g2] 25)
  have HN := Lib.hid (HN.out.ext hX)
  have HV := Lib.hid (HV.out.mono (hX.le HE.out.inv))
  have HE := Lib.hid (HE.out.trans hX)
  clear hX
  generalize World.alloc w3 _ = W3 at *
  generalize w3.heap.size = gb2 at *
  go_wp2_with fail
  have hst := strs_lit HE.out.inv [[97], [99]] (by decide)
  refine (leaf_calls (ks := [[97], [99]]) hst.1.inv hst.2 (by decide)).mono ?_
  rintro e w4 ⟨lv, J4, rfl, hX2, hO⟩
  obtain ⟨A4, a4, B4, b4, rfl, -⟩ := hO.v.form
  have hX := hst.1.trans hX2
  have HL4 := Lib.hid hO.v
  clear hX2 hO hst
  have HN := Lib.hid (HN.out.ext hX)
  have HV := Lib.hid (HV.out.mono (hX.le HE.out.inv))
  have HE := Lib.hid (HE.out.trans hX)
  clear hX
  go_wp2_with fail
  refine (Find_calls HE.out.inv HL4.out (leafS2 _ _ rfl rfl) [98] (by decide)).mono ?_
  rw [kn_find1.1, kn_find1.2]
  rintro e w5 ⟨rfl, hb5⟩
  have hX := Ext.of_below HE.out.inv hb5
  have HN := Lib.hid (HN.out.ext hX)
  have HV := Lib.hid (HV.out.mono (hX.le HE.out.inv))
  have HE := Lib.hid (HE.out.trans hX)
  clear hX hb5
  have n0 := blk_cell_J HN.out 0 rfl
  have n1 := blk_cell_J HN.out 1 rfl
  have n2 := blk_cell_J HN.out 2 rfl
  go_wp2_with fail
  refine (Find_calls HE.out.inv HV.out wN_S [98] (by decide)).mono ?_
  rw [kn_find2.1, kn_find2.2]
  rintro e w6 ⟨rfl, hb6⟩
  have hX := Ext.of_below HE.out.inv hb6
  have HN := Lib.hid (HN.out.ext hX)
  have HV := Lib.hid (HV.out.mono (hX.le HE.out.inv))
  have HE := Lib.hid (HE.out.trans hX)
  clear hX hb6 n0 n1 n2
  have n0 := blk_cell_J HN.out 0 rfl
  have n1 := blk_cell_J HN.out 1 rfl
  have n2 := blk_cell_J HN.out 2 rfl
  go_wp2_with fail
  refine (Find_calls HE.out.inv HV.out wN_S [97] (by decide)).mono ?_
  rw [kn_find3.1, kn_find3.2]
  rintro e w7 ⟨rfl, hb7⟩
  have HE := Lib.hid (HE.out.trans (Ext.of_below HE.out.inv hb7))
  clear hb7 n0 n1 n2 HN HV HL4
  go_wp2_with fail
  have hst := strs_lit HE.out.inv [[97], [98], [99]] (by decide)
  refine (leaf_calls (ks := [[97], [98], [99]]) hst.1.inv hst.2 (by decide)).mono ?_
  rintro e w8 ⟨lv, J8, rfl, hX2, hO⟩
  obtain ⟨A8, a8, B8, b8, rfl, -⟩ := hO.v.form
  have hX := hst.1.trans hX2
  have HL8 := Lib.hid hO.v
  clear hX2 hO hst
  have HE := Lib.hid (HE.out.trans hX)
  clear hX
  go_wp2_with fail
  refine (Half_calls HE.out.inv HL8.out (leafS3 _ _ _ rfl rfl rfl)).mono ?_
  rintro e w9 ⟨va, vb, J9, rfl, hX, hA1, hB1⟩
  rw [kn_h3.1] at hA1
  rw [kn_h3.2.1] at hB1
  rw [kn_h3.2.2.1, kn_h3.2.2.2]
  have HVA := Lib.hid hA1.v
  have HVB := Lib.hid hB1.v
  obtain ⟨Aa, ca, Ka, da, rfl, -⟩ := hA1.v.form
  obtain ⟨Ab, cb, Kb, db, rfl, -⟩ := hB1.v.form
  have HE := Lib.hid (HE.out.trans hX)
  clear hX hA1 hB1
  go_upto_region 10 with fail
  have hX := two_boxes HE.out.inv #[.bool (leafN [[97]]).leaf, .slice Aa (leafN [[97]]).items.length ca, .slice Ka (leafN [[97]]).kids.length da] #[.bool (leafN [[98], [99]]).leaf, .slice Ab (leafN [[98], [99]]).items.length cb, .slice Kb (leafN [[98], [99]]).kids.length db] 25
  have HBA := Lib.hid (show NBox _ w9.heap.size (leafN [[97]]).leaf (.slice Aa (leafN [[97]]).items.length ca) (.slice Ka (leafN [[97]]).kids.length da) from hX.2.1)
  have HBB := Lib.hid (show NBox _ (w9.heap.size + 1) (leafN [[98], [99]]).leaf (.slice Ab (leafN [[98], [99]]).items.length cb) (.slice Kb (leafN [[98], [99]]).kids.length db) from hX.2.2)
  have HE := Lib.hid (HE.out.trans hX.1)
  clear hX
  generalize World.alloc (World.alloc w9 _) _ = W9 at *
  generalize w9.heap.size + 1 = bb at *
  generalize w9.heap.size = ab at *
  clear HL8
  go_wp2_with fail
  have hst := strs_lit HE.out.inv [[97]] (by decide)
  refine (leaf_calls (ks := [[97]]) hst.1.inv hst.2 (by decide)).mono ?_
  rintro e w10 ⟨lv, J10, rfl, hX2, hO⟩
  obtain ⟨A10, a10, B10, b10, rfl, -⟩ := hO.v.form
  have hX := hst.1.trans hX2
  have HL10 := Lib.hid hO.v
  clear hX2 hO hst
  have HBA := Lib.hid (HBA.out.ext hX)
  have HBB := Lib.hid (HBB.out.ext hX)
  have HVA := Lib.hid (HVA.out.mono (hX.le HE.out.inv))
  have HVB := Lib.hid (HVB.out.mono (hX.le HE.out.inv))
  have HE := Lib.hid (HE.out.trans hX)
  clear hX
  go_wp2_with fail
  refine (Half_calls HE.out.inv HL10.out (leafS1 _ rfl)).mono ?_
  rintro e w11 ⟨va, vb, J11, rfl, hX, hA1, hB1⟩
  rw [kn_h1]
  generalize hA (leafN [[97]]) = XA at hA1
  generalize hB (leafN [[97]]) = XB at hB1
  generalize hK (leafN [[97]]) = XK
  obtain ⟨Ax, cx, Kx, dx, rfl, -⟩ := hA1.v.form
  obtain ⟨Ay, cy, Ky, dy, rfl, -⟩ := hB1.v.form
  have HBA := Lib.hid (HBA.out.ext hX)
  have HBB := Lib.hid (HBB.out.ext hX)
  have HVA := Lib.hid (HVA.out.mono (hX.le HE.out.inv))
  have HVB := Lib.hid (HVB.out.mono (hX.le HE.out.inv))
  have HE := Lib.hid (HE.out.trans hX)
  clear hX hA1 hB1 HL10
  go_upto_region 11 with fail
  have hX := two_boxes HE.out.inv #[.bool XA.leaf, .slice Ax XA.items.length cx, .slice Kx XA.kids.length dx] #[.bool XB.leaf, .slice Ay XB.items.length cy, .slice Ky XB.kids.length dy] 25
  have hX := hX.1
  have HBA := Lib.hid (HBA.out.ext hX)
  have HBB := Lib.hid (HBB.out.ext hX)
  have HVA := Lib.hid (HVA.out.mono (hX.le HE.out.inv))
  have HVB := Lib.hid (HVB.out.mono (hX.le HE.out.inv))
  have HE := Lib.hid (HE.out.trans hX)
  clear hX
  generalize World.alloc (World.alloc w11 _) _ = W11 at *
  generalize w11.heap.size + 1 = gb4 at *
  generalize w11.heap.size = gb3 at *
  go_wp2_with fail
  have hst := strs_lit HE.out.inv [[97]] (by decide)
  refine (leaf_calls (ks := [[97]]) hst.1.inv hst.2 (by decide)).mono ?_
  rintro e w12 ⟨lv, J12, rfl, hX2, hO⟩
  obtain ⟨A12, a12, B12, b12, rfl, -⟩ := hO.v.form
  have hX := hst.1.trans hX2
  have HL12 := Lib.hid hO.v
  clear hX2 hO hst
  have HBA := Lib.hid (HBA.out.ext hX)
  have HBB := Lib.hid (HBB.out.ext hX)
  have HVA := Lib.hid (HVA.out.mono (hX.le HE.out.inv))
  have HVB := Lib.hid (HVB.out.mono (hX.le HE.out.inv))
  have HE := Lib.hid (HE.out.trans hX)
  clear hX
  go_wp2_with fail
  have hst := strs_lit HE.out.inv [[98], [99]] (by decide)
  refine (leaf_calls (ks := [[98], [99]]) hst.1.inv hst.2 (by decide)).mono ?_
  rintro e w13 ⟨lv, J13, rfl, hX2, hO⟩
  obtain ⟨A13, a13, B13, b13, rfl, -⟩ := hO.v.form
  have hX := hst.1.trans hX2
  have HL13 := Lib.hid hO.v
  clear hX2 hO hst
  have HL12 := Lib.hid (HL12.out.mono (hX.le HE.out.inv))
  have HBA := Lib.hid (HBA.out.ext hX)
  have HBB := Lib.hid (HBB.out.ext hX)
  have HVA := Lib.hid (HVA.out.mono (hX.le HE.out.inv))
  have HVB := Lib.hid (HVB.out.mono (hX.le HE.out.inv))
  have HE := Lib.hid (HE.out.trans hX)
  clear hX
  go_wp2_with fail
  refine (Join_calls (key := [98]) HE.out.inv HL12.out HL13.out (leafS1 _ rfl) (leafS2 _ _ rfl rfl) (by decide) (by decide) (by decide) (by decide) (by decide)).mono ?_
  rintro e w14 ⟨vn, J14, rfl, hX, hN1⟩
  rw [kn_j1.2] at hN1
  rw [kn_j1.1]
  have HVN := Lib.hid hN1.v
  obtain ⟨An, cn, Kn, dn, rfl, -⟩ := hN1.v.form
  have HBA := Lib.hid (HBA.out.ext hX)
  have HBB := Lib.hid (HBB.out.ext hX)
  have HVA := Lib.hid (HVA.out.mono (hX.le HE.out.inv))
  have HVB := Lib.hid (HVB.out.mono (hX.le HE.out.inv))
  have HE := Lib.hid (HE.out.trans hX)
  clear hX hN1 HL12 HL13
  go_upto_region 12 with fail
  have HBN := Lib.hid (show NBox (w14.alloc (.cells #[.bool (leafN [[97], [98], [99]]).leaf, .slice An (leafN [[97], [98], [99]]).items.length cn, .slice Kn (leafN [[97], [98], [99]]).kids.length dn] 25)) w14.heap.size (leafN [[97], [98], [99]]).leaf (.slice An (leafN [[97], [98], [99]]).items.length cn) (.slice Kn (leafN [[97], [98], [99]]).kids.length dn) from heap_alloc_new w14 _)
  have hX := (Ext.refl HE.out.inv).alloc (.cells #[.bool (leafN [[97], [98], [99]]).leaf, .slice An (leafN [[97], [98], [99]]).items.length cn, .slice Kn (leafN [[97], [98], [99]]).kids.length dn] 25)
  have HBA := Lib.hid (HBA.out.ext hX)
  have HBB := Lib.hid (HBB.out.ext hX)
  have HVA := Lib.hid (HVA.out.mono (hX.le HE.out.inv))
  have HVB := Lib.hid (HVB.out.mono (hX.le HE.out.inv))
  have HE := Lib.hid (HE.out.trans hX)
  clear hX
  generalize World.alloc w14 _ = W14 at *
  generalize w14.heap.size = nn at *
  go_wp2_with fail
  have hst := strs_lit HE.out.inv [[97]] (by decide)
  refine (leaf_calls (ks := [[97]]) hst.1.inv hst.2 (by decide)).mono ?_
  rintro e w15 ⟨lv, J15, rfl, hX2, hO⟩
  obtain ⟨A15, a15, B15, b15, rfl, -⟩ := hO.v.form
  have hX := hst.1.trans hX2
  have HL15 := Lib.hid hO.v
  clear hX2 hO hst
  have HBN := Lib.hid (HBN.out.ext hX)
  have HVN := Lib.hid (HVN.out.mono (hX.le HE.out.inv))
  have HBA := Lib.hid (HBA.out.ext hX)
  have HBB := Lib.hid (HBB.out.ext hX)
  have HVA := Lib.hid (HVA.out.mono (hX.le HE.out.inv))
  have HVB := Lib.hid (HVB.out.mono (hX.le HE.out.inv))
  have HE := Lib.hid (HE.out.trans hX)
  clear hX
  go_wp2_with fail
  have hst := strs_lit HE.out.inv [[98]] (by decide)
  refine (leaf_calls (ks := [[98]]) hst.1.inv hst.2 (by decide)).mono ?_
  rintro e w16 ⟨lv, J16, rfl, hX2, hO⟩
  obtain ⟨A16, a16, B16, b16, rfl, -⟩ := hO.v.form
  have hX := hst.1.trans hX2
  have HL16 := Lib.hid hO.v
  clear hX2 hO hst
  have HL15 := Lib.hid (HL15.out.mono (hX.le HE.out.inv))
  have HBN := Lib.hid (HBN.out.ext hX)
  have HVN := Lib.hid (HVN.out.mono (hX.le HE.out.inv))
  have HBA := Lib.hid (HBA.out.ext hX)
  have HBB := Lib.hid (HBB.out.ext hX)
  have HVA := Lib.hid (HVA.out.mono (hX.le HE.out.inv))
  have HVB := Lib.hid (HVB.out.mono (hX.le HE.out.inv))
  have HE := Lib.hid (HE.out.trans hX)
  clear hX
  go_wp2_with fail
  refine (Join_calls (key := [97]) HE.out.inv HL15.out HL16.out (leafS1 _ rfl) (leafS1 _ rfl) (by decide) (by decide) (by decide) (by decide) (by decide)).mono ?_
  rintro e w17 ⟨vx, J17, rfl, hX, hN1⟩
  rw [kn_j2]
  generalize jN (leafN [[97]]) [97] (leafN [[98]]) = XJ at hN1
  obtain ⟨Az, cz, Kz, dz, rfl, -⟩ := hN1.v.form
  have HBN := Lib.hid (HBN.out.ext hX)
  have HVN := Lib.hid (HVN.out.mono (hX.le HE.out.inv))
  have HBA := Lib.hid (HBA.out.ext hX)
  have HBB := Lib.hid (HBB.out.ext hX)
  have HVA := Lib.hid (HVA.out.mono (hX.le HE.out.inv))
  have HVB := Lib.hid (HVB.out.mono (hX.le HE.out.inv))
  have HE := Lib.hid (HE.out.trans hX)
  clear hX hN1 HL15 HL16
  go_upto_region 13 with fail
  have hX := (Ext.refl HE.out.inv).alloc (.cells #[.bool XJ.leaf, .slice Az XJ.items.length cz, .slice Kz XJ.kids.length dz] 25)
  have HBN := Lib.hid (HBN.out.ext hX)
  have HVN := Lib.hid (HVN.out.mono (hX.le HE.out.inv))
  have HBA := Lib.hid (HBA.out.ext hX)
  have HBB := Lib.hid (HBB.out.ext hX)
  have HVA := Lib.hid (HVA.out.mono (hX.le HE.out.inv))
  have HVB := Lib.hid (HVB.out.mono (hX.le HE.out.inv))
  have HE := Lib.hid (HE.out.trans hX)
  clear hX
  generalize World.alloc w17 _ = ws at *
  generalize w17.heap.size = gb5 at *
  refine wp_region_poolG2 89 (RG J17 ws (PK (.agg #[.bool (leafN [[97]]).leaf, .slice Aa (leafN [[97]]).items.length ca, .slice Ka (leafN [[97]]).kids.length da]) (.agg #[.bool (leafN [[98], [99]]).leaf, .slice Ab (leafN [[98], [99]]).items.length cb, .slice Kb (leafN [[98], [99]]).kids.length db]) (.agg #[.bool (leafN [[97], [98], [99]]).leaf, .slice An (leafN [[97], [98], [99]]).items.length cn, .slice Kn (leafN [[97], [98], [99]]).kids.length dn]))) (by kernel_rfl) (by kernel_rfl) (fun _ => undef) (RG.start HE.out.inv) ?_ ?_
  · intro q o hlq ho L v w' F hc hL hw hout hdp
    obtain ⟨J9, hE9, hP⟩ := hc
    have hst := PK_stab (.agg #[.bool (leafN [[97]]).leaf, .slice Aa (leafN [[97]]).items.length ca, .slice Ka (leafN [[97]]).kids.length da]) (.agg #[.bool (leafN [[98], [99]]).leaf, .slice Ab (leafN [[98], [99]]).items.length cb, .slice Kb (leafN [[98], [99]]).kids.length db]) (.agg #[.bool (leafN [[97], [98], [99]]).leaf, .slice An (leafN [[97], [98], [99]]).items.length cn, .slice Kn (leafN [[97], [98], [99]]).kids.length dn])
    match q, hlq with
    | 0, _ =>
      cases ho
      refine ⟨wanted_none rfl, ?_⟩
      have hcl := leaf_calls (ks := []) hE9.inv (Sl.nil J9 1) (by decide)
      have HP := Lib.hid hP
      have HE9 := Lib.hid hE9
      have HST := Lib.hid hst
      clear hw hout hdp hE9 hP hst hL
      unfold Oper.wp execOp
      go_simp
      refine hcl.mono ?_
      rintro e5 w5 ⟨v5, J5, rfl, hE5, hO5⟩
      exact ⟨_, rfl, RG.put HST.out HE9.out HP.out hE5 hO5.v⟩
    | 1, _ =>
      cases ho
      refine ⟨wanted_none rfl, ?_⟩
      have h0 : NdV J9 (v 0) (leafN []) := hP 0 (hw 0 (by kernel_rfl))
      obtain ⟨A0, c0, K0, k0, h0v, -⟩ := h0.form
      have e90 := (hdp 0 90 (by kernel_rfl) (hw 0 (by kernel_rfl))).trans h0v
      rw [h0v] at h0
      have hcl := Size_calls hE9.inv h0 (leafN_S (ks := []) (by decide) (by simp))
      have HP := Lib.hid hP
      have HE9 := Lib.hid hE9
      have HST := Lib.hid hst
      clear hw hout hdp hE9 hP hst hL h0 h0v
      unfold Oper.wp execOp
      go_simp
      refine hcl.mono ?_
      rw [kn_s0]
      rintro e5 w5 ⟨rfl, hb5⟩
      exact ⟨_, rfl, RG.put HST.out HE9.out HP.out (Ext.of_below HE9.out.inv hb5) rfl⟩
    | 2, _ =>
      cases ho
      refine ⟨wanted_none rfl, ?_⟩
      have e91 := (hdp 1 91 (by kernel_rfl) (hw 1 (by kernel_rfl))).trans (show v 1 = .int .i64 2 from hP 1 (hw 1 (by kernel_rfl)))
      refine wp_value (x := .bool true) (w' := w') ?_ ⟨_, rfl, RG.same hst hE9 hP rfl⟩
      clear hw hout hdp hE9 hP hst hL
      unfold execOp
      simp only [Act.eval, e91]
      go_simp
    | 3, _ =>
      cases ho
      refine ⟨wanted_none rfl, ?_⟩
      have e92 := (hdp 2 92 (by kernel_rfl) (hw 2 (by kernel_rfl))).trans (show v 2 = .bool true from hP 2 (hw 2 (by kernel_rfl)))
      refine wp_value (x := .bool true) (w' := w') ?_ ⟨_, rfl, RG.same hst hE9 hP rfl⟩
      clear hw hout hdp hE9 hP hst hL
      unfold execOp
      simp only [Act.eval, e92]
      go_simp
    | 4, _ =>
      cases ho
      refine ⟨wanted_some rfl (by kernel_rfl) ((hdp 3 93 (by kernel_rfl) (hw 3 (by kernel_rfl))).trans (show v 3 = .bool true from hP 3 (hw 3 (by kernel_rfl)))), ?_⟩
      refine wp_value (x := .agg #[.string ⟨#[97]⟩, .string ⟨#[120, 121]⟩, .int .i64 0, .int .i64 0]) (w' := w') ?_ ⟨_, rfl, RG.same hst hE9 hP rfl⟩
      clear hw hout hdp hE9 hP hst hL
      unfold execOp
      go_simp
    | 5, _ =>
      cases ho
      refine ⟨wanted_some rfl (by kernel_rfl) ((hdp 3 93 (by kernel_rfl) (hw 3 (by kernel_rfl))).trans (show v 3 = .bool true from hP 3 (hw 3 (by kernel_rfl)))), ?_⟩
      have e94 := (hdp 4 94 (by kernel_rfl) (hw 4 (by kernel_rfl))).trans (show v 4 = .agg #[.string ⟨#[97]⟩, .string ⟨#[120, 121]⟩, .int .i64 0, .int .i64 0] from hP 4 (hw 4 (by kernel_rfl)))
      have hlv := (Ext.refl hE9.inv).litV 55 (clC kN.items)
      refine wp_value (x := .slice (some ⟨w'.heap.size, 0, none⟩) 1 1) (w' := w'.alloc (.cells (clC kN.items).toArray 55)) ?_ ⟨_, rfl, RG.put hst hE9 hP hlv (sl_lit rfl (by decide))⟩
      clear hw hout hdp hE9 hP hst hL hlv
      unfold execOp
      rw [Array.getD_eq_getD_getElem?] at e94
      go_simp
      try rfl
    | 6, _ =>
      cases ho
      refine ⟨wanted_some rfl (by kernel_rfl) ((hdp 3 93 (by kernel_rfl) (hw 3 (by kernel_rfl))).trans (show v 3 = .bool true from hP 3 (hw 3 (by kernel_rfl)))), ?_⟩
      have h5 : Sl J9 4 (v 5) 1 (clC kN.items) := hP 5 (hw 5 (by kernel_rfl))
      obtain ⟨A5, c5, h5v, -, -⟩ := h5.form
      have e95 := (hdp 5 95 (by kernel_rfl) (hw 5 (by kernel_rfl))).trans h5v
      rw [h5v] at h5
      refine wp_value (x := .agg #[.bool true, .slice A5 1 c5, .slice none 0 0]) (w' := w') ?_ ⟨_, rfl, RG.same hst hE9 hP ⟨_, _, rfl, h5, Sl.nil J9 1⟩⟩
      clear hw hout hdp hE9 hP hst hL h5 h5v
      unfold execOp
      rw [Array.getD_eq_getD_getElem?] at e95
      go_simp
    | 7, _ =>
      cases ho
      refine ⟨wanted_some rfl (by kernel_rfl) ((hdp 3 93 (by kernel_rfl) (hw 3 (by kernel_rfl))).trans (show v 3 = .bool true from hP 3 (hw 3 (by kernel_rfl)))), ?_⟩
      have h6 : NdV J9 (v 6) kN := hP 6 (hw 6 (by kernel_rfl))
      obtain ⟨A6, c6, K6, k6, h6v, -⟩ := h6.form
      have e96 := (hdp 6 96 (by kernel_rfl) (hw 6 (by kernel_rfl))).trans h6v
      rw [h6v] at h6
      have hcl := Size_calls hE9.inv h6 kN_S
      have HP := Lib.hid hP
      have HE9 := Lib.hid hE9
      have HST := Lib.hid hst
      clear hw hout hdp hE9 hP hst hL h6 h6v
      unfold Oper.wp execOp
      go_simp
      refine hcl.mono ?_
      rw [kn_s1]
      rintro e5 w5 ⟨rfl, hb5⟩
      exact ⟨_, rfl, RG.put HST.out HE9.out HP.out (Ext.of_below HE9.out.inv hb5) rfl⟩
    | 8, _ =>
      cases ho
      refine ⟨wanted_some rfl (by kernel_rfl) ((hdp 3 93 (by kernel_rfl) (hw 3 (by kernel_rfl))).trans (show v 3 = .bool true from hP 3 (hw 3 (by kernel_rfl)))), ?_⟩
      have e97 := (hdp 7 97 (by kernel_rfl) (hw 7 (by kernel_rfl))).trans (show v 7 = .int .i64 7 from hP 7 (hw 7 (by kernel_rfl)))
      refine wp_value (x := .bool true) (w' := w') ?_ ⟨_, rfl, RG.same hst hE9 hP rfl⟩
      clear hw hout hdp hE9 hP hst hL
      unfold execOp
      simp only [Act.eval, e97]
      go_simp
    | 9, _ =>
      cases ho
      refine ⟨wanted_none rfl, ?_⟩
      have e93 := (hdp 3 93 (by kernel_rfl) (hw 3 (by kernel_rfl))).trans (show v 3 = .bool true from hP 3 (hw 3 (by kernel_rfl)))
      have e98 := (hdp 8 98 (by kernel_rfl) (hw 8 (by kernel_rfl))).trans (show v 8 = .bool true from hP 8 (hw 8 (by kernel_rfl)))
      refine wp_value (x := .bool true) (w' := w') ?_ ⟨_, rfl, RG.same hst hE9 hP rfl⟩
      clear hw hout hdp hE9 hP hst hL
      unfold execOp
      simp only [Act.eval, e93, e98]
      go_simp
    | 10, _ =>
      cases ho
      refine ⟨wanted_none rfl, ?_⟩
      have e99 := (hdp 9 99 (by kernel_rfl) (hw 9 (by kernel_rfl))).trans (show v 9 = .bool true from hP 9 (hw 9 (by kernel_rfl)))
      refine wp_value (x := .bool true) (w' := w') ?_ ⟨_, rfl, RG.same hst hE9 hP rfl⟩
      clear hw hout hdp hE9 hP hst hL
      unfold execOp
      simp only [Act.eval, e99]
      go_simp
    | 11, _ =>
      cases ho
      refine ⟨wanted_some rfl (by kernel_rfl) ((hdp 10 100 (by kernel_rfl) (hw 10 (by kernel_rfl))).trans (show v 10 = .bool true from hP 10 (hw 10 (by kernel_rfl)))), ?_⟩
      refine wp_value (x := .agg #[.bool false, .slice none 0 0, .slice none 0 0]) (w' := w') ?_ ⟨_, rfl, RG.same hst hE9 hP rfl⟩
      clear hw hout hdp hE9 hP hst hL
      unfold execOp
      go_simp
    | 12, _ =>
      cases ho
      refine ⟨wanted_some rfl (by kernel_rfl) ((hdp 10 100 (by kernel_rfl) (hw 10 (by kernel_rfl))).trans (show v 10 = .bool true from hP 10 (hw 10 (by kernel_rfl)))), ?_⟩
      have e101 := (hdp 11 101 (by kernel_rfl) (hw 11 (by kernel_rfl))).trans (show v 11 = .agg #[.bool false, .slice none 0 0, .slice none 0 0] from hP 11 (hw 11 (by kernel_rfl)))
      have hcl := Check_calls hE9.inv (zN_v J9) zN_S
      have HP := Lib.hid hP
      have HE9 := Lib.hid hE9
      have HST := Lib.hid hst
      clear hw hout hdp hE9 hP hst hL
      unfold Oper.wp execOp
      go_simp
      refine hcl.mono ?_
      rw [kn_c0.1]
      rintro e5 w5 ⟨rfl, hb5⟩
      exact ⟨_, rfl, RG.put HST.out HE9.out HP.out (Ext.of_below HE9.out.inv hb5) rfl⟩
    | 13, _ =>
      cases ho
      refine ⟨wanted_some rfl (by kernel_rfl) ((hdp 10 100 (by kernel_rfl) (hw 10 (by kernel_rfl))).trans (show v 10 = .bool true from hP 10 (hw 10 (by kernel_rfl)))), ?_⟩
      have e102 := (hdp 12 102 (by kernel_rfl) (hw 12 (by kernel_rfl))).trans (show v 12 = .int .i64 2 from hP 12 (hw 12 (by kernel_rfl)))
      refine wp_value (x := .bool true) (w' := w') ?_ ⟨_, rfl, RG.same hst hE9 hP rfl⟩
      clear hw hout hdp hE9 hP hst hL
      unfold execOp
      simp only [Act.eval, e102]
      go_simp
    | 14, _ =>
      cases ho
      refine ⟨wanted_none rfl, ?_⟩
      have e100 := (hdp 10 100 (by kernel_rfl) (hw 10 (by kernel_rfl))).trans (show v 10 = .bool true from hP 10 (hw 10 (by kernel_rfl)))
      have e103 := (hdp 13 103 (by kernel_rfl) (hw 13 (by kernel_rfl))).trans (show v 13 = .bool true from hP 13 (hw 13 (by kernel_rfl)))
      refine wp_value (x := .bool true) (w' := w') ?_ ⟨_, rfl, RG.same hst hE9 hP rfl⟩
      clear hw hout hdp hE9 hP hst hL
      unfold execOp
      simp only [Act.eval, e100, e103]
      go_simp
    | 15, _ =>
      cases ho
      refine ⟨wanted_none rfl, ?_⟩
      have e104 := (hdp 14 104 (by kernel_rfl) (hw 14 (by kernel_rfl))).trans (show v 14 = .bool true from hP 14 (hw 14 (by kernel_rfl)))
      refine wp_value (x := .bool true) (w' := w') ?_ ⟨_, rfl, RG.same hst hE9 hP rfl⟩
      clear hw hout hdp hE9 hP hst hL
      unfold execOp
      simp only [Act.eval, e104]
      go_simp
    | 16, _ =>
      cases ho
      refine ⟨wanted_some rfl (by kernel_rfl) ((hdp 15 105 (by kernel_rfl) (hw 15 (by kernel_rfl))).trans (show v 15 = .bool true from hP 15 (hw 15 (by kernel_rfl)))), ?_⟩
      refine wp_value (x := .agg #[.bool false, .slice none 0 0, .slice none 0 0]) (w' := w') ?_ ⟨_, rfl, RG.same hst hE9 hP rfl⟩
      clear hw hout hdp hE9 hP hst hL
      unfold execOp
      go_simp
    | 17, _ =>
      cases ho
      refine ⟨wanted_some rfl (by kernel_rfl) ((hdp 15 105 (by kernel_rfl) (hw 15 (by kernel_rfl))).trans (show v 15 = .bool true from hP 15 (hw 15 (by kernel_rfl)))), ?_⟩
      have e106 := (hdp 16 106 (by kernel_rfl) (hw 16 (by kernel_rfl))).trans (show v 16 = .agg #[.bool false, .slice none 0 0, .slice none 0 0] from hP 16 (hw 16 (by kernel_rfl)))
      have hcl := Size_calls hE9.inv (zN_v J9) zN_S
      have HP := Lib.hid hP
      have HE9 := Lib.hid hE9
      have HST := Lib.hid hst
      clear hw hout hdp hE9 hP hst hL
      unfold Oper.wp execOp
      go_simp
      refine hcl.mono ?_
      rw [kn_c0.2]
      rintro e5 w5 ⟨rfl, hb5⟩
      exact ⟨_, rfl, RG.put HST.out HE9.out HP.out (Ext.of_below HE9.out.inv hb5) rfl⟩
    | 18, _ =>
      cases ho
      refine ⟨wanted_some rfl (by kernel_rfl) ((hdp 15 105 (by kernel_rfl) (hw 15 (by kernel_rfl))).trans (show v 15 = .bool true from hP 15 (hw 15 (by kernel_rfl)))), ?_⟩
      have e107 := (hdp 17 107 (by kernel_rfl) (hw 17 (by kernel_rfl))).trans (show v 17 = .int .i64 0 from hP 17 (hw 17 (by kernel_rfl)))
      refine wp_value (x := .bool true) (w' := w') ?_ ⟨_, rfl, RG.same hst hE9 hP rfl⟩
      clear hw hout hdp hE9 hP hst hL
      unfold execOp
      simp only [Act.eval, e107]
      go_simp
    | 19, _ =>
      cases ho
      refine ⟨wanted_none rfl, ?_⟩
      have e105 := (hdp 15 105 (by kernel_rfl) (hw 15 (by kernel_rfl))).trans (show v 15 = .bool true from hP 15 (hw 15 (by kernel_rfl)))
      have e108 := (hdp 18 108 (by kernel_rfl) (hw 18 (by kernel_rfl))).trans (show v 18 = .bool true from hP 18 (hw 18 (by kernel_rfl)))
      refine wp_value (x := .bool true) (w' := w') ?_ ⟨_, rfl, RG.same hst hE9 hP rfl⟩
      clear hw hout hdp hE9 hP hst hL
      unfold execOp
      simp only [Act.eval, e105, e108]
      go_simp
    | 20, _ =>
      cases ho
      refine ⟨wanted_none rfl, ?_⟩
      have e109 := (hdp 19 109 (by kernel_rfl) (hw 19 (by kernel_rfl))).trans (show v 19 = .bool true from hP 19 (hw 19 (by kernel_rfl)))
      refine wp_value (x := .bool true) (w' := w') ?_ ⟨_, rfl, RG.same hst hE9 hP rfl⟩
      clear hw hout hdp hE9 hP hst hL
      unfold execOp
      simp only [Act.eval, e109]
      go_simp
    | 21, _ =>
      cases ho
      refine ⟨wanted_some rfl (by kernel_rfl) ((hdp 20 110 (by kernel_rfl) (hw 20 (by kernel_rfl))).trans (show v 20 = .bool true from hP 20 (hw 20 (by kernel_rfl)))), ?_⟩
      have e3 : F.tmps.getD 3 undef = .int .i64 7 := hout 3 (by kernel_rfl)
      refine wp_value (x := .int .i64 7) (w' := w') ?_ ⟨_, rfl, RG.same hst hE9 hP rfl⟩
      clear hw hout hdp hE9 hP hst hL
      unfold execOp
      simp only [Act.eval, e3]
      go_simp
    | 22, _ =>
      cases ho
      refine ⟨wanted_some rfl (by kernel_rfl) ((hdp 20 110 (by kernel_rfl) (hw 20 (by kernel_rfl))).trans (show v 20 = .bool true from hP 20 (hw 20 (by kernel_rfl)))), ?_⟩
      have e111 := (hdp 21 111 (by kernel_rfl) (hw 21 (by kernel_rfl))).trans (show v 21 = .int .i64 7 from hP 21 (hw 21 (by kernel_rfl)))
      refine wp_value (x := .bool true) (w' := w') ?_ ⟨_, rfl, RG.same hst hE9 hP rfl⟩
      clear hw hout hdp hE9 hP hst hL
      unfold execOp
      simp only [Act.eval, e111]
      go_simp
    | 23, _ =>
      cases ho
      refine ⟨wanted_none rfl, ?_⟩
      have e110 := (hdp 20 110 (by kernel_rfl) (hw 20 (by kernel_rfl))).trans (show v 20 = .bool true from hP 20 (hw 20 (by kernel_rfl)))
      have e112 := (hdp 22 112 (by kernel_rfl) (hw 22 (by kernel_rfl))).trans (show v 22 = .bool true from hP 22 (hw 22 (by kernel_rfl)))
      refine wp_value (x := .bool true) (w' := w') ?_ ⟨_, rfl, RG.same hst hE9 hP rfl⟩
      clear hw hout hdp hE9 hP hst hL
      unfold execOp
      simp only [Act.eval, e110, e112]
      go_simp
    | 24, _ =>
      cases ho
      refine ⟨wanted_none rfl, ?_⟩
      have e113 := (hdp 23 113 (by kernel_rfl) (hw 23 (by kernel_rfl))).trans (show v 23 = .bool true from hP 23 (hw 23 (by kernel_rfl)))
      refine wp_value (x := .bool true) (w' := w') ?_ ⟨_, rfl, RG.same hst hE9 hP rfl⟩
      clear hw hout hdp hE9 hP hst hL
      unfold execOp
      simp only [Act.eval, e113]
      go_simp
    | 25, _ =>
      cases ho
      refine ⟨wanted_some rfl (by kernel_rfl) ((hdp 24 114 (by kernel_rfl) (hw 24 (by kernel_rfl))).trans (show v 24 = .bool true from hP 24 (hw 24 (by kernel_rfl)))), ?_⟩
      have e5 : F.tmps.getD 5 undef = .int .i64 7 := hout 5 (by kernel_rfl)
      refine wp_value (x := .int .i64 7) (w' := w') ?_ ⟨_, rfl, RG.same hst hE9 hP rfl⟩
      clear hw hout hdp hE9 hP hst hL
      unfold execOp
      simp only [Act.eval, e5]
      go_simp
    | 26, _ =>
      cases ho
      refine ⟨wanted_some rfl (by kernel_rfl) ((hdp 24 114 (by kernel_rfl) (hw 24 (by kernel_rfl))).trans (show v 24 = .bool true from hP 24 (hw 24 (by kernel_rfl)))), ?_⟩
      have e115 := (hdp 25 115 (by kernel_rfl) (hw 25 (by kernel_rfl))).trans (show v 25 = .int .i64 7 from hP 25 (hw 25 (by kernel_rfl)))
      refine wp_value (x := .bool true) (w' := w') ?_ ⟨_, rfl, RG.same hst hE9 hP rfl⟩
      clear hw hout hdp hE9 hP hst hL
      unfold execOp
      simp only [Act.eval, e115]
      go_simp
    | 27, _ =>
      cases ho
      refine ⟨wanted_none rfl, ?_⟩
      have e114 := (hdp 24 114 (by kernel_rfl) (hw 24 (by kernel_rfl))).trans (show v 24 = .bool true from hP 24 (hw 24 (by kernel_rfl)))
      have e116 := (hdp 26 116 (by kernel_rfl) (hw 26 (by kernel_rfl))).trans (show v 26 = .bool true from hP 26 (hw 26 (by kernel_rfl)))
      refine wp_value (x := .bool true) (w' := w') ?_ ⟨_, rfl, RG.same hst hE9 hP rfl⟩
      clear hw hout hdp hE9 hP hst hL
      unfold execOp
      simp only [Act.eval, e114, e116]
      go_simp
    | 28, _ =>
      cases ho
      refine ⟨wanted_none rfl, ?_⟩
      have e117 := (hdp 27 117 (by kernel_rfl) (hw 27 (by kernel_rfl))).trans (show v 27 = .bool true from hP 27 (hw 27 (by kernel_rfl)))
      refine wp_value (x := .bool true) (w' := w') ?_ ⟨_, rfl, RG.same hst hE9 hP rfl⟩
      clear hw hout hdp hE9 hP hst hL
      unfold execOp
      simp only [Act.eval, e117]
      go_simp
    | 29, _ =>
      cases ho
      refine ⟨wanted_some rfl (by kernel_rfl) ((hdp 28 118 (by kernel_rfl) (hw 28 (by kernel_rfl))).trans (show v 28 = .bool true from hP 28 (hw 28 (by kernel_rfl)))), ?_⟩
      have e6 : F.tmps.getD 6 undef = .int .i64 1 := hout 6 (by kernel_rfl)
      refine wp_value (x := .int .i64 1) (w' := w') ?_ ⟨_, rfl, RG.same hst hE9 hP rfl⟩
      clear hw hout hdp hE9 hP hst hL
      unfold execOp
      simp only [Act.eval, e6]
      go_simp
    | 30, _ =>
      cases ho
      refine ⟨wanted_some rfl (by kernel_rfl) ((hdp 28 118 (by kernel_rfl) (hw 28 (by kernel_rfl))).trans (show v 28 = .bool true from hP 28 (hw 28 (by kernel_rfl)))), ?_⟩
      have e119 := (hdp 29 119 (by kernel_rfl) (hw 29 (by kernel_rfl))).trans (show v 29 = .int .i64 1 from hP 29 (hw 29 (by kernel_rfl)))
      refine wp_value (x := .bool true) (w' := w') ?_ ⟨_, rfl, RG.same hst hE9 hP rfl⟩
      clear hw hout hdp hE9 hP hst hL
      unfold execOp
      simp only [Act.eval, e119]
      go_simp
    | 31, _ =>
      cases ho
      refine ⟨wanted_none rfl, ?_⟩
      have e118 := (hdp 28 118 (by kernel_rfl) (hw 28 (by kernel_rfl))).trans (show v 28 = .bool true from hP 28 (hw 28 (by kernel_rfl)))
      have e120 := (hdp 30 120 (by kernel_rfl) (hw 30 (by kernel_rfl))).trans (show v 30 = .bool true from hP 30 (hw 30 (by kernel_rfl)))
      refine wp_value (x := .bool true) (w' := w') ?_ ⟨_, rfl, RG.same hst hE9 hP rfl⟩
      clear hw hout hdp hE9 hP hst hL
      unfold execOp
      simp only [Act.eval, e118, e120]
      go_simp
    | 32, _ =>
      cases ho
      refine ⟨wanted_none rfl, ?_⟩
      have e121 := (hdp 31 121 (by kernel_rfl) (hw 31 (by kernel_rfl))).trans (show v 31 = .bool true from hP 31 (hw 31 (by kernel_rfl)))
      refine wp_value (x := .bool true) (w' := w') ?_ ⟨_, rfl, RG.same hst hE9 hP rfl⟩
      clear hw hout hdp hE9 hP hst hL
      unfold execOp
      simp only [Act.eval, e121]
      go_simp
    | 33, _ =>
      cases ho
      refine ⟨wanted_some rfl (by kernel_rfl) ((hdp 32 122 (by kernel_rfl) (hw 32 (by kernel_rfl))).trans (show v 32 = .bool true from hP 32 (hw 32 (by kernel_rfl)))), ?_⟩
      have e7 : F.tmps.getD 7 undef = .bool false := hout 7 (by kernel_rfl)
      refine wp_value (x := .bool false) (w' := w') ?_ ⟨_, rfl, RG.same hst hE9 hP rfl⟩
      clear hw hout hdp hE9 hP hst hL
      unfold execOp
      simp only [Act.eval, e7]
      go_simp
    | 34, _ =>
      cases ho
      refine ⟨wanted_some rfl (by kernel_rfl) ((hdp 32 122 (by kernel_rfl) (hw 32 (by kernel_rfl))).trans (show v 32 = .bool true from hP 32 (hw 32 (by kernel_rfl)))), ?_⟩
      have e123 := (hdp 33 123 (by kernel_rfl) (hw 33 (by kernel_rfl))).trans (show v 33 = .bool false from hP 33 (hw 33 (by kernel_rfl)))
      refine wp_value (x := .bool true) (w' := w') ?_ ⟨_, rfl, RG.same hst hE9 hP rfl⟩
      clear hw hout hdp hE9 hP hst hL
      unfold execOp
      simp only [Act.eval, e123]
      go_simp
    | 35, _ =>
      cases ho
      refine ⟨wanted_none rfl, ?_⟩
      have e122 := (hdp 32 122 (by kernel_rfl) (hw 32 (by kernel_rfl))).trans (show v 32 = .bool true from hP 32 (hw 32 (by kernel_rfl)))
      have e124 := (hdp 34 124 (by kernel_rfl) (hw 34 (by kernel_rfl))).trans (show v 34 = .bool true from hP 34 (hw 34 (by kernel_rfl)))
      refine wp_value (x := .bool true) (w' := w') ?_ ⟨_, rfl, RG.same hst hE9 hP rfl⟩
      clear hw hout hdp hE9 hP hst hL
      unfold execOp
      simp only [Act.eval, e122, e124]
      go_simp
    | 36, _ =>
      cases ho
      refine ⟨wanted_none rfl, ?_⟩
      have e125 := (hdp 35 125 (by kernel_rfl) (hw 35 (by kernel_rfl))).trans (show v 35 = .bool true from hP 35 (hw 35 (by kernel_rfl)))
      refine wp_value (x := .bool true) (w' := w') ?_ ⟨_, rfl, RG.same hst hE9 hP rfl⟩
      clear hw hout hdp hE9 hP hst hL
      unfold execOp
      simp only [Act.eval, e125]
      go_simp
    | 37, _ =>
      cases ho
      refine ⟨wanted_some rfl (by kernel_rfl) ((hdp 36 126 (by kernel_rfl) (hw 36 (by kernel_rfl))).trans (show v 36 = .bool true from hP 36 (hw 36 (by kernel_rfl)))), ?_⟩
      have e8 : F.tmps.getD 8 undef = .int .i64 1 := hout 8 (by kernel_rfl)
      refine wp_value (x := .int .i64 1) (w' := w') ?_ ⟨_, rfl, RG.same hst hE9 hP rfl⟩
      clear hw hout hdp hE9 hP hst hL
      unfold execOp
      simp only [Act.eval, e8]
      go_simp
    | 38, _ =>
      cases ho
      refine ⟨wanted_some rfl (by kernel_rfl) ((hdp 36 126 (by kernel_rfl) (hw 36 (by kernel_rfl))).trans (show v 36 = .bool true from hP 36 (hw 36 (by kernel_rfl)))), ?_⟩
      have e127 := (hdp 37 127 (by kernel_rfl) (hw 37 (by kernel_rfl))).trans (show v 37 = .int .i64 1 from hP 37 (hw 37 (by kernel_rfl)))
      refine wp_value (x := .bool true) (w' := w') ?_ ⟨_, rfl, RG.same hst hE9 hP rfl⟩
      clear hw hout hdp hE9 hP hst hL
      unfold execOp
      simp only [Act.eval, e127]
      go_simp
    | 39, _ =>
      cases ho
      refine ⟨wanted_none rfl, ?_⟩
      have e126 := (hdp 36 126 (by kernel_rfl) (hw 36 (by kernel_rfl))).trans (show v 36 = .bool true from hP 36 (hw 36 (by kernel_rfl)))
      have e128 := (hdp 38 128 (by kernel_rfl) (hw 38 (by kernel_rfl))).trans (show v 38 = .bool true from hP 38 (hw 38 (by kernel_rfl)))
      refine wp_value (x := .bool true) (w' := w') ?_ ⟨_, rfl, RG.same hst hE9 hP rfl⟩
      clear hw hout hdp hE9 hP hst hL
      unfold execOp
      simp only [Act.eval, e126, e128]
      go_simp
    | 40, _ =>
      cases ho
      refine ⟨wanted_none rfl, ?_⟩
      have e129 := (hdp 39 129 (by kernel_rfl) (hw 39 (by kernel_rfl))).trans (show v 39 = .bool true from hP 39 (hw 39 (by kernel_rfl)))
      refine wp_value (x := .bool true) (w' := w') ?_ ⟨_, rfl, RG.same hst hE9 hP rfl⟩
      clear hw hout hdp hE9 hP hst hL
      unfold execOp
      simp only [Act.eval, e129]
      go_simp
    | 41, _ =>
      cases ho
      refine ⟨wanted_some rfl (by kernel_rfl) ((hdp 40 130 (by kernel_rfl) (hw 40 (by kernel_rfl))).trans (show v 40 = .bool true from hP 40 (hw 40 (by kernel_rfl)))), ?_⟩
      have e9 : F.tmps.getD 9 undef = .bool true := hout 9 (by kernel_rfl)
      refine wp_value (x := .bool true) (w' := w') ?_ ⟨_, rfl, RG.same hst hE9 hP rfl⟩
      clear hw hout hdp hE9 hP hst hL
      unfold execOp
      simp only [Act.eval, e9]
      go_simp
    | 42, _ =>
      cases ho
      refine ⟨wanted_none rfl, ?_⟩
      have e130 := (hdp 40 130 (by kernel_rfl) (hw 40 (by kernel_rfl))).trans (show v 40 = .bool true from hP 40 (hw 40 (by kernel_rfl)))
      have e131 := (hdp 41 131 (by kernel_rfl) (hw 41 (by kernel_rfl))).trans (show v 41 = .bool true from hP 41 (hw 41 (by kernel_rfl)))
      refine wp_value (x := .bool true) (w' := w') ?_ ⟨_, rfl, RG.same hst hE9 hP rfl⟩
      clear hw hout hdp hE9 hP hst hL
      unfold execOp
      simp only [Act.eval, e130, e131]
      go_simp
    | 43, _ =>
      cases ho
      refine ⟨wanted_none rfl, ?_⟩
      have e132 := (hdp 42 132 (by kernel_rfl) (hw 42 (by kernel_rfl))).trans (show v 42 = .bool true from hP 42 (hw 42 (by kernel_rfl)))
      refine wp_value (x := .bool true) (w' := w') ?_ ⟨_, rfl, RG.same hst hE9 hP rfl⟩
      clear hw hout hdp hE9 hP hst hL
      unfold execOp
      simp only [Act.eval, e132]
      go_simp
    | 44, _ =>
      cases ho
      refine ⟨wanted_some rfl (by kernel_rfl) ((hdp 43 133 (by kernel_rfl) (hw 43 (by kernel_rfl))).trans (show v 43 = .bool true from hP 43 (hw 43 (by kernel_rfl)))), ?_⟩
      have e10 : F.tmps.getD 10 undef = .int .i64 0 := hout 10 (by kernel_rfl)
      refine wp_value (x := .int .i64 0) (w' := w') ?_ ⟨_, rfl, RG.same hst hE9 hP rfl⟩
      clear hw hout hdp hE9 hP hst hL
      unfold execOp
      simp only [Act.eval, e10]
      go_simp
    | 45, _ =>
      cases ho
      refine ⟨wanted_some rfl (by kernel_rfl) ((hdp 43 133 (by kernel_rfl) (hw 43 (by kernel_rfl))).trans (show v 43 = .bool true from hP 43 (hw 43 (by kernel_rfl)))), ?_⟩
      have e134 := (hdp 44 134 (by kernel_rfl) (hw 44 (by kernel_rfl))).trans (show v 44 = .int .i64 0 from hP 44 (hw 44 (by kernel_rfl)))
      refine wp_value (x := .bool true) (w' := w') ?_ ⟨_, rfl, RG.same hst hE9 hP rfl⟩
      clear hw hout hdp hE9 hP hst hL
      unfold execOp
      simp only [Act.eval, e134]
      go_simp
    | 46, _ =>
      cases ho
      refine ⟨wanted_none rfl, ?_⟩
      have e133 := (hdp 43 133 (by kernel_rfl) (hw 43 (by kernel_rfl))).trans (show v 43 = .bool true from hP 43 (hw 43 (by kernel_rfl)))
      have e135 := (hdp 45 135 (by kernel_rfl) (hw 45 (by kernel_rfl))).trans (show v 45 = .bool true from hP 45 (hw 45 (by kernel_rfl)))
      refine wp_value (x := .bool true) (w' := w') ?_ ⟨_, rfl, RG.same hst hE9 hP rfl⟩
      clear hw hout hdp hE9 hP hst hL
      unfold execOp
      simp only [Act.eval, e133, e135]
      go_simp
    | 47, _ =>
      cases ho
      refine ⟨wanted_none rfl, ?_⟩
      have e136 := (hdp 46 136 (by kernel_rfl) (hw 46 (by kernel_rfl))).trans (show v 46 = .bool true from hP 46 (hw 46 (by kernel_rfl)))
      refine wp_value (x := .bool true) (w' := w') ?_ ⟨_, rfl, RG.same hst hE9 hP rfl⟩
      clear hw hout hdp hE9 hP hst hL
      unfold execOp
      simp only [Act.eval, e136]
      go_simp
    | 48, _ =>
      cases ho
      refine ⟨wanted_some rfl (by kernel_rfl) ((hdp 47 137 (by kernel_rfl) (hw 47 (by kernel_rfl))).trans (show v 47 = .bool true from hP 47 (hw 47 (by kernel_rfl)))), ?_⟩
      have e11 : F.tmps.getD 11 undef = .bool false := hout 11 (by kernel_rfl)
      refine wp_value (x := .bool false) (w' := w') ?_ ⟨_, rfl, RG.same hst hE9 hP rfl⟩
      clear hw hout hdp hE9 hP hst hL
      unfold execOp
      simp only [Act.eval, e11]
      go_simp
    | 49, _ =>
      cases ho
      refine ⟨wanted_some rfl (by kernel_rfl) ((hdp 47 137 (by kernel_rfl) (hw 47 (by kernel_rfl))).trans (show v 47 = .bool true from hP 47 (hw 47 (by kernel_rfl)))), ?_⟩
      have e138 := (hdp 48 138 (by kernel_rfl) (hw 48 (by kernel_rfl))).trans (show v 48 = .bool false from hP 48 (hw 48 (by kernel_rfl)))
      refine wp_value (x := .bool true) (w' := w') ?_ ⟨_, rfl, RG.same hst hE9 hP rfl⟩
      clear hw hout hdp hE9 hP hst hL
      unfold execOp
      simp only [Act.eval, e138]
      go_simp
    | 50, _ =>
      cases ho
      refine ⟨wanted_none rfl, ?_⟩
      have e137 := (hdp 47 137 (by kernel_rfl) (hw 47 (by kernel_rfl))).trans (show v 47 = .bool true from hP 47 (hw 47 (by kernel_rfl)))
      have e139 := (hdp 49 139 (by kernel_rfl) (hw 49 (by kernel_rfl))).trans (show v 49 = .bool true from hP 49 (hw 49 (by kernel_rfl)))
      refine wp_value (x := .bool true) (w' := w') ?_ ⟨_, rfl, RG.same hst hE9 hP rfl⟩
      clear hw hout hdp hE9 hP hst hL
      unfold execOp
      simp only [Act.eval, e137, e139]
      go_simp
    | 51, _ =>
      cases ho
      refine ⟨wanted_none rfl, ?_⟩
      have e140 := (hdp 50 140 (by kernel_rfl) (hw 50 (by kernel_rfl))).trans (show v 50 = .bool true from hP 50 (hw 50 (by kernel_rfl)))
      refine wp_value (x := .bool true) (w' := w') ?_ ⟨_, rfl, RG.same hst hE9 hP rfl⟩
      clear hw hout hdp hE9 hP hst hL
      unfold execOp
      simp only [Act.eval, e140]
      go_simp
    | 52, _ =>
      cases ho
      refine ⟨wanted_some rfl (by kernel_rfl) ((hdp 51 141 (by kernel_rfl) (hw 51 (by kernel_rfl))).trans (show v 51 = .bool true from hP 51 (hw 51 (by kernel_rfl)))), ?_⟩
      have e15 : F.tmps.getD 15 undef = .int .i64 0 := hout 15 (by kernel_rfl)
      refine wp_value (x := .int .i64 0) (w' := w') ?_ ⟨_, rfl, RG.same hst hE9 hP rfl⟩
      clear hw hout hdp hE9 hP hst hL
      unfold execOp
      simp only [Act.eval, e15]
      go_simp
    | 53, _ =>
      cases ho
      refine ⟨wanted_some rfl (by kernel_rfl) ((hdp 51 141 (by kernel_rfl) (hw 51 (by kernel_rfl))).trans (show v 51 = .bool true from hP 51 (hw 51 (by kernel_rfl)))), ?_⟩
      have e142 := (hdp 52 142 (by kernel_rfl) (hw 52 (by kernel_rfl))).trans (show v 52 = .int .i64 0 from hP 52 (hw 52 (by kernel_rfl)))
      refine wp_value (x := .bool true) (w' := w') ?_ ⟨_, rfl, RG.same hst hE9 hP rfl⟩
      clear hw hout hdp hE9 hP hst hL
      unfold execOp
      simp only [Act.eval, e142]
      go_simp
    | 54, _ =>
      cases ho
      refine ⟨wanted_none rfl, ?_⟩
      have e141 := (hdp 51 141 (by kernel_rfl) (hw 51 (by kernel_rfl))).trans (show v 51 = .bool true from hP 51 (hw 51 (by kernel_rfl)))
      have e143 := (hdp 53 143 (by kernel_rfl) (hw 53 (by kernel_rfl))).trans (show v 53 = .bool true from hP 53 (hw 53 (by kernel_rfl)))
      refine wp_value (x := .bool true) (w' := w') ?_ ⟨_, rfl, RG.same hst hE9 hP rfl⟩
      clear hw hout hdp hE9 hP hst hL
      unfold execOp
      simp only [Act.eval, e141, e143]
      go_simp
    | 55, _ =>
      cases ho
      refine ⟨wanted_none rfl, ?_⟩
      have e144 := (hdp 54 144 (by kernel_rfl) (hw 54 (by kernel_rfl))).trans (show v 54 = .bool true from hP 54 (hw 54 (by kernel_rfl)))
      refine wp_value (x := .bool true) (w' := w') ?_ ⟨_, rfl, RG.same hst hE9 hP rfl⟩
      clear hw hout hdp hE9 hP hst hL
      unfold execOp
      simp only [Act.eval, e144]
      go_simp
    | 56, _ =>
      cases ho
      refine ⟨wanted_some rfl (by kernel_rfl) ((hdp 55 145 (by kernel_rfl) (hw 55 (by kernel_rfl))).trans (show v 55 = .bool true from hP 55 (hw 55 (by kernel_rfl)))), ?_⟩
      have e12 : F.tmps.getD 12 undef = .pointer (some ⟨ab, 0, none⟩) := hout 12 (by kernel_rfl)
      have n0 := blk_cell_J (HBA.out.ext hE9) 0 rfl
      have n1 := blk_cell_J (HBA.out.ext hE9) 1 rfl
      have n2 := blk_cell_J (HBA.out.ext hE9) 2 rfl
      refine wp_value (x := .agg #[.bool (leafN [[97]]).leaf, .slice Aa (leafN [[97]]).items.length ca, .slice Ka (leafN [[97]]).kids.length da]) (w' := w') ?_ ⟨_, rfl, RG.same hst hE9 hP rfl⟩
      clear hw hout hdp hE9 hP hst hL
      unfold execOp
      simp only [Act.eval, e12]
      go_simp
    | 57, _ =>
      cases ho
      refine ⟨wanted_some rfl (by kernel_rfl) ((hdp 55 145 (by kernel_rfl) (hw 55 (by kernel_rfl))).trans (show v 55 = .bool true from hP 55 (hw 55 (by kernel_rfl)))), ?_⟩
      have hlv := strs_lit hE9.inv [[97]] (by decide)
      refine wp_value (x := .slice (some ⟨w'.heap.size, 0, none⟩) 1 1) (w' := w'.alloc (.cells (strsV [[97]]).toArray 9)) ?_ ⟨_, rfl, RG.put hst hE9 hP hlv.1 hlv.2⟩
      clear hw hout hdp hE9 hP hst hL hlv
      unfold execOp
      go_simp
      try rfl
    | 58, _ =>
      cases ho
      refine ⟨wanted_some rfl (by kernel_rfl) ((hdp 55 145 (by kernel_rfl) (hw 55 (by kernel_rfl))).trans (show v 55 = .bool true from hP 55 (hw 55 (by kernel_rfl)))), ?_⟩
      have h57 : Sl J9 1 (v 57) 1 (strsV [[97]]) := hP 57 (hw 57 (by kernel_rfl))
      obtain ⟨A57, c57, h57v, -, -⟩ := h57.form
      have e147 := (hdp 57 147 (by kernel_rfl) (hw 57 (by kernel_rfl))).trans h57v
      rw [h57v] at h57
      have hcl := leaf_calls (ks := [[97]]) hE9.inv h57 (by decide)
      have HP := Lib.hid hP
      have HE9 := Lib.hid hE9
      have HST := Lib.hid hst
      clear hw hout hdp hE9 hP hst hL h57 h57v
      unfold Oper.wp execOp
      go_simp
      refine hcl.mono ?_
      rintro e5 w5 ⟨v5, J5, rfl, hE5, hO5⟩
      exact ⟨_, rfl, RG.put HST.out HE9.out HP.out hE5 hO5.v⟩
    | 59, _ =>
      cases ho
      refine ⟨wanted_some rfl (by kernel_rfl) ((hdp 55 145 (by kernel_rfl) (hw 55 (by kernel_rfl))).trans (show v 55 = .bool true from hP 55 (hw 55 (by kernel_rfl)))), ?_⟩
      have e146 := (hdp 56 146 (by kernel_rfl) (hw 56 (by kernel_rfl))).trans (show v 56 = .agg #[.bool (leafN [[97]]).leaf, .slice Aa (leafN [[97]]).items.length ca, .slice Ka (leafN [[97]]).kids.length da] from hP 56 (hw 56 (by kernel_rfl)))
      have h58 : NdV J9 (v 58) (leafN [[97]]) := hP 58 (hw 58 (by kernel_rfl))
      obtain ⟨A58, c58, K58, k58, h58v, -⟩ := h58.form
      have e148 := (hdp 58 148 (by kernel_rfl) (hw 58 (by kernel_rfl))).trans h58v
      rw [h58v] at h58
      have hcl := refSame_calls hE9.inv (HVA.out.mono (hE9.le HE.out.inv)) h58
      have HP := Lib.hid hP
      have HE9 := Lib.hid hE9
      have HST := Lib.hid hst
      clear hw hout hdp hE9 hP hst hL h58 h58v
      unfold Oper.wp execOp
      go_simp
      refine hcl.mono ?_
      rw [show decide (leafN [[97]] = leafN [[97]]) = true from decide_eq_true rfl]
      rintro e5 w5 ⟨rfl, hb5⟩
      exact ⟨_, rfl, RG.put HST.out HE9.out HP.out (Ext.of_below HE9.out.inv hb5) rfl⟩
    | 60, _ =>
      cases ho
      refine ⟨wanted_none rfl, ?_⟩
      have e145 := (hdp 55 145 (by kernel_rfl) (hw 55 (by kernel_rfl))).trans (show v 55 = .bool true from hP 55 (hw 55 (by kernel_rfl)))
      have e149 := (hdp 59 149 (by kernel_rfl) (hw 59 (by kernel_rfl))).trans (show v 59 = .bool true from hP 59 (hw 59 (by kernel_rfl)))
      refine wp_value (x := .bool true) (w' := w') ?_ ⟨_, rfl, RG.same hst hE9 hP rfl⟩
      clear hw hout hdp hE9 hP hst hL
      unfold execOp
      simp only [Act.eval, e145, e149]
      go_simp
    | 61, _ =>
      cases ho
      refine ⟨wanted_none rfl, ?_⟩
      have e150 := (hdp 60 150 (by kernel_rfl) (hw 60 (by kernel_rfl))).trans (show v 60 = .bool true from hP 60 (hw 60 (by kernel_rfl)))
      refine wp_value (x := .bool true) (w' := w') ?_ ⟨_, rfl, RG.same hst hE9 hP rfl⟩
      clear hw hout hdp hE9 hP hst hL
      unfold execOp
      simp only [Act.eval, e150]
      go_simp
    | 62, _ =>
      cases ho
      refine ⟨wanted_some rfl (by kernel_rfl) ((hdp 61 151 (by kernel_rfl) (hw 61 (by kernel_rfl))).trans (show v 61 = .bool true from hP 61 (hw 61 (by kernel_rfl)))), ?_⟩
      have e13 : F.tmps.getD 13 undef = .string (strB [98]) := hout 13 (by kernel_rfl)
      refine wp_value (x := .string (strB [98])) (w' := w') ?_ ⟨_, rfl, RG.same hst hE9 hP rfl⟩
      clear hw hout hdp hE9 hP hst hL
      unfold execOp
      simp only [Act.eval, e13]
      go_simp
    | 63, _ =>
      cases ho
      refine ⟨wanted_some rfl (by kernel_rfl) ((hdp 61 151 (by kernel_rfl) (hw 61 (by kernel_rfl))).trans (show v 61 = .bool true from hP 61 (hw 61 (by kernel_rfl)))), ?_⟩
      have e152 := (hdp 62 152 (by kernel_rfl) (hw 62 (by kernel_rfl))).trans (show v 62 = .string (strB [98]) from hP 62 (hw 62 (by kernel_rfl)))
      refine wp_value (x := .bool true) (w' := w') ?_ ⟨_, rfl, RG.same hst hE9 hP rfl⟩
      clear hw hout hdp hE9 hP hst hL
      unfold execOp
      simp only [Act.eval, e152]
      go_simp
      exact strB_toList _
    | 64, _ =>
      cases ho
      refine ⟨wanted_none rfl, ?_⟩
      have e151 := (hdp 61 151 (by kernel_rfl) (hw 61 (by kernel_rfl))).trans (show v 61 = .bool true from hP 61 (hw 61 (by kernel_rfl)))
      have e153 := (hdp 63 153 (by kernel_rfl) (hw 63 (by kernel_rfl))).trans (show v 63 = .bool true from hP 63 (hw 63 (by kernel_rfl)))
      refine wp_value (x := .bool true) (w' := w') ?_ ⟨_, rfl, RG.same hst hE9 hP rfl⟩
      clear hw hout hdp hE9 hP hst hL
      unfold execOp
      simp only [Act.eval, e151, e153]
      go_simp
    | 65, _ =>
      cases ho
      refine ⟨wanted_none rfl, ?_⟩
      have e154 := (hdp 64 154 (by kernel_rfl) (hw 64 (by kernel_rfl))).trans (show v 64 = .bool true from hP 64 (hw 64 (by kernel_rfl)))
      refine wp_value (x := .bool true) (w' := w') ?_ ⟨_, rfl, RG.same hst hE9 hP rfl⟩
      clear hw hout hdp hE9 hP hst hL
      unfold execOp
      simp only [Act.eval, e154]
      go_simp
    | 66, _ =>
      cases ho
      refine ⟨wanted_some rfl (by kernel_rfl) ((hdp 65 155 (by kernel_rfl) (hw 65 (by kernel_rfl))).trans (show v 65 = .bool true from hP 65 (hw 65 (by kernel_rfl)))), ?_⟩
      have e14 : F.tmps.getD 14 undef = .pointer (some ⟨bb, 0, none⟩) := hout 14 (by kernel_rfl)
      have n0 := blk_cell_J (HBB.out.ext hE9) 0 rfl
      have n1 := blk_cell_J (HBB.out.ext hE9) 1 rfl
      have n2 := blk_cell_J (HBB.out.ext hE9) 2 rfl
      refine wp_value (x := .agg #[.bool (leafN [[98], [99]]).leaf, .slice Ab (leafN [[98], [99]]).items.length cb, .slice Kb (leafN [[98], [99]]).kids.length db]) (w' := w') ?_ ⟨_, rfl, RG.same hst hE9 hP rfl⟩
      clear hw hout hdp hE9 hP hst hL
      unfold execOp
      simp only [Act.eval, e14]
      go_simp
    | 67, _ =>
      cases ho
      refine ⟨wanted_some rfl (by kernel_rfl) ((hdp 65 155 (by kernel_rfl) (hw 65 (by kernel_rfl))).trans (show v 65 = .bool true from hP 65 (hw 65 (by kernel_rfl)))), ?_⟩
      have hlv := strs_lit hE9.inv [[98], [99]] (by decide)
      refine wp_value (x := .slice (some ⟨w'.heap.size, 0, none⟩) 2 2) (w' := w'.alloc (.cells (strsV [[98], [99]]).toArray 9)) ?_ ⟨_, rfl, RG.put hst hE9 hP hlv.1 hlv.2⟩
      clear hw hout hdp hE9 hP hst hL hlv
      unfold execOp
      go_simp
      try rfl
    | 68, _ =>
      cases ho
      refine ⟨wanted_some rfl (by kernel_rfl) ((hdp 65 155 (by kernel_rfl) (hw 65 (by kernel_rfl))).trans (show v 65 = .bool true from hP 65 (hw 65 (by kernel_rfl)))), ?_⟩
      have h67 : Sl J9 1 (v 67) 2 (strsV [[98], [99]]) := hP 67 (hw 67 (by kernel_rfl))
      obtain ⟨A67, c67, h67v, -, -⟩ := h67.form
      have e157 := (hdp 67 157 (by kernel_rfl) (hw 67 (by kernel_rfl))).trans h67v
      rw [h67v] at h67
      have hcl := leaf_calls (ks := [[98], [99]]) hE9.inv h67 (by decide)
      have HP := Lib.hid hP
      have HE9 := Lib.hid hE9
      have HST := Lib.hid hst
      clear hw hout hdp hE9 hP hst hL h67 h67v
      unfold Oper.wp execOp
      go_simp
      refine hcl.mono ?_
      rintro e5 w5 ⟨v5, J5, rfl, hE5, hO5⟩
      exact ⟨_, rfl, RG.put HST.out HE9.out HP.out hE5 hO5.v⟩
    | 69, _ =>
      cases ho
      refine ⟨wanted_some rfl (by kernel_rfl) ((hdp 65 155 (by kernel_rfl) (hw 65 (by kernel_rfl))).trans (show v 65 = .bool true from hP 65 (hw 65 (by kernel_rfl)))), ?_⟩
      have e156 := (hdp 66 156 (by kernel_rfl) (hw 66 (by kernel_rfl))).trans (show v 66 = .agg #[.bool (leafN [[98], [99]]).leaf, .slice Ab (leafN [[98], [99]]).items.length cb, .slice Kb (leafN [[98], [99]]).kids.length db] from hP 66 (hw 66 (by kernel_rfl)))
      have h68 : NdV J9 (v 68) (leafN [[98], [99]]) := hP 68 (hw 68 (by kernel_rfl))
      obtain ⟨A68, c68, K68, k68, h68v, -⟩ := h68.form
      have e158 := (hdp 68 158 (by kernel_rfl) (hw 68 (by kernel_rfl))).trans h68v
      rw [h68v] at h68
      have hcl := refSame_calls hE9.inv (HVB.out.mono (hE9.le HE.out.inv)) h68
      have HP := Lib.hid hP
      have HE9 := Lib.hid hE9
      have HST := Lib.hid hst
      clear hw hout hdp hE9 hP hst hL h68 h68v
      unfold Oper.wp execOp
      go_simp
      refine hcl.mono ?_
      rw [show decide (leafN [[98], [99]] = leafN [[98], [99]]) = true from decide_eq_true rfl]
      rintro e5 w5 ⟨rfl, hb5⟩
      exact ⟨_, rfl, RG.put HST.out HE9.out HP.out (Ext.of_below HE9.out.inv hb5) rfl⟩
    | 70, _ =>
      cases ho
      refine ⟨wanted_none rfl, ?_⟩
      have e155 := (hdp 65 155 (by kernel_rfl) (hw 65 (by kernel_rfl))).trans (show v 65 = .bool true from hP 65 (hw 65 (by kernel_rfl)))
      have e159 := (hdp 69 159 (by kernel_rfl) (hw 69 (by kernel_rfl))).trans (show v 69 = .bool true from hP 69 (hw 69 (by kernel_rfl)))
      refine wp_value (x := .bool true) (w' := w') ?_ ⟨_, rfl, RG.same hst hE9 hP rfl⟩
      clear hw hout hdp hE9 hP hst hL
      unfold execOp
      simp only [Act.eval, e155, e159]
      go_simp
    | 71, _ =>
      cases ho
      refine ⟨wanted_none rfl, ?_⟩
      have e160 := (hdp 70 160 (by kernel_rfl) (hw 70 (by kernel_rfl))).trans (show v 70 = .bool true from hP 70 (hw 70 (by kernel_rfl)))
      refine wp_value (x := .bool true) (w' := w') ?_ ⟨_, rfl, RG.same hst hE9 hP rfl⟩
      clear hw hout hdp hE9 hP hst hL
      unfold execOp
      simp only [Act.eval, e160]
      go_simp
    | 72, _ =>
      cases ho
      refine ⟨wanted_some rfl (by kernel_rfl) ((hdp 71 161 (by kernel_rfl) (hw 71 (by kernel_rfl))).trans (show v 71 = .bool true from hP 71 (hw 71 (by kernel_rfl)))), ?_⟩
      have e19 : F.tmps.getD 19 undef = .int .i64 4 := hout 19 (by kernel_rfl)
      refine wp_value (x := .int .i64 4) (w' := w') ?_ ⟨_, rfl, RG.same hst hE9 hP rfl⟩
      clear hw hout hdp hE9 hP hst hL
      unfold execOp
      simp only [Act.eval, e19]
      go_simp
    | 73, _ =>
      cases ho
      refine ⟨wanted_some rfl (by kernel_rfl) ((hdp 71 161 (by kernel_rfl) (hw 71 (by kernel_rfl))).trans (show v 71 = .bool true from hP 71 (hw 71 (by kernel_rfl)))), ?_⟩
      have e162 := (hdp 72 162 (by kernel_rfl) (hw 72 (by kernel_rfl))).trans (show v 72 = .int .i64 4 from hP 72 (hw 72 (by kernel_rfl)))
      refine wp_value (x := .bool true) (w' := w') ?_ ⟨_, rfl, RG.same hst hE9 hP rfl⟩
      clear hw hout hdp hE9 hP hst hL
      unfold execOp
      simp only [Act.eval, e162]
      go_simp
    | 74, _ =>
      cases ho
      refine ⟨wanted_none rfl, ?_⟩
      have e161 := (hdp 71 161 (by kernel_rfl) (hw 71 (by kernel_rfl))).trans (show v 71 = .bool true from hP 71 (hw 71 (by kernel_rfl)))
      have e163 := (hdp 73 163 (by kernel_rfl) (hw 73 (by kernel_rfl))).trans (show v 73 = .bool true from hP 73 (hw 73 (by kernel_rfl)))
      refine wp_value (x := .bool true) (w' := w') ?_ ⟨_, rfl, RG.same hst hE9 hP rfl⟩
      clear hw hout hdp hE9 hP hst hL
      unfold execOp
      simp only [Act.eval, e161, e163]
      go_simp
    | 75, _ =>
      cases ho
      refine ⟨wanted_none rfl, ?_⟩
      have e164 := (hdp 74 164 (by kernel_rfl) (hw 74 (by kernel_rfl))).trans (show v 74 = .bool true from hP 74 (hw 74 (by kernel_rfl)))
      refine wp_value (x := .bool true) (w' := w') ?_ ⟨_, rfl, RG.same hst hE9 hP rfl⟩
      clear hw hout hdp hE9 hP hst hL
      unfold execOp
      simp only [Act.eval, e164]
      go_simp
    | 76, _ =>
      cases ho
      refine ⟨wanted_some rfl (by kernel_rfl) ((hdp 75 165 (by kernel_rfl) (hw 75 (by kernel_rfl))).trans (show v 75 = .bool true from hP 75 (hw 75 (by kernel_rfl)))), ?_⟩
      have e21 : F.tmps.getD 21 undef = .int .i64 0 := hout 21 (by kernel_rfl)
      refine wp_value (x := .int .i64 0) (w' := w') ?_ ⟨_, rfl, RG.same hst hE9 hP rfl⟩
      clear hw hout hdp hE9 hP hst hL
      unfold execOp
      simp only [Act.eval, e21]
      go_simp
    | 77, _ =>
      cases ho
      refine ⟨wanted_some rfl (by kernel_rfl) ((hdp 75 165 (by kernel_rfl) (hw 75 (by kernel_rfl))).trans (show v 75 = .bool true from hP 75 (hw 75 (by kernel_rfl)))), ?_⟩
      have e166 := (hdp 76 166 (by kernel_rfl) (hw 76 (by kernel_rfl))).trans (show v 76 = .int .i64 0 from hP 76 (hw 76 (by kernel_rfl)))
      refine wp_value (x := .bool true) (w' := w') ?_ ⟨_, rfl, RG.same hst hE9 hP rfl⟩
      clear hw hout hdp hE9 hP hst hL
      unfold execOp
      simp only [Act.eval, e166]
      go_simp
    | 78, _ =>
      cases ho
      refine ⟨wanted_none rfl, ?_⟩
      have e165 := (hdp 75 165 (by kernel_rfl) (hw 75 (by kernel_rfl))).trans (show v 75 = .bool true from hP 75 (hw 75 (by kernel_rfl)))
      have e167 := (hdp 77 167 (by kernel_rfl) (hw 77 (by kernel_rfl))).trans (show v 77 = .bool true from hP 77 (hw 77 (by kernel_rfl)))
      refine wp_value (x := .bool true) (w' := w') ?_ ⟨_, rfl, RG.same hst hE9 hP rfl⟩
      clear hw hout hdp hE9 hP hst hL
      unfold execOp
      simp only [Act.eval, e165, e167]
      go_simp
    | 79, _ =>
      cases ho
      refine ⟨wanted_none rfl, ?_⟩
      have e168 := (hdp 78 168 (by kernel_rfl) (hw 78 (by kernel_rfl))).trans (show v 78 = .bool true from hP 78 (hw 78 (by kernel_rfl)))
      refine wp_value (x := .bool true) (w' := w') ?_ ⟨_, rfl, RG.same hst hE9 hP rfl⟩
      clear hw hout hdp hE9 hP hst hL
      unfold execOp
      simp only [Act.eval, e168]
      go_simp
    | 80, _ =>
      cases ho
      refine ⟨wanted_some rfl (by kernel_rfl) ((hdp 79 169 (by kernel_rfl) (hw 79 (by kernel_rfl))).trans (show v 79 = .bool true from hP 79 (hw 79 (by kernel_rfl)))), ?_⟩
      have e20 : F.tmps.getD 20 undef = .pointer (some ⟨nn, 0, none⟩) := hout 20 (by kernel_rfl)
      have n0 := blk_cell_J (HBN.out.ext hE9) 0 rfl
      have n1 := blk_cell_J (HBN.out.ext hE9) 1 rfl
      have n2 := blk_cell_J (HBN.out.ext hE9) 2 rfl
      refine wp_value (x := .agg #[.bool (leafN [[97], [98], [99]]).leaf, .slice An (leafN [[97], [98], [99]]).items.length cn, .slice Kn (leafN [[97], [98], [99]]).kids.length dn]) (w' := w') ?_ ⟨_, rfl, RG.same hst hE9 hP rfl⟩
      clear hw hout hdp hE9 hP hst hL
      unfold execOp
      simp only [Act.eval, e20]
      go_simp
    | 81, _ =>
      cases ho
      refine ⟨wanted_some rfl (by kernel_rfl) ((hdp 79 169 (by kernel_rfl) (hw 79 (by kernel_rfl))).trans (show v 79 = .bool true from hP 79 (hw 79 (by kernel_rfl)))), ?_⟩
      have hlv := strs_lit hE9.inv [[97], [98], [99]] (by decide)
      refine wp_value (x := .slice (some ⟨w'.heap.size, 0, none⟩) 3 3) (w' := w'.alloc (.cells (strsV [[97], [98], [99]]).toArray 9)) ?_ ⟨_, rfl, RG.put hst hE9 hP hlv.1 hlv.2⟩
      clear hw hout hdp hE9 hP hst hL hlv
      unfold execOp
      go_simp
      try rfl
    | 82, _ =>
      cases ho
      refine ⟨wanted_some rfl (by kernel_rfl) ((hdp 79 169 (by kernel_rfl) (hw 79 (by kernel_rfl))).trans (show v 79 = .bool true from hP 79 (hw 79 (by kernel_rfl)))), ?_⟩
      have h81 : Sl J9 1 (v 81) 3 (strsV [[97], [98], [99]]) := hP 81 (hw 81 (by kernel_rfl))
      obtain ⟨A81, c81, h81v, -, -⟩ := h81.form
      have e171 := (hdp 81 171 (by kernel_rfl) (hw 81 (by kernel_rfl))).trans h81v
      rw [h81v] at h81
      have hcl := leaf_calls (ks := [[97], [98], [99]]) hE9.inv h81 (by decide)
      have HP := Lib.hid hP
      have HE9 := Lib.hid hE9
      have HST := Lib.hid hst
      clear hw hout hdp hE9 hP hst hL h81 h81v
      unfold Oper.wp execOp
      go_simp
      refine hcl.mono ?_
      rintro e5 w5 ⟨v5, J5, rfl, hE5, hO5⟩
      exact ⟨_, rfl, RG.put HST.out HE9.out HP.out hE5 hO5.v⟩
    | 83, _ =>
      cases ho
      refine ⟨wanted_some rfl (by kernel_rfl) ((hdp 79 169 (by kernel_rfl) (hw 79 (by kernel_rfl))).trans (show v 79 = .bool true from hP 79 (hw 79 (by kernel_rfl)))), ?_⟩
      have e170 := (hdp 80 170 (by kernel_rfl) (hw 80 (by kernel_rfl))).trans (show v 80 = .agg #[.bool (leafN [[97], [98], [99]]).leaf, .slice An (leafN [[97], [98], [99]]).items.length cn, .slice Kn (leafN [[97], [98], [99]]).kids.length dn] from hP 80 (hw 80 (by kernel_rfl)))
      have h82 : NdV J9 (v 82) (leafN [[97], [98], [99]]) := hP 82 (hw 82 (by kernel_rfl))
      obtain ⟨A82, c82, K82, k82, h82v, -⟩ := h82.form
      have e172 := (hdp 82 172 (by kernel_rfl) (hw 82 (by kernel_rfl))).trans h82v
      rw [h82v] at h82
      have hcl := refSame_calls hE9.inv (HVN.out.mono (hE9.le HE.out.inv)) h82
      have HP := Lib.hid hP
      have HE9 := Lib.hid hE9
      have HST := Lib.hid hst
      clear hw hout hdp hE9 hP hst hL h82 h82v
      unfold Oper.wp execOp
      go_simp
      refine hcl.mono ?_
      rw [show decide (leafN [[97], [98], [99]] = leafN [[97], [98], [99]]) = true from decide_eq_true rfl]
      rintro e5 w5 ⟨rfl, hb5⟩
      exact ⟨_, rfl, RG.put HST.out HE9.out HP.out (Ext.of_below HE9.out.inv hb5) rfl⟩
    | 84, _ =>
      cases ho
      refine ⟨wanted_none rfl, ?_⟩
      have e169 := (hdp 79 169 (by kernel_rfl) (hw 79 (by kernel_rfl))).trans (show v 79 = .bool true from hP 79 (hw 79 (by kernel_rfl)))
      have e173 := (hdp 83 173 (by kernel_rfl) (hw 83 (by kernel_rfl))).trans (show v 83 = .bool true from hP 83 (hw 83 (by kernel_rfl)))
      refine wp_value (x := .bool true) (w' := w') ?_ ⟨_, rfl, RG.same hst hE9 hP rfl⟩
      clear hw hout hdp hE9 hP hst hL
      unfold execOp
      simp only [Act.eval, e169, e173]
      go_simp
    | 85, _ =>
      cases ho
      refine ⟨wanted_none rfl, ?_⟩
      have e174 := (hdp 84 174 (by kernel_rfl) (hw 84 (by kernel_rfl))).trans (show v 84 = .bool true from hP 84 (hw 84 (by kernel_rfl)))
      refine wp_value (x := .bool true) (w' := w') ?_ ⟨_, rfl, RG.same hst hE9 hP rfl⟩
      clear hw hout hdp hE9 hP hst hL
      unfold execOp
      simp only [Act.eval, e174]
      go_simp
    | 86, _ =>
      cases ho
      refine ⟨wanted_some rfl (by kernel_rfl) ((hdp 85 175 (by kernel_rfl) (hw 85 (by kernel_rfl))).trans (show v 85 = .bool true from hP 85 (hw 85 (by kernel_rfl)))), ?_⟩
      have e23 : F.tmps.getD 23 undef = .int .i64 2 := hout 23 (by kernel_rfl)
      refine wp_value (x := .int .i64 2) (w' := w') ?_ ⟨_, rfl, RG.same hst hE9 hP rfl⟩
      clear hw hout hdp hE9 hP hst hL
      unfold execOp
      simp only [Act.eval, e23]
      go_simp
    | 87, _ =>
      cases ho
      refine ⟨wanted_some rfl (by kernel_rfl) ((hdp 85 175 (by kernel_rfl) (hw 85 (by kernel_rfl))).trans (show v 85 = .bool true from hP 85 (hw 85 (by kernel_rfl)))), ?_⟩
      have e176 := (hdp 86 176 (by kernel_rfl) (hw 86 (by kernel_rfl))).trans (show v 86 = .int .i64 2 from hP 86 (hw 86 (by kernel_rfl)))
      refine wp_value (x := .bool true) (w' := w') ?_ ⟨_, rfl, RG.same hst hE9 hP rfl⟩
      clear hw hout hdp hE9 hP hst hL
      unfold execOp
      simp only [Act.eval, e176]
      go_simp
    | 88, _ =>
      cases ho
      refine ⟨wanted_none rfl, ?_⟩
      have e175 := (hdp 85 175 (by kernel_rfl) (hw 85 (by kernel_rfl))).trans (show v 85 = .bool true from hP 85 (hw 85 (by kernel_rfl)))
      have e177 := (hdp 87 177 (by kernel_rfl) (hw 87 (by kernel_rfl))).trans (show v 87 = .bool true from hP 87 (hw 87 (by kernel_rfl)))
      refine wp_value (x := .bool true) (w' := w') ?_ ⟨_, rfl, RG.same hst hE9 hP rfl⟩
      clear hw hout hdp hE9 hP hst hL
      unfold execOp
      simp only [Act.eval, e175, e177]
      go_simp
    | q + 89, h => exact absurd h (by omega)
  · intro L v w' F hall hc hF hFd hout hdp
    obtain ⟨J9, hE9, hP⟩ := hc
    have e178 := (hdp 88 178 (by kernel_rfl)).trans (show v 88 = .bool true from hP 88 (hall 88 (by omega)))
    have psz : F.tmps.size = 179 := by rw [hF, fill_size]; rfl
    have pd : F.defers = [] := hFd
    have HE9 := Lib.hid hE9
    clear hF hFd hout hdp hall hP hE9
    refine wpList_value (x := .bool true) (w' := w') rfl (by unfold execOp; simp only [Act.eval, e178]; go_simp) ?_
    refine wpList_nil ?_
    change Exit.then _ _ .normal (F.put (some 0) (.bool true)) _
    go_step
    go_step
    go_step
    refine ⟨pd, _, ?_, rfl, (HE.out.trans HE9.out).below⟩
    simp [results, Try.results8, go_sem, psz]
end Go.Proofs.Ytnnkgjaahmflmaa
