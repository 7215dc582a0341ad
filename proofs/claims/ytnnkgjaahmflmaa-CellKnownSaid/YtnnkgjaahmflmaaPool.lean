/- A region that draws its order: operations in a pool, that may come in many orders and make memory; behind them a chain. -/
import Derived.Test.YtnnkgjaahmflmaaMv
import Derived.OrdersHeld
import Derived.StillTail
import Derived.Deep.RegionHeld3
namespace Go.Proofs.Ytnnkgjaahmflmaa
open Go.RowKit

def dstOf (ops : Array Oper) (k : Nat) : Option Tmp := ops[k]?.bind Oper.dst
/-- the act behind those operations of the pool that have come -/
def fillP (ops : Array Oper) (L : Nat → Bool) (v : Nat → Value) (a : Act) : Nat → Act
  | 0 => a
  | k + 1 => if L k = true then (fillP ops L v a k).put (dstOf ops k) (v k) else fillP ops L v a k
def updB (L : Nat → Bool) (i : Nat) : Nat → Bool := fun j => if j = i then true else L j
def updV (v : Nat → Value) (i : Nat) (x : Value) : Nat → Value := fun j => if j = i then x else v j
def poolB (ops : Array Oper) (n : Nat) : Bool :=
  decide (n ≤ ops.size) &&
  (List.range n).all (fun i => match ops[i]? with
    | some o => o.guard.isNone && o.after.all (fun e => !Region.binds .any e || decide (e.on < i)) && (List.range i).all (fun j => decide (dstOf ops j ≠ o.dst))
    | none => false) &&
  (List.range ops.size).all (fun j => decide (j < n) || (List.range n).all (fun i => Region.waitsFor .any ops j i)) &&
  Region.seqB .any ops (ops.size - n) n ((List.replicate n true ++ List.replicate (ops.size - n) false).toArray)
theorem put_comm (a : Act) {d e : Option Tmp} (h : d ≠ e) (x y : Value) : (a.put d x).put e y = (a.put e y).put d x := by
  cases d <;> cases e <;> simp only [Act.put]
  rename_i d e
  have : d ≠ e := fun h' => h (by rw [h'])
  rw [Array.setIfInBounds_comm _ _ this]
theorem fill_upd {ops : Array Oper} {L : Nat → Bool} {v : Nat → Value} {a : Act} {i : Nat} {x : Value} (hL : L i = false) : ∀ k, (∀ j, j < k → j ≠ i → dstOf ops j ≠ dstOf ops i) → fillP ops (updB L i) (updV v i x) a k = if i < k then (fillP ops L v a k).put (dstOf ops i) x else fillP ops L v a k
  | 0, _ => rfl
  | k + 1, hd => by
    have ih := fill_upd (v := v) (a := a) (x := x) hL k fun j hj => hd j (by omega)
    unfold fillP
    rw [ih]
    by_cases hk : k = i
    · subst hk
      simp [updB, updV, hL]
    · have h1 : updB L i k = L k := by simp [updB, hk]
      have h2 : updV v i x k = v k := by simp [updV, hk]
      rw [h1, h2]
      by_cases hi : i < k
      · rw [if_pos hi, if_pos (by omega : i < k + 1)]
        split
        · rw [put_comm _ (fun e => hd k (by omega) hk e.symm)]
        · rfl
      · rw [if_neg hi, if_neg (by omega : ¬ i < k + 1)]
theorem fill_out {ops : Array Oper} {L : Nat → Bool} {v : Nat → Value} {a : Act} {d : Tmp} : ∀ k, (∀ j, j < k → dstOf ops j ≠ some d) → (fillP ops L v a k).tmps.getD d undef = a.tmps.getD d undef
  | 0, _ => rfl
  | k + 1, h => by
    have ih := fill_out (L := L) (v := v) (a := a) k fun j hj => h j (by omega)
    unfold fillP
    split
    · have hk := h k (by omega)
      rw [← ih]
      cases hd : dstOf ops k with
      | none => rfl
      | some e =>
        rw [hd] at hk
        simp only [Act.put]
        have : e ≠ d := fun e' => hk (by rw [e'])
        simp [Array.getD_eq_getD_getElem?, Array.getElem?_setIfInBounds_ne this]
    · exact ih
theorem fill_size {ops : Array Oper} {L : Nat → Bool} {v : Nat → Value} {a : Act} : ∀ k, (fillP ops L v a k).tmps.size = a.tmps.size
  | 0 => rfl
  | k + 1 => by
    have ih := fill_size (ops := ops) (L := L) (v := v) (a := a) k
    unfold fillP
    split
    · cases dstOf ops k <;> simp [Act.put, ih]
    · exact ih
theorem fill_dep {ops : Array Oper} {L : Nat → Bool} {v : Nat → Value} {a : Act} {d : Tmp} {j : Nat} (hL : L j = true) (hd : dstOf ops j = some d) (hs : d < a.tmps.size) : ∀ k, j < k → (∀ i, i < k → i ≠ j → dstOf ops i ≠ some d) → (fillP ops L v a k).tmps.getD d undef = v j
  | k + 1, hk, h => by
    unfold fillP
    by_cases e : k = j
    · subst e
      rw [if_pos hL, hd]
      have := fill_size (ops := ops) (L := L) (v := v) (a := a) k
      simp [Act.put, Array.getD_eq_getD_getElem?, Array.getElem?_setIfInBounds, this, hs]
    · have ih := fill_dep (v := v) hL hd hs k (by omega) fun i hi => h i (by omega)
      split
      · have hk' := h k (by omega) e
        rw [← ih]
        cases hd' : dstOf ops k with
        | none => rfl
        | some e' =>
          rw [hd'] at hk'
          simp only [Act.put]
          have : e' ≠ d := fun e'' => hk' (by rw [e''])
          simp [Array.getD_eq_getD_getElem?, Array.getElem?_setIfInBounds_ne this]
      · exact ih
theorem fill_defers {ops : Array Oper} {L : Nat → Bool} {v : Nat → Value} {a : Act} : ∀ k, (fillP ops L v a k).defers = a.defers
  | 0 => rfl
  | k + 1 => by
    have ih := fill_defers (ops := ops) (L := L) (v := v) (a := a) k
    unfold fillP
    split
    · cases dstOf ops k <;> simp [Act.put, ih]
    · exact ih
section
variable {P : Program} {ops : Array Oper} {Q : Exit → Act → World → Prop} {n : Nat} {a0 : Act} {I : (Nat → Bool) → (Nat → Value) → World → Prop}
def cntF (l : Array Bool) (n : Nat) : Nat := ((List.range n).filter fun j => l.getD j false == false).length
theorem cnt_upd {p q : Nat → Bool} {j : Nat} (hp : p j = true) (hq : q j = false) (h : ∀ i, i ≠ j → q i = p i) : ∀ n, ((List.range n).filter p).length = ((List.range n).filter q).length + (if j < n then 1 else 0)
  | 0 => rfl
  | n + 1 => by
    have ih := cnt_upd hp hq h n
    rw [List.range_succ, List.filter_append, List.filter_append, List.length_append, List.length_append, ih]
    by_cases hj : n = j
    · subst hj
      simp [List.filter_cons, hp, hq]
    · have := h n hj
      simp only [List.filter_cons, this, List.filter_nil]
      have h1 : (if j < n then (1 : Nat) else 0) = if j < n + 1 then 1 else 0 := by
        by_cases h' : j < n
        · rw [if_pos h', if_pos (by omega)]
        · rw [if_neg h', if_neg (by omega)]
      rw [h1]
      omega
theorem cnt_set {l : Array Bool} {n m j : Nat} (hc : cntF l n = m + 1) (hj : j < n) (hf : l.getD j false = false) (hs : j < l.size) : cntF (l.setIfInBounds j true) n = m := by
  unfold cntF at *
  have := cnt_upd (p := fun i => l.getD i false == false) (q := fun i => (l.setIfInBounds j true).getD i false == false) (j := j) (by simp only [hf]; rfl) (by simp [Array.getD_eq_getD_getElem?, hs]) (fun i hi => by
    simp [Array.getD_eq_getD_getElem?, Array.getElem?_setIfInBounds_ne (Ne.symm hi)]) n
  rw [if_pos hj] at this
  omega
theorem pool_any (hp : poolB ops n = true)
    (step : ∀ i o, i < n → ops[i]? = some o → ∀ L v w, I L v w → L i = false → (∀ e ∈ o.after, Region.binds .any e = true → L e.on = true) →
      o.wp P (fillP ops L v a0 n) w (fun a' w' => ∃ x, a' = (fillP ops L v a0 n).put o.dst x ∧ I (updB L i) (updV v i x) w') Q)
    (tail : ∀ L v w, (∀ j, j < n → L j = true) → I L v w → wpList P ops Q (ops.toList.drop n) (fillP ops L v a0 n) w) :
    ∀ (m : Nat) (listed : Array Bool) (v : Nat → Value) (w : World), listed.size = ops.size → cntF listed n = m → (∀ j, n ≤ j → listed.getD j false = false) → I (fun j => listed.getD j false) v w →
      wpAny P .any ops Q (m + (ops.size - n)) listed (fillP ops (fun j => listed.getD j false) v a0 n) w := by
  simp only [poolB, Bool.and_eq_true, decide_eq_true_eq] at hp
  obtain ⟨⟨⟨hn, hpo⟩, hta⟩, hseq⟩ := hp
  have hop : ∀ i, i < n → ∃ o, ops[i]? = some o ∧ o.guard = none ∧ (∀ e ∈ o.after, Region.binds .any e = true → e.on < i) ∧ ∀ j, j < i → dstOf ops j ≠ dstOf ops i := by
    intro i hi
    have h := List.all_eq_true.1 hpo i (List.mem_range.2 hi)
    cases ho : ops[i]? with
    | none => rw [ho] at h; cases h
    | some o =>
      rw [ho] at h
      simp only [Bool.and_eq_true] at h
      refine ⟨o, rfl, by simpa using h.1.1, fun e he hb => ?_, fun j hj => ?_⟩
      · have := Array.all_eq_true_iff_forall_mem.1 h.1.2 e he
        simpa [hb] using this
      · have := List.all_eq_true.1 h.2 j (List.mem_range.2 hj)
        simp only [decide_eq_true_eq] at this
        unfold dstOf at this ⊢
        rw [ho]
        exact this
  have hdist : ∀ i j, i < n → j < n → j ≠ i → dstOf ops j ≠ dstOf ops i := fun i j hi hj hne => by
    rcases Nat.lt_or_ge j i with h | h
    · obtain ⟨_, _, _, _, hd⟩ := hop i hi; exact hd j h
    · obtain ⟨_, _, _, _, hd⟩ := hop j hj; exact fun e => hd i (by omega) e.symm
  have hgd : ∀ (l : Array Bool) (j : Nat), j < l.size → l.getD j true = l.getD j false := fun l j hj => by simp [Array.getD, hj]
  intro m
  induction m with
  | zero =>
    intro listed v w hsz hc hz hI
    have hall : ∀ j, j < n → listed.getD j false = true := fun j hj => by
      unfold cntF at hc
      have := List.eq_nil_of_length_eq_zero hc
      have h2 := List.filter_eq_nil_iff.1 this j (List.mem_range.2 hj)
      cases hb : listed.getD j false with
      | true => rfl
      | false => rw [hb] at h2; exact absurd rfl h2
    have hl : listed = (List.replicate n true ++ List.replicate (ops.size - n) false).toArray := by
      apply Array.ext
      · simp; omega
      · intro j h1 h2
        have e1 : listed[j] = listed.getD j false := by simp [Array.getD, h1]
        rw [e1]
        simp only [List.getElem_toArray]
        by_cases hj : j < n
        · rw [hall j hj, List.getElem_append_left (by simpa using hj)]; simp
        · rw [hz j (by omega), List.getElem_append_right (by simpa using hj)]; simp
    have hlen : (ops.toList.drop n).length = ops.size - n := by simp
    rw [Nat.zero_add, ← hlen]
    refine wpAny_of_seq (ops.toList.drop n) n listed _ w (fun j => by simp [List.getElem?_drop]) (by rw [hlen, hl]; exact hseq) (tail _ v w hall hI)
  | succ m ih =>
    intro listed v w hsz hc hz hI
    have hne : ∃ j, j < n ∧ listed.getD j false = false := by
      have h1 : ((List.range n).filter fun j => listed.getD j false == false) ≠ [] := fun e => by unfold cntF at hc; rw [e] at hc; cases hc
      obtain ⟨j, hj⟩ := List.exists_mem_of_ne_nil _ h1
      rw [List.mem_filter, List.mem_range] at hj
      exact ⟨j, hj.1, by simpa using hj.2⟩
    have hleast : ∃ j, j < n ∧ listed.getD j false = false ∧ ∀ i, i < j → listed.getD i false = true := by
      obtain ⟨j, hj, hjf⟩ := hne
      induction j using Nat.strongRecOn with
      | _ j ihj =>
        by_cases h : ∃ i, i < j ∧ listed.getD i false = false
        · obtain ⟨i, hi, hif⟩ := h
          exact ihj i hi (by omega) hif
        · refine ⟨j, hj, hjf, fun i hi => ?_⟩
          cases hb : listed.getD i false with
          | true => rfl
          | false => exact absurd ⟨i, hi, hb⟩ h
    rw [show m + 1 + (ops.size - n) = (m + (ops.size - n)) + 1 by omega]
    refine ⟨fun hr => ?_, fun j hj => ?_⟩
    · obtain ⟨j, hjn, hjf, hlow⟩ := hleast
      obtain ⟨o, ho, -, haf, -⟩ := hop j hjn
      have : j ∈ Region.ready .any ops listed := mem_ready.2 ⟨by rw [hgd _ _ (by omega)]; exact hjf, o, ho, fun e he hb => hlow _ (haf e he hb)⟩
      rw [hr] at this; cases this
    · obtain ⟨hun, o, ho, hall⟩ := mem_ready.1 hj
      have hjs : j < ops.size := by
        rcases Nat.lt_or_ge j ops.size with h | h
        · exact h
        · rw [Array.getElem?_eq_none h] at ho; cases ho
      have hun' : listed.getD j false = false := by rw [← hgd _ _ (by omega)]; exact hun
      have hjn : j < n := by
        rcases Nat.lt_or_ge j n with h | h
        · exact h
        · exfalso
          obtain ⟨i, hi, hif⟩ := hne
          have h1 := List.all_eq_true.1 hta j (List.mem_range.2 hjs)
          simp only [Bool.or_eq_true, decide_eq_true_eq] at h1
          have h2 := List.all_eq_true.1 (h1.resolve_left (by omega)) i (List.mem_range.2 hi)
          obtain ⟨oj, hoj, e, he, hb, hon⟩ := Region.waitsFor_spec h2
          rw [ho] at hoj
          cases hoj
          have := hall e he hb
          rw [hon, hif] at this
          cases this
      obtain ⟨o', ho', hg, -, -⟩ := hop j hjn
      rw [ho] at ho'
      cases ho'
      have hs := step j o hjn ho (fun j => listed.getD j false) v w hI hun' (fun e he hb => hall e he hb)
      refine wpOp_mono (fun a' w' h => ?_) (show wpOp P ops Q j (fun a' w' => ∃ x, a' = (fillP ops (fun j => listed.getD j false) v a0 n).put o.dst x ∧ I (updB (fun j => listed.getD j false) j) (updV v j x) w') _ w from by
        unfold wpOp
        rw [ho]
        simp only
        rw [if_pos (by simp [Region.wanted, hg])]
        exact .inl hs)
      obtain ⟨x, rfl, hI'⟩ := h
      have hL : (fun i => (listed.setIfInBounds j true).getD i false) = updB (fun j => listed.getD j false) j := by
        funext i
        unfold updB
        by_cases hij : i = j
        · subst hij
          rw [if_pos rfl]
          simp [Array.getD_eq_getD_getElem?, Array.getElem?_setIfInBounds, show i < listed.size by omega]
        · rw [if_neg hij]
          simp [Array.getD_eq_getD_getElem?, Array.getElem?_setIfInBounds_ne (Ne.symm hij)]
      have hdst : o.dst = dstOf ops j := by unfold dstOf; rw [ho]; rfl
      have hf := fill_upd (ops := ops) (v := v) (a := a0) (x := x) (L := fun j => listed.getD j false) (i := j) hun' n (fun i hi hne => hdist j i hjn hi hne)
      rw [if_pos hjn] at hf
      have := ih (listed.setIfInBounds j true) (updV v j x) w' (by simpa using hsz) (cnt_set hc hjn hun' (by omega)) (fun i hi => by
        simp [Array.getD_eq_getD_getElem?, Array.getElem?_setIfInBounds_ne (show j ≠ i by omega)]
        have := hz i hi
        simpa [Array.getD_eq_getD_getElem?] using this) (by rw [hL]; exact hI')
      rw [hL, hf, ← hdst] at this
      exact this
end
section
variable {P : Program} {Q : Exit → Act → World → Prop} {a0 : Act} {w0 : World} {l : List Oper}
theorem wp_region_pool {id : Nat} (n : Nat) (I : (Nat → Bool) → (Nat → Value) → World → Prop) (hm : P.follows .mixedOrders = true) (hp : poolB l.toArray n = true) (v0 : Nat → Value) (hI : I (fun _ => false) v0 w0.drew)
    (step : ∀ i o, i < n → l[i]? = some o → ∀ L v w, I L v w → L i = false → (∀ e ∈ o.after, Region.binds .any e = true → L e.on = true) →
      o.wp P (fillP l.toArray L v a0 n) w (fun a' w' => ∃ x, a' = (fillP l.toArray L v a0 n).put o.dst x ∧ I (updB L i) (updV v i x) w') Q)
    (tail : ∀ L v w, (∀ j, j < n → L j = true) → I L v w → wpList P l.toArray Q (l.drop n) (fillP l.toArray L v a0 n) w) : (Code.region id l.toArray true).wp P Q a0 w0 := by
  have hrep : ∀ j, (Array.replicate l.toArray.size false).getD j false = false := fun j => by
    simp only [Array.getD_eq_getD_getElem?, Array.getElem?_replicate]
    split <;> rfl
  have hfun : (fun j => (Array.replicate l.toArray.size false).getD j false) = fun _ => false := funext hrep
  have hfill : ∀ k, fillP l.toArray (fun _ => false) v0 a0 k = a0 := by
    intro k
    induction k with
    | zero => rfl
    | succ k ih => unfold fillP; rw [if_neg (by decide), ih]
  have hnl : n ≤ l.toArray.size := by
    simp only [poolB, Bool.and_eq_true, decide_eq_true_eq] at hp
    exact hp.1.1.1
  refine wp_region_any hm ?_
  have h := pool_any (n := n) (a0 := a0) (I := I) hp (fun i o hi ho => step i o hi (by simpa using ho)) (fun L v w h1 h2 => tail L v w h1 h2) n (Array.replicate l.toArray.size false) v0 w0.drew (by simp) (by
    unfold cntF
    rw [List.filter_eq_self.2 (fun j _ => by rw [hrep]; rfl), List.length_range]) (fun j _ => hrep j) (by rw [hfun]; exact hI)
  rw [hfun, hfill, show n + (l.toArray.size - n) = l.toArray.size by omega] at h
  exact h
def outB (l : List Oper) (n d : Nat) : Bool := (List.range n).all fun j => decide (dstOf l.toArray j ≠ some d)
def depB (l : List Oper) (n j d sz : Nat) : Bool := decide (j < n) && decide (dstOf l.toArray j = some d) && decide (d < sz) && (List.range n).all fun i => decide (i = j) || decide (dstOf l.toArray i ≠ some d)
def waitB (l : List Oper) (i j : Nat) : Bool := Region.waitsFor .any l.toArray i j
/-- the pool's law, the act behind a name -/
theorem wp_region_pool2 {id : Nat} (n : Nat) (I : (Nat → Bool) → (Nat → Value) → World → Prop) (hm : P.follows .mixedOrders = true) (hp : poolB l.toArray n = true) (v0 : Nat → Value) (hI : I (fun _ => false) v0 w0.drew)
    (step : ∀ i o, i < n → l[i]? = some o → ∀ L v w (F : Act), I L v w → L i = false → (∀ j, waitB l i j = true → L j = true) →
      (∀ d, outB l n d = true → F.tmps.getD d undef = a0.tmps.getD d undef) → (∀ j d, depB l n j d a0.tmps.size = true → L j = true → F.tmps.getD d undef = v j) →
      o.wp P F w (fun a' w' => ∃ x, a' = F.put o.dst x ∧ I (updB L i) (updV v i x) w') Q)
    (tail : ∀ L v w (F : Act), (∀ j, j < n → L j = true) → I L v w → F = fillP l.toArray L v a0 n → F.defers = a0.defers → (∀ d, outB l n d = true → F.tmps.getD d undef = a0.tmps.getD d undef) → (∀ j d, depB l n j d a0.tmps.size = true → F.tmps.getD d undef = v j) → wpList P l.toArray Q (l.drop n) F w) : (Code.region id l.toArray true).wp P Q a0 w0 := by
  refine wp_region_pool n I hm hp v0 hI (fun i o hi ho L v w h1 h2 h3 => step i o hi ho L v w _ h1 h2 (fun j hj => ?_) (fun d hd => ?_) (fun j d hd hL => ?_)) (fun L v w h1 h2 => tail L v w _ h1 h2 rfl (fill_defers n) (fun d hd => fill_out n fun j hj => of_decide_eq_true (List.all_eq_true.1 hd j (List.mem_range.2 hj))) (fun j d hd => by
    simp only [depB, Bool.and_eq_true, decide_eq_true_eq] at hd
    refine fill_dep (h1 j hd.1.1.1) hd.1.1.2 hd.1.2 n hd.1.1.1 fun k hk hkj => ?_
    have := List.all_eq_true.1 hd.2 k (List.mem_range.2 hk)
    simp only [Bool.or_eq_true, decide_eq_true_eq] at this
    exact this.resolve_left hkj))
  · obtain ⟨oj, hoj, e, he, hb, hon⟩ := Region.waitsFor_spec hj
    have : o = oj := by
      have h : l.toArray[i]? = some o := by simpa using ho
      rw [h] at hoj
      exact Option.some.inj hoj
    subst this
    rw [← hon]
    exact h3 e he hb
  · refine fill_out n fun j hj => ?_
    have := List.all_eq_true.1 hd j (List.mem_range.2 hj)
    exact of_decide_eq_true this
  · simp only [depB, Bool.and_eq_true, decide_eq_true_eq] at hd
    refine fill_dep hL hd.1.1.2 hd.1.2 n hd.1.1.1 fun k hk hkj => ?_
    have := List.all_eq_true.1 hd.2 k (List.mem_range.2 hk)
    simp only [Bool.or_eq_true, decide_eq_true_eq] at this
    exact this.resolve_left hkj
theorem fill_congr {ops : Array Oper} {L L' : Nat → Bool} {v : Nat → Value} {a : Act} : ∀ n, (∀ j, j < n → L j = L' j) → fillP ops L v a n = fillP ops L' v a n
  | 0, _ => rfl
  | n + 1, h => by
    unfold fillP
    rw [fill_congr n fun j hj => h j (by omega), h n (by omega)]
theorem wpList_skip {ops : Array Oper} {rest : List Oper} {o : Oper} {a : Act} {w w' : World} (hgd : o.guard = none) (hrun : (execOp a.eval o).run P w = .ok .skip w') (h : wpList P ops Q rest (a.put o.dst undef) w') : wpList P ops Q (o :: rest) a w :=
  wpList_plain hgd fun K hK => by unfold Oper.wp; rw [hrun]; exact hK _ _ h
theorem wp_value {o : Oper} {a : Act} {w w' : World} {x : Value} {K : Act → World → Prop} (h : (execOp a.eval o).run P w = .ok (.value x) w') (hk : K (a.put o.dst x) w') : o.wp P a w K Q := by
  unfold Oper.wp; rw [h]; exact hk
theorem wp_skip {o : Oper} {a : Act} {w w' : World} {K : Act → World → Prop} (h : (execOp a.eval o).run P w = .ok .skip w') (hk : K (a.put o.dst undef) w') : o.wp P a w K Q := by
  unfold Oper.wp; rw [h]; exact hk
end
end Go.Proofs.Ytnnkgjaahmflmaa
