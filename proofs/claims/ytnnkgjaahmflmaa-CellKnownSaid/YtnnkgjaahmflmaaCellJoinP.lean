/- Two nodes put together: what is said of them, and what stands in memory while they are. -/
import Derived.Test.YtnnkgjaahmflmaaCellHalf
import Derived.Test.YtnnkgjaahmflmaaCellFind
import Derived.Lib.AppendZeros
namespace Go.Proofs.Ytnnkgjaahmflmaa
open Go.RowKit
set_option linter.unusedVariables false

set_option maxRecDepth 20000 in
set_option maxHeartbeats 1000000 in
theorem growK_calls {J : Jm} {w : World} (hI : Inv J w) (n : Nat) (hn : n ≤ 17592186044416) :
    Calls Try.prog 58 #[.slice none 0 0, .int .i64 n] w fun e w' => ∃ v', e = .returned v' ∧ Below w.heap.size w w' ∧ Own J w' w.heap.size 3 1 v' 0 [] := by
  obtain ⟨i, hi, hz, hs, hby⟩ := info_parts_J info_int
  by_cases h0 : 0 < n
  · have happ := Lib.run_append_nil_zeros (P := Try.prog) w 23 3 23 3 i (.int .i64 0) .i64 .i64 Try.underlying23 Try.underlying3 hi hz n h0 (by omega) (by omega) (by rw [hby]; omega)
    have hcap := grownCap_ge w n 0 3
    have hcm := grownCap_le_maxLen w n 0 3 (by simp only [maxLen]; omega)
    generalize grownCap w n 0 3 = cap at *
    have HZ : Hid ((Builtin.zeroCells (Value.int .i64 0).cells n ++ Builtin.zeroCells (Value.int .i64 0).cells (cap - n)).size = cap * 1) := by
      simp only [Hid, Array.size_append, size_zeroCells, Value.cells]; simp; omega
    generalize (Builtin.zeroCells (Value.int .i64 0).cells n ++ Builtin.zeroCells (Value.int .i64 0).cells (cap - n)) = cur at *
    have HA := Lib.hid happ
    have HC := Lib.hid hcm
    unfold maxLen at hcm
    clear happ hz hs hby
    go_enter Try.func58, Try.ntmps58
    go_wp2_with (at_builtin; go_must (refine Lib.wpList_append_run _ rfl (.tmp 20) (.tmp 21) 23 3 rfl (.slice none 0 0) (.int .i64 n) rfl rfl _ _ HA.out ?_))
    go_ret
    refine ⟨_, rfl, (Below.refl _ _).drew.alloc (Nat.le_refl _) _, ?_⟩
    exact Own.made hI.drew w.heap.size 3 1 cur cap (Nat.le_refl _) HC.out HZ.out
  · obtain rfl : n = 0 := by omega
    go_enter Try.func58, Try.ntmps58
    go_wp2
    go_ret
    exact ⟨_, rfl, Below.refl _ _, Own.nil _ _ _ _ _⟩

/-- A slice of slices of bytes reads as ls. -/
def KsL (J : Jm) (v : Value) (ls : List (List Int)) : Prop := ∃ vs : List Value, Sl J 1 v ls.length vs ∧ ∀ (i : Nat) (x : List Int), ls[i]? = some x → ∃ u, vs[i]? = some u ∧ Ks J u x
theorem KsL.mono {J J' : Jm} {v : Value} {ls : List (List Int)} (h : KsL J v ls) (hle : J.le J') : KsL J' v ls := by
  obtain ⟨vs, h1, h2⟩ := h
  exact ⟨vs, h1.mono hle, fun i x hx => by obtain ⟨u, hu, hb⟩ := h2 i x hx; exact ⟨u, hu, hb.mono hle⟩⟩
theorem KsL.form {J : Jm} {v : Value} {ls : List (List Int)} (h : KsL J v ls) : ∃ A c, v = .slice A ls.length c ∧ ls.length ≤ c ∧ c ≤ maxLen := by
  obtain ⟨vs, h1, _⟩ := h; exact h1.form
theorem KsL.cell {J : Jm} {A : Option Addr} {c m : Nat} {ls : List (List Int)} (h : KsL J (.slice A m c) ls) {w : World} (hI : Inv J w) {j : Nat} (hj : j < ls.length) :
    ∃ b o u, A = some ⟨b, o, none⟩ ∧ w.cell? ⟨b, o + j, none⟩ = some u ∧ Ks J u ls[j] := by
  obtain ⟨vs, h1, h2⟩ := h
  obtain ⟨u, hu, hb⟩ := h2 j _ (List.getElem?_eq_getElem hj)
  obtain ⟨b, o, hA, hc⟩ := h1.cell hI hu
  exact ⟨b, o, u, hA, hc, hb⟩
def totalK (ls : List (List Int)) : Nat := ls.flatten.length
theorem flattenK_take (ls : List (List Int)) (k : Nat) (hk : k < ls.length) : (ls.take (k + 1)).flatten = (ls.take k).flatten ++ ls[k] := by
  rw [List.take_succ_eq_append_getElem hk, List.flatten_append]
  simp only [List.flatten_cons, List.flatten_nil, List.append_nil]
theorem totalK_take (ls : List (List Int)) (k : Nat) (hk : k < ls.length) : totalK (ls.take (k + 1)) = totalK (ls.take k) + ls[k].length := by
  unfold totalK
  rw [flattenK_take ls k hk, List.length_append]
theorem totalK_take_le (ls : List (List Int)) (k : Nat) : totalK (ls.take k) ≤ totalK ls := by
  have : ls.flatten = (ls.take k).flatten ++ (ls.drop k).flatten := by rw [← List.flatten_append, List.take_append_drop]
  unfold totalK
  rw [this, List.length_append]
  omega
set_option maxHeartbeats 2000000 in
theorem concatK_calls {J : Jm} {w : World} (hI : Inv J w) {v : Value} {ls : List (List Int)} (hb : KsL J v ls) (ht : totalK ls ≤ 17592186044416) :
    Calls Try.prog 36 #[v] w fun e w' => ∃ v' J', e = .returned v' ∧ Ext J w J' w' ∧ Own J' w' w.heap.size 3 1 v' (totalK ls) (kcs ls.flatten) := by
  obtain ⟨A, c, rfl, hn, hm⟩ := hb.form
  unfold maxLen at hm
  go_enter Try.func36, Try.ntmps36
  go_wp2
  go_loop [3, 11] (fun s i => ∃ k : Nat, k ≤ ls.length ∧ i = .int .i64 k ∧ s = .int .i64 (totalK (ls.take k) : Nat)) (fun _ i => ls.length - (intOf i).toNat)
  case atStart => exact ⟨0, by omega, rfl, rfl⟩
  case round =>
    obtain ⟨k, hk, rfl, rfl⟩ := hrel
    by_cases hlt : k < ls.length
    · obtain ⟨b, o, u, rfl, hc, hu⟩ := hb.cell hI hlt
      obtain ⟨A', c', rfl, _, _⟩ := hu.form
      have h1 := totalK_take ls k hlt
      have h2 := totalK_take_le ls (k + 1)
      have hq : totalK (ls.take k) + ls[k].length ≤ 17592186044416 := by omega
      have HT := Lib.hid h1
      clear h1 h2 hb hu
      generalize totalK (ls.take k) = T0 at *
      go_wp2
      go_round
      case rel => exact ⟨k + 1, by omega, by go_num, by rw [HT.out]; go_num⟩
      case measure => simp [intOf]; omega
    · obtain rfl : k = ls.length := by omega
      rw [List.take_length] at *
      go_wp2_with (go_at_call 58; go_must (refine (growK_calls hI (totalK ls) ht).mono ?_; rintro e w1 ⟨v1, rfl, hb1, ho1⟩))
      go_loopw [6, 27] (fun s i wr => ∃ (k : Nat) (J' : Jm), k ≤ ls.length ∧ i = .int .i64 k ∧ Ext J w J' wr ∧ Own J' wr w.heap.size 3 1 s (totalK (ls.take k)) (kcs (ls.take k).flatten)) (fun _ i _ => ls.length - (intOf i).toNat)
      case atStart => exact ⟨0, J, by omega, rfl, Ext.of_below hI hb1, by simpa [totalK, kcs] using ho1⟩
      case round =>
        obtain ⟨k, J', hk, rfl, hE, ho⟩ := hrel
        by_cases hlt : k < ls.length
        · obtain ⟨b, o, u, rfl, hc, hu⟩ := (hb.mono (hE.le hI)).cell hE.inv hlt
          obtain ⟨A', c', rfl, _, _⟩ := id hu.form
          have h1 := totalK_take ls k hlt
          have h2 := totalK_take_le ls (k + 1)
          have hq : totalK (ls.take k) + ls[k].length ≤ 17592186044416 := by omega
          have HT := Lib.hid h1
          have HF : Hid (kcs (ls.take (k + 1)).flatten = kcs (ls.take k).flatten ++ kcs ls[k]) := by
            rw [Hid, flattenK_take ls k hlt, kcs_append]
          have HO := Lib.hid ho
          have HE := Lib.hid hE
          have HU := Lib.hid hu
          clear h1 h2 ho hE hu
          go_wp2_with (at_builtin; go_must (refine wpList_append_J (J := J') (s := .tmp 31) (x := .tmp 32) (t := 23) (e := 3) (base := w.heap.size) (v := u6) (n := totalK (ls.take k)) (xs := kcs (ls.take k).flatten) rfl (.int .i64 0) 1 8 rfl Try.underlying23 info_int rfl rfl HE.out.inv HO.out rfl HU.out (kcs_one _) (by simp only [maxLen]; omega) (by omega) HE.out.below.size ?_; intro v2 w2 J2 ho2 hg2 hv2))
          go_roundw
          case rel => exact ⟨k + 1, J2, by omega, by go_num, HE.out.grew HO.out hg2, by rw [HT.out, HF.out]; exact ho2⟩
          case measure => simp [intOf]; omega
        · obtain rfl : k = ls.length := by omega
          rw [List.take_length] at *
          go_wp2
          go_ret
          exact ⟨_, J', rfl, hE, ho⟩

def keyC (key : List UInt8) : Cl := ⟨key, [], 0, 0⟩
def mid (a : Nd) (key : List UInt8) : List Cl := if a.leaf = true then [] else [keyC key]
def joined (a : Nd) (key : List UInt8) (b : Nd) : Nd := ⟨a.leaf, a.items ++ mid a key ++ b.items, a.kids ++ b.kids⟩
def bad1 (a : Nd) (key : List UInt8) (b : Nd) : Bool := !right a || !right b || (a.leaf != b.leaf) || (!a.leaf && !okItem (keyC key) false)
def lastB (a : Nd) (key : List UInt8) : Bool := match a.items.getLast? with | none => false | some x => !lt8 x.key key
def firstB (b : Nd) (key : List UInt8) : Bool := match b.items.head? with | none => false | some x => lt8 x.key key
def bad2 (a : Nd) (key : List UInt8) (b : Nd) : Bool := lastB a key || firstB b key
def jE (a : Nd) (key : List UInt8) (b : Nd) : Nat := if (bad1 a key b || bad2 a key b) = true then 2 else wrong (joined a key b)
def jN (a : Nd) (key : List UInt8) (b : Nd) : Nd := if jE a key b = 0 then joined a key b else zN
theorem lastB_of {a : Nd} {key : List UInt8} {k : Nat} (hk : a.items.length = k + 1) : lastB a key = !lt8 (a.items[k]'(by omega)).key key := by
  unfold lastB
  rw [List.getLast?_eq_getElem?, show a.items.length - 1 = k by omega, List.getElem?_eq_getElem (by omega)]
theorem firstB_of {b : Nd} {key : List UInt8} (hk : 0 < b.items.length) : firstB b key = lt8 (b.items[0]'hk).key key := by
  unfold firstB
  rw [List.head?_eq_getElem?, List.getElem?_eq_getElem hk]
theorem lastB_nil {a : Nd} {key : List UInt8} (h : a.items.length = 0) : lastB a key = false := by
  unfold lastB; rw [List.eq_nil_of_length_eq_zero h]; rfl
theorem firstB_nil {a : Nd} {key : List UInt8} (h : a.items.length = 0) : firstB a key = false := by
  unfold firstB; rw [List.eq_nil_of_length_eq_zero h]; rfl
theorem lastB_any {a : Nd} {key : List UInt8} (hs : Srt a.items) {k : Nat} (hk : k < a.items.length) (h : lt8 a.items[k].key key = false) : lastB a key = true := by
  rw [lastB_of (k := a.items.length - 1) (by omega)]
  by_cases hl : k = a.items.length - 1
  · subst hl; rw [h]; rfl
  · cases h2 : lt8 (a.items[a.items.length - 1]'(by omega)).key key with
    | false => rfl
    | true =>
      have := lt8_trans (List.pairwise_iff_getElem.1 hs k (a.items.length - 1) hk (by omega) (by omega)) h2
      rw [h] at this; cases this
theorem firstB_any {b : Nd} {key : List UInt8} (hs : Srt b.items) {k : Nat} (hk : k < b.items.length) (h : lt8 b.items[k].key key = true) : firstB b key = true := by
  rw [firstB_of (by omega)]
  by_cases hl : k = 0
  · subst hl; exact h
  · exact lt8_trans (List.pairwise_iff_getElem.1 hs 0 k (by omega) hk (by omega)) h
theorem lastB_none {a : Nd} {key : List UInt8} (h : ∀ k (hk : k < a.items.length), lt8 a.items[k].key key = true) : lastB a key = false := by
  by_cases h0 : a.items.length = 0
  · exact lastB_nil h0
  · rw [lastB_of (k := a.items.length - 1) (by omega), h _ (by omega)]; rfl
theorem firstB_none {b : Nd} {key : List UInt8} (h : ∀ k (hk : k < b.items.length), lt8 b.items[k].key key = false) : firstB b key = false := by
  by_cases h0 : b.items.length = 0
  · exact firstB_nil h0
  · rw [firstB_of (by omega), h _ (by omega)]
theorem joined_dup {a b : Nd} {key : List UInt8} (hl : a.leaf = false) {k : Nat} (hk : k < b.items.length) (h : b.items[k].key = key) : wrong (joined a key b) = 2 := by
  unfold wrong
  rw [if_neg]
  intro hr
  have hs := right_srt hr
  have := (List.pairwise_append.1 hs).2.2 (keyC key) (by rw [show mid a key = [keyC key] from if_neg (by rw [hl]; decide)]; simp) _ (List.getElem_mem hk)
  rw [h] at this
  exact lt8_irr _ this
theorem jE_bad1 {a b : Nd} {key : List UInt8} (h : bad1 a key b = true) : jE a key b = 2 := by unfold jE; rw [if_pos (by rw [h]; rfl)]
theorem jE_bad2 {a b : Nd} {key : List UInt8} (h : bad2 a key b = true) : jE a key b = 2 := by unfold jE; rw [if_pos (by rw [h, Bool.or_true])]
theorem jE_ok {a b : Nd} {key : List UInt8} (h : bad1 a key b = false) (h2 : bad2 a key b = false) : jE a key b = wrong (joined a key b) := by unfold jE; rw [if_neg (by rw [h, h2]; decide)]
theorem jE_dup {a b : Nd} {key : List UInt8} (hl : a.leaf = false) {k : Nat} (hk : k < b.items.length) (h : b.items[k].key = key) : jE a key b = 2 := by
  unfold jE; split
  · rfl
  · exact joined_dup hl hk h
theorem jN_two {a b : Nd} {key : List UInt8} {e : Nat} (h : jE a key b = e) (h0 : e ≠ 0) : jN a key b = zN := by unfold jN; rw [if_neg (by rw [h]; exact h0)]
theorem wrong_le (n : Nd) : wrong n = 0 ∨ wrong n = 2 ∨ wrong n = 3 := by
  unfold wrong
  split
  · split <;> simp
  · simp
theorem joined_S {a b : Nd} {key : List UInt8} (ha : NdS a) (hb : NdS b) (hk : key.length ≤ 9223372036854775807) (h1 : a.items.length ≤ 300000) (h2 : b.items.length ≤ 300000) : NdS (joined a key b) := by
  refine ⟨?_, ?_⟩
  · unfold joined mid
    simp only [List.length_append]
    split <;> simp <;> omega
  · intro x hx
    unfold joined mid at hx
    simp only [List.mem_append] at hx
    rcases hx with (h | h) | h
    · exact ha.2 x h
    · split at h
      · cases h
      · simp only [List.mem_singleton] at h
        subst h
        exact ⟨hk, by simp [keyC]⟩
    · exact hb.2 x h
def JoinP (J : Jm) (w : World) (a : Nd) (key : List UInt8) (b : Nd) (e : Ending) (w' : World) : Prop := ∃ v J', e = .returned (.tuple #[v, .int .i64 (jE a key b : Nat)]) ∧ Ext J w J' w' ∧ NdO J' w' w.heap.size v (jN a key b)

theorem own_ne_cells {J : Jm} {w : World} {base : Nat} {T T' : TypeId} {size n : Nat} {v : Value} {cs : List Value} (h : Own J w base T size v n cs) {b : Nat} {c : Array Value} {fz : Nat × Nat} (hb : w.heap[b]? = some (.cells c T' fz)) (hne : T ≠ T') : v.ownBlock ≠ some b := by
  intro e
  rcases h.1.2 with ⟨rfl, _⟩ | ⟨g1, cap1, cur1, rfl, _, hg1, _⟩
  · simp [Value.ownBlock] at e
  · simp [Value.ownBlock] at e
    subst e
    rw [hg1] at hb
    injection hb with hb
    injection hb with _ ht
    exact hne ht
theorem own_ne_node {J : Jm} {w : World} {base : Nat} {T : TypeId} {size n : Nat} {v : Value} {cs : List Value} (h : Own J w base T size v n cs) {b : Nat} {l : Bool} {vi vk : Value} (hb : NBox w b l vi vk) (hne : T ≠ 25) : v.ownBlock ≠ some b := own_ne_cells h hb hne
/-- a node of the call's own, in its box -/
structure Jn (J : Jm) (w : World) (nb : Nat) (leaf : Bool) (vi vk : Value) (I : List Cl) (K : List Int) (J' : Jm) (wx : World) : Prop where
  ext : Ext J w J' wx
  nbx : NBox wx nb leaf vi vk
  jn : J' nb = []
  oi : Own J' wx w.heap.size 55 4 vi I.length (clC I)
  ok : Own J' wx w.heap.size 3 1 vk K.length (kcs K)
  lo : w.heap.size ≤ nb
section
variable {J J' J2 : Jm} {w wx w2 : World} {nb : Nat} {leaf : Bool} {vi vk v2 : Value} {I L : List Cl} {K M : List Int}
theorem Jn.lt (h : Jn J w nb leaf vi vk I K J' wx) : nb < wx.heap.size := (Array.getElem?_eq_some_iff.1 h.nbx).1
theorem Jn.step (h : Jn J w nb leaf vi vk I K J' wx) (hE : Ext J' wx J2 w2) : Jn J w nb leaf vi vk I K J2 w2 :=
  ⟨h.ext.trans hE, h.nbx.ext hE, (hE.old nb h.lt).trans h.jn, h.oi.ext hE, h.ok.ext hE, h.lo⟩
theorem Jn.nei (h : Jn J w nb leaf vi vk I K J' wx) : some nb ≠ vi.ownBlock := fun e => own_ne_cells h.oi h.nbx (by decide) e.symm
theorem Jn.nek (h : Jn J w nb leaf vi vk I K J' wx) : some nb ≠ vk.ownBlock := fun e => own_ne_cells h.ok h.nbx (by decide) e.symm
theorem Jn.box_i (h : Jn J w nb leaf vi vk I K J' wx) (hg : Grew J' wx vi J2 w2 v2) : NBox w2 nb leaf vi vk := (hg.grown.block nb h.lt h.nei).trans h.nbx
theorem Jn.box_k (h : Jn J w nb leaf vi vk I K J' wx) (hg : Grew J' wx vk J2 w2 v2) : NBox w2 nb leaf vi vk := (hg.grown.block nb h.lt h.nek).trans h.nbx
theorem Jn.item (h : Jn J w nb leaf vi vk I K J' wx) {m : Nat} (hm : m = L.length) (ho : Own J2 w2 w.heap.size 55 4 v2 (I.length + m) (clC I ++ clC L)) (hg : Grew J' wx vi J2 w2 v2) :
    Jn J w nb leaf v2 vk (I ++ L) K J2 (w2.setCell ⟨nb, 1, none⟩ v2) := by
  have hb := h.box_i hg
  have hj : J2 nb = [] := (hg.other nb h.lt h.nei).trans h.jn
  have hk : Own J2 w2 w.heap.size 3 1 vk K.length (kcs K) := h.ok.grew_other h.oi hg (by decide)
  refine ⟨(h.ext.grew h.oi hg).setCell h.lo hj _, blk_set_J hb 1 v2, hj, ?_, own_set hk (own_ne_node hk (b := nb) hb (by decide)) _, h.lo⟩
  rw [List.length_append, clC_append, ← hm]
  exact own_set ho (own_ne_node ho (b := nb) hb (by decide)) _
theorem Jn.kid (h : Jn J w nb leaf vi vk I K J' wx) {m : Nat} (hm : m = M.length) (ho : Own J2 w2 w.heap.size 3 1 v2 (K.length + m) (kcs K ++ kcs M)) (hg : Grew J' wx vk J2 w2 v2) :
    Jn J w nb leaf vi v2 I (K ++ M) J2 (w2.setCell ⟨nb, 2, none⟩ v2) := by
  have hb := h.box_k hg
  have hj : J2 nb = [] := (hg.other nb h.lt h.nek).trans h.jn
  have hk : Own J2 w2 w.heap.size 55 4 vi I.length (clC I) := h.oi.grew_other h.ok hg (by decide)
  refine ⟨(h.ext.grew h.ok hg).setCell h.lo hj _, blk_set_J hb 2 v2, hj, own_set hk (own_ne_node hk (b := nb) hb (by decide)) _, ?_, h.lo⟩
  rw [List.length_append, kcs_append, ← hm]
  exact own_set ho (own_ne_node ho (b := nb) hb (by decide)) _
theorem Jn.node (h : Jn J w nb leaf vi vk I K J' wx) : NdO J' wx w.heap.size (.agg #[.bool leaf, vi, vk]) ⟨leaf, I, K⟩ := ⟨_, _, rfl, h.oi, h.ok⟩
end
end Go.Proofs.Ytnnkgjaahmflmaa
