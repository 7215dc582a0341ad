/- Rows raised: what LexTwo writes, in plain Lean. -/
import Derived.Test.YthfjeijhnikabaaLexRows
import Derived.Test.YthfjeijhnikabaaLexLst
namespace Go.Proofs.Ythfjeijhnikabaa
open Go.RowKit
set_option linter.unusedVariables false

theorem Sl.head {J : Jm} {size : Nat} {A : Option Addr} {c m n : Nat} {cs : List Value} (h : Sl J size (.slice A m c) m cs) (hn : n ≤ m) : Sl J size (.slice A n c) n (cs.take (n * size)) := by
  obtain ⟨hl, A', c', hv, hm, hx, h0, ha⟩ := h
  cases hv
  have hns : n * size ≤ m * size := Nat.mul_le_mul_right _ hn
  refine ⟨by rw [List.length_take, hl]; omega, A, c, rfl, by omega, hx, h0, fun a e => ?_⟩
  rcases ha a e with h | ⟨hs, hcs⟩
  · exact .inl (by omega)
  · refine .inr ⟨hs, ?_⟩
    rw [← hcs, List.take_take]
    congr 1; omega
theorem LsC.take {J : Jm} {ls : List Ln} {cs : List Value} (h : LsC J ls cs) : ∀ n, LsC J (ls.take n) (cs.take (n * 3)) := by
  induction h with
  | nil => intro n; simp; exact .nil
  | cons h1 _ ih =>
    intro n
    match n with
    | 0 => exact .nil
    | n + 1 =>
      rw [show (n + 1) * 3 = n * 3 + 1 + 1 + 1 by omega]
      exact .cons h1 (ih n)
theorem LsC.drop {J : Jm} {ls : List Ln} {cs : List Value} (h : LsC J ls cs) : ∀ n, LsC J (ls.drop n) (cs.drop (n * 3)) := by
  induction h with
  | nil => intro n; simp; exact .nil
  | cons h1 h2 ih =>
    intro n
    match n with
    | 0 => exact .cons h1 h2
    | n + 1 =>
      rw [show (n + 1) * 3 = n * 3 + 1 + 1 + 1 by omega]
      exact ih n
theorem Lns.head {J : Jm} {A : Option Addr} {c m n : Nat} {ls : List Ln} (h : Lns J (.slice A m c) ls) (hm : ls.length = m) (hn : n ≤ m) : Lns J (.slice A n c) (ls.take n) := by
  obtain ⟨cs, h1, h2⟩ := h
  subst hm
  refine ⟨_, ?_, h2.take n⟩
  have := Sl.head h1 hn
  rw [List.length_take, Nat.min_eq_left hn]
  exact this
/-- what stands behind a place of a row of the call's own -/
theorem Own.tail {J : Jm} {w : World} {base : Nat} {T : TypeId} {size g n k cap : Nat} {cs : List Value} (h : Own J w base T size (.slice (some ⟨g, 0, none⟩) n cap) n cs) (hk : k ≤ n) : Sl J size (.slice (some ⟨g, k * size, none⟩) (n - k) (cap - k)) (n - k) (cs.drop (k * size)) := by
  have hs := h.sl
  obtain ⟨hl, A, c, hv, hn, hm, h0, ha⟩ := hs
  cases hv
  refine ⟨by rw [List.length_drop, hl, Nat.sub_mul], _, _, rfl, by omega, by omega, (fun e => by cases e), fun a e => ?_⟩
  cases e
  by_cases hz : n = 0
  · exact .inl (by omega)
  · refine .inr ⟨rfl, ?_⟩
    have hJ := h.2 g rfl
    show List.take ((n - k) * size) (List.drop (k * size) (J g)) = _
    rw [hJ, Nat.sub_mul, List.take_of_length_le]
    rw [List.length_drop, hl]; exact Nat.le_refl _
theorem Own.tailA {J : Jm} {w : World} {base : Nat} {T : TypeId} {size n k cap : Nat} {A : Option Addr} {cs : List Value} (h : Own J w base T size (.slice A n cap) n cs) (hk : k ≤ n) : Sl J size (.slice (A.map fun x => x.add (k * size)) (n - k) (cap - k)) (n - k) (cs.drop (k * size)) := by
  rcases h.1.2 with ⟨h', hn⟩ | ⟨g, cap', cur, h', _⟩
  · cases h'
    have : k = 0 := by omega
    subst this
    have hc : cs = [] := List.eq_nil_of_length_eq_zero (by simpa using h.1.1)
    subst hc
    simpa using Sl.nil J size
  · cases h'
    have e : (⟨g, 0, none⟩ : Addr).add (k * size) = ⟨g, k * size, none⟩ := by unfold Addr.add; split <;> simp_all
    simp only [Option.map_some, e]
    exact h.tail hk
theorem Sl.zero {J : Jm} {size c : Nat} {A : Option Addr} (hc : c ≤ maxLen) (hA : A = none → c = 0) : Sl J size (.slice A 0 c) 0 [] := ⟨by simp, A, c, rfl, Nat.zero_le _, hc, hA, fun _ _ => .inl rfl⟩
/-- the lines up to i with their words' lines raised, and of line i the words up to k -/
def upTo (d : Nat) (L : List Ln) (i : Nat) : List Ln := (L.take i).map (fun l => l.with (l.ws.map (Wd.sh d))) ++ L.drop i
def upIn (d : Nat) (L : List Ln) (i k : Nat) : List Ln := (upTo d L i).set i ((L[i]?.getD ⟨0, false, []⟩).with (((L[i]?.getD ⟨0, false, []⟩).ws.take k).map (Wd.sh d) ++ (L[i]?.getD ⟨0, false, []⟩).ws.drop k))
theorem upTo_length (d : Nat) (L : List Ln) (i : Nat) : (upTo d L i).length = L.length := by simp [upTo]; omega
theorem upTo_at {d : Nat} {L : List Ln} {i : Nat} (h : i < L.length) : (upTo d L i)[i]'(by rw [upTo_length]; exact h) = L[i] := by
  unfold upTo
  rw [List.getElem_append_right (by simp; omega)]
  simp [Nat.min_eq_left (Nat.le_of_lt h)]
theorem upIn_zero {d : Nat} {L : List Ln} {i : Nat} (h : i < L.length) : upIn d L i 0 = upTo d L i := by
  unfold upIn
  rw [List.getElem?_eq_getElem h]
  simp only [Option.getD_some, List.take_zero, List.map_nil, List.nil_append, List.drop_zero]
  have e : L[i].with L[i].ws = (upTo d L i)[i]'(by rw [upTo_length]; exact h) := (upTo_at h).symm
  rw [e, List.set_getElem_self]
theorem upIn_full {d : Nat} {L : List Ln} {i : Nat} (h : i < L.length) {m : Nat} (hm : m = L[i].ws.length) : upIn d L i m = upTo d L (i + 1) := by
  subst hm
  unfold upIn upTo
  rw [List.getElem?_eq_getElem h]
  simp only [Option.getD_some, List.take_length, List.drop_length, List.append_nil]
  rw [List.set_append_right _ _ (by simp; omega), List.take_succ_eq_append_getElem h, List.map_append, List.append_assoc]
  congr 1
  simp only [List.length_map, List.length_take, Nat.min_eq_left (Nat.le_of_lt h), Nat.sub_self]
  rw [List.drop_eq_getElem_cons h]
  rfl
theorem upIn_length (d : Nat) (L : List Ln) (i k : Nat) : (upIn d L i k).length = L.length := by unfold upIn; rw [List.length_set, upTo_length]
theorem upIn_at {d : Nat} {L : List Ln} {i k : Nat} (h : i < L.length) : (upIn d L i k)[i]'(by rw [upIn_length]; exact h) = L[i].with ((L[i].ws.take k).map (Wd.sh d) ++ L[i].ws.drop k) := by
  unfold upIn
  rw [List.getElem_set_self, List.getElem?_eq_getElem h]; rfl
theorem upIn_succ {d : Nat} {L : List Ln} {i k : Nat} (h : i < L.length) (hk : k < L[i].ws.length) :
    (upIn d L i k).set i (L[i].with (((L[i].ws.take k).map (Wd.sh d) ++ L[i].ws.drop k).set k (L[i].ws[k].at (L[i].ws[k].line + d)))) = upIn d L i (k + 1) := by
  unfold upIn
  rw [List.getElem?_eq_getElem h, List.set_set]
  simp only [Option.getD_some]
  congr 1
  congr 1
  rw [List.set_append_right _ _ (by simp; omega), List.take_succ_eq_append_getElem hk, List.map_append, List.append_assoc]
  congr 1
  simp only [List.length_map, List.length_take, Nat.min_eq_left (Nat.le_of_lt hk), Nat.sub_self]
  rw [List.drop_eq_getElem_cons hk]
  rfl
theorem upIn_step {d : Nat} {L : List Ln} {i k : Nat} (h : i < L.length) (hk : k < L[i].ws.length) (h1 : i < (upIn d L i k).length) (h2 : k < (upIn d L i k)[i].ws.length) :
    (upIn d L i k).set i ((upIn d L i k)[i].with ((upIn d L i k)[i].ws.set k ((upIn d L i k)[i].ws[k].at (L[i].ws[k].line + d)))) = upIn d L i (k + 1) ∧ (upIn d L i k)[i].ws[k] = L[i].ws[k] := by
  have e := upIn_at (d := d) (k := k) h
  have hw : (upIn d L i k)[i].ws = (L[i].ws.take k).map (Wd.sh d) ++ L[i].ws.drop k := by rw [e]; rfl
  have hx : (upIn d L i k)[i].ws[k] = L[i].ws[k] := by
    have h3 : (upIn d L i k)[i].ws[k]? = some L[i].ws[k] := by
      rw [hw, List.getElem?_append_right (by simp; omega)]
      simp only [List.length_map, List.length_take, Nat.min_eq_left (Nat.le_of_lt hk), Nat.sub_self]
      rw [List.getElem?_drop, Nat.add_zero, List.getElem?_eq_getElem hk]
    exact (List.getElem?_eq_some_iff.1 h3).2
  refine ⟨?_, hx⟩
  rw [hx, hw, ← upIn_succ h hk, e]
  rfl
theorem upIn_done {d : Nat} {L : List Ln} {i k : Nat} (h : i < L.length) (hk : k < L[i].ws.length) (h1 : i < (upIn d L i (k + 1)).length) (h2 : k < (upIn d L i (k + 1))[i].ws.length) : (upIn d L i (k + 1))[i].ws[k] = (L[i].ws[k]).sh d := by
  have e := upIn_at (d := d) (k := k + 1) h
  have hw : (upIn d L i (k + 1))[i].ws = (L[i].ws.take (k + 1)).map (Wd.sh d) ++ L[i].ws.drop (k + 1) := by rw [e]; rfl
  have h3 : (upIn d L i (k + 1))[i].ws[k]? = some ((L[i].ws[k]).sh d) := by
    rw [hw, List.getElem?_append_left (by simp; omega), List.getElem?_map, List.getElem?_take_of_lt (Nat.lt_succ_self k), List.getElem?_eq_getElem hk]; rfl
  exact (List.getElem?_eq_some_iff.1 h3).2
theorem upIn_len {d : Nat} {L : List Ln} {i k : Nat} (h : i < L.length) (h1 : i < (upIn d L i k).length) : (upIn d L i k)[i].ws.length = L[i].ws.length := by
  have e := upIn_at (d := d) (k := k) h
  rw [e]
  show (List.map (Wd.sh d) (L[i].ws.take k) ++ L[i].ws.drop k).length = _
  simp; omega
theorem upTo_lst (d : Nat) (L : List Ln) (i : Nat) : (upTo d L i).map lst = L.map lst := by
  unfold upTo
  rw [List.map_append, List.map_map]
  conv => rhs; rw [← List.take_append_drop i L, List.map_append]
  congr 1
  refine List.map_congr_left fun l _ => ?_
  simp only [Function.comp, lst, Ln.with, List.map_map]
  congr 1
theorem sh_lst (d : Nat) (L : List Ln) : (L.map (Ln.sh d)).map lst = L.map lst := by
  rw [List.map_map]
  refine List.map_congr_left fun l _ => ?_
  simp only [Function.comp, lst, Ln.sh, List.map_map]
  congr 1
theorem ln_small (s : List UInt8) (p : Nat) : ln s p ≤ s.length + 1 := by
  have := (lc_le (s.take p)).2.1
  have h : (s.take p).length ≤ s.length := by rw [List.length_take]; omega
  unfold ln; omega
theorem Run.small {s : List UInt8} : ∀ {ws : List Wd} {lo hi : Nat}, Run s lo ws hi → ∀ x ∈ ws, x.line ≤ s.length + 1
  | [], _, _, _, _, h => by cases h
  | y :: r, lo, hi, ⟨p, _, h2, h3⟩, x, hx => by
    rcases List.mem_cons.1 hx with rfl | hx
    · rw [h2.1]; exact ln_small s p
    · exact h3.small x hx
theorem RunL.small {s : List UInt8} : ∀ {ls : List Ln} {lo hi : Nat}, RunL s lo ls hi → ∀ l ∈ ls, l.num ≤ s.length + 1 ∧ l.ws ≠ [] ∧ ∀ x ∈ l.ws, x.line ≤ s.length + 1
  | [], _, _, _, _, h => by cases h
  | y :: r, lo, hi, ⟨k, mid, _, h2, h3, h4, h5⟩, l, hl => by
    rcases List.mem_cons.1 hl with rfl | hl
    · exact ⟨by rw [h3.1]; exact ln_small s k, h2, h4.small⟩
    · exact h5.small l hl
theorem qt_err {frm N x : Nat} (hf : frm ≤ N) : ∀ (n : Nat) (T : List Tok) (acc : List UInt8), T.length ≤ n → (∀ t ∈ T, t.pos ≤ N) → qt frm T acc = .error x → x ≤ N := by
  intro n
  induction n using Nat.strongRecOn with
  | _ n ih =>
    intro T acc hn hT h
    match T, hn, hT, h with
    | [], _, _, h => rw [qt_nil] at h; cases h; exact hf
    | t :: r, hn, hT, h =>
      rw [qt_cons] at h
      simp only [List.length_cons] at hn
      split at h
      · cases h; exact hf
      split at h
      · cases h
      split at h
      · match r, hn, hT, h with
        | [], _, hT, h => cases h; exact hT t (by simp)
        | d :: r, hn, hT, h =>
          simp only at h
          split at h
          · split at h
            · exact ih r.length (by simp at hn; omega) r _ (Nat.le_refl _) (fun y hy => hT y (by simp [hy])) h
            · cases h; exact hT t (by simp)
          · cases h; exact hT t (by simp)
      · exact ih r.length (by omega) r _ (Nat.le_refl _) (fun y hy => hT y (by simp [hy])) h
theorem lx_err {s : List UInt8} {N x : Nat} : ∀ (n : Nat) (T : List Tok) (outs : List Ln) (one : Ln) (fr : Bool), T.length ≤ n → (∀ t ∈ T, t.pos ≤ N) → lxC s T outs one fr = .error x → x ≤ N := by
  intro n
  induction n using Nat.strongRecOn with
  | _ n ih =>
    intro T outs one fr hn hT h
    match T, hn, hT, h with
    | [], _, _, h => rw [lxC_nil] at h; cases h
    | t :: r, hn, hT, h =>
      rw [lxC_step] at h
      simp only [List.length_cons] at hn
      have hr : ∀ y ∈ r, y.pos ≤ N := fun y hy => hT y (by simp [hy])
      have go : ∀ (r' : List Tok) (os : List Ln) (o : Ln) (f : Bool), r'.length ≤ r.length → (∀ y ∈ r', y ∈ r) → lxC s r' os o f = .error x → x ≤ N :=
        fun r' os o f h1 h2 h3 => ih r.length (by omega) r' os o f h1 (fun y hy => hr y (h2 y hy)) h3
      have self : ∀ (os : List Ln) (o : Ln) (f : Bool), lxC s r os o f = .error x → x ≤ N := fun os o f h => go r os o f (Nat.le_refl _) (fun _ h => h) h
      have drop : ∀ (p : Tok → Bool) (os : List Ln) (o : Ln) (f : Bool), lxC s (r.dropWhile p) os o f = .error x → x ≤ N :=
        fun p os o f h => go _ os o f (dropWhile_len p r) (fun y hy => (List.dropWhile_suffix p).subset hy) h
      split at h
      · exact self _ _ _ h
      split at h
      · exact self _ _ _ h
      split at h
      · exact self _ _ _ h
      split at h
      · exact drop _ _ _ _ h
      split at h
      · exact self _ _ _ h
      split at h
      · cases hq : qt t.pos r [] with
        | error z =>
          rw [hq] at h
          cases h
          exact qt_err (hT t (by simp)) r.length r [] (Nat.le_refl _) hr hq
        | ok tr =>
          obtain ⟨txt, r'⟩ := tr
          rw [hq] at h
          exact go r' _ _ _ (qt_len hq) (fun y hy => (qt_suffix hq).subset hy) h
      split at h
      · exact drop _ _ _ _ h
      · cases h; exact hT t (by simp)
theorem lexL_err {s : List UInt8} {x : Nat} (h : lexL s = .error x) : x ≤ s.length := by
  have hlex : lexL s = lxC s (toks s 0) [] ⟨1, false, []⟩ true := lx_fuel s _ _ _ _ _ _ (Nat.lt_succ_of_le (toks_length s 0)) (Nat.lt_succ_self _)
  rw [hlex] at h
  refine lx_err _ _ _ _ _ (Nat.le_refl _) (fun t ht => ?_) h
  have := toks_in s 0 t ht
  omega
end Go.Proofs.Ythfjeijhnikabaa
