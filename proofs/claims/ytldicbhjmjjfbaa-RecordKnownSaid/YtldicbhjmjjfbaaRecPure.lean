/- Traces, their bytes and the reader of these, in plain words. -/
import Derived.Test.YtldicbhjmjjfbaaPathPure
import Derived.Test.YtldicbhjmjjfbaaWireE
namespace Go.Proofs.Ytldicbhjmjjfbaa
set_option linter.unusedVariables false

structure Nee where
  path : List UInt8
  hv : Bool
  cont : List UInt8
deriving DecidableEq
structure Trc where
  job : List UInt8
  needs : List Nee
  outs : List (List UInt8)
deriving DecidableEq
/-- may a need be, whatever stands beside it? -/
def okNee (n : Nee) : Bool := isP n.path && decide (n.cont.length ≤ 256) && (n.hv || decide (n.cont = []))
/-- may it be, beside those ahead of it? -/
def okAt (l : List Nee) (n : Nee) : Bool := okNee n && !(l.map (·.path)).contains n.path
/-- those that stand on a list, gone over from the front -/
def okNs : List Nee → List Nee → Bool
  | _, [] => true
  | ahead, n :: r => okAt ahead n && okNs (ahead ++ [n]) r
def shape (t : Trc) : Bool := decide (t.job.length ≤ 512) && decide (t.needs.length ≤ 8) && decide (1 ≤ t.outs.length) && decide (t.outs.length ≤ 4)
def okOuts (l : List (List UInt8)) : Bool := l.all fun s => decide (s.length ≤ 256)
def rightT (t : Trc) : Bool := shape t && okNs [] t.needs && okOuts t.outs
/-- a need's bytes -/
def nb (n : Nee) : List UInt8 := ut n.path ++ (if n.hv = true then [1] ++ ut n.cont else [0])
def nbs (l : List Nee) : List UInt8 := (l.map nb).flatten
def bytesT (t : Trc) : List UInt8 := [1] ++ ut t.job ++ uv t.needs.length ++ nbs t.needs ++ ul t.outs
@[simp] theorem nbs_append (a b : List Nee) : nbs (a ++ b) = nbs a ++ nbs b := by simp [nbs]
@[simp] theorem nbs_nil : nbs [] = [] := rfl
theorem nbs_one (n : Nee) : nbs [n] = nb n := by simp [nbs]

theorem okNs_append : ∀ (a b c : List Nee), okNs c (a ++ b) = (okNs c a && okNs (c ++ a) b)
  | [], b, c => by simp [okNs]
  | n :: a, b, c => by simp [okNs, okNs_append a b, Bool.and_assoc]
theorem okNs_take {l : List Nee} {i : Nat} (hi : i < l.length) (h : okNs [] (l.take i) = true) : okNs [] (l.take (i + 1)) = okAt (l.take i) l[i] := by
  rw [List.take_succ_eq_append_getElem hi, okNs_append, h]; simp [okNs]
theorem okNs_stop {l : List Nee} {i : Nat} (hi : i < l.length) (h : okAt (l.take i) l[i] = false) : okNs [] l = false := by
  have e : l = l.take i ++ (l[i] :: l.drop (i + 1)) := by
    rw [← List.drop_eq_getElem_cons hi, List.take_append_drop]
  rw [e, okNs_append]
  simp only [okNs, List.nil_append, h, Bool.false_and, Bool.and_false]

/-- where a reader stands, and its first error -/
structure Rs where
  k : Nat
  e : Nat
deriving DecidableEq
def numR (s : List UInt8) (most : Nat) (r : Rs) : Nat × Rs :=
  if r.e ≠ 0 then (0, r) else match askU (s.drop r.k) most with
    | .ok (n, c) => (n, ⟨r.k + c, 0⟩)
    | .error x => (0, ⟨r.k, x⟩)
def txtR (s : List UInt8) (most : Nat) (r : Rs) : List UInt8 × Rs :=
  if r.e ≠ 0 then ([], r) else match rdT (s.drop r.k) most with
    | .ok (t, c) => (t, ⟨r.k + c, 0⟩)
    | .error x => ([], ⟨r.k, x⟩)
/-- one need -/
def neeR (s : List UInt8) (r : Rs) : Nee × Rs :=
  let p := txtR s 60 r
  let h := numR s 1 p.2
  if h.1 = 1 then let c := txtR s 256 h.2; (⟨p.1, true, c.1⟩, c.2) else (⟨p.1, false, []⟩, h.2)
/-- so many needs, up to the first error -/
def neesR (s : List UInt8) : Nat → List Nee → Rs → List Nee × Rs
  | 0, l, r => (l, r)
  | n + 1, l, r => if (neeR s r).2.e ≠ 0 then (l, (neeR s r).2) else neesR s n (l ++ [(neeR s r).1]) (neeR s r).2
def getT (s : List UInt8) : Option Trc :=
  let v := numR s 1 ⟨0, 0⟩
  if v.1 ≠ 1 then none else
    let j := txtR s 512 v.2
    let n := numR s 8 j.2
    let l := neesR s n.1 [] n.2
    if l.2.e ≠ 0 then none else
      match rdL (s.drop l.2.k) 4 256 with
      | .error _ => none
      | .ok (outs, c) => if l.2.k + c < s.length then none else if rightT ⟨j.1, l.1, outs⟩ = true then some ⟨j.1, l.1, outs⟩ else none

/-- from one place to another stand these bytes -/
def Gone (s : List UInt8) (k : Nat) (b : List UInt8) (k' : Nat) : Prop := k ≤ s.length ∧ k' = k + b.length ∧ s.take k' = s.take k ++ b
theorem Gone.refl {s : List UInt8} {k : Nat} (h : k ≤ s.length) : Gone s k [] k := ⟨h, by simp, by simp⟩
theorem Gone.trans {s a b : List UInt8} {k k' k'' : Nat} (h : Gone s k a k') (g : Gone s k' b k'') : Gone s k (a ++ b) k'' :=
  ⟨h.1, by rw [g.2.1, h.2.1]; simp; omega, by rw [g.2.2, h.2.2, List.append_assoc]⟩
theorem Gone.of {s b : List UInt8} {k c : Nat} (hk : k ≤ s.length) (h : (s.drop k).take c = b) (hc : c ≤ (s.drop k).length) : Gone s k b (k + c) := by
  refine ⟨hk, ?_, by rw [List.take_add, h]⟩
  rw [← h, List.length_take]; omega
theorem Gone.le {s b : List UInt8} {k k' : Nat} (h : Gone s k b k') : k' ≤ s.length := by
  obtain ⟨h1, h2, h3⟩ := h
  have := congrArg List.length h3
  simp at this; omega
theorem askU_ok {l : List UInt8} {most n c : Nat} (h : askU l most = .ok (n, c)) : l.take c = uv n ∧ c ≤ l.length ∧ n ≤ most := by
  unfold askU at h
  split at h
  · cases h
  · rename_i n' c' e
    split at h
    · cases h
    · cases h; exact ⟨(rdU_le e).2.2.2.2, (rdU_le e).2.2.1, by omega⟩
theorem numR_err (s : List UInt8) (most : Nat) {r : Rs} (h : r.e ≠ 0) : numR s most r = (0, r) := by unfold numR; rw [if_pos h]
theorem txtR_err (s : List UInt8) (most : Nat) {r : Rs} (h : r.e ≠ 0) : txtR s most r = ([], r) := by unfold txtR; rw [if_pos h]
theorem askU_e {l : List UInt8} {most x : Nat} (h : askU l most = .error x) : x ≠ 0 := by
  unfold askU at h
  split at h
  · cases h; decide
  · split at h
    · cases h; decide
    · cases h
theorem rdT_e {l : List UInt8} {most : Int} {x : Nat} (h : rdT l most = .error x) : x ≠ 0 := by
  unfold rdT at h
  split at h
  · rename_i e he
    simp only [Except.error.injEq] at h; subst h
    have := cnt_err he
    omega
  · cases h
theorem numR_ok {s : List UInt8} {most : Nat} {r : Rs} (hk : r.k ≤ s.length) (h : (numR s most r).2.e = 0) : r.e = 0 ∧ (numR s most r).1 ≤ most ∧ Gone s r.k (uv (numR s most r).1) (numR s most r).2.k := by
  unfold numR at h ⊢
  split at h
  · rename_i he; exact absurd h he
  · rename_i he
    rw [if_neg he]
    refine ⟨by omega, ?_⟩
    split at h
    · rename_i n c hq
      obtain ⟨h1, h2, h3⟩ := askU_ok hq
      exact ⟨h3, Gone.of hk h1 h2⟩
    · rename_i x hq
      exact absurd h (askU_e hq)
theorem txtR_ok {s : List UInt8} {most : Nat} {r : Rs} (hk : r.k ≤ s.length) (h : (txtR s most r).2.e = 0) : r.e = 0 ∧ (txtR s most r).1.length ≤ most ∧ Gone s r.k (ut (txtR s most r).1) (txtR s most r).2.k := by
  unfold txtR at h ⊢
  split at h
  · rename_i he; exact absurd h he
  · rename_i he
    rw [if_neg he]
    refine ⟨by omega, ?_⟩
    split at h
    · rename_i n c hq
      obtain ⟨h1, h2, h3⟩ := rdT_ok hq
      exact ⟨by show n.length ≤ most; omega, Gone.of hk h1 h2⟩
    · rename_i x hq
      exact absurd h (rdT_e hq)
theorem neeR_ok {s : List UInt8} {r : Rs} (hk : r.k ≤ s.length) (h : (neeR s r).2.e = 0) : r.e = 0 ∧ Gone s r.k (nb (neeR s r).1) (neeR s r).2.k := by
  unfold neeR at h ⊢
  simp only at h ⊢
  split at h
  · rename_i h1
    rw [if_pos h1]
    simp only at h ⊢
    have hlt : ∀ {r : Rs}, (txtR s 60 r).2.e = 0 → True := fun _ => trivial
    by_cases e2 : (numR s 1 (txtR s 60 r).2).2.e = 0
    · by_cases e1 : (txtR s 60 r).2.e = 0
      · obtain ⟨a1, a2, a3⟩ := txtR_ok hk e1
        obtain ⟨b1, b2, b3⟩ := numR_ok a3.le e2
        obtain ⟨c1, c2, c3⟩ := txtR_ok b3.le h
        refine ⟨a1, ?_⟩
        rw [h1] at b3
        have := a3.trans (b3.trans c3)
        unfold nb
        simpa [uv_lt (show 1 < 128 by decide)] using this
      · rw [numR_err s 1 e1] at e2; exact absurd e2 e1
    · rw [txtR_err s 256 e2] at h; exact absurd h e2
  · rename_i h1
    rw [if_neg h1]
    simp only at h ⊢
    by_cases e1 : (txtR s 60 r).2.e = 0
    · obtain ⟨a1, a2, a3⟩ := txtR_ok hk e1
      obtain ⟨b1, b2, b3⟩ := numR_ok a3.le h
      refine ⟨a1, ?_⟩
      have h0 : (numR s 1 (txtR s 60 r).2).1 = 0 := by omega
      rw [h0] at b3
      have := a3.trans b3
      unfold nb
      simpa [uv_lt (show 0 < 128 by decide)] using this
    · rw [numR_err s 1 e1] at h; exact absurd h e1
theorem neesR_ok {s : List UInt8} : ∀ (n : Nat) (l : List Nee) (r : Rs), r.k ≤ s.length → (neesR s n l r).2.e = 0 → r.e = 0 ∧ ∃ new, (neesR s n l r).1 = l ++ new ∧ new.length = n ∧ Gone s r.k (nbs new) (neesR s n l r).2.k
  | 0, l, r, hk, h => ⟨h, [], by simp [neesR], rfl, by simpa [neesR] using Gone.refl hk⟩
  | n + 1, l, r, hk, h => by
    unfold neesR at h ⊢
    split at h
    · rename_i h1; exact absurd h h1
    · rename_i h1
      rw [if_neg h1]
      have e1 : (neeR s r).2.e = 0 := by omega
      obtain ⟨a1, a2⟩ := neeR_ok hk e1
      obtain ⟨b1, new, b2, b3, b4⟩ := neesR_ok n _ _ a2.le h
      refine ⟨a1, (neeR s r).1 :: new, by rw [b2]; simp, by simp [b3], ?_⟩
      have := a2.trans b4
      simpa [nbs] using this
theorem neesR_ok0 {s : List UInt8} : ∀ (n : Nat) (l : List Nee) (r : Rs), (neesR s n l r).2.e = 0 → r.e = 0
  | 0, l, r, h => h
  | n + 1, l, r, h => by
    unfold neesR at h
    split at h
    · rename_i h1; exact absurd h h1
    · have h2 := neesR_ok0 n _ _ h
      by_cases e : r.e = 0
      · exact e
      · exfalso
        have h3 : (neeR s r).2 = r := by
          have p : txtR s 60 r = ([], r) := txtR_err s 60 e
          have q : numR s 1 r = (0, r) := numR_err s 1 e
          unfold neeR; simp [p, q]
        rw [h3] at h2; exact e h2
theorem getT_sound {s : List UInt8} {t : Trc} (h : getT s = some t) : rightT t = true ∧ bytesT t = s := by
  unfold getT at h
  simp only at h
  split at h
  · cases h
  · rename_i h1
    split at h
    · cases h
    · rename_i h2
      split at h
      · cases h
      · rename_i outs c hL
        split at h
        · cases h
        · rename_i h3
          split at h
          · rename_i h4
            simp only [Option.some.injEq] at h
            have e0 : (neesR s (numR s 8 (txtR s 512 (numR s 1 ⟨0, 0⟩).2).2).1 [] (numR s 8 (txtR s 512 (numR s 1 ⟨0, 0⟩).2).2).2).2.e = 0 := by omega
            have v1 : (numR s 1 ⟨0, 0⟩).1 = 1 := by omega
            have v2 : (numR s 1 ⟨0, 0⟩).2.e = 0 := by
              unfold numR at v1 ⊢
              rw [if_neg (by decide)] at v1 ⊢
              split at v1 <;> simp_all
            obtain ⟨_, _, g1⟩ := numR_ok (s := s) (r := ⟨0, 0⟩) (Nat.zero_le _) v2
            by_cases j2 : (txtR s 512 (numR s 1 ⟨0, 0⟩).2).2.e = 0
            · obtain ⟨_, _, g2⟩ := txtR_ok g1.le j2
              by_cases n2 : (numR s 8 (txtR s 512 (numR s 1 ⟨0, 0⟩).2).2).2.e = 0
              · obtain ⟨_, _, g3⟩ := numR_ok g2.le n2
                obtain ⟨_, new, l1, l2, g4⟩ := neesR_ok _ [] _ g3.le e0
                obtain ⟨o1, o2⟩ := rdL_ok hL
                have g5 := Gone.of g4.le o1 o2
                refine ⟨by rw [← h]; exact h4, ?_⟩
                have g := g1.trans (g2.trans (g3.trans (g4.trans g5)))
                have hlast : (neesR s (numR s 8 (txtR s 512 (numR s 1 ⟨0, 0⟩).2).2).1 [] (numR s 8 (txtR s 512 (numR s 1 ⟨0, 0⟩).2).2).2).2.k + c = s.length := by have := g5.le; omega
                have gs := g.2.2
                rw [hlast, List.take_length] at gs
                rw [v1] at gs
                rw [List.nil_append] at l1
                subst h
                unfold bytesT
                simp only
                rw [l1, l2]
                conv => rhs; rw [gs]
                simp [uv_lt (show 1 < 128 by decide)]
              · exfalso
                have : ∀ n l, (neesR s n l (numR s 8 (txtR s 512 (numR s 1 ⟨0, 0⟩).2).2).2).2.e ≠ 0 := fun n l hz => n2 (neesR_ok0 n l _ hz)
                exact this _ _ e0
            · exfalso
              have hn : numR s 8 (txtR s 512 (numR s 1 ⟨0, 0⟩).2).2 = (0, (txtR s 512 (numR s 1 ⟨0, 0⟩).2).2) := numR_err s 8 j2
              rw [hn] at e0
              exact j2 e0
          · cases h
theorem numR_uv {s rest : List UInt8} {k n most : Nat} (h : s.drop k = uv n ++ rest) (hn : n ≤ most) (h64 : n < 2 ^ 64) : numR s most ⟨k, 0⟩ = (n, ⟨k + (uv n).length, 0⟩) := by
  unfold numR askU
  simp only [ne_eq, not_true, if_false, h, rdU_uv h64]
  rw [if_neg (by omega)]
theorem txtR_ut {s rest t : List UInt8} {k most : Nat} (h : s.drop k = ut t ++ rest) (hn : t.length ≤ most) (h64 : most < 2 ^ 63) : txtR s most ⟨k, 0⟩ = (t, ⟨k + (ut t).length, 0⟩) := by
  unfold txtR
  simp only [ne_eq, not_true, if_false, h, rdT_ut (show t.length < 2 ^ 64 by omega) (show (t.length : Int) ≤ most by omega)]
theorem drop_more {s a b : List UInt8} {k : Nat} (h : s.drop k = a ++ b) : s.drop (k + a.length) = b := by
  rw [← List.drop_drop, h, List.drop_left]
theorem okNee_path {n : Nee} (h : okNee n = true) : n.path.length ≤ 60 ∧ n.cont.length ≤ 256 ∧ (n.hv = false → n.cont = []) := by
  unfold okNee isP at h
  simp only [Bool.and_eq_true, decide_eq_true_eq, Bool.or_eq_true] at h
  exact ⟨h.1.1.1, h.1.2, fun hf => by rcases h.2 with h | h; simp_all; exact h⟩
theorem neeR_nb {s rest : List UInt8} {k : Nat} {n : Nee} (h : s.drop k = nb n ++ rest) (hn : okNee n = true) : neeR s ⟨k, 0⟩ = (n, ⟨k + (nb n).length, 0⟩) := by
  obtain ⟨h1, h2, h3⟩ := okNee_path hn
  obtain ⟨p, v, c⟩ := n
  simp only at h1 h2 h3
  unfold nb at h
  simp only [List.append_assoc] at h
  have e1 := txtR_ut h h1 (by decide)
  have d1 := drop_more h
  unfold neeR
  simp only [e1]
  cases v with
  | true =>
    simp only [if_true, List.append_assoc] at d1
    have u1 : uv 1 = [1] := uv_lt (by decide)
    rw [← u1] at d1
    have e2 := numR_uv d1 (show 1 ≤ 1 by decide) (by decide)
    have d2 := drop_more d1
    have e3 := txtR_ut d2 h2 (by decide)
    simp only [e2, e3, if_true]
    unfold nb
    simp [u1]; omega
  | false =>
    simp only [Bool.false_eq_true, if_false] at d1
    have u0 : uv 0 = [0] := uv_lt (by decide)
    rw [← u0] at d1
    have e2 := numR_uv d1 (show 0 ≤ 1 by decide) (by decide)
    simp only [e2]
    rw [h3 rfl]
    unfold nb
    simp [u0]; omega
theorem neesR_nbs {s : List UInt8} : ∀ (new l : List Nee) (k : Nat) (rest : List UInt8), s.drop k = nbs new ++ rest → (∀ n ∈ new, okNee n = true) → neesR s new.length l ⟨k, 0⟩ = (l ++ new, ⟨k + (nbs new).length, 0⟩)
  | [], l, k, rest, h, _ => by simp [neesR]
  | n :: new, l, k, rest, h, ho => by
    have hc : nbs (n :: new) = nb n ++ nbs new := by simp [nbs]
    rw [hc, List.append_assoc] at h
    have e1 := neeR_nb h (ho n (.head _))
    have d1 := drop_more h
    rw [List.length_cons]
    unfold neesR
    simp only [e1, ne_eq, not_true, if_false]
    rw [neesR_nbs new _ _ rest d1 fun m hm => ho m (.tail _ hm), hc]
    simp; omega
theorem okNs_all : ∀ {l c : List Nee}, okNs c l = true → ∀ n ∈ l, okNee n = true
  | n :: r, c, h, m, hm => by
    simp only [okNs, okAt, Bool.and_eq_true] at h
    rcases List.mem_cons.1 hm with rfl | hm
    · exact h.1.1
    · exact okNs_all h.2 m hm
theorem getT_bytes {t : Trc} (h : rightT t = true) : getT (bytesT t) = some t := by
  have hr := h
  unfold rightT shape okOuts at h
  simp only [Bool.and_eq_true, decide_eq_true_eq, List.all_eq_true] at h
  obtain ⟨⟨⟨⟨⟨h1, h2⟩, h3⟩, h4⟩, h5⟩, h6⟩ := h
  have u1 : uv 1 = [1] := uv_lt (by decide)
  have d0 : (bytesT t).drop 0 = uv 1 ++ (ut t.job ++ (uv t.needs.length ++ (nbs t.needs ++ (ul t.outs ++ [])))) := by
    rw [List.drop_zero, u1]; unfold bytesT; simp
  have e1 := numR_uv d0 (show 1 ≤ 1 by decide) (by decide)
  have d1 := drop_more d0
  have e2 := txtR_ut d1 h1 (by decide)
  have d2 := drop_more d1
  have e3 := numR_uv d2 h2 (by omega)
  have d3 := drop_more d2
  have e4 := neesR_nbs t.needs [] _ _ d3 (okNs_all h5)
  have d4 := drop_more d3
  have e5 := rdL_ul (ls := t.outs) (most := 4) (longest := 256) (by omega) (by omega) (fun s hs => by have := h6 s hs; omega) []
  have hlen := congrArg List.length d4
  unfold getT
  simp only [e1, e2, e3, e4, ne_eq, not_true, if_false, d4, e5, List.nil_append]
  rw [if_neg (by simp at hlen; omega), if_pos hr]
end Go.Proofs.Ytldicbhjmjjfbaa
