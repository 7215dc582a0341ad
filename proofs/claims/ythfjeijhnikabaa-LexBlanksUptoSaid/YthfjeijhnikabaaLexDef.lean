/- Words and lines: what the lexer computes, in plain Lean, and as they stand in memory. -/
import Derived.Test.YthfjeijhnikabaaLexQ
import Derived.Test.YthfjeijhnikabaaMw
namespace Go.Proofs.Ythfjeijhnikabaa
open Go.RowKit

structure Wd where
  text : List UInt8
  line : Nat
  col : Nat
  quoted : Bool
  mark : Bool
deriving DecidableEq
structure Ln where
  num : Nat
  ind : Bool
  ws : List Wd
deriving DecidableEq
def fin (outs : List Ln) (o : Ln) : List Ln := if o.ws = [] then outs else outs ++ [o]
def Ln.add (o : Ln) (x : Wd) : Ln := { o with ws := o.ws ++ [x] }
def lx (s : List UInt8) : Nat → List Tok → List Ln → Ln → Bool → Except Nat (List Ln)
  | 0, _, _, _, _ => .ok []
  | _ + 1, [], outs, one, _ => .ok (fin outs one)
  | f + 1, t :: r, outs, one, fresh =>
    if t.c = 10 then lx s f r (fin outs one) ⟨ln s (t.pos + 1), false, []⟩ true
    else if t.c = 32 then lx s f r outs one false
    else if t.c = 9 ∧ fresh = true then lx s f r outs { one with ind := true } false
    else if t.c = 35 then lx s f (r.dropWhile fun t => t.c ≠ 10) outs one false
    else if t.c = 58 ∨ t.c = 61 then lx s f r outs (one.add ⟨[t.c], ln s t.pos, cl s t.pos, false, true⟩) false
    else if t.c = 34 then
      match qt t.pos r [] with
      | .error x => .error x
      | .ok (txt, r') => lx s f r' outs (one.add ⟨txt, ln s t.pos, cl s t.pos, true, false⟩) false
    else if bareB t.c then
      lx s f (r.dropWhile fun t => bareB t.c) outs (one.add ⟨t.c :: (r.takeWhile fun t => bareB t.c).map Tok.c, ln s t.pos, cl s t.pos, false, false⟩) false
    else .error t.pos
/-- the lines of a text, or where it goes wrong -/
def lexL (s : List UInt8) : Except Nat (List Ln) := lx s (s.length + 1) (toks s 0) [] ⟨1, false, []⟩ true
/-- a word's cells, a row of words' -/
def wcs (x : Wd) : List Value := [.string (strB x.text), .int .i64 (x.line : Int), .int .i64 (x.col : Int), .bool x.quoted, .bool x.mark]
def wsC : List Wd → List Value
  | [] => []
  | x :: r => wcs x ++ wsC r
theorem wsC_length (l : List Wd) : (wsC l).length = l.length * 5 := by
  induction l with
  | nil => rfl
  | cons a r ih => simp only [wsC, wcs, List.length_append, List.length_cons, List.length_nil, ih]; omega
theorem wsC_append (l k : List Wd) : wsC (l ++ k) = wsC l ++ wsC k := by
  induction l with
  | nil => rfl
  | cons a r ih => simp only [List.cons_append, wsC, ih, List.append_assoc]
/-- rows of words, each a row of the call's own, below a mark; the lines' cells -/
inductive LsO (J : Jm) (w : World) (base M : Nat) : List Ln → List Value → Prop where
  | nil : LsO J w base M [] []
  | cons {l : Ln} {ls : List Ln} {wv : Value} {cs : List Value} (h : Own J w base 35 5 wv l.ws.length (wsC l.ws)) (hM : ∀ b, wv.ownBlock = some b → b < M) (ht : LsO J w base M ls cs) :
      LsO J w base M (l :: ls) (.int .i64 (l.num : Int) :: .bool l.ind :: wv :: cs)
theorem LsO.length {J : Jm} {w : World} {base M : Nat} {ls : List Ln} {cs : List Value} (h : LsO J w base M ls cs) : cs.length = ls.length * 3 := by
  induction h with
  | nil => rfl
  | cons _ _ _ ih => simp only [List.length_cons, ih]; omega
theorem LsO.imp {J J' : Jm} {w w' : World} {base base' M M' : Nat} {ls : List Ln} {cs : List Value} (h : LsO J w base M ls cs)
    (hk : ∀ v n c, Own J w base 35 5 v n c → (∀ b, v.ownBlock = some b → b < M) → Own J' w' base' 35 5 v n c) (hM : M ≤ M') : LsO J' w' base' M' ls cs := by
  induction h with
  | nil => exact .nil
  | cons h1 h2 _ ih => exact .cons (hk _ _ _ h1 h2) (fun b e => Nat.lt_of_lt_of_le (h2 b e) hM) ih
theorem LsO.append {J : Jm} {w : World} {base M : Nat} {ls ks : List Ln} {cs ds : List Value} (h : LsO J w base M ls cs) (k : LsO J w base M ks ds) : LsO J w base M (ls ++ ks) (cs ++ ds) := by
  induction h with
  | nil => exact k
  | cons h1 h2 _ ih => exact .cons h1 h2 ih
theorem LsO.mv {S : Nat → Prop} {J J' : Jm} {w w' : World} {base M : Nat} {ls : List Ln} {cs : List Value} (h : LsO J w base M ls cs) (m : Mv S J w J' w') (hs : ∀ b, base ≤ b → b < M → ¬ S b) : LsO J' w' base M ls cs :=
  h.imp (fun _ _ _ o hM => m.own o fun b e => hs b (o.lt b e).1 (hM b e)) (Nat.le_refl _)
theorem LsO.mw {S : Nat → Prop} {J J' : Jm} {w w' : World} {base M : Nat} {ls : List Ln} {cs : List Value} (h : LsO J w base M ls cs) (m : Mw S J w J' w') (hs : ∀ v n c, Own J w base 35 5 v n c → (∀ b, v.ownBlock = some b → b < M) → ∀ b, v.ownBlock = some b → ¬ S b) : LsO J' w' base M ls cs :=
  h.imp (fun v n c o hM => m.own o (hs v n c o hM)) (Nat.le_refl _)
/-- a line's box, the box of the lines -/
def LnBox (w : World) (b : Nat) (num : Int) (ind : Bool) (wv : Value) : Prop := w.heap[b]? = some (.cells [.int .i64 num, .bool ind, wv].toArray 33 (0, 0))
def OBox (w : World) (b : Nat) (v : Value) : Prop := w.heap[b]? = some (.cells [v].toArray 24 (0, 0))
def WBox (w : World) (b : Nat) (x : Wd) : Prop := w.heap[b]? = some (.cells (wcs x).toArray 35 (0, 0))
theorem infoLn : (Try.prog.info? 33).map (fun i => (i.zero, i.size, i.bytes)) = some (some (.agg #[.int .i64 0, .bool false, .slice none 0 0]), 3, 40) := by kernel_rfl
theorem infoWd : (Try.prog.info? 35).map (fun i => (i.zero, i.size, i.bytes)) = some (some (.agg #[.string ByteArray.empty, .int .i64 0, .int .i64 0, .bool false, .bool false]), 5, 40) := by kernel_rfl
end Go.Proofs.Ythfjeijhnikabaa
