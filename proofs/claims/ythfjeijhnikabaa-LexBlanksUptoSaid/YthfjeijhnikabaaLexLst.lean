/- What a line says, but for numbers and places. -/
import Derived.Test.YthfjeijhnikabaaLexDef
namespace Go.Proofs.Ythfjeijhnikabaa
def wst (x : Wd) : List UInt8 × Bool × Bool := (x.text, x.quoted, x.mark)
def lst (l : Ln) : Bool × List (List UInt8 × Bool × Bool) := (l.ind, l.ws.map wst)
end Go.Proofs.Ythfjeijhnikabaa
