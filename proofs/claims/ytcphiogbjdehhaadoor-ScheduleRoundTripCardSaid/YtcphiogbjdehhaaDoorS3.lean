/- The text of a schedule. -/
import Derived.Test.YtcphiogbjdehhaaDoorS2
import Derived.Lib.Join
import Derived.Lib.ItoaLen
namespace Go.Proofs.YtcphiogbjdehhaaDoor
open Go HX

def lineWords (s : Step) : List Str := [kwB s.op, s.loop] ++ ((if cntB s.op then [Lib.itoa s.by_] else []) ++ s.names)
def lineS (s : Step) : Str := Lib.join (lineWords s) [32] ++ [10]
def okS (s : Step) : Bool := validZ s == 0
def textS (l : List Step) : Str := l.flatMap lineS
def fmtS (l : List Step) : Str := if l.all okS then textS l else []
/-- The steps ahead of the first that is not valid. -/
def goodS (l : List Step) : List Step := l.takeWhile okS
def bAV (b : Str) : List AV := b.map byteAV
def wordsAV (l : List Str) : List AV := l.map .str
end Go.Proofs.YtcphiogbjdehhaaDoor
