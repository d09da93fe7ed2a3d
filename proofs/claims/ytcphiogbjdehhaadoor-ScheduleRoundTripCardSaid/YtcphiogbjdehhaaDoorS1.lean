/- What the functions of the schedule's language compute, in plain words. -/
import Derived.Test.YtcphiogbjdehhaaDoorHxLib
namespace Go.Proofs.YtcphiogbjdehhaaDoor
open Go HX

abbrev Str := List UInt8
structure Step where
  op : Int
  loop : Str
  by_ : Int
  names : List Str
def sAV (s : Str) : AV := .agg [.str s]
def strsAV (l : List Str) : AV := .sl 1 (l.map sAV)
def Step.cells (s : Step) : List AV := [.int .i64 s.op, .str s.loop, .int .i64 s.by_, strsAV s.names]
def Step.av (s : Step) : AV := .agg [.int .i64 s.op, .str s.loop, .int .i64 s.by_, strsAV s.names]
def stepsAV (l : List Step) : AV := .sl 4 (l.map Step.av)

def kws : List Str := [[115, 112, 108, 105, 116],
  [99, 111, 108, 108, 97, 112, 115, 101],
  [105, 110, 116, 101, 114, 99, 104, 97, 110, 103, 101],
  [114, 101, 118, 101, 114, 115, 101],
  [115, 107, 101, 119],
  [102, 117, 115, 101],
  [100, 105, 115, 116, 114, 105, 98, 117, 116, 101],
  [117, 110, 114, 111, 108, 108],
  [97, 110, 110, 111, 116, 97, 116, 101],
  [105, 110, 108, 105, 110, 101],
  [99, 97, 99, 104, 101, 95, 114, 101, 97, 100],
  [99, 111, 109, 112, 117, 116, 101, 95, 97, 116],
  [97, 108, 105, 97, 115]]
def words : List Str := [[115, 105, 122, 101],
  [119, 104, 101, 114, 101],
  [105, 110],
  [100, 101, 102],
  [111, 117, 116],
  [115, 117, 109],
  [112, 114, 111, 100],
  [109, 105, 110],
  [109, 97, 120],
  [115, 99, 97, 110],
  [111, 118, 101, 114],
  [105, 102],
  [99, 97, 115, 116],
  [102, 114, 97, 99],
  [105, 110, 116],
  [102, 105, 120],
  [99, 101, 105, 108],
  [102, 108, 111, 111, 114],
  [122, 101, 114, 111],
  [101, 118, 101, 110],
  [115, 97, 116],
  [119, 114, 97, 112]]
def kwB (op : Int) : Str := if op < 1 ∨ 13 < op then [] else (kws[(op - 1).toNat]?).getD []
def nmZ (op : Int) : Int := if op = 1 ∨ op = 11 then 2 else if op = 2 ∨ op = 5 ∨ op = 12 ∨ op = 13 then 1 else 0
def cntB (op : Int) : Bool := op == 1 || op == 5 || op == 7 || op == 9
def presB (op : Int) : Bool := op == 1 || op == 2 || op == 5 || op == 8 || op == 9 || op == 11
def letterB (c : Int) : Bool := decide (97 ≤ c) && decide (c ≤ 122)
def digitB (c : Int) : Bool := decide (48 ≤ c) && decide (c ≤ 57)
def wordB (c : Int) : Bool := letterB c || digitB c || c == 95
def u8i (b : UInt8) : Int := (b.toNat : Int)
def isName (s : Str) : Bool := !s.isEmpty && decide (s.length ≤ 16) && letterB (u8i (s.headD 0)) && s.all (fun b => wordB (u8i b)) && !(words.contains s)
/-- Validate: 0 for OK, 26 for a schedule, 7 for a name. -/
def validZ (s : Step) : Int := if s.op < 1 ∨ 13 < s.op ∨ (s.names.length : Int) ≠ nmZ s.op ∨ (s.by_ ≠ 0 ∧ cntB s.op = false) then 26 else if isName s.loop && s.names.all isName then 0 else 7
def short (x : Str) : Bool := decide (x.length ≤ 100)
def fewS (s : Step) : Bool := decide (s.loop.length ≤ 100) && decide (s.names.length ≤ 10) && s.names.all short
def fewB (l : List Step) : Bool := l.all fewS && decide (l.length ≤ 80)
end Go.Proofs.YtcphiogbjdehhaaDoor
