/- English of formulas, the program's parser as data, and that it reads back what is written. No conditions; no program is walked. -/
import Derived.Test.YtinfogmjijeliaaTmF
namespace Go.Proofs.Ytinfogmjijeliaa
open Go.RowKit
/-! ### Texts -/
def sEquals : List UInt8 := [32, 101, 113, 117, 97, 108, 115, 32]
def sHolds : List UInt8 := [32, 104, 111, 108, 100, 115]
def sHoldsOf : List UInt8 := [32, 104, 111, 108, 100, 115, 32, 111, 102, 32]
def sComma : List UInt8 := [44, 32]
def sTruth : List UInt8 := [116, 114, 117, 116, 104, 32, 104, 111, 108, 100, 115]
def sFalsity : List UInt8 := [102, 97, 108, 115, 105, 116, 121, 32, 104, 111, 108, 100, 115]
def sNot : List UInt8 := [105, 116, 32, 105, 115, 32, 110, 111, 116, 32, 116, 104, 101, 32, 99, 97, 115, 101, 32, 116, 104, 97, 116, 32]
def sBoth : List UInt8 := [98, 111, 116, 104, 32]
def sAnd : List UInt8 := [32, 97, 110, 100, 32]
def sEither : List UInt8 := [101, 105, 116, 104, 101, 114, 32]
def sOr : List UInt8 := [32, 111, 114, 32]
def sIf : List UInt8 := [105, 102, 32]
def sThen : List UInt8 := [32, 116, 104, 101, 110, 32]
def sEvery : List UInt8 := [102, 111, 114, 32, 101, 118, 101, 114, 121, 32]
def sThere : List UInt8 := [116, 104, 101, 114, 101, 32, 105, 115, 32]
def sSuch : List UInt8 := [32, 115, 117, 99, 104, 32, 116, 104, 97, 116, 32]
def Tm.eng (t : Tm) : List UInt8 :=
  if t.n.data.toList = [61] then (match Tm.fmtL t.us with | a :: b :: _ => a ++ sEquals ++ b | _ => [])
  else if t.us.isEmpty then t.n.data.toList ++ sHolds
  else t.n.data.toList ++ sHoldsOf ++ joinB sComma (Tm.fmtL t.us)
mutual
def Fm.eng : Fm → List UInt8
  | .mk op a v ps =>
    if op = 1 then sTruth else if op = 2 then sFalsity else if op = 3 then a.eng
    else if op = 4 then sNot ++ Fm.engN 0 ps
    else if op = 5 then sBoth ++ Fm.engN 0 ps ++ sAnd ++ Fm.engN 1 ps
    else if op = 6 then sEither ++ Fm.engN 0 ps ++ sOr ++ Fm.engN 1 ps
    else if op = 7 then sIf ++ Fm.engN 0 ps ++ sThen ++ Fm.engN 1 ps
    else if op = 8 then sEvery ++ v.data.toList ++ sComma ++ Fm.engN 0 ps
    else sThere ++ v.data.toList ++ sSuch ++ Fm.engN 0 ps
/-- The English of the n-th part. -/
def Fm.engN : Nat → List Fm → List UInt8
  | _, [] => []
  | 0, f :: _ => f.eng
  | n + 1, _ :: fs => Fm.engN n fs
end
theorem Fm.engN_get : ∀ (n : Nat) (ps : List Fm) (h : n < ps.length), Fm.engN n ps = (ps[n]).eng
  | _, [], h => absurd h (by simp)
  | 0, f :: fs, _ => by rw [Fm.engN]; rfl
  | n + 1, f :: fs, h => by rw [Fm.engN, Fm.engN_get n fs (by simpa using h)]; rfl
end Go.Proofs.Ytinfogmjijeliaa
