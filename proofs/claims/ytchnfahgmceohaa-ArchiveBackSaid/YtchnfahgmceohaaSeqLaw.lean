/- The record of a payload, as a plain function. No program in sight. -/
import Derived.Test.YtchnfahgmceohaaGetLaw
import Derived.Test.YtchnfahgmceohaaSers
namespace Go.Proofs.Ytchnfahgmceohaa
open Go.RowKit
set_option linter.unusedVariables false

/-- What is left behind k numbers. -/
def rstN (p : List Int) : Nat → List Int
  | 0 => p
  | k + 1 => (getN (rstN p k)).2.2
def numN (p : List Int) (k : Nat) : Nat := (getN (rstN p k)).1
def errN (p : List Int) (k : Nat) : Int := (getN (rstN p k)).2.1
/-- Three numbers, and how the integers behind them are read. -/
def unpS (p : List Int) : Int × List Int × List Int := unpGo (numN p 2) (numN p 2) 0 false (rstN p 3) []
def zeroS : SerD := ⟨0, 0, []⟩
def serL (p : List Int) : SerD × Int :=
  if ¬ errN p 0 = 0 ∨ ¬ errN p 1 = 0 ∨ ¬ errN p 2 = 0 then (zeroS, 7)
  else if 10000 < numN p 2 then (zeroS, 7)
  else if ¬ (unpS p).1 = 0 ∨ 0 < (unpS p).2.2.length then (zeroS, 7)
  else if validS (unfoldN (numN p 0)) (numN p 1) (unpS p).2.1 = false then (zeroS, 1)
  else (⟨unfoldN (numN p 0), numN p 1, (unpS p).2.1⟩, 0)
theorem serL_err {p : List Int} {k : Nat} (hk : k < 3) (h : ¬ errN p k = 0) : serL p = (zeroS, 7) := by
  unfold serL
  rw [if_pos]
  match k, hk with
  | 0, _ => exact .inl h
  | 1, _ => exact .inr (.inl h)
  | 2, _ => exact .inr (.inr h)
end Go.Proofs.Ytchnfahgmceohaa
