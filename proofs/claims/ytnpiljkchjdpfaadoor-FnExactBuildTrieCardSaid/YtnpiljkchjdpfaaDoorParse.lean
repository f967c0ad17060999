/- Contracts of ParseStroke and ParseLooseStroke. Condition: the text has a string's length. -/
import Derived.Test.YtnpiljkchjdpfaaDoorFmt
namespace Go.Proofs.YtnpiljkchjdpfaaDoor
open Go.RowKit

/-- What ParseStroke returns. -/
def strictOk (t : List UInt8) : Bool := looseOk t && (fmtR (looseVal t) == t)
def strictVal (t : List UInt8) : Int := if strictOk t then looseVal t else 0
theorem good_loose (t : List UInt8) : goodB (looseVal t) = looseOk t := by
  have := looseVal_bd t
  unfold looseOk
  by_cases h : looseVal t = 0
  · rw [h]; rfl
  · rw [goodB, inB_true (by omega) (by omega)]
    simp [h]

theorem strict_yes {t : List UInt8} (g : goodB (looseVal t) = true) (h : (fmtR (looseVal t) == t) = true) : strictOk t = true ∧ strictVal t = looseVal t := by
  have e : strictOk t = true := by rw [strictOk, ← good_loose, g, h]; rfl
  exact ⟨e, by rw [strictVal, if_pos e]⟩
theorem strict_no {t : List UInt8} (h : goodB (looseVal t) = false ∨ (fmtR (looseVal t) == t) = false) : strictOk t = false ∧ strictVal t = 0 := by
  have e : strictOk t = false := by
    rw [strictOk, ← good_loose]
    rcases h with h | h <;> rw [h] <;> simp
  exact ⟨e, by rw [strictVal, e]; rfl⟩

end Go.Proofs.YtnpiljkchjdpfaaDoor
