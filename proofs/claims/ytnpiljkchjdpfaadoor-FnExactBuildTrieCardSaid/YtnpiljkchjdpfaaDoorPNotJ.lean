/- A plain law on joined lists. No condition. -/
import Derived.Lib.Join
namespace Go.Proofs.YtnpiljkchjdpfaaDoor
theorem joinS_snoc (xs : List (List UInt8)) (y sep : List UInt8) (h : xs ≠ []) : Lib.join (xs ++ [y]) sep = Lib.join xs sep ++ sep ++ y := by
  cases xs with
  | nil => exact absurd rfl h
  | cons x r =>
    rw [List.cons_append, Lib.join_cons, Lib.join_cons]
    simp [Lib.joinTail, List.append_assoc]
end Go.Proofs.YtnpiljkchjdpfaaDoor
