/- Contracts of the laws' helpers on slices of atoms: szAtomS, toAtomS, eqAtomS, markAtomS, heldAtomS. Condition: at most 2^20 atoms. -/
import Derived.Test.YtnpiljkchjdpfaaDoorPAtoms
import Derived.Test.YtnpiljkchjdpfaaDoorLawA1
import Derived.Test.YtnpiljkchjdpfaaDoorStrS
import Derived.Laws.MakeOwn
import Derived.Deep.QuietTactic
import Derived.BigQuiet
import Derived.Deep.RegionHeld3
import Derived.WalkLawsBesides
import Derived.WalkSpells
import Derived.Outline
import Derived.Lib.Hide
namespace Go.Proofs.YtnpiljkchjdpfaaDoor
open Go.RowKit

theorem atT : ElemT Tryd.prog 76 97 (.agg #[.int .i64 0, .string ⟨#[]⟩]) 2 24 := ⟨Tryd.underlying76, by kernel_rfl, rfl, by decide⟩
theorem made2 (n : Nat) : (madeCells #[.int .i64 0, .string ⟨#[]⟩] (n * 2)).toList = atoms (List.replicate n noAt) :=
  made_rows atC 2 (fun _ => rfl) _ noAt rfl n
theorem atoms_put (p r : List At) (x a : At) (k : Nat) (hk : p.length = k) :
    ((atoms p ++ atoms (x :: r)).set (k * 2) (.int .i64 a.k)).set (k * 2 + 1) (.string a.t) = atoms (p ++ [a]) ++ atoms r := by
  have hl : (atoms p).length = k * 2 := by rw [atoms_length, hk]
  rw [app_set0 _ _ _ _ hl, app_set _ _ _ 1 _ hl, atoms_snoc, List.append_assoc]
  rfl
theorem atoms_put_rep (l : List At) (k n : Nat) (hn : l.length = n) (hk : k < n) :
    ((atoms (l.take k) ++ atoms (List.replicate (n - k) noAt)).set (k * 2) (.int .i64 (att l k).k)).set (k * 2 + 1) (.string (att l k).t) = atoms (l.take (k + 1)) ++ atoms (List.replicate (n - (k + 1)) noAt) := by
  rw [show n - k = (n - (k + 1)) + 1 by omega, List.replicate_succ, atoms_put _ _ _ _ k (by simp; omega), att_take l k (by omega)]
/-- A struct of two cells is stored into a row of the call's own. -/
theorem own_put2 {w : World} {base : Nat} {e : TypeId} {g n cap : Nat} {xs : List Value} (h : w.ownsRow base e 2 (.slice (some ⟨g, 0, none⟩) n cap) n xs) (j : Nat) (a b : Value) :
    ((w.setCell ⟨g, j, none⟩ a).setCell ⟨g, j + 1, none⟩ b).ownsRow base e 2 (.slice (some ⟨g, 0, none⟩) n cap) n ((xs.set j a).set (j + 1) b) ∧
    w.grownBy ((w.setCell ⟨g, j, none⟩ a).setCell ⟨g, j + 1, none⟩ b) (some g) := by
  obtain ⟨h1, g1⟩ := h.stored j a
  obtain ⟨h2, g2⟩ := h1.stored (j + 1) b
  exact ⟨h2, g1.trans g2⟩
theorem own_made2 (w : World) (n : Nat) (hn : n ≤ 1099511627776) : (w.alloc (.cells (madeCells #[.int .i64 0, .string ⟨#[]⟩] (n * 2)) 97)).ownsRow w.heap.size 97 2 (.slice (some ⟨w.heap.size, 0, none⟩) n n) n (atoms (List.replicate n noAt)) := by
  have h := World.ownsRow_lit (base := w.heap.size) (e := 97) (size := 2) w (madeCells #[.int .i64 0, .string ⟨#[]⟩] (n * 2)) n (Nat.le_refl _) (by unfold maxLen; omega) (by rw [size_madeCells])
  rw [made2] at h
  exact h

/-- The marks of atoms. -/
def atMark (k : Int) (i : Nat) : At := ⟨k + 2 * (i : Int), mkT (k + 2 * (i : Int) + 1)⟩
def atMarks (k : Int) (n : Nat) : List At := (List.range n).map (atMark k)
theorem atMarks_len (k : Int) (n : Nat) : (atMarks k n).length = n := by simp [atMarks]
theorem atMarks_at (k : Int) (n i : Nat) (h : i < n) : att (atMarks k n) i = atMark k i := by simp [att, atMarks, h]
theorem atMarks_succ (k : Int) (n : Nat) : atMarks k (n + 1) = atMarks k n ++ [atMark k n] := by simp [atMarks, List.range_succ]

end Go.Proofs.YtnpiljkchjdpfaaDoor
