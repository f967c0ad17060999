/- The cells of a list of strings. No condition. -/
import Derived.Test.YtnpiljkchjdpfaaDoorMem
namespace Go.Proofs.YtnpiljkchjdpfaaDoor
open Go.RowKit

/-- The cells of a list of strings. -/
def strs (ss : List ByteArray) : List Value := ss.map Value.string
theorem strs_length (ss : List ByteArray) : (strs ss).length = ss.length := by simp [strs]
/-- The element k (kept whole from the walk's simp). -/
def elS (ss : List ByteArray) (k : Nat) : ByteArray := ss.getD k ⟨#[]⟩
theorem elS_at (ss : List ByteArray) (k : Nat) (h : k < ss.length) : elS ss k = ss[k] := by simp [elS, h]
theorem elS_in (ss : List ByteArray) (k : Nat) (h : k < ss.length) : elS ss k ∈ ss := by simp [elS, h]
theorem strs_get (ss : List ByteArray) (k : Nat) (h : k < ss.length) : (strs ss)[k]? = some (.string (elS ss k)) := by simp [strs, elS, h]
theorem strs_snoc (ss : List ByteArray) (s : ByteArray) : strs (ss ++ [s]) = strs ss ++ [.string s] := by simp [strs]
theorem strs_append (a b : List ByteArray) : strs (a ++ b) = strs a ++ strs b := by simp [strs]
theorem take_str (ss : List ByteArray) (k : Nat) (h : k < ss.length) : ss.take (k + 1) = ss.take k ++ [elS ss k] := by
  rw [List.take_succ_eq_append_getElem h]; simp [elS, h]
theorem strs_put (p r : List ByteArray) (x s : ByteArray) (k : Nat) (hk : p.length = k) : (strs p ++ strs (x :: r)).set k (.string s) = strs (p ++ [s]) ++ strs r := by
  rw [List.set_append_right _ _ (by rw [strs_length]; omega), strs_length, hk, Nat.sub_self, strs_snoc, List.append_assoc]
  rfl
theorem Row.str {w : World} {B : Nat} {A : Option Addr} {ss : List ByteArray} (h : Row w B A (strs ss)) {k : Nat} (hk : k < ss.length) :
    ∃ b off, A = some ⟨b, off, none⟩ ∧ b < B ∧ w.cell? ⟨b, off + k, none⟩ = some (.string (elS ss k)) := by
  obtain ⟨b, off, e, hb, hc⟩ := h (fun e => by have := strs_length ss; rw [e] at this; simp at this; omega)
  exact ⟨b, off, e, hb, hc k _ (strs_get ss k hk)⟩
end Go.Proofs.YtnpiljkchjdpfaaDoor
