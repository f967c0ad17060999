/- Plain laws on lists of atoms: their cells, their notation. No condition. -/
import Derived.Test.YtnpiljkchjdpfaaDoorPFmtA
import Derived.Test.YtnpiljkchjdpfaaDoorMem
import Derived.Test.YtnpiljkchjdpfaaDoorPNotJ
namespace Go.Proofs.YtnpiljkchjdpfaaDoor
open Go.RowKit

/-- An atom. -/
structure At where
  k : Int
  t : ByteArray
def noAt : At := ⟨0, ⟨#[]⟩⟩
instance : Inhabited At := ⟨noAt⟩
def atC (a : At) : List Value := [.int .i64 a.k, .string a.t]
def atoms (l : List At) : List Value := rows atC l
theorem atC_len (a : At) : (atC a).length = 2 := rfl
theorem atoms_length (l : List At) : (atoms l).length = l.length * 2 := rows_length atC 2 atC_len l
theorem atoms_snoc (l : List At) (a : At) : atoms (l ++ [a]) = atoms l ++ atC a := rows_snoc atC l a
theorem atoms_append (l r : List At) : atoms (l ++ r) = atoms l ++ atoms r := rows_append atC l r
/-- The element j (kept whole from the walk's simp). -/
def att (l : List At) (j : Nat) : At := l.getD j noAt
theorem att_at (l : List At) (j : Nat) (h : j < l.length) : att l j = l[j] := by simp [att, h]
theorem att_in (l : List At) (j : Nat) (h : j < l.length) : att l j ∈ l := by simp [att, h]
theorem att_take (l : List At) (j : Nat) (h : j < l.length) : l.take (j + 1) = l.take j ++ [att l j] := by
  rw [List.take_succ_eq_append_getElem h]; simp [att, h]
theorem atoms_get (l : List At) (j : Nat) (h : j < l.length) : (atoms l)[j * 2]? = some (.int .i64 (att l j).k) ∧ (atoms l)[j * 2 + 1]? = some (.string (att l j).t) := by
  have ha : l[j]? = some (att l j) := by rw [att_at l j h]; exact List.getElem?_eq_getElem h
  refine ⟨?_, ?_⟩
  · have := rows_get atC 2 atC_len l j 0 _ ha (by omega)
    rw [Nat.add_zero] at this
    exact this
  · exact rows_get atC 2 atC_len l j 1 _ ha (by omega)
theorem Row.atm {w : World} {B : Nat} {A : Option Addr} {l : List At} (h : Row w B A (atoms l)) {j : Nat} (hj : j < l.length) :
    ∃ b off, A = some ⟨b, off, none⟩ ∧ b < B ∧ w.cell? ⟨b, off + j * 2, none⟩ = some (.int .i64 (att l j).k) ∧ w.cell? ⟨b, off + j * 2 + 1, none⟩ = some (.string (att l j).t) := by
  obtain ⟨b, off, e, hb, hc⟩ := h (fun e => by have := atoms_length l; rw [e] at this; simp at this; omega)
  obtain ⟨e1, e2⟩ := atoms_get l j hj
  exact ⟨b, off, e, hb, hc _ _ e1, by rw [Nat.add_assoc]; exact hc _ _ e2⟩

/-- The sizes of the texts together. -/
def sizesT (l : List At) : Nat := (l.map fun a => a.t.size).sum
theorem sizesT_take (l : List At) (k : Nat) (h : k < l.length) : sizesT (l.take (k + 1)) = sizesT (l.take k) + (att l k).t.size := by
  rw [att_take l k h]; simp [sizesT]
theorem sizesT_take_le (l : List At) (k : Nat) : sizesT (l.take k) ≤ sizesT l := by
  have : sizesT l = sizesT (l.take k) + sizesT (l.drop k) := by
    rw [sizesT, sizesT, sizesT, ← List.sum_append, ← List.map_append, List.take_append_drop]
  omega
theorem sizesT_mem (l : List At) (a : At) (h : a ∈ l) : a.t.size ≤ sizesT l := by
  induction l with
  | nil => cases h
  | cons x r ih =>
    rcases List.mem_cons.1 h with rfl | h
    · simp [sizesT]
    · have := ih h
      simp only [sizesT, List.map_cons, List.sum_cons] at this ⊢
      omega

def goodT (a : At) : Bool := goodA a.k a.t.data.toList
def fmtT (a : At) : List UInt8 := fmtA a.k a.t.data.toList
theorem fmtT_len {a : At} (h : goodT a = true) : (fmtT a).length ≤ 24 := fmtA_len24 h
/-- The notation of a translation. -/
def trL (l : List At) : List UInt8 := Lib.join (l.map fmtT) [32]
def sizesF (l : List At) : Nat := (l.map fun a => (fmtT a).length).sum
theorem sizesF_take (l : List At) (k : Nat) (h : k < l.length) : sizesF (l.take (k + 1)) = sizesF (l.take k) + (fmtT (att l k)).length := by
  rw [att_take l k h]; simp [sizesF]
theorem trL_nil : trL [] = [] := rfl
theorem trL_one (l : List At) (h : 0 < l.length) : trL (l.take 1) = fmtT (att l 0) := by
  rw [att_take l 0 h]
  simp [trL, Lib.join_one]
theorem trL_snoc (l : List At) (x : At) (h : l ≠ []) : trL (l ++ [x]) = trL l ++ [32] ++ fmtT x := by
  rw [trL, List.map_append, List.map_cons, List.map_nil, joinS_snoc]
  · rfl
  · simpa using h
theorem trL_succ (l : List At) (k : Nat) (hk : 0 < k) (h : k < l.length) : trL (l.take (k + 1)) = trL (l.take k) ++ [32] ++ fmtT (att l k) := by
  rw [att_take l k h, trL_snoc]
  intro e
  have := congrArg List.length e
  rw [List.length_take, List.length_nil] at this
  omega
theorem trL_len (l : List At) (h : 0 < l.length) : (trL l).length + 1 = l.length + sizesF l := by
  have key : ∀ k, k < l.length → (trL (l.take (k + 1))).length + 1 = (k + 1) + sizesF (l.take (k + 1)) := fun k => by
    induction k with
    | zero =>
      intro h
      rw [trL_one l h, sizesF_take l 0 h]
      simp [sizesF]
      omega
    | succ k ih =>
      intro h
      have i := ih (by omega)
      rw [trL_succ l (k + 1) (by omega) h, sizesF_take l (k + 1) h]
      simp only [List.length_append, List.length_cons, List.length_nil]
      omega
  have := key (l.length - 1) (by omega)
  rw [show l.length - 1 + 1 = l.length by omega, List.take_length] at this
  exact this
/-- Is there such a notation? -/
def trOk (l : List At) : Bool := inB (l.length : Int) 1 10 && l.all goodT && decide ((trL l).length ≤ 60)
def trR (l : List At) : List UInt8 := if trOk l then trL l else []
theorem trOk_iff {l : List At} (h : trOk l = true) : 1 ≤ l.length ∧ l.length ≤ 10 ∧ (∀ a ∈ l, goodT a = true) ∧ (trL l).length ≤ 60 := by
  rw [trOk, Bool.and_eq_true, Bool.and_eq_true] at h
  have := in_bd h.1.1
  exact ⟨by omega, by omega, List.all_eq_true.1 h.1.2, by simpa using h.2⟩
theorem trR_yes {l : List At} (h : trOk l = true) : trR l = trL l := by rw [trR, h]; rfl
theorem trR_no {l : List At} (h : trOk l = false) : trR l = [] := by rw [trR, h]; rfl
theorem allT_bad (l : List At) (k : Nat) (h : k < l.length) (hg : goodT (att l k) = false) : l.all goodT = false := by
  rw [List.all_eq_false]
  exact ⟨_, att_in l k h, by simp [hg]⟩
theorem allT_succ (l : List At) (k : Nat) (h : k < l.length) : (l.take (k + 1)).all goodT = ((l.take k).all goodT && goodT (att l k)) := by
  rw [att_take l k h]; simp
/-- Its words as strings. -/
def wordsT (l : List At) : List ByteArray := l.map fun a => bs (fmtT a)
theorem wordsT_succ (l : List At) (k : Nat) (h : k < l.length) : wordsT (l.take (k + 1)) = wordsT (l.take k) ++ [bs (fmtT (att l k))] := by
  rw [att_take l k h]; simp [wordsT]
theorem wordsT_join (l : List At) : (wordsT l).map (·.data.toList) = l.map fmtT := by
  simp [wordsT, bs_toList]
/-- The texts of the atoms of the kind 'word'. -/
def plainT (l : List At) : List ByteArray := (l.filter fun a => decide (a.k = 1)).map (·.t)
theorem plainT_succ (l : List At) (k : Nat) (h : k < l.length) : plainT (l.take (k + 1)) = if (att l k).k = 1 then plainT (l.take k) ++ [(att l k).t] else plainT (l.take k) := by
  rw [att_take l k h]
  by_cases e : (att l k).k = 1 <;> simp [plainT, List.filter_append, e]
theorem plainT_len (l : List At) : (plainT l).length ≤ l.length := by
  rw [plainT, List.length_map]
  exact List.length_filter_le _ _
def plR (l : List At) : List ByteArray := if trOk l then plainT l else []
theorem plR_yes {l : List At} (h : trOk l = true) : plR l = plainT l := by rw [plR, h]; rfl
theorem plR_no {l : List At} (h : trOk l = false) : plR l = [] := by rw [plR, h]; rfl
theorem plR_len (l : List At) : (plR l).length ≤ l.length := by
  unfold plR
  split
  · exact plainT_len l
  · simp
end Go.Proofs.YtnpiljkchjdpfaaDoor
