/- How arguments that are slices of structs are opened, with no program in sight. No condition. -/
import Derived.Test.YtkgphkpckcfihaaMem
import Derived.Deep.Slices
import Derived.Deep.Fields
import Derived.ChangeSame
namespace Go.Proofs.Ytkgphkpckcfihaa
open Go.RowKit Go.ChangeShapes Go.WideShapes Go.Deep

theorem spot_none {w : World} {a : Addr} {v : Value} (h : w.cell? a = some v) : a.spot = none ∧ a.block < w.heap.size := by
  refine ⟨?_, World.block_lt_of_cell? w _ h⟩
  obtain ⟨b, off, s⟩ := a
  cases s with
  | none => rfl
  | some u =>
    exfalso
    simp [World.cell?] at h
    split at h <;> cases h
theorem add_none (b off j : Nat) : (⟨b, off, none⟩ : Addr).add j = ⟨b, off + j, none⟩ := by unfold Addr.add; split <;> simp_all

theorem list_of {α : Type} (P : Nat → α → Prop) (n : Nat) (h : ∀ i, i < n → ∃ a, P i a) : ∃ l : List α, l.length = n ∧ ∀ i a, l[i]? = some a → P i a := by
  induction n with
  | zero => exact ⟨[], rfl, fun i a h => by simp at h⟩
  | succ n ih =>
    obtain ⟨l, hl, hp⟩ := ih fun i hi => h i (by omega)
    obtain ⟨a, ha⟩ := h n (by omega)
    refine ⟨l ++ [a], by simp [hl], fun i b hb => ?_⟩
    by_cases hi : i < n
    · rw [List.getElem?_append_left (by omega)] at hb
      exact hp i b hb
    · rw [List.getElem?_append_right (by omega)] at hb
      have h0 : i - l.length = 0 := by
        rcases Nat.eq_zero_or_pos (i - l.length) with e | e
        · exact e
        · rw [List.getElem?_eq_none (by simp; omega)] at hb; cases hb
      rw [h0] at hb
      simp at hb
      subst hb
      have : i = n := by omega
      rw [this]
      exact ha

section
variable {α : Type} (f : α → List Value) (s : Nat) (hf : ∀ a, (f a).length = s)
include hf
theorem row_of_cells {w : World} {b off : Nat} {l : List α} (hb : b < w.heap.size) (h : ∀ i a, l[i]? = some a → ∀ r, r < s → w.cell? ⟨b, off + (i * s + r), none⟩ = (f a)[r]?) : Row w w.heap.size (some ⟨b, off, none⟩) (rows f l) := fun _ =>
  ⟨b, off, rfl, hb, fun j u hu => by
    have hlen := rows_length f s hf l
    have hj : j < l.length * s := by
      rw [← hlen]
      exact (List.getElem?_eq_some_iff.1 hu).1
    have hs : 0 < s := by
      rcases Nat.eq_zero_or_pos s with e | e
      · subst e; simp at hj
      · exact e
    have hd : j = (j / s) * s + j % s := by rw [Nat.mul_comm]; exact (Nat.div_add_mod j s).symm
    have hq : j / s < l.length := (Nat.div_lt_iff_lt_mul hs).2 hj
    have hr : j % s < s := Nat.mod_lt _ hs
    have ha : l[j / s]? = some l[j / s] := List.getElem?_eq_getElem hq
    have e1 := rows_get f s hf l (j / s) (j % s) _ ha hr
    rw [← hd, hu] at e1
    have e2 := h (j / s) _ ha (j % s) hr
    rw [← hd] at e2
    rw [e2, ← e1]⟩

variable {H : Type} {enc : TypeId × Value → H} {P : Program} {w : World}
/-- A slice of structs that came in. -/
theorem open_rows (Good : α → Prop) {t e : TypeId} {fuel : Nat} {a0 : Option Addr} {len cap : Nat} {x : DataW H × List MemPlace} (hs : 0 < s) (ht : P.underlying t = some (.slice e)) (hC : P.cellsOf e = s)
    (hel : ∀ n cs y, DataW.trod enc P w 0 (fun _ => true) true n e cs = some y → ∃ a, Good a ∧ cs = f a)
    (h : DataW.trod enc P w 0 (fun _ => true) true fuel t [.slice a0 len cap] = some x) : ∃ l : List α, l.length = len ∧ (∀ a ∈ l, Good a) ∧ Row w w.heap.size a0 (rows f l) ∧ len ≤ maxLen := by
  rcases open_slice ht h with ⟨h0, _⟩ | ⟨a, len', cap', m, n, D, Pl, hcs, hb, hl, hm, hmm, hx, hi⟩
  · simp only [List.cons.injEq, Value.slice.injEq, and_true] at h0
    obtain ⟨rfl, rfl, rfl⟩ := h0
    exact ⟨[], rfl, by simp, Row.nil, by omega⟩
  · simp only [List.cons.injEq, Value.slice.injEq, and_true] at hcs
    obtain ⟨rfl, rfl, rfl⟩ := hcs
    simp only [if_true] at hmm
    subst hmm
    have hall : ∀ i, i < len → ∃ y : α, Good y ∧ ∀ r, r < s → w.cell? (a.add (i * s + r)) = (f y)[r]? := fun i hil => by
      obtain ⟨cs', hc, htr⟩ := hi i (by omega)
      rw [hC] at hc
      obtain ⟨y, hg, rfl⟩ := hel _ _ _ htr
      obtain ⟨_, _, hat⟩ := World.cells?_some hc
      exact ⟨y, hg, fun r hr => by rw [← hat r hr, ← Go.Deep.add_add]⟩
    obtain ⟨l, hll, hp⟩ := list_of _ len hall
    refine ⟨l, hll, fun y hy => ?_, ?_, by omega⟩
    · obtain ⟨i, hi'⟩ := List.getElem?_of_mem hy
      exact (hp i y hi').1
    · rcases Nat.eq_zero_or_pos len with h0 | h0
      · subst h0
        rw [List.eq_nil_of_length_eq_zero hll]
        exact Row.nil
      · obtain ⟨y, hy⟩ : ∃ y, l[0]? = some y := ⟨_, List.getElem?_eq_getElem (by omega)⟩
        have h1 := (hp 0 y hy).2 0 hs
        rw [List.getElem?_eq_getElem (by rw [hf]; exact hs)] at h1
        rw [show a.add (0 * s + 0) = a by simp [Addr.add]] at h1
        obtain ⟨hsp, hblk⟩ := spot_none h1
        obtain ⟨b, off, sp⟩ := a
        simp only at hsp
        subst hsp
        exact row_of_cells f s hf hblk fun i y hy r hr => by rw [← add_none]; exact (hp i y hy).2 r hr
end
end Go.Proofs.Ytkgphkpckcfihaa
