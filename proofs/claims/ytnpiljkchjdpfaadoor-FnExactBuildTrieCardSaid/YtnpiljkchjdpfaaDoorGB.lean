/- How arguments that are slices of structs are opened, with no program in sight. No condition. | How entries and dictionaries that came in are opened. No condition. -/
import Derived.Test.YtnpiljkchjdpfaaDoorMem
import Derived.Deep.Slices
import Derived.Deep.Fields
import Derived.ChangeSame
import Derived.Test.YtnpiljkchjdpfaaDoorGA
import Derived.Test.YtnpiljkchjdpfaaDoorChecked
import Derived.Lib.SmallJoins
namespace Go.Proofs.YtnpiljkchjdpfaaDoor
open Go.RowKit Go.ChangeShapes Go.WideShapes Go.Deep

theorem spot_none {w : World} {a : Addr} {v : Value} (h : w.cell? a = some v) : a.spot = none ∧ a.block < w.heap.size := by
  refine ⟨?_, World.block_lt_of_cell? w _ h⟩
  obtain ⟨b, off, s⟩ := a
  cases s with
  | none => rfl
  | some u =>
    exfalso
    simp [World.cell?] at h
    split at h <;> cases h
theorem add_none (b off j : Nat) : (⟨b, off, none⟩ : Addr).add j = ⟨b, off + j, none⟩ := by unfold Addr.add; split <;> simp_all

theorem list_of {α : Type} (P : Nat → α → Prop) (n : Nat) (h : ∀ i, i < n → ∃ a, P i a) : ∃ l : List α, l.length = n ∧ ∀ i a, l[i]? = some a → P i a := by
  induction n with
  | zero => exact ⟨[], rfl, fun i a h => by simp at h⟩
  | succ n ih =>
    obtain ⟨l, hl, hp⟩ := ih fun i hi => h i (by omega)
    obtain ⟨a, ha⟩ := h n (by omega)
    refine ⟨l ++ [a], by simp [hl], fun i b hb => ?_⟩
    by_cases hi : i < n
    · rw [List.getElem?_append_left (by omega)] at hb
      exact hp i b hb
    · rw [List.getElem?_append_right (by omega)] at hb
      have h0 : i - l.length = 0 := by
        rcases Nat.eq_zero_or_pos (i - l.length) with e | e
        · exact e
        · rw [List.getElem?_eq_none (by simp; omega)] at hb; cases hb
      rw [h0] at hb
      simp at hb
      subst hb
      have : i = n := by omega
      rw [this]
      exact ha

section
variable {α : Type} (f : α → List Value) (s : Nat) (hf : ∀ a, (f a).length = s)
include hf
theorem row_of_cells {w : World} {b off : Nat} {l : List α} (hb : b < w.heap.size) (h : ∀ i a, l[i]? = some a → ∀ r, r < s → w.cell? ⟨b, off + (i * s + r), none⟩ = (f a)[r]?) : Row w w.heap.size (some ⟨b, off, none⟩) (rows f l) := fun _ =>
  ⟨b, off, rfl, hb, fun j u hu => by
    have hlen := rows_length f s hf l
    have hj : j < l.length * s := by
      rw [← hlen]
      exact (List.getElem?_eq_some_iff.1 hu).1
    have hs : 0 < s := by
      rcases Nat.eq_zero_or_pos s with e | e
      · subst e; simp at hj
      · exact e
    have hd : j = (j / s) * s + j % s := by rw [Nat.mul_comm]; exact (Nat.div_add_mod j s).symm
    have hq : j / s < l.length := (Nat.div_lt_iff_lt_mul hs).2 hj
    have hr : j % s < s := Nat.mod_lt _ hs
    have ha : l[j / s]? = some l[j / s] := List.getElem?_eq_getElem hq
    have e1 := rows_get f s hf l (j / s) (j % s) _ ha hr
    rw [← hd, hu] at e1
    have e2 := h (j / s) _ ha (j % s) hr
    rw [← hd] at e2
    rw [e2, ← e1]⟩

variable {H : Type} {enc : TypeId × Value → H} {P : Program} {w : World}
/-- A slice of structs that came in. -/
theorem open_rows (Good : α → Prop) {t e : TypeId} {fuel : Nat} {a0 : Option Addr} {len cap : Nat} {x : DataW H × List MemPlace} (hs : 0 < s) (ht : P.underlying t = some (.slice e)) (hC : P.cellsOf e = s)
    (hel : ∀ n cs y, DataW.trod enc P w 0 (fun _ => true) true n e cs = some y → ∃ a, Good a ∧ cs = f a)
    (h : DataW.trod enc P w 0 (fun _ => true) true fuel t [.slice a0 len cap] = some x) : ∃ l : List α, l.length = len ∧ (∀ a ∈ l, Good a) ∧ Row w w.heap.size a0 (rows f l) ∧ len ≤ maxLen := by
  rcases open_slice ht h with ⟨h0, _⟩ | ⟨a, len', cap', m, n, D, Pl, hcs, hb, hl, hm, hmm, hx, hi⟩
  · simp only [List.cons.injEq, Value.slice.injEq, and_true] at h0
    obtain ⟨rfl, rfl, rfl⟩ := h0
    exact ⟨[], rfl, by simp, Row.nil, by omega⟩
  · simp only [List.cons.injEq, Value.slice.injEq, and_true] at hcs
    obtain ⟨rfl, rfl, rfl⟩ := hcs
    simp only [if_true] at hmm
    subst hmm
    have hall : ∀ i, i < len → ∃ y : α, Good y ∧ ∀ r, r < s → w.cell? (a.add (i * s + r)) = (f y)[r]? := fun i hil => by
      obtain ⟨cs', hc, htr⟩ := hi i (by omega)
      rw [hC] at hc
      obtain ⟨y, hg, rfl⟩ := hel _ _ _ htr
      obtain ⟨_, _, hat⟩ := World.cells?_some hc
      exact ⟨y, hg, fun r hr => by rw [← hat r hr, ← Go.Deep.add_add]⟩
    obtain ⟨l, hll, hp⟩ := list_of _ len hall
    refine ⟨l, hll, fun y hy => ?_, ?_, by omega⟩
    · obtain ⟨i, hi'⟩ := List.getElem?_of_mem hy
      exact (hp i y hi').1
    · rcases Nat.eq_zero_or_pos len with h0 | h0
      · subst h0
        rw [List.eq_nil_of_length_eq_zero hll]
        exact Row.nil
      · obtain ⟨y, hy⟩ : ∃ y, l[0]? = some y := ⟨_, List.getElem?_eq_getElem (by omega)⟩
        have h1 := (hp 0 y hy).2 0 hs
        rw [List.getElem?_eq_getElem (by rw [hf]; exact hs)] at h1
        rw [show a.add (0 * s + 0) = a by simp [Addr.add]] at h1
        obtain ⟨hsp, hblk⟩ := spot_none h1
        obtain ⟨b, off, sp⟩ := a
        simp only at hsp
        subst hsp
        exact row_of_cells f s hf hblk fun i y hy r hr => by rw [← add_none]; exact (hp i y hy).2 r hr
end
end Go.Proofs.YtnpiljkchjdpfaaDoor

namespace Go.Proofs.YtnpiljkchjdpfaaDoor
open Go.RowKit Go.ChangeShapes Go.WideShapes Go.Deep

theorem rows_ints (l : List Int) : rows (fun z => [Value.int .i64 z]) l = ints l := by
  induction l with
  | nil => rfl
  | cons a l ih =>
    have e : rows (fun z => [Value.int .i64 z]) (a :: l) = Value.int .i64 a :: rows (fun z => [Value.int .i64 z]) l := rfl
    rw [e, ih]
    rfl
theorem int_open {H : Type} {enc : TypeId × Value → H} {w : World} (n : Nat) (cs : List Value) (y : DataW H × List MemPlace)
    (h : DataW.trod enc Tryd.prog w 0 (fun _ => true) true n 3 cs = some y) : ∃ z : Int, (Lit.int .i64 z).wf = true ∧ cs = [Value.int .i64 z] := by
  obtain ⟨z, e, _, hz⟩ := DataW.trod_int Tryd.underlying3 h
  exact ⟨z, hz, e⟩
theorem intsO_open {H : Type} {enc : TypeId × Value → H} {w : World} {fuel : Nat} {cs : List Value} {x : DataW H × List MemPlace}
    (h : DataW.trod enc Tryd.prog w 0 (fun _ => true) true fuel 22 cs = some x) : ∃ A n c, ∃ l : List Int, cs = [.slice A n c] ∧ l.length = n ∧ Row w w.heap.size A (ints l) ∧ n ≤ maxLen := by
  obtain ⟨A, n, c, rfl⟩ := Go.Joins.slice_form Tryd.underlying22 h
  obtain ⟨l, h1, h2, h3, h4⟩ := open_rows (fun z => [Value.int .i64 z]) 1 (fun _ => rfl) (fun z : Int => (Lit.int .i64 z).wf = true) (by omega) Tryd.underlying22 (by kernel_rfl) int_open h
  rw [rows_ints] at h3
  exact ⟨A, n, c, l, rfl, h1, h3, h4⟩
set_option maxRecDepth 100000 in
theorem ent_open {H : Type} {enc : TypeId × Value → H} {w : World} (n : Nat) (cs : List Value) (y : DataW H × List MemPlace)
    (h : DataW.trod enc Tryd.prog w 0 (fun _ => true) true n 24 cs = some y) : ∃ e : En, (e.o.length ≤ maxLen ∧ e.t.size ≤ maxLen ∧ Row w w.heap.size e.A (ints e.o)) ∧ cs = enC e := by
  obtain ⟨y0, y1, m, _, hl, h0, h1⟩ := trod_struct2 Tryd.underlying24 h
  obtain ⟨A, k, c, l, e0, hk, hr, hm⟩ := intsO_open h0
  obtain ⟨z1, e1, _, g1⟩ := DataW.trod_string Tryd.underlying9 h1
  have c2 : Tryd.prog.cellsOf 24 = 2 := by kernel_rfl
  have ci : Tryd.prog.cellsOf 22 = 1 := by kernel_rfl
  have cb : Tryd.prog.cellsOf 9 = 1 := by kernel_rfl
  rw [c2] at hl
  simp only [ci] at e0
  simp only [cb] at e1
  match cs, hl with
  | [v0, v1], _ =>
    simp at e0 e1
    subst e0 e1 hk
    exact ⟨⟨A, c, l, z1⟩, ⟨hm, g1, hr⟩, rfl⟩
theorem ents_open {H : Type} {enc : TypeId × Value → H} {w : World} {fuel : Nat} {cs : List Value} {x : DataW H × List MemPlace}
    (h : DataW.trod enc Tryd.prog w 0 (fun _ => true) true fuel 31 cs = some x) :
    ∃ A n c, ∃ l : List En, cs = [.slice A n c] ∧ l.length = n ∧ n ≤ maxLen ∧ (∀ e ∈ l, e.o.length ≤ maxLen ∧ e.t.size ≤ maxLen) ∧ DRow w w.heap.size A l := by
  obtain ⟨A, n, c, rfl⟩ := Go.Joins.slice_form Tryd.underlying31 h
  obtain ⟨l, h1, h2, h3, h4⟩ := open_rows enC 2 (fun _ => rfl) (fun e : En => e.o.length ≤ maxLen ∧ e.t.size ≤ maxLen ∧ Row w w.heap.size e.A (ints e.o)) (by omega) Tryd.underlying31 (by kernel_rfl) ent_open h
  exact ⟨A, n, c, l, rfl, h1, h4, fun e he => ⟨(h2 e he).1, (h2 e he).2.1⟩, h3, fun e he => (h2 e he).2.2⟩
set_option maxRecDepth 100000 in
theorem entry_open {H : Type} {enc : TypeId × Value → H} {w : World} {base : Nat} {r : Reach} {v : Value} {d : DataW H} {p : List MemPlace} (hv : Value.okWide Tryd.prog w r base 24 v) (h : DataW.Trod enc Tryd.prog w 0 (fun _ => true) true 24 v d p) :
    ∃ A n c, ∃ l : List Int, ∃ t : ByteArray, v = .agg #[.slice A n c, .string t] ∧ l.length = n ∧ n ≤ maxLen ∧ t.size ≤ maxLen ∧ Row w w.heap.size A (ints l) := by
  obtain ⟨v0, v1, y0, y1, m, e, _, _, h0, h1⟩ := Go.Joins.open_agg2 Tryd.underlying24 (by kernel_rfl) (by kernel_rfl) hv h
  obtain ⟨A, n, c, l, e0, hk, hr, hm⟩ := intsO_open h0
  obtain ⟨z1, e1, _, g1⟩ := DataW.trod_string Tryd.underlying9 h1
  simp at e0 e1
  subst e0 e1
  exact ⟨A, n, c, l, z1, e, hk, hm, g1, hr⟩
set_option maxRecDepth 100000 in
theorem dict_open {H : Type} {enc : TypeId × Value → H} {w : World} {base : Nat} {r : Reach} {v : Value} {d : DataW H} {p : List MemPlace} (hv : Value.okWide Tryd.prog w r base 33 v) (h : DataW.Trod enc Tryd.prog w 0 (fun _ => true) true 33 v d p) :
    ∃ A n c, ∃ l : List En, v = .agg #[.slice A n c] ∧ l.length = n ∧ n ≤ maxLen ∧ (∀ e ∈ l, e.o.length ≤ maxLen ∧ e.t.size ≤ maxLen) ∧ DRow w w.heap.size A l := by
  obtain ⟨cs, rfl, hsz⟩ := okWide_struct Tryd.underlying33 hv
  obtain ⟨fuel, hf⟩ := h
  obtain ⟨y0, n0, _, hl, h0⟩ := trod_struct1 Tryd.underlying33 hf
  have c1 : Tryd.prog.cellsOf 33 = 1 := by kernel_rfl
  have ci : Tryd.prog.cellsOf 31 = 1 := by kernel_rfl
  rw [c1] at hl hsz
  obtain ⟨A, n, c, l, e0, h1, h2, h3, h4⟩ := ents_open h0
  simp only [ci] at e0
  obtain ⟨q⟩ := cs
  match q, hsz with
  | [v0], _ =>
    simp [Value.cells] at e0
    subst e0
    exact ⟨A, n, c, l, rfl, h1, h2, h3, h4⟩
end Go.Proofs.YtnpiljkchjdpfaaDoor
