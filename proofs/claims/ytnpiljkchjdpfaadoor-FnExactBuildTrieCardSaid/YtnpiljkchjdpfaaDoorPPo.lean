/- The plain law of parsing an outline's notation: what both sides give. No condition. -/
import Derived.Test.YtnpiljkchjdpfaaDoorParse
import Derived.Test.YtnpiljkchjdpfaaDoorPStr
import Derived.Test.YtnpiljkchjdpfaaDoorOutl
namespace Go.Proofs.YtnpiljkchjdpfaaDoor

def prt (ps : List (List UInt8)) (k : Nat) : List UInt8 := ps.getD k []
theorem prt_at (ps : List (List UInt8)) (k : Nat) (h : k < ps.length) : prt ps k = ps[k] := by simp [prt, h]
theorem prt_in (ps : List (List UInt8)) (k : Nat) (h : k < ps.length) : prt ps k ∈ ps := by simp [prt, h]
theorem take_prt (ps : List (List UInt8)) (k : Nat) (h : k < ps.length) : ps.take (k + 1) = ps.take k ++ [prt ps k] := by
  rw [prt_at ps k h, List.take_add_one, List.getElem?_eq_getElem h]
  rfl
/-- Every word of a notation is a stroke's. -/
def poAll (l : List UInt8) : Bool := (splits 47 l).all strictOk
def poV (l : List UInt8) : List Int := (splits 47 l).map strictVal
def psR (l : List UInt8) : List Int := if poAll l then poV l else []
def poOk (l : List UInt8) : Bool := poAll l && decide ((splits 47 l).length ≤ 6)
def poR (l : List UInt8) : List Int := if poOk l then poV l else []
theorem poV_len (l : List UInt8) : (poV l).length = (splits 47 l).length := by simp [poV]
theorem strict_good {t : List UInt8} (h : strictOk t = true) : goodB (strictVal t) = true := by
  have h2 := h
  rw [strictOk, Bool.and_eq_true] at h2
  rw [strictVal, if_pos h, good_loose]
  exact h2.1
theorem strict_len {t : List UInt8} (h : strictOk t = true) : t.length ≤ 46 := by
  rw [strictOk, Bool.and_eq_true] at h
  have h2 : fmtR (looseVal t) = t := by simpa using h.2
  rw [← h2]
  exact fmtR_len _
theorem good_vals {ps : List (List UInt8)} (h : ∀ p ∈ ps, strictOk p = true) : (ps.map strictVal).all goodB = true := by
  rw [List.all_eq_true]
  intro x hx
  obtain ⟨p, hp, rfl⟩ := List.mem_map.1 hx
  exact strict_good (h p hp)
theorem out_vals {ps : List (List UInt8)} (h : ∀ p ∈ ps, strictOk p = true) (h0 : ps ≠ []) : outB (ps.map strictVal) = decide (ps.length ≤ 6) := by
  have hl : 1 ≤ ps.length := by
    cases ps with
    | nil => exact absurd rfl h0
    | cons a b => simp
  rw [outB, good_vals h, Bool.and_true, List.length_map]
  by_cases h6 : ps.length ≤ 6
  · rw [inB_true (by omega) (by omega)]; simp [h6]
  · rcases Bool.eq_false_or_eq_true (inB (ps.length : Int) 1 6) with e | e
    · have := in_bd e; omega
    · rw [e]; simp [h6]
theorem size_mem {ss : List ByteArray} {s : ByteArray} (h : s ∈ ss) : s.size ≤ sizes ss := by
  induction ss with
  | nil => simp at h
  | cons a l ih =>
    simp only [sizes, List.map_cons, List.sum_cons]
    rcases List.mem_cons.1 h with rfl | h
    · omega
    · have := ih h; simp only [sizes] at this; omega
theorem parts_size (b : UInt8) (l : List UInt8) : sizes (partsB (splits b l)) + ((splits b l).length - 1) = l.length := by
  have hne : partsB (splits b l) ≠ [] := by have := splits_ne b l; simpa [partsB] using this
  have h := join_size b (partsB (splits b l)) hne
  rw [lst_parts, join_splits] at h
  rw [h]
  simp [partsB]
theorem part_len {b : UInt8} {l p : List UInt8} (h : p ∈ splits b l) : p.length ≤ l.length := by
  have h1 := parts_size b l
  have h2 := size_mem (s := bs p) (show bs p ∈ partsB (splits b l) from List.mem_map.2 ⟨p, h, rfl⟩)
  rw [bs_len] at h2
  omega
theorem sizes_46 {ps : List (List UInt8)} (h : ∀ p ∈ ps, p.length ≤ 46) : sizes (partsB ps) ≤ 46 * ps.length := by
  induction ps with
  | nil => simp [sizes, partsB]
  | cons a l ih =>
    have h1 := h a (by simp)
    have h2 := ih (fun s hs => h s (by simp [hs]))
    simp only [sizes, partsB, List.map_cons, List.sum_cons, List.length_cons, bs_len] at *
    omega
theorem po_long {l : List UInt8} (h : 4000 < l.length) : poOk l = false := by
  rcases Bool.eq_false_or_eq_true (poOk l) with e | e
  · rw [poOk, Bool.and_eq_true] at e
    have h6 : (splits 47 l).length ≤ 6 := by simpa using e.2
    have ha : ∀ p ∈ splits 47 l, strictOk p = true := List.all_eq_true.1 e.1
    have h1 := parts_size 47 l
    have h2 := sizes_46 (fun p hp => strict_len (ha p hp))
    omega
  · exact e
theorem po_no {l : List UInt8} (h : poOk l = false) : poR l = [] := by rw [poR, h]; rfl
theorem po_yes {l : List UInt8} (h : poOk l = true) : poR l = poV l := by rw [poR, if_pos h]
theorem poR_len (l : List UInt8) : (poR l).length ≤ 6 := by
  unfold poR
  split
  · rename_i h
    rw [poOk, Bool.and_eq_true] at h
    rw [poV_len]
    simpa using h.2
  · simp
theorem po_bad {l : List UInt8} {k : Nat} (hk : k < (splits 47 l).length) (h : strictOk (prt (splits 47 l) k) = false) : poAll l = false := by
  rcases Bool.eq_false_or_eq_true (poAll l) with e | e
  · rw [List.all_eq_true.1 e _ (prt_in _ k hk)] at h; cases h
  · exact e
theorem all_take {ps : List (List UInt8)} {k : Nat} (hk : k < ps.length) (h : ∀ p ∈ ps.take k, strictOk p = true) (g : strictOk (prt ps k) = true) : ∀ p ∈ ps.take (k + 1), strictOk p = true := fun p hp => by
  rw [take_prt ps k hk] at hp
  rcases List.mem_append.1 hp with h1 | h1
  · exact h p h1
  · simp at h1; rw [h1]; exact g
theorem vals_take {ps : List (List UInt8)} {k : Nat} (hk : k < ps.length) : (ps.take (k + 1)).map strictVal = (ps.take k).map strictVal ++ [strictVal (prt ps k)] := by
  rw [take_prt ps k hk]; simp
end Go.Proofs.YtnpiljkchjdpfaaDoor
