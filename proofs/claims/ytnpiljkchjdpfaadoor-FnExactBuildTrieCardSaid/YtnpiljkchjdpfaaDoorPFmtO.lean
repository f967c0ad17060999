/- The plain laws of outlines' notations: reading what was written, writing what was read. No condition. -/
import Derived.Test.YtnpiljkchjdpfaaDoorPPo
import Derived.Test.YtnpiljkchjdpfaaDoorPNot
import Derived.Test.YtnpiljkchjdpfaaDoorPStroke2
import Derived.Test.YtnpiljkchjdpfaaDoorOutl4
import Derived.Test.YtnpiljkchjdpfaaDoorLawO4
namespace Go.Proofs.YtnpiljkchjdpfaaDoor

theorem strict_fmtO {s : Int} (g : goodB s = true) : strictOk (fmtR s) = true ∧ strictVal (fmtR s) = s := by
  obtain ⟨g1, g2⟩ := good_bd g
  have e : fmtR s = fmtL s := by rw [fmtR, if_pos g]
  have hv := loose_fmt (s := s) (by omega) g2
  rw [e]
  have h := strict_yes (t := fmtL s) (by rw [hv]; exact g) (by rw [hv, e]; simp)
  exact ⟨h.1, by rw [h.2, hv]⟩
theorem strict_backO {u : List UInt8} (h : strictOk u = true) : fmtR (strictVal u) = u := by
  have h' := h
  rw [strictOk, Bool.and_eq_true, beq_iff_eq] at h'
  have e : strictVal u = looseVal u := by rw [strictVal, if_pos h]
  rw [e]
  exact h'.2
theorem lab_no47 (n : Nat) : labs.getD n 0 ≠ 47 := by
  by_cases h : n < 23
  · exact (by decide : ∀ n, n < 23 → labs.getD n 0 ≠ 47) n h
  · have : labs.length = 23 := rfl
    rw [List.getD_eq_getElem?_getD, List.getElem?_eq_none (by omega)]
    decide
theorem fold_free (l : List Int) : ∀ st : List UInt8 × Bool × Bool, (47 : UInt8) ∉ st.1 → (47 : UInt8) ∉ (l.foldl stepS st).1 := by
  induction l with
  | nil => exact fun _ h => h
  | cons k l ih =>
    intro st h
    rw [List.foldl_cons]
    refine ih _ ?_
    have hk : (47 : UInt8) ≠ lab k := fun e => lab_no47 _ e.symm
    unfold stepS
    split
    · simp [h, hk]
    · simp [h, hk]
theorem fmtR_free (s : Int) : (47 : UInt8) ∉ fmtR s := by
  unfold fmtR
  split
  · exact fold_free _ _ (by simp)
  · simp
theorem splits_join (b : UInt8) : ∀ ps : List (List UInt8), ps ≠ [] → (∀ p ∈ ps, b ∉ p) → splits b (Lib.join ps [b]) = ps
  | [], h, _ => absurd rfl h
  | [p], _, h => by rw [Lib.join_one]; exact splits_none b p (h p (by simp))
  | p :: q :: r, _, h => by
    have ih := splits_join b (q :: r) (by simp) (fun x hx => h x (by simp at hx ⊢; exact Or.inr hx))
    have e : Lib.join (p :: q :: r) [b] = p ++ b :: Lib.join (q :: r) [b] := by simp [Lib.join_cons, Lib.joinTail]
    rw [e, splits_cut b p _ (h p (by simp)), ih]
theorem join_append (xs : List (List UInt8)) (s : List UInt8) (ys : List (List UInt8)) (hy : ys ≠ []) : xs ≠ [] → Lib.join (xs ++ ys) s = Lib.join xs s ++ s ++ Lib.join ys s := by
  induction xs with
  | nil => exact fun h => absurd rfl h
  | cons a l ih =>
    intro _
    cases l with
    | nil => cases ys with
      | nil => exact absurd rfl hy
      | cons y r => simp [Lib.join_cons, Lib.joinTail]
    | cons c r =>
      have h := ih (by simp)
      have e1 : Lib.join (a :: c :: r ++ ys) s = a ++ s ++ Lib.join (c :: r ++ ys) s := by simp [Lib.join_cons, Lib.joinTail]
      have e2 : Lib.join (a :: c :: r) s = a ++ s ++ Lib.join (c :: r) s := by simp [Lib.join_cons, Lib.joinTail]
      rw [e1, e2, h]
      simp [List.append_assoc]
theorem notL_append {a b : List Int} (ha : a ≠ []) (hb : b ≠ []) : notL (a ++ b) = notL a ++ [47] ++ notL b := by
  unfold notL
  rw [List.map_append]
  exact join_append _ _ _ (by simpa using hb) (by simpa using ha)
theorem out_ne {a : List Int} (h : outB a = true) : a ≠ [] := by
  intro e
  have := outB_len h
  rw [e] at this
  simp at this
/-- What is written of a valid outline reads as that outline. -/
theorem read_written {a : List Int} (h : outB a = true) : poOk (notL a) = true ∧ poR (notL a) = a := by
  have hs : splits 47 (notL a) = a.map fmtR := splits_join 47 _ (by simpa using out_ne h) (fun p hp => by
    obtain ⟨x, _, rfl⟩ := List.mem_map.1 hp
    exact fmtR_free x)
  have hall : ∀ x ∈ a, goodB x = true := outB_all h
  have h6 := (outB_len h).2
  have hA : poAll (notL a) = true := by
    rw [poAll, hs, List.all_eq_true]
    intro p hp
    obtain ⟨x, hx, rfl⟩ := List.mem_map.1 hp
    exact (strict_fmtO (hall x hx)).1
  have hV : poV (notL a) = a := by
    rw [poV, hs, List.map_map]
    conv => rhs; rw [← List.map_id a]
    exact List.map_congr_left fun x hx => (strict_fmtO (hall x hx)).2
  have hO : poOk (notL a) = true := by rw [poOk, hA, hs]; simpa using h6
  exact ⟨hO, by rw [po_yes hO, hV]⟩
/-- What was read is written as it stood. -/
theorem written_read {l : List UInt8} (h : poOk l = true) : outB (poR l) = true ∧ notL (poR l) = l := by
  rw [po_yes h]
  rw [poOk, Bool.and_eq_true] at h
  have ha : ∀ p ∈ splits 47 l, strictOk p = true := List.all_eq_true.1 h.1
  refine ⟨(out_vals ha (splits_ne 47 l)).trans h.2, ?_⟩
  rw [notL, poV, List.map_map]
  have e : (splits 47 l).map (fmtR ∘ strictVal) = splits 47 l := by
    conv => rhs; rw [← List.map_id (splits 47 l)]
    exact List.map_congr_left fun p hp => strict_backO (ha p hp)
  rw [e, join_splits]
theorem cat_all {a b : List Int} (h : catB a b = true) : catR a b = a ++ b ∧ outB a = true ∧ outB b = true ∧ outB (a ++ b) = true ∧ preB (a ++ b) a = true ∧ bothB (a ++ b) a = true ∧ notL (a ++ b) = notL a ++ [47] ++ notL b := by
  have e := (cat_t h).2
  rw [catB, Bool.and_eq_true, Bool.and_eq_true] at h
  obtain ⟨⟨h1, h2⟩, h3⟩ := h
  obtain ⟨k1, k2, _⟩ := both_t h3 h1
  refine ⟨e, h1, h2, h3, ?_, k1, notL_append (out_ne h1) (out_ne h2)⟩
  rw [k2, startsB]
  simp
theorem fmtO_yes {a : List Int} (h : outB a = true) : fmtO a = notL a := by rw [fmtO, if_pos h]
theorem fmtO_no {a : List Int} (h : outB a = false) : fmtO a = [] := by rw [fmtO, h]; rfl
theorem fmtO_len (a : List Int) : (fmtO a).length ≤ 282 := by
  unfold fmtO
  split
  · rename_i h
    have := notL_len a
    have := (outB_len h).2
    omega
  · simp
end Go.Proofs.YtnpiljkchjdpfaaDoor
