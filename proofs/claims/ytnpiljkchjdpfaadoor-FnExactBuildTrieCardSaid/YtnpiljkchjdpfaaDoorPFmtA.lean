/- Plain laws on the notation of atoms, with no program in sight. No condition. -/
import Derived.Test.YtnpiljkchjdpfaaDoorAtom
namespace Go.Proofs.YtnpiljkchjdpfaaDoor
open Go.RowKit

/-- The notation of an atom. -/
def fmtA (k : Int) (t : List UInt8) : List UInt8 :=
  if k = 1 then t
  else if k = 2 then [123, 94] ++ t ++ [125]
  else if k = 3 then [123] ++ t ++ [94, 125]
  else if k = 4 then [123, 94] ++ t ++ [94, 125]
  else if k = 5 then [123, 38] ++ t ++ [125]
  else if k = 8 then [123, 45, 124, 125]
  else if k = 9 then [123, 62, 125]
  else if k = 10 then [123, 42, 45, 124, 125]
  else [123] ++ t ++ [125]
theorem fmtA_len (k : Int) (t : List UInt8) : (fmtA k t).length ≤ t.length + 5 := by
  unfold fmtA
  (repeat' split) <;> simp <;> omega
def faR (k : Int) (t : List UInt8) : List UInt8 := if goodA k t then fmtA k t else []
theorem faR_yes {k : Int} {t : List UInt8} (h : goodA k t = true) : faR k t = fmtA k t := by rw [faR, h]; rfl
theorem faR_no {k : Int} {t : List UInt8} (h : goodA k t = false) : faR k t = [] := by rw [faR, h]; rfl
theorem wordB_len {t : List UInt8} (h : wordB t = true) : 1 ≤ t.length ∧ t.length ≤ 20 ∧ t.all okB = true := by
  rw [wordB, Bool.and_eq_true] at h
  have := in_bd h.2
  exact ⟨by omega, by omega, h.1⟩
theorem goodA_len {k : Int} {t : List UInt8} (h : goodA k t = true) : t.length ≤ 20 := by
  unfold goodA at h
  split at h
  · exact (wordB_len h).2.1
  · split at h
    · simp at h
      rcases h with rfl | rfl | rfl <;> simp
    · split at h
      · simp at h
        rcases h with rfl | rfl | rfl <;> simp
      · simp at h
        rw [h.2]
        simp
/-- The kinds of valid atoms. -/
theorem goodA_kind {k : Int} {t : List UInt8} (h : goodA k t = true) :
    ((k = 1 ∨ k = 2 ∨ k = 3 ∨ k = 4 ∨ k = 5) ∧ wordB t = true) ∨ (k = 6 ∧ (t = [46] ∨ t = [33] ∨ t = [63])) ∨ (k = 7 ∧ (t = [44] ∨ t = [59] ∨ t = [58])) ∨ ((k = 8 ∨ k = 9 ∨ k = 10) ∧ t = []) := by
  unfold goodA at h
  split at h
  · rename_i hk
    exact Or.inl ⟨hk, h⟩
  · split at h
    · rename_i hk
      exact Or.inr (Or.inl ⟨hk, by simpa using h⟩)
    · split at h
      · rename_i hk
        exact Or.inr (Or.inr (Or.inl ⟨hk, by simpa using h⟩))
      · simp at h
        exact Or.inr (Or.inr (Or.inr h))
theorem fmtA_len24 {k : Int} {t : List UInt8} (h : goodA k t = true) : (fmtA k t).length ≤ 24 := by
  rcases goodA_kind h with ⟨hk, ht⟩ | ⟨rfl, hq | hq | hq⟩ | ⟨rfl, hq | hq | hq⟩ | ⟨rfl | rfl | rfl, hq⟩
  · have := (wordB_len ht).2.1
    rcases hk with rfl | rfl | rfl | rfl | rfl <;> simp [fmtA] <;> omega
  all_goals (subst hq; decide)

/-- The atom of a notation, without a check (the kind 0: none). -/
def kindA (s : List UInt8) : Int × List UInt8 :=
  if s.length < 3 ∨ s.head? ≠ some 123 ∨ s.getLast? ≠ some 125 then (1, s)
  else let u := (s.drop 1).take (s.length - 1 - 1)
    if u = [45, 124] then (8, []) else if u = [62] then (9, []) else if u = [42, 45, 124] then (10, [])
    else if u = [46] ∨ u = [33] ∨ u = [63] then (6, u) else if u = [44] ∨ u = [59] ∨ u = [58] then (7, u)
    else if u.head? = some 38 then (5, u.drop 1)
    else if u.head? = some 94 ∧ u.getLast? = some 94 ∧ 2 < u.length then (4, (u.drop 1).take (u.length - 1 - 1))
    else if u.head? = some 94 then (2, u.drop 1)
    else if u.getLast? = some 94 then (3, u.take (u.length - 1))
    else (0, [])
/-- Parsing: the atom, and 'there is one'. -/
def paOk (s : List UInt8) : Bool := goodA (kindA s).1 (kindA s).2 && decide (fmtA (kindA s).1 (kindA s).2 = s)
def paK (s : List UInt8) : Int := if paOk s then (kindA s).1 else 0
def paT (s : List UInt8) : List UInt8 := if paOk s then (kindA s).2 else []
theorem okB_ne {b : UInt8} (h : okB b = true) : b ≠ 123 ∧ b ≠ 125 ∧ b ≠ 94 ∧ b ≠ 38 ∧ b ≠ 35 ∧ b ≠ 62 ∧ 33 ≤ b.toNat ∧ b.toNat ≤ 126 := by
  refine ⟨?_, ?_, ?_, ?_, ?_, ?_, ?_, ?_⟩
  iterate 6 (intro e; subst e; revert h; decide)
  all_goals (simp [okB] at h; omega)
theorem word_head {t : List UInt8} (h : wordB t = true) : ∃ b r, t = b :: r ∧ okB b = true ∧ r.all okB = true := by
  obtain ⟨h1, _, h3⟩ := wordB_len h
  match t, h1, h3 with
  | b :: r, _, h3 =>
    rw [List.all_cons, Bool.and_eq_true] at h3
    exact ⟨b, r, rfl, h3.1, h3.2⟩
theorem word_last {t : List UInt8} (h : wordB t = true) : ∃ r b, t = r ++ [b] ∧ okB b = true := by
  obtain ⟨h1, _, h3⟩ := wordB_len h
  rcases List.eq_nil_or_concat t with rfl | ⟨r, b, rfl⟩
  · simp at h1
  · rw [List.concat_eq_append] at h3 ⊢
    rw [List.all_append, Bool.and_eq_true] at h3
    exact ⟨r, b, rfl, by simpa using h3.2⟩
theorem kind_in (u : List UInt8) (h : u ≠ []) : kindA ([123] ++ u ++ [125]) =
    if u = [45, 124] then (8, []) else if u = [62] then (9, []) else if u = [42, 45, 124] then (10, [])
    else if u = [46] ∨ u = [33] ∨ u = [63] then (6, u) else if u = [44] ∨ u = [59] ∨ u = [58] then (7, u)
    else if u.head? = some 38 then (5, u.drop 1)
    else if u.head? = some 94 ∧ u.getLast? = some 94 ∧ 2 < u.length then (4, (u.drop 1).take (u.length - 1 - 1))
    else if u.head? = some 94 then (2, u.drop 1)
    else if u.getLast? = some 94 then (3, u.take (u.length - 1))
    else (0, []) := by
  have hl : 0 < u.length := List.length_pos_iff.2 h
  have e1 : (([123] ++ u ++ [125]).drop 1).take (([123] ++ u ++ [125]).length - 1 - 1) = u := by simp
  have hn : ¬ (([123] ++ u ++ [125]).length < 3 ∨ ([123] ++ u ++ [125]).head? ≠ some 123 ∨ ([123] ++ u ++ [125]).getLast? ≠ some 125) := by
    rintro (h1 | h1 | h1)
    · simp only [List.length_append, List.length_cons, List.length_nil] at h1
      omega
    · exact h1 rfl
    · rw [List.getLast?_concat] at h1
      exact h1 rfl
  rw [kindA, if_neg hn]
  simp only [e1]
/-- The notation of a valid atom gives this atom back. -/
theorem kind_fmt {k : Int} {t : List UInt8} (h : goodA k t = true) : kindA (fmtA k t) = (k, t) := by
  rcases goodA_kind h with ⟨hk, ht⟩ | ⟨rfl, hq | hq | hq⟩ | ⟨rfl, hq | hq | hq⟩ | ⟨rfl | rfl | rfl, hq⟩
  · obtain ⟨b, r, e, hb, hr⟩ := word_head ht
    obtain ⟨q, c, e2, hc⟩ := word_last ht
    obtain ⟨b1, b2, b3, b4, b5, b6, _⟩ := okB_ne hb
    obtain ⟨c1, c2, c3, c4, c5, c6, _⟩ := okB_ne hc
    have hh : t.head? = some b := by rw [e]; rfl
    have hl : t.getLast? = some c := by rw [e2]; simp
    have hpos : 0 < t.length := by rw [e]; simp
    rcases hk with rfl | rfl | rfl | rfl | rfl
    · have : fmtA 1 t = t := by simp [fmtA]
      rw [this, kindA, if_pos]
      refine Or.inr (Or.inl ?_)
      rw [hh]
      simpa using b1
    · have : fmtA 2 t = [123] ++ ([94] ++ t) ++ [125] := by simp [fmtA]
      rw [this, kind_in _ (by simp)]
      have hg : ([94] ++ t).getLast? = some c := by rw [e2, ← List.append_assoc, List.getLast?_concat]
      have hd : ([94] ++ t).head? = some 94 := by simp
      have hne : ¬ (t = [] ∨ False) := by rw [e]; simp
      rw [hg, hd]
      simp [c3]
    · have : fmtA 3 t = [123] ++ (t ++ [94]) ++ [125] := by simp [fmtA]
      have hd : (t ++ [94]).head? = some b := by rw [e]; simp
      have hg : (t ++ [94]).getLast? = some 94 := by simp
      have hx : ∀ v : List UInt8, v.getLast? ≠ some 94 → t ++ [94] ≠ v := fun v hv e => hv (by rw [← e, List.getLast?_concat])
      rw [this, kind_in _ (by simp), hd, hg, if_neg (hx _ (by decide)), if_neg (hx _ (by decide)), if_neg (hx _ (by decide)), if_neg (by
        rintro (h | h | h)
        · exact hx _ (by decide) h
        · exact hx _ (by decide) h
        · exact hx _ (by decide) h), if_neg (by
        rintro (h | h | h)
        · exact hx _ (by decide) h
        · exact hx _ (by decide) h
        · exact hx _ (by decide) h)]
      simp [b3, b4]
    · have : fmtA 4 t = [123] ++ ([94] ++ t ++ [94]) ++ [125] := by simp [fmtA]
      have hx : ∀ v : List UInt8, v.getLast? ≠ some 94 → [94] ++ t ++ [94] ≠ v := fun v hv e => hv (by rw [← e, List.getLast?_concat])
      have hd : ([94] ++ t ++ [94]).head? = some 94 := by simp
      have hg : ([94] ++ t ++ [94]).getLast? = some 94 := List.getLast?_concat
      rw [this, kind_in _ (by simp), hd, hg, if_neg (hx _ (by decide)), if_neg (hx _ (by decide)), if_neg (hx _ (by decide)), if_neg (by
        rintro (h | h | h)
        · exact hx _ (by decide) h
        · exact hx _ (by decide) h
        · exact hx _ (by decide) h), if_neg (by
        rintro (h | h | h)
        · exact hx _ (by decide) h
        · exact hx _ (by decide) h
        · exact hx _ (by decide) h), if_neg (by decide), if_pos ⟨rfl, rfl, by simp; omega⟩]
      simp
    · have : fmtA 5 t = [123] ++ ([38] ++ t) ++ [125] := by simp [fmtA]
      have hd : ([38] ++ t).head? = some 38 := by simp
      rw [this, kind_in _ (by simp), hd]
      have hne : t ≠ [] := by rw [e]; simp
      simp [hne]
  all_goals (subst hq; decide)
theorem paOk_fmt {k : Int} {t : List UInt8} (h : goodA k t = true) : paOk (fmtA k t) = true ∧ paK (fmtA k t) = k ∧ paT (fmtA k t) = t := by
  have e : paOk (fmtA k t) = true := by rw [paOk, kind_fmt h, h]; simp
  refine ⟨e, ?_, ?_⟩
  · rw [paK, e, kind_fmt h]; rfl
  · rw [paT, e, kind_fmt h]; rfl
/-- What an atom that was parsed gives. -/
theorem paOk_in {s : List UInt8} (h : paOk s = true) : goodA (paK s) (paT s) = true ∧ fmtA (paK s) (paT s) = s := by
  have h2 := h
  rw [paOk, Bool.and_eq_true, decide_eq_true_eq] at h2
  have e1 : paK s = (kindA s).1 := by rw [paK, h]; rfl
  have e2 : paT s = (kindA s).2 := by rw [paT, h]; rfl
  rw [e1, e2]
  exact h2
theorem pa_no {s : List UInt8} (h : paOk s = false) : paK s = 0 ∧ paT s = [] := by
  constructor
  · rw [paK, h]; rfl
  · rw [paT, h]; rfl
/-- Where some valid atom has this notation, it is the one that is parsed. -/
theorem pa_of {s : List UInt8} {k : Int} {t : List UInt8} (h : goodA k t = true) (e : fmtA k t = s) : paOk s = true ∧ paK s = k ∧ paT s = t := by
  subst e
  exact paOk_fmt h
theorem pa_long {s : List UInt8} (h : 24 < s.length) : paOk s = false := by
  rcases Bool.eq_false_or_eq_true (paOk s) with e | e
  · obtain ⟨h1, h2⟩ := paOk_in e
    have := fmtA_len24 h1
    rw [h2] at this
    omega
  · exact e
end Go.Proofs.YtnpiljkchjdpfaaDoor
