/- Plain laws on parsing a translation's notation. No condition. -/
import Derived.Test.YtnpiljkchjdpfaaDoorPAtoms
import Derived.Test.YtnpiljkchjdpfaaDoorPStr
namespace Go.Proofs.YtnpiljkchjdpfaaDoor
open Go.RowKit

def patAt (ps : List (List UInt8)) (k : Nat) : List UInt8 := ps.getD k []
theorem patAt_at (ps : List (List UInt8)) (k : Nat) (h : k < ps.length) : patAt ps k = ps[k] := by simp [patAt, h]
theorem patAt_in (ps : List (List UInt8)) (k : Nat) (h : k < ps.length) : patAt ps k ∈ ps := by simp [patAt, h]
theorem take_pat (ps : List (List UInt8)) (k : Nat) (h : k < ps.length) : ps.take (k + 1) = ps.take k ++ [patAt ps k] := by
  rw [patAt_at ps k h, List.take_add_one, List.getElem?_eq_getElem h]
  rfl
/-- The atom of a word. -/
def atOf (p : List UInt8) : At := ⟨paK p, bs (paT p)⟩
theorem atOf_fmt {p : List UInt8} (h : paOk p = true) : goodT (atOf p) = true ∧ fmtT (atOf p) = p := paOk_in h
theorem atOf_of {a : At} (h : goodT a = true) : paOk (fmtT a) = true ∧ atOf (fmtT a) = a := by
  obtain ⟨k, t⟩ := a
  obtain ⟨h1, h2, h3⟩ := paOk_fmt (k := k) (t := t.data.toList) h
  refine ⟨h1, ?_⟩
  rw [atOf]
  show At.mk (paK (fmtA k t.data.toList)) (bs (paT (fmtA k t.data.toList))) = _
  rw [h2, h3, bs_self]
/-- Every word of the text is an atom's. -/
def ptAll (l : List UInt8) : Bool := (splits 32 l).all paOk
def ptV (l : List UInt8) : List At := (splits 32 l).map atOf
/-- Is there such a translation? -/
def ptOk (l : List UInt8) : Bool := decide (l.length ≤ 60) && (ptAll l && decide ((splits 32 l).length ≤ 10))
def ptR (l : List UInt8) : List At := if ptOk l then ptV l else []
theorem ptR_yes {l : List UInt8} (h : ptOk l = true) : ptR l = ptV l := by rw [ptR, h]; rfl
theorem ptR_no {l : List UInt8} (h : ptOk l = false) : ptR l = [] := by rw [ptR, h]; rfl
theorem ptOk_iff {l : List UInt8} (h : ptOk l = true) : l.length ≤ 60 ∧ (∀ p ∈ splits 32 l, paOk p = true) ∧ (splits 32 l).length ≤ 10 := by
  rw [ptOk, Bool.and_eq_true, Bool.and_eq_true] at h
  exact ⟨by simpa using h.1, List.all_eq_true.1 h.2.1, by simpa using h.2.2⟩
theorem ptOk_long {l : List UInt8} (h : 60 < l.length) : ptOk l = false := by
  rw [ptOk, show decide (l.length ≤ 60) = false by simp; omega]; rfl
theorem ptOk_bad {l : List UInt8} {k : Nat} (h : k < (splits 32 l).length) (g : paOk (patAt (splits 32 l) k) = false) : ptOk l = false := by
  have : ptAll l = false := by
    rw [ptAll, List.all_eq_false]
    exact ⟨_, patAt_in _ k h, by simp [g]⟩
  rw [ptOk, this]; simp
theorem ptOk_many {l : List UInt8} (h : 10 < (splits 32 l).length) : ptOk l = false := by
  rw [ptOk, show decide ((splits 32 l).length ≤ 10) = false by simp; omega]; simp
theorem ptOk_good {l : List UInt8} (h1 : l.length ≤ 60) (h2 : ∀ p ∈ splits 32 l, paOk p = true) (h3 : (splits 32 l).length ≤ 10) : ptOk l = true := by
  rw [ptOk, ptAll, List.all_eq_true.2 h2]; simp [h1, h3]
theorem ptV_len (l : List UInt8) : (ptV l).length = (splits 32 l).length := by simp [ptV]
theorem ptR_len (l : List UInt8) : (ptR l).length ≤ 10 := by
  rcases Bool.eq_false_or_eq_true (ptOk l) with h | h
  · rw [ptR_yes h, ptV_len]; exact (ptOk_iff h).2.2
  · rw [ptR_no h]; simp
theorem fmt_vals {ps : List (List UInt8)} (h : ∀ p ∈ ps, paOk p = true) : (ps.map atOf).map fmtT = ps := by
  rw [List.map_map]
  conv => rhs; rw [← List.map_id ps]
  exact List.map_congr_left fun p hp => (atOf_fmt (h p hp)).2
theorem trL_ptV {l : List UInt8} (h : ∀ p ∈ splits 32 l, paOk p = true) : trL (ptV l) = l := by
  rw [trL, ptV, fmt_vals h, join_splits]
theorem good_ptV {l : List UInt8} (h : ∀ p ∈ splits 32 l, paOk p = true) : (ptV l).all goodT = true := by
  rw [List.all_eq_true]
  intro a ha
  obtain ⟨p, hp, rfl⟩ := List.mem_map.1 ha
  exact (atOf_fmt (h p hp)).1
/-- What the reference's last check says. -/
theorem trOk_ptV {l : List UInt8} (h1 : l.length ≤ 60) (h : ∀ p ∈ splits 32 l, paOk p = true) : trOk (ptV l) = decide ((splits 32 l).length ≤ 10) := by
  have hne : 1 ≤ (splits 32 l).length := by
    have := splits_ne 32 l
    cases e : splits 32 l with
    | nil => exact absurd e this
    | cons a b => simp
  rw [trOk, good_ptV h, trL_ptV h, ptV_len, show decide (l.length ≤ 60) = true by simpa using h1, Bool.and_true, Bool.and_true]
  by_cases h10 : (splits 32 l).length ≤ 10
  · rw [inB_true (by omega) (by omega)]; simp [h10]
  · rcases Bool.eq_false_or_eq_true (inB ((splits 32 l).length : Int) 1 10) with e | e
    · have := in_bd e; omega
    · rw [e]; simp [h10]
/-- What was parsed is written back. -/
theorem tr_written {l : List UInt8} (h : ptOk l = true) : trOk (ptR l) = true ∧ trL (ptR l) = l := by
  obtain ⟨h1, h2, h3⟩ := ptOk_iff h
  rw [ptR_yes h]
  exact ⟨by rw [trOk_ptV h1 h2]; simpa using h3, trL_ptV h2⟩
theorem word_no {t : List UInt8} (h : wordB t = true) (b : UInt8) (hb : okB b = false) : b ∉ t := by
  intro hm
  have := List.all_eq_true.1 (wordB_len h).2.2 _ hm
  rw [hb] at this
  cases this
/-- No byte below 33 stands in the notation of a good atom. -/
theorem fmt_noB {k : Int} {t : List UInt8} (h : goodA k t = true) (b : UInt8) (hb : b.toNat < 33) : b ∉ fmtA k t := by
  have nb : ∀ x : UInt8, 33 ≤ x.toNat → b ≠ x := fun x hx e => by subst e; omega
  have n1 := nb 123 (by decide)
  have n2 := nb 125 (by decide)
  have n3 := nb 94 (by decide)
  have n4 := nb 38 (by decide)
  rcases goodA_kind h with ⟨hk, ht⟩ | ⟨rfl, hq | hq | hq⟩ | ⟨rfl, hq | hq | hq⟩ | ⟨rfl | rfl | rfl, hq⟩
  · have hm := word_no ht b (bad_lo hb)
    rcases hk with rfl | rfl | rfl | rfl | rfl <;> simp [fmtA, n1, n2, n3, n4, hm]
  all_goals
    subst hq
    intro hm
    have hx : b = 123 ∨ b = 125 ∨ b = 46 ∨ b = 33 ∨ b = 63 ∨ b = 44 ∨ b = 59 ∨ b = 58 ∨ b = 45 ∨ b = 124 ∨ b = 62 ∨ b = 42 := by
      simp [fmtA] at hm
      rcases hm with hm | hm | hm <;> simp_all
    rcases hx with e | e | e | e | e | e | e | e | e | e | e | e <;> exact nb _ (by decide) e
theorem splits_joinT (b : UInt8) : ∀ ps : List (List UInt8), ps ≠ [] → (∀ p ∈ ps, b ∉ p) → splits b (Lib.join ps [b]) = ps
  | [], h, _ => absurd rfl h
  | [p], _, hp => by
    rw [Lib.join_one]
    exact splits_none b p (hp p (by simp))
  | p :: q :: r, _, hp => by
    have e : Lib.join (p :: q :: r) [b] = p ++ b :: Lib.join (q :: r) [b] := by
      rw [Lib.join_cons, Lib.join_cons]
      simp [Lib.joinTail]
    rw [e, splits_cut b p _ (hp p (by simp)), splits_joinT b (q :: r) (by simp) (fun x hx => hp x (by simp [hx]))]
theorem splits_trL {l : List At} (h0 : l ≠ []) (hg : ∀ a ∈ l, goodT a = true) : splits 32 (trL l) = l.map fmtT := by
  rw [trL]
  refine splits_joinT 32 _ (by simpa using h0) ?_
  intro p hp
  obtain ⟨a, ha, rfl⟩ := List.mem_map.1 hp
  exact fmt_noB (hg a ha) 32 (by decide)
/-- What was written is parsed back. -/
theorem tr_read {l : List At} (h : trOk l = true) : ptOk (trL l) = true ∧ ptR (trL l) = l := by
  obtain ⟨h1, h2, h3, h4⟩ := trOk_iff h
  have h0 : l ≠ [] := by intro e; subst e; simp at h1
  have hs := splits_trL h0 h3
  have ok : ptOk (trL l) = true := by
    refine ptOk_good h4 ?_ ?_
    · rw [hs]
      intro p hp
      obtain ⟨a, ha, rfl⟩ := List.mem_map.1 hp
      exact (atOf_of (h3 a ha)).1
    · rw [hs, List.length_map]; exact h2
  refine ⟨ok, ?_⟩
  rw [ptR_yes ok, ptV, hs, List.map_map]
  conv => rhs; rw [← List.map_id l]
  exact List.map_congr_left fun a ha => (atOf_of (h3 a ha)).2
theorem pt_size {l : List UInt8} : ∀ a ∈ ptR l, a.t.size ≤ 20 := by
  intro a ha
  rcases Bool.eq_false_or_eq_true (ptOk l) with h | h
  · obtain ⟨_, h2, _⟩ := ptOk_iff h
    rw [ptR_yes h] at ha
    obtain ⟨p, hp, rfl⟩ := List.mem_map.1 ha
    have := goodA_len (atOf_fmt (h2 p hp)).1
    rw [bs_size']
    exact this
  · rw [ptR_no h] at ha; cases ha
theorem paT_len (p : List UInt8) : (paT p).length ≤ 20 := by
  rcases Bool.eq_false_or_eq_true (paOk p) with h | h
  · exact goodA_len (paOk_in h).1
  · rw [(pa_no h).2]; simp
theorem atS_take {l : List UInt8} {k : Nat} (h : k < (splits 32 l).length) : ((splits 32 l).take (k + 1)).map atOf = ((splits 32 l).take k).map atOf ++ [atOf (patAt (splits 32 l) k)] := by
  rw [take_pat _ _ h, List.map_append]; rfl
end Go.Proofs.YtnpiljkchjdpfaaDoor
