/- Plain laws on the order of lists. No condition. | Plain laws on dictionaries: validity, the text, what both readers give. No condition. | Words for memory, with no program in sight: rows of rows of the call's own; what a call has changed. No condition. | Dictionaries in memory, with no program in sight: the cells of entries, their outlines. No condition. | A struct that lies in a block of its own, with no program in sight. No condition. | Contracts of the laws' helpers on dictionaries: sz, to, eq. Condition: at most 2^20 values and letters. -/
import Derived.Test.YtnpiljkchjdpfaaDoorOutl3
import Derived.Test.YtnpiljkchjdpfaaDoorPPt
import Derived.Test.YtnpiljkchjdpfaaDoorPFmtO
import Derived.Lib.IndexMore
import Derived.Test.YtnpiljkchjdpfaaDoorMem
import Derived.Test.YtnpiljkchjdpfaaDoorPStr
import Derived.Test.YtnpiljkchjdpfaaDoorIntS
import Derived.Laws.ResultCell
import Derived.Laws.Rows
import Derived.Test.YtnpiljkchjdpfaaDoorStrS
import Derived.Test.YtnpiljkchjdpfaaDoorRows
import Derived.Laws.MakeOwn
import Derived.Deep.QuietTactic
import Derived.BigQuiet
import Derived.Deep.RegionHeld3
import Derived.WalkLawsBesides
import Derived.WalkSpells
import Derived.Outline
import Derived.Lib.Hide
namespace Go.Proofs.YtnpiljkchjdpfaaDoor
open Go.RowKit

theorem cmpL_bd (a b : List Int) : cmpL a b = -1 ∨ cmpL a b = 0 ∨ cmpL a b = 1 := by
  induction a generalizing b with
  | nil => cases b <;> simp [cmpL]
  | cons x a ih =>
    cases b with
    | nil => simp [cmpL]
    | cons y b =>
      rw [cmpL]
      split
      · simp
      · split
        · simp
        · exact ih b
theorem cmpL_neg (a b : List Int) : cmpL b a = -cmpL a b := by
  induction a generalizing b with
  | nil => cases b <;> simp [cmpL]
  | cons x a ih =>
    cases b with
    | nil => simp [cmpL]
    | cons y b =>
      rw [cmpL, cmpL]
      by_cases h1 : x < y
      · have h2 : ¬ y < x := by omega
        simp [h1, h2]
      · by_cases h2 : y < x
        · simp [h1, h2]
        · simp [h1, h2, ih b]
theorem cmpL_zero (a b : List Int) : cmpL a b = 0 ↔ a = b := by
  induction a generalizing b with
  | nil => cases b <;> simp [cmpL]
  | cons x a ih =>
    cases b with
    | nil => simp [cmpL]
    | cons y b =>
      rw [cmpL]
      by_cases h1 : x < y
      · rw [if_pos h1]; simp; intro e; omega
      · rw [if_neg h1]
        by_cases h2 : y < x
        · rw [if_pos h2]; simp; intro e; omega
        · rw [if_neg h2, ih b]
          have : x = y := by omega
          simp [this]
theorem cmpL_trans (a b c : List Int) (h1 : cmpL a b ≤ 0) (h2 : cmpL b c ≤ 0) : cmpL a c ≤ 0 := by
  induction a generalizing b c with
  | nil => cases c <;> simp [cmpL]
  | cons x a ih =>
    cases b with
    | nil => simp [cmpL] at h1
    | cons y b =>
      cases c with
      | nil => simp [cmpL] at h2
      | cons z c =>
        rw [cmpL] at h1 h2 ⊢
        by_cases e1 : x < y
        · by_cases e2 : y < z
          · rw [if_pos (by omega)]; omega
          · rw [if_neg e2] at h2
            by_cases e3 : z < y
            · rw [if_pos e3] at h2; omega
            · rw [if_pos (by omega)]; omega
        · rw [if_neg e1] at h1
          by_cases e4 : y < x
          · rw [if_pos e4] at h1; omega
          · rw [if_neg e4] at h1
            have hxy : x = y := by omega
            subst hxy
            by_cases e2 : x < z
            · rw [if_pos e2]; omega
            · rw [if_neg e2] at h2 ⊢
              by_cases e3 : z < x
              · rw [if_pos e3] at h2; omega
              · rw [if_neg e3] at h2 ⊢
                exact ih b c h1 h2
theorem cmpL_prefix (o p : List Int) (h : startsB o p = true) : cmpL p o ≤ 0 := by
  rw [startsB, Bool.and_eq_true, decide_eq_true_eq, beq_iff_eq] at h
  obtain ⟨h1, h2⟩ := h
  have key : ∀ (p o : List Int), o.take p.length = p → cmpL p o ≤ 0 := fun p => by
    induction p with
    | nil => intro o _; cases o <;> simp [cmpL]
    | cons x p ih =>
      intro o h
      cases o with
      | nil => simp at h
      | cons y o =>
        simp only [List.length_cons, List.take_succ_cons, List.cons.injEq] at h
        obtain ⟨rfl, h⟩ := h
        rw [cmpL, if_neg (by omega), if_neg (by omega)]
        exact ih o h
  exact key p o h2

theorem bothB_comm (a b : List Int) : bothB b a = bothB a b := by simp [bothB, Bool.and_comm]
theorem cmpR_bd (a b : List Int) : cmpR a b = -1 ∨ cmpR a b = 0 ∨ cmpR a b = 1 := by
  unfold cmpR
  split
  · exact cmpL_bd a b
  · simp
theorem cmpR_neg (a b : List Int) : cmpR b a = -cmpR a b := by
  unfold cmpR
  rw [bothB_comm]
  split
  · exact cmpL_neg a b
  · rfl
theorem cmpR_zero (a b : List Int) (h : bothB a b = true) : (cmpR a b == 0) = (a == b) := by
  have := cmpL_zero a b
  rw [cmpR, if_pos h]
  by_cases e : a = b
  · rw [this.2 e]; simp [e]
  · have h1 : cmpL a b ≠ 0 := fun h => e (this.1 h)
    rw [beq_eq_false_iff_ne.2 h1, beq_eq_false_iff_ne.2 e]
theorem cmpR_trans (a b c : List Int) (h0 : bothB a b = true) (g1 : bothB b c = true) (g2 : bothB a c = true) (h1 : cmpR a b ≤ 0) (h2 : cmpR b c ≤ 0) : cmpR a c ≤ 0 := by
  rw [cmpR, if_pos h0] at h1
  rw [cmpR, if_pos g1] at h2
  rw [cmpR, if_pos g2]
  exact cmpL_trans a b c h1 h2
theorem cmpR_prefix (o p : List Int) (h : preB o p = true) : cmpR p o ≤ 0 := by
  rw [preB, Bool.and_eq_true] at h
  rw [cmpR, bothB_comm, if_pos h.1]
  exact cmpL_prefix o p h.2
end Go.Proofs.YtnpiljkchjdpfaaDoor

namespace Go.Proofs.YtnpiljkchjdpfaaDoor
open Go.RowKit
set_option linter.unusedVariables false

/-- An entry's value: its outline, its text. -/
abbrev EV : Type := List Int × ByteArray
def noEV : EV := ([], ⟨#[]⟩)
def evAt (d : List EV) (k : Nat) : EV := d.getD k noEV
theorem evAt_at (d : List EV) (k : Nat) (h : k < d.length) : evAt d k = d[k] := by simp [evAt, h]
theorem evAt_in (d : List EV) (k : Nat) (h : k < d.length) : evAt d k ∈ d := by simp [evAt, h]
theorem evAt_take (d : List EV) (k : Nat) (h : k < d.length) : d.take (k + 1) = d.take k ++ [evAt d k] := by
  rw [List.take_succ_eq_append_getElem h]; simp [evAt, h]
def entB (e : EV) : Bool := outB e.1 && ptOk e.2.data.toList
theorem entB_iff {e : EV} (h : entB e = true) : outB e.1 = true ∧ ptOk e.2.data.toList = true := by rwa [entB, Bool.and_eq_true] at h
/-- Is the entry k all right where it stands? -/
def okAt (d : List EV) (k : Nat) : Bool := entB (evAt d k) && (decide (k = 0) || decide (cmpL (evAt d (k - 1)).1 (evAt d k).1 < 0))
def dictB (d : List EV) : Bool := decide (d.length ≤ 40) && (List.range d.length).all (okAt d)
/-- The entries below k are all right. -/
def okTo (d : List EV) (k : Nat) : Prop := ∀ j, j < k → okAt d j = true
theorem okTo_zero (d : List EV) : okTo d 0 := fun j h => by omega
theorem okTo_succ {d : List EV} {k : Nat} (h : okTo d k) (g : okAt d k = true) : okTo d (k + 1) := fun j hj => by
  by_cases e : j = k
  · subst e; exact g
  · exact h j (by omega)
theorem dictB_bad {d : List EV} {k : Nat} (h : k < d.length) (g : okAt d k = false) : dictB d = false := by
  have : (List.range d.length).all (okAt d) = false := by
    rw [List.all_eq_false]
    exact ⟨k, List.mem_range.2 h, by simp [g]⟩
  rw [dictB, this]; simp
theorem dictB_long {d : List EV} (h : 40 < d.length) : dictB d = false := by
  rw [dictB, show decide (d.length ≤ 40) = false by simp; omega]; rfl
theorem dictB_end {d : List EV} (h : okTo d d.length) : dictB d = decide (d.length ≤ 40) := by
  have : (List.range d.length).all (okAt d) = true := List.all_eq_true.2 fun j hj => h j (List.mem_range.1 hj)
  rw [dictB, this, Bool.and_true]
theorem dictB_iff {d : List EV} (h : dictB d = true) : d.length ≤ 40 ∧ okTo d d.length := by
  rw [dictB, Bool.and_eq_true] at h
  exact ⟨by simpa using h.1, fun j hj => List.all_eq_true.1 h.2 j (List.mem_range.2 hj)⟩
theorem okAt_ent {d : List EV} {k : Nat} (h : okAt d k = true) : entB (evAt d k) = true := by
  rw [okAt, Bool.and_eq_true] at h; exact h.1
theorem dictB_ent {d : List EV} (h : dictB d = true) : ∀ e ∈ d, entB e = true := fun e he => by
  obtain ⟨k, hk, rfl⟩ := List.getElem_of_mem he
  have := okAt_ent ((dictB_iff h).2 k hk)
  rwa [evAt_at d k hk] at this
theorem okAt_zero (d : List EV) : okAt d 0 = entB (evAt d 0) := by rw [okAt]; simp
theorem okAt_pos (d : List EV) (k : Nat) (h : 0 < k) : okAt d k = (entB (evAt d k) && decide (cmpL (evAt d (k - 1)).1 (evAt d k).1 < 0)) := by
  rw [okAt, show decide (k = 0) = false by simp; omega, Bool.false_or]
theorem okAt_noent {d : List EV} {k : Nat} (h : entB (evAt d k) = false) : okAt d k = false := by rw [okAt, h]; rfl

/-! The text. -/
def lineL (e : EV) : List UInt8 := notL e.1 ++ [32] ++ e.2.data.toList
def entL (e : EV) : List UInt8 := lineL e ++ [10]
def dictL (d : List EV) : List UInt8 := (d.map entL).flatten
theorem dictL_cons (e : EV) (d : List EV) : dictL (e :: d) = lineL e ++ 10 :: dictL d := by simp [dictL, entL]
theorem dictL_succ (d : List EV) (k : Nat) (h : k < d.length) : dictL (d.take (k + 1)) = dictL (d.take k) ++ notL (evAt d k).1 ++ [32] ++ (evAt d k).2.data.toList ++ [10] := by
  rw [evAt_take d k h]
  simp [dictL, entL, lineL]
theorem lineL_len {e : EV} (h : entB e = true) : (lineL e).length ≤ 343 := by
  obtain ⟨h1, h2⟩ := entB_iff h
  have h3 := notL_len e.1
  have h4 := outB_len h1
  have h5 := (ptOk_iff h2).1
  simp only [lineL, List.length_append, List.length_cons, List.length_nil]
  omega
theorem dictL_len {d : List EV} (h : ∀ e ∈ d, entB e = true) : (dictL d).length ≤ 344 * d.length := by
  induction d with
  | nil => simp [dictL]
  | cons e d ih =>
    have h1 := lineL_len (h e (by simp))
    have h2 := ih (fun x hx => h x (by simp [hx]))
    rw [dictL_cons]
    simp only [List.length_append, List.length_cons]
    omega
def dfOk (d : List EV) : Bool := dictB d && decide ((dictL d).length ≤ 4000)
def dfR (d : List EV) : List UInt8 := if dfOk d then dictL d else []
theorem dfR_yes {d : List EV} (h : dfOk d = true) : dfR d = dictL d := by rw [dfR, h]; rfl
theorem dfR_no {d : List EV} (h : dfOk d = false) : dfR d = [] := by rw [dfR, h]; rfl
theorem dfOk_no {d : List EV} (h : dictB d = false) : dfOk d = false := by rw [dfOk, h]; rfl
theorem dfR_len (d : List EV) : (dfR d).length ≤ 4000 := by
  rcases Bool.eq_false_or_eq_true (dfOk d) with h | h
  · rw [dfR_yes h]
    rw [dfOk, Bool.and_eq_true] at h
    simpa using h.2
  · rw [dfR_no h]; simp

/-! Bytes that stand in no notation. -/
theorem lab_no (b : UInt8) (hb : b.toNat < 33) (n : Nat) : labs.getD n 0 ≠ b ∨ b = 0 := by
  by_cases h : n < 23
  · left
    have : ∀ n, n < 23 → 33 ≤ (labs.getD n 0).toNat := by decide
    intro e
    have := this n h
    rw [e] at this
    omega
  · have : labs.length = 23 := rfl
    rw [List.getD_eq_getElem?_getD, List.getElem?_eq_none (by omega)]
    by_cases e : b = 0
    · exact Or.inr e
    · exact Or.inl (fun q => e q.symm)
theorem fold_freeB (b : UInt8) (hb : b.toNat < 33) (h0 : b ≠ 0) (l : List Int) : ∀ st : List UInt8 × Bool × Bool, b ∉ st.1 → b ∉ (l.foldl stepS st).1 := by
  induction l with
  | nil => exact fun _ h => h
  | cons k l ih =>
    intro st h
    rw [List.foldl_cons]
    refine ih _ ?_
    have hk : b ≠ lab k := fun e => by
      rcases lab_no b hb k.toNat with q | q
      · exact q e.symm
      · exact h0 q
    have h45 : b ≠ 45 := fun e => by subst e; revert hb; decide
    unfold stepS
    split
    · simp [h, hk, h45]
    · simp [h, hk]
theorem fmtR_freeB (b : UInt8) (hb : b.toNat < 33) (h0 : b ≠ 0) (s : Int) : b ∉ fmtR s := by
  unfold fmtR
  split
  · exact fold_freeB b hb h0 _ _ (by simp)
  · simp
theorem join_freeB (b : UInt8) (c : UInt8) (hc : b ≠ c) : ∀ ps : List (List UInt8), (∀ p ∈ ps, b ∉ p) → b ∉ Lib.join ps [c]
  | [], _ => by simp [Lib.join]
  | [p], h => by rw [Lib.join_one]; exact h p (by simp)
  | p :: q :: r, h => by
    have e : Lib.join (p :: q :: r) [c] = p ++ c :: Lib.join (q :: r) [c] := by simp [Lib.join_cons, Lib.joinTail]
    rw [e]
    have h1 := join_freeB b c hc (q :: r) (fun x hx => h x (by simp [hx]))
    have h2 := h p (by simp)
    simp [h1, h2, hc]
theorem notL_freeB (b : UInt8) (hb : b.toNat < 33) (h0 : b ≠ 0) (l : List Int) : b ∉ notL l := by
  refine join_freeB b 47 (fun e => by subst e; revert hb; decide) _ ?_
  intro p hp
  obtain ⟨x, _, rfl⟩ := List.mem_map.1 hp
  exact fmtR_freeB b hb h0 x
theorem text_free10 {l : List UInt8} (h : ptOk l = true) : (10 : UInt8) ∉ l := by
  obtain ⟨h1, h2, h3⟩ := ptOk_iff h
  have e := join_splits 32 l
  rw [← e]
  refine join_freeB 10 32 (by decide) _ ?_
  intro p hp
  obtain ⟨g1, g2⟩ := paOk_in (h2 p hp)
  rw [← g2]
  exact fmt_noB g1 10 (by decide)
theorem line_free10 {e : EV} (h : entB e = true) : (10 : UInt8) ∉ lineL e := by
  obtain ⟨h1, h2⟩ := entB_iff h
  have g1 := notL_freeB 10 (by decide) (by decide) e.1
  have g2 := text_free10 h2
  simp [lineL, g1, g2]

/-! The two ways to cut. -/
def cutH (b : UInt8) (l : List UInt8) : List UInt8 := l.takeWhile fun x => x != b
def cutT (b : UInt8) (l : List UInt8) : List UInt8 := (l.dropWhile fun x => x != b).drop 1
theorem cutH_of (b : UInt8) (u v : List UInt8) (h : b ∉ u) : cutH b (u ++ b :: v) = u ∧ cutT b (u ++ b :: v) = v := by
  induction u with
  | nil => simp [cutH, cutT]
  | cons x r ih =>
    simp only [List.mem_cons, not_or] at h
    have hx : (x != b) = true := by rw [bne_iff_ne]; exact fun e => h.1 e.symm
    obtain ⟨i1, i2⟩ := ih h.2
    refine ⟨?_, ?_⟩
    · rw [cutH, List.cons_append, List.takeWhile_cons, if_pos hx]
      exact congrArg _ i1
    · rw [cutT, List.cons_append, List.dropWhile_cons, if_pos hx]
      exact i2
theorem cutH_none (b : UInt8) (l : List UInt8) (h : b ∉ l) : cutH b l = l ∧ cutT b l = [] := by
  induction l with
  | nil => exact ⟨rfl, rfl⟩
  | cons x r ih =>
    simp only [List.mem_cons, not_or] at h
    have hx : (x != b) = true := by rw [bne_iff_ne]; exact fun e => h.1 e.symm
    obtain ⟨i1, i2⟩ := ih h.2
    refine ⟨?_, ?_⟩
    · rw [cutH, List.takeWhile_cons, if_pos hx]
      exact congrArg _ i1
    · rw [cutT, List.dropWhile_cons, if_pos hx]
      exact i2
theorem indexB_none (b : UInt8) (l : List UInt8) (h : b ∉ l) : Lib.indexByte l b = -1 := by
  induction l with
  | nil => rfl
  | cons x r ih =>
    simp only [List.mem_cons, not_or] at h
    have hx : (x == b) = false := by rw [beq_eq_false_iff_ne]; exact fun e => h.1 e.symm
    rw [Lib.indexByte, hx, ih h.2]
    rfl
theorem cut_two (b : UInt8) (l : List UInt8) : (Lib.cut l [b]).1 = cutH b l ∧ (Lib.cut l [b]).2.1 = cutT b l := by
  unfold Lib.cut
  rw [Lib.index_one]
  by_cases h : b ∈ l
  · obtain ⟨u, v, rfl, hu⟩ := mem_cut b l h
    obtain ⟨c1, c2⟩ := cutH_of b u v hu
    rw [index_cut b u v hu, if_pos (by omega), c1, c2]
    simp
    try (rw [← List.drop_drop, List.drop_left])
    try rfl
  · obtain ⟨c1, c2⟩ := cutH_none b l h
    rw [indexB_none b l h, if_neg (by omega), c1, c2]
    exact ⟨rfl, rfl⟩
theorem splits_cutH (b : UInt8) (l : List UInt8) : ∃ r, splits b l = cutH b l :: r := by
  by_cases h : b ∈ l
  · obtain ⟨u, v, rfl, hu⟩ := mem_cut b l h
    exact ⟨_, by rw [splits_cut b u v hu, (cutH_of b u v hu).1]⟩
  · exact ⟨[], by rw [splits_none b l h, (cutH_none b l h).1]⟩
theorem cutT_lt (b : UInt8) (l : List UInt8) (h : l ≠ []) : (cutT b l).length < l.length := by
  have h1 : (l.dropWhile fun x => x != b).length ≤ l.length := (List.dropWhile_sublist _).length_le
  have h2 := List.length_pos_iff.2 h
  rw [cutT, List.length_drop]
  omega
theorem cutH_le (b : UInt8) (l : List UInt8) : (cutH b l).length ≤ l.length := (List.takeWhile_sublist _).length_le
theorem cutT_le (b : UInt8) (l : List UInt8) : (cutT b l).length ≤ l.length := by
  have h1 : (l.dropWhile fun x => x != b).length ≤ l.length := (List.dropWhile_sublist _).length_le
  rw [cutT, List.length_drop]
  omega
theorem cutT_drop (b : UInt8) (l : List UInt8) (h : (cutH b l).length ≠ l.length) : cutT b l = l.drop ((cutH b l).length + 1) := by
  by_cases hb : b ∈ l
  · obtain ⟨u, v, rfl, hu⟩ := mem_cut b l hb
    obtain ⟨c1, c2⟩ := cutH_of b u v hu
    rw [c1, c2, ← List.drop_drop, List.drop_left]
    try rfl
  · exact absurd (by rw [(cutH_none b l hb).1]) h

/-! Parsing. -/
/-- The entry of a line. -/
def lineE (l : List UInt8) : EV := (poR (cutH 32 l), bs (cutT 32 l))
/-- The entries of the program's reader. -/
def pdI (s : List UInt8) : List EV :=
  if h : s = [] then [] else lineE (cutH 10 s) :: pdI (cutT 10 s)
termination_by s.length
decreasing_by exact cutT_lt 10 s h
theorem pdI_nil : pdI [] = [] := by rw [pdI]; simp
theorem pdI_cons {s : List UInt8} (h : s ≠ []) : pdI s = lineE (cutH 10 s) :: pdI (cutT 10 s) := by rw [pdI, dif_neg h]
theorem lineE_line {e : EV} (h : entB e = true) : lineE (lineL e) = e ∧ cutH 32 (lineL e) = notL e.1 := by
  obtain ⟨h1, h2⟩ := entB_iff h
  have g1 := notL_freeB 32 (by decide) (by decide) e.1
  have e1 : lineL e = notL e.1 ++ 32 :: e.2.data.toList := by simp [lineL]
  obtain ⟨c1, c2⟩ := cutH_of 32 (notL e.1) e.2.data.toList g1
  rw [← e1] at c1 c2
  refine ⟨?_, c1⟩
  rw [lineE, c1, c2, (read_written h1).2, bs_self]
theorem pdI_dict {d : List EV} (h : ∀ e ∈ d, entB e = true) : pdI (dictL d) = d := by
  induction d with
  | nil => exact pdI_nil
  | cons e d ih =>
    have he := h e (by simp)
    rw [dictL_cons]
    obtain ⟨c1, c2⟩ := cutH_of 10 (lineL e) (dictL d) (line_free10 he)
    rw [pdI_cons (by simp), c1, c2, (lineE_line he).1, ih (fun x hx => h x (by simp [hx]))]
theorem splits_dict {d : List EV} (h : ∀ e ∈ d, entB e = true) : splits 10 (dictL d) = d.map lineL ++ [[]] := by
  induction d with
  | nil => rfl
  | cons e d ih =>
    have he := h e (by simp)
    rw [dictL_cons, splits_cut 10 _ _ (line_free10 he), ih (fun x hx => h x (by simp [hx]))]
    rfl
/-- What parsing gives. -/
def pdOk (s : List UInt8) : Bool := decide (s.length ≤ 4000) && (dictB (pdI s) && decide (dictL (pdI s) = s))
def pdR (s : List UInt8) : List EV := if pdOk s then pdI s else []
theorem pdR_yes {s : List UInt8} (h : pdOk s = true) : pdR s = pdI s := by rw [pdR, h]; rfl
theorem pdR_no {s : List UInt8} (h : pdOk s = false) : pdR s = [] := by rw [pdR, h]; rfl
theorem pdOk_iff {s : List UInt8} (h : pdOk s = true) : s.length ≤ 4000 ∧ dictB (pdI s) = true ∧ dictL (pdI s) = s := by
  rw [pdOk, Bool.and_eq_true, Bool.and_eq_true] at h
  exact ⟨by simpa using h.1, h.2.1, by simpa using h.2.2⟩
theorem pdOk_long {s : List UInt8} (h : 4000 < s.length) : pdOk s = false := by
  rw [pdOk, show decide (s.length ≤ 4000) = false by simp; omega]; rfl
theorem pdOk_bad {s : List UInt8} (h : dictB (pdI s) = false) : pdOk s = false := by rw [pdOk, h]; simp
/-- The program's last check. -/
theorem pdOk_impl {s : List UInt8} (h : s.length ≤ 4000) : pdOk s = (dfOk (pdI s) && decide (dfR (pdI s) = s)) := by
  rw [pdOk, show decide (s.length ≤ 4000) = true by simpa using h, Bool.true_and]
  rcases Bool.eq_false_or_eq_true (dictB (pdI s)) with e | e
  · by_cases h4 : (dictL (pdI s)).length ≤ 4000
    · have : dfOk (pdI s) = true := by rw [dfOk, e]; simpa using h4
      rw [this, dfR_yes this, e]
    · have h5 : dictL (pdI s) ≠ s := fun q => by rw [q] at h4; exact h4 h
      have : dfOk (pdI s) = false := by rw [dfOk, e]; simpa using h4
      rw [this, e]; simp [h5]
  · rw [dfOk_no e, e]; rfl
/-- The reference's entries after k lines. -/
def pdS (s : List UInt8) (k : Nat) : List EV := ((splits 10 s).take k).map lineE
theorem pdOk_lines {s : List UInt8} (h : pdOk s = true) : splits 10 s = (pdI s).map lineL ++ [[]] ∧ (∀ e ∈ pdI s, entB e = true) ∧ (pdI s).length ≤ 40 := by
  obtain ⟨h1, h2, h3⟩ := pdOk_iff h
  have hg := dictB_ent h2
  have := splits_dict hg
  rw [h3] at this
  exact ⟨this, hg, (dictB_iff h2).1⟩
theorem pdOk_len {s : List UInt8} (h : 41 < (splits 10 s).length) : pdOk s = false := by
  rcases Bool.eq_false_or_eq_true (pdOk s) with e | e
  · obtain ⟨h1, h2, h3⟩ := pdOk_lines e
    rw [h1] at h
    simp at h
    omega
  · exact e
theorem pd_line {s : List UInt8} (h : pdOk s = true) {k : Nat} (hk : k + 1 < (splits 10 s).length) : poOk (cutH 32 (patAt (splits 10 s) k)) = true ∧ (cutH 32 (patAt (splits 10 s) k)).length ≠ (patAt (splits 10 s) k).length := by
  obtain ⟨h1, h2, h3⟩ := pdOk_lines h
  rw [h1] at hk ⊢
  simp at hk
  have e : patAt ((pdI s).map lineL ++ [[]]) k = lineL (evAt (pdI s) k) := by
    rw [patAt, List.getD_eq_getElem?_getD, List.getElem?_append_left (by simpa using hk)]
    simp [evAt, hk]
  have he := h2 _ (evAt_in (pdI s) k hk)
  obtain ⟨o1, o2⟩ := entB_iff he
  rw [e, (lineE_line he).2]
  refine ⟨(read_written o1).1, ?_⟩
  simp only [lineL, List.length_append, List.length_cons, List.length_nil]
  omega
theorem pd_badline {s : List UInt8} {k : Nat} (hk : k + 1 < (splits 10 s).length) (h : poOk (cutH 32 (patAt (splits 10 s) k)) = false ∨ (cutH 32 (patAt (splits 10 s) k)).length = (patAt (splits 10 s) k).length) : pdOk s = false := by
  rcases Bool.eq_false_or_eq_true (pdOk s) with e | e
  · obtain ⟨h1, h2⟩ := pd_line e hk
    rcases h with h | h
    · rw [h] at h1; cases h1
    · exact absurd h h2
  · exact e
/-- The reference's last check. -/
theorem pd_spec {s : List UInt8} (h : s.length ≤ 4000) {k : Nat} (hk : k + 1 = (splits 10 s).length ∨ (k = 41 ∧ 41 < (splits 10 s).length)) : pdOk s = (dictB (pdS s k) && decide (dictL (pdS s k) = s)) ∧ (pdOk s = true → pdI s = pdS s k) := by
  rcases Bool.eq_false_or_eq_true (pdOk s) with e | e
  · obtain ⟨h1, h2, h3⟩ := pdOk_lines e
    obtain ⟨_, g2, g3⟩ := pdOk_iff e
    have hk2 : k = (pdI s).length := by
      rw [h1] at hk
      simp at hk
      omega
    have e2 : pdS s k = pdI s := by
      rw [pdS, h1, List.take_append_of_le_length (by simp; omega), List.take_of_length_le (by simp; omega), List.map_map]
      conv => rhs; rw [← List.map_id (pdI s)]
      exact List.map_congr_left fun x hx => (lineE_line (h2 x hx)).1
    rw [e, e2, g2, g3]
    simp
  · refine ⟨?_, fun q => by rw [e] at q; cases q⟩
    rw [e]
    symm
    rcases Bool.eq_false_or_eq_true (dictB (pdS s k)) with q | q
    · by_cases q2 : dictL (pdS s k) = s
      · exfalso
        have hp := pdI_dict (dictB_ent q)
        rw [q2] at hp
        have : pdOk s = true := by rw [pdOk, hp, q, q2]; simp [h]
        rw [e] at this
        cases this
      · rw [q]; simp [q2]
    · rw [q]; rfl
/-- What was parsed is written back, what was written is parsed back. -/
theorem pd_back {d : List EV} (h : dfOk d = true) : pdOk (dictL d) = true ∧ pdR (dictL d) = d := by
  rw [dfOk, Bool.and_eq_true] at h
  have hp := pdI_dict (dictB_ent h.1)
  have h4 : (dictL d).length ≤ 4000 := by simpa using h.2
  have ok : pdOk (dictL d) = true := by rw [pdOk, hp, h.1]; simp [h4]
  exact ⟨ok, by rw [pdR_yes ok, hp]⟩
theorem pd_again {s : List UInt8} (h : pdOk s = true) : dfOk (pdR s) = true ∧ dictL (pdR s) = s := by
  obtain ⟨h1, h2, h3⟩ := pdOk_iff h
  rw [pdR_yes h]
  exact ⟨by rw [dfOk, h2, h3]; simpa using h1, h3⟩
theorem pdI_len : ∀ (n : Nat) (s : List UInt8), s.length ≤ n → (pdI s).length ≤ n
  | 0, s, h => by
    have : s = [] := List.eq_nil_of_length_eq_zero (by omega)
    rw [this, pdI_nil]; simp
  | n + 1, s, h => by
    by_cases e : s = []
    · rw [e, pdI_nil]; simp
    · rw [pdI_cons e, List.length_cons]
      have h1 := cutT_lt 10 s e
      have := pdI_len n (cutT 10 s) (by omega)
      omega
theorem pdR_len (s : List UInt8) : (pdR s).length ≤ 40 := by
  rcases Bool.eq_false_or_eq_true (pdOk s) with e | e
  · rw [pdR_yes e]; exact (pdOk_lines e).2.2
  · rw [pdR_no e]; simp
theorem pdS_len (s : List UInt8) (k : Nat) : (pdS s k).length ≤ k := by rw [pdS, List.length_map, List.length_take]; omega
theorem pdS_succ (s : List UInt8) (k : Nat) (h : k < (splits 10 s).length) : pdS s (k + 1) = pdS s k ++ [lineE (patAt (splits 10 s) k)] := by
  rw [pdS, take_pat _ _ h, List.map_append]; rfl

/-! Longest outline, lookup by text. -/
def longL (d : List EV) : Nat := d.foldl (fun m e => max m e.1.length) 0
theorem longL_succ (d : List EV) (k : Nat) (h : k < d.length) : longL (d.take (k + 1)) = max (longL (d.take k)) (evAt d k).1.length := by
  rw [evAt_take d k h, longL, List.foldl_append]; rfl
theorem longL_le {d : List EV} {n : Nat} (h : ∀ e ∈ d, e.1.length ≤ n) : longL d ≤ n := by
  have key : ∀ (l : List EV) (m : Nat), m ≤ n → (∀ e ∈ l, e.1.length ≤ n) → l.foldl (fun m e => max m e.1.length) m ≤ n := fun l => by
    induction l with
    | nil => exact fun m hm _ => hm
    | cons a l ih =>
      intro m hm hl
      rw [List.foldl_cons]
      exact ih _ (by have := hl a (by simp); omega) (fun e he => hl e (by simp [he]))
  exact key d 0 (Nat.zero_le _) h
def longR (d : List EV) : Nat := if dictB d then longL d else 0
def revL (d : List EV) (t : ByteArray) : List (List Int) := (d.filter fun e => decide (e.2 = t)).map (·.1)
theorem revL_succ (d : List EV) (t : ByteArray) (k : Nat) (h : k < d.length) : revL (d.take (k + 1)) t = if (evAt d k).2 = t then revL (d.take k) t ++ [(evAt d k).1] else revL (d.take k) t := by
  rw [evAt_take d k h]
  by_cases e : (evAt d k).2 = t <;> simp [revL, List.filter_append, e]
theorem revL_len (d : List EV) (t : ByteArray) : (revL d t).length ≤ d.length := by
  rw [revL, List.length_map]; exact List.length_filter_le _ _
def revR (d : List EV) (t : ByteArray) : List (List Int) := if dictB d then revL d t else []
end Go.Proofs.YtnpiljkchjdpfaaDoor

namespace Go.Proofs.YtnpiljkchjdpfaaDoor
open Go.RowKit

/-- Only the blocks F have changed. -/
structure Chg (w w' : World) (F : Nat → Prop) : Prop where
  os : w'.os = w.os
  tape : w'.tape = w.tape
  output : w'.output = w.output
  size : w.heap.size ≤ w'.heap.size
  block : ∀ k, k < w.heap.size → ¬ F k → w'.heap[k]? = w.heap[k]?
theorem Chg.refl (w : World) (F : Nat → Prop) : Chg w w F := ⟨rfl, rfl, rfl, Nat.le_refl _, fun _ _ _ => rfl⟩
theorem Chg.trans {a b c : World} {F : Nat → Prop} (h : Chg a b F) (k : Chg b c F) : Chg a c F :=
  ⟨k.os.trans h.os, k.tape.trans h.tape, k.output.trans h.output, Nat.le_trans h.size k.size, fun i hi hf => (k.block i (Nat.lt_of_lt_of_le hi h.size) hf).trans (h.block i hi hf)⟩
theorem Chg.weaken {a b : World} {F G : Nat → Prop} (h : Chg a b F) (hFG : ∀ k, k < a.heap.size → F k → G k) : Chg a b G := ⟨h.os, h.tape, h.output, h.size, fun k hk hg => h.block k hk fun hf => hg (hFG k hk hf)⟩
theorem Chg.of_below {a b : World} {B : Nat} (h : Below B a b) (hB : a.heap.size ≤ B) (F : Nat → Prop) : Chg a b F := ⟨h.os, h.tape, h.output, h.size, fun k hk _ => h.block k (by omega)⟩
theorem Chg.of_grown {a b : World} {row : Option Nat} {F : Nat → Prop} (h : a.grownBy b row) (hr : ∀ g, row = some g → F g) : Chg a b F := ⟨h.os, h.tape, h.output, h.size, fun k hk hf => h.block k hk fun e => hf (hr k e.symm)⟩
theorem Chg.alloc (w : World) (o : Obj) (F : Nat → Prop) : Chg w (w.alloc o) F := Chg.of_grown (World.grownBy_alloc w o none) (fun g e => by cases e)
theorem Chg.drew {a b : World} {F : Nat → Prop} (h : Chg a b F) (n : Nat) : Chg a (b.drewN n) F := ⟨h.os, h.tape, h.output, h.size, h.block⟩
/-- All that has changed lies from B on. -/
theorem Chg.below {a b : World} {F : Nat → Prop} (h : Chg a b F) {B : Nat} (hF : ∀ k, F k → B ≤ k) (hB : B ≤ a.heap.size) : Below B a b := ⟨h.os, h.tape, h.output, h.size, fun k hk => h.block k (by omega) fun hf => by have := hF k hf; omega⟩
theorem Chg.row {a b : World} {F : Nat → Prop} (h : Chg a b F) {B : Nat} {A : Option Addr} {cs : List Value} (hr : Row a B A cs) (hB : B ≤ a.heap.size) (hF : ∀ k, k < B → ¬ F k) : Row b B A cs :=
  hr.keep fun p hp => World.cell?_of_block (h.block p.block (by omega) (hF _ hp))
theorem Chg.own {a b : World} {F : Nat → Prop} (h : Chg a b F) {base : Nat} {e : TypeId} {size n : Nat} {v : Value} {xs : List Value} (ho : a.ownsRow base e size v n xs) (hF : ∀ g, v.ownBlock = some g → ¬ F g) : b.ownsRow base e size v n xs := by
  refine ⟨ho.1, ?_⟩
  rcases ho.2 with hn | ⟨g, cap, cur, rfl, hb, hg, rest⟩
  · exact .inl hn
  · refine .inr ⟨g, cap, cur, rfl, hb, ?_, rest⟩
    rw [h.block g (Array.getElem?_eq_some_iff.1 hg).1 (hF g rfl)]
    exact hg
theorem Chg.cell {a b : World} {F : Nat → Prop} (h : Chg a b F) {p : Addr} {u : Value} (hc : a.cell? p = some u) (hF : ¬ F p.block) : b.cell? p = some u :=
  (World.cell?_of_block (h.block p.block (World.block_lt_of_cell? a p hc) hF)).trans hc

/-- A row: the slice value, its element's type, the cells of an element, how many, the cells. -/
structure RowD where
  v : Value
  e : TypeId
  size : Nat
  n : Nat
  cs : List Value
def RowD.own (r : RowD) (w : World) (base : Nat) : Prop := w.ownsRow base r.e r.size r.v r.n r.cs
def Apart (a b : RowD) : Prop := ∀ g, a.v.ownBlock = some g → b.v.ownBlock ≠ some g
theorem Apart.symm {a b : RowD} (h : Apart a b) : Apart b a := fun g hb ha => h g ha hb
/-- Rows of the call's own, no two in one block. -/
structure OwnAll (w : World) (base : Nat) (rs : List RowD) : Prop where
  own : ∀ r ∈ rs, r.own w base
  apart : rs.Pairwise Apart
def AllLt (hi : Nat) (rs : List RowD) : Prop := ∀ r ∈ rs, ∀ g, r.v.ownBlock = some g → g < hi
theorem OwnAll.nil (w : World) (base : Nat) : OwnAll w base [] := ⟨by simp, List.Pairwise.nil⟩
theorem OwnAll.lt {w : World} {base : Nat} {rs : List RowD} (h : OwnAll w base rs) : AllLt w.heap.size rs := fun r hr g hg => ((h.own r hr).lt g hg).2
theorem OwnAll.ge {w : World} {base : Nat} {rs : List RowD} (h : OwnAll w base rs) : ∀ r ∈ rs, ∀ g, r.v.ownBlock = some g → base ≤ g := fun r hr g hg => ((h.own r hr).lt g hg).1
theorem AllLt.mono {hi hi' : Nat} {rs : List RowD} (h : AllLt hi rs) (hh : hi ≤ hi') : AllLt hi' rs := fun r hr g hg => Nat.lt_of_lt_of_le (h r hr g hg) hh
theorem OwnAll.chg {w w' : World} {base : Nat} {rs : List RowD} {F : Nat → Prop} (h : OwnAll w base rs) (hc : Chg w w' F) (hF : ∀ r ∈ rs, ∀ g, r.v.ownBlock = some g → ¬ F g) : OwnAll w' base rs :=
  ⟨fun r hr => hc.own (h.own r hr) (hF r hr), h.apart⟩
theorem OwnAll.below {w w' : World} {base B : Nat} {rs : List RowD} (h : OwnAll w base rs) (hb : Below B w w') (hB : w.heap.size ≤ B) : OwnAll w' base rs :=
  h.chg (Chg.of_below hb hB fun _ => False) (fun _ _ _ _ f => f)
theorem OwnAll.drew {w : World} {base : Nat} {rs : List RowD} (h : OwnAll w base rs) (n : Nat) : OwnAll (w.drewN n) base rs := ⟨h.own, h.apart⟩
theorem OwnAll.base_le {w : World} {base base' : Nat} {rs : List RowD} (h : OwnAll w base rs) (hb : base' ≤ base) : OwnAll w base' rs := ⟨fun r hr => own_base (h.own r hr) hb, h.apart⟩
/-- One row is written, or grown into a new block. -/
theorem OwnAll.upd {w w' : World} {base : Nat} {p q : List RowD} {r r' : RowD} (h : OwnAll w base (p ++ r :: q)) (hg : w.grownBy w' r.v.ownBlock) (ho : r'.own w' base) (hv : ∀ g, r'.v.ownBlock = some g → r.v.ownBlock = some g ∨ w.heap.size ≤ g) : OwnAll w' base (p ++ r' :: q) := by
  have hp := List.pairwise_append.1 h.apart
  have hq := List.pairwise_cons.1 hp.2.1
  have hlt := h.lt
  have hne : ∀ x ∈ p ++ q, x.v.ownBlock = none ∨ x.v.ownBlock ≠ r.v.ownBlock := fun x hx => by
    rcases hxb : x.v.ownBlock with _ | g
    · exact Or.inl rfl
    · right
      intro e
      rcases List.mem_append.1 hx with hx | hx
      · exact hp.2.2 x hx r (by simp) g hxb e.symm
      · exact hq.1 x hx g e.symm hxb
  have hnew : ∀ x ∈ p ++ q, Apart x r' := fun x hx g hxb e => by
    have hxlt : g < w.heap.size := hlt x (by rcases List.mem_append.1 hx with hx | hx <;> simp [hx]) g hxb
    rcases hv g e with hv | hv
    · rcases hne x hx with n | n
      · rw [hxb] at n; cases n
      · exact n (hxb.trans hv.symm)
    · omega
  refine ⟨fun x hx => ?_, ?_⟩
  · rcases List.mem_append.1 hx with hx | hx
    · exact (h.own x (by simp [hx])).kept hg (hne x (by simp [hx]))
    · rcases List.mem_cons.1 hx with rfl | hx
      · exact ho
      · exact (h.own x (by simp [hx])).kept hg (hne x (by simp [hx]))
  · refine List.pairwise_append.2 ⟨hp.1, List.pairwise_cons.2 ⟨fun x hx => (hnew x (by simp [hx])).symm, hq.2⟩, fun x hx y hy => ?_⟩
    rcases List.mem_cons.1 hy with rfl | hy
    · exact hnew x (by simp [hx])
    · exact hp.2.2 x hx y (by simp [hy])
/-- A new row behind the others. -/
theorem OwnAll.push {w w' : World} {base B : Nat} {rs : List RowD} {r : RowD} (h : OwnAll w base rs) (hb : Below B w w') (hB : w.heap.size ≤ B) (ho : r.own w' w.heap.size) (hbase : base ≤ w.heap.size) : OwnAll w' base (rs ++ [r]) := by
  have h' := h.below hb hB
  refine ⟨fun x hx => ?_, ?_⟩
  · rcases List.mem_append.1 hx with hx | hx
    · exact h'.own x hx
    · rw [List.mem_singleton.1 hx]
      exact own_base ho hbase
  · refine List.pairwise_append.2 ⟨h.apart, List.pairwise_singleton _ _, fun x hx y hy g hxb e => ?_⟩
    rw [List.mem_singleton.1 hy] at e
    have h1 := h.lt x hx g hxb
    have h2 := (ho.lt g e).1
    omega
/-- A new row in the place of another one, which stays as it is. -/
theorem OwnAll.swap {w w' : World} {base B : Nat} {p q : List RowD} {r r' : RowD} (h : OwnAll w base (p ++ r :: q)) (hb : Below B w w') (hB : w.heap.size ≤ B) (ho : r'.own w' w.heap.size) (hbase : base ≤ w.heap.size) : OwnAll w' base (p ++ r' :: q) :=
  h.upd ⟨hb.os, hb.tape, hb.output, hb.size, fun k hk _ => hb.block k (by omega)⟩ (own_base ho hbase) (fun g hg => Or.inr (ho.lt g hg).1)
theorem OwnAll.sub {w : World} {base : Nat} {rs rs' : List RowD} (h : OwnAll w base rs) (hs : rs'.Sublist rs) : OwnAll w base rs' := ⟨fun r hr => h.own r (hs.subset hr), h.apart.sublist hs⟩
theorem OwnAll.perm {w : World} {base : Nat} {rs rs' : List RowD} (h : OwnAll w base rs) (hs : rs.Perm rs') : OwnAll w base rs' :=
  ⟨fun r hr => h.own r (hs.mem_iff.2 hr), (hs.pairwise_iff (fun h => Apart.symm h)).1 h.apart⟩
end Go.Proofs.YtnpiljkchjdpfaaDoor

namespace Go.Proofs.YtnpiljkchjdpfaaDoor
open Go.RowKit

/-- An entry as it lies: the outline's slice (address, length, capacity), its elements, the text. -/
structure En where
  A : Option Addr
  c : Nat
  o : List Int
  t : ByteArray
def noEn : En := ⟨none, 0, [], ⟨#[]⟩⟩
instance : Inhabited En := ⟨noEn⟩
def En.v (e : En) : EV := (e.o, e.t)
def En.sl (e : En) : Value := .slice e.A e.o.length e.c
def enC (e : En) : List Value := [e.sl, .string e.t]
def ents (l : List En) : List Value := rows enC l
def vals (l : List En) : List EV := l.map En.v
theorem enC_len (e : En) : (enC e).length = 2 := rfl
theorem ents_length (l : List En) : (ents l).length = l.length * 2 := rows_length enC 2 enC_len l
theorem ents_snoc (l : List En) (e : En) : ents (l ++ [e]) = ents l ++ enC e := rows_snoc enC l e
theorem ents_append (l r : List En) : ents (l ++ r) = ents l ++ ents r := rows_append enC l r
theorem vals_len (l : List En) : (vals l).length = l.length := by simp [vals]
theorem vals_snoc (l : List En) (e : En) : vals (l ++ [e]) = vals l ++ [e.v] := by simp [vals]
/-- The element j (kept whole from the walk's simp). -/
def enAt (l : List En) (j : Nat) : En := l.getD j noEn
theorem enAt_at (l : List En) (j : Nat) (h : j < l.length) : enAt l j = l[j] := by simp [enAt, h]
theorem enAt_in (l : List En) (j : Nat) (h : j < l.length) : enAt l j ∈ l := by simp [enAt, h]
theorem enAt_take (l : List En) (j : Nat) (h : j < l.length) : l.take (j + 1) = l.take j ++ [enAt l j] := by
  rw [List.take_succ_eq_append_getElem h]; simp [enAt, h]
theorem evAt_vals (l : List En) (j : Nat) (h : j < l.length) : evAt (vals l) j = (enAt l j).v := by simp [evAt, vals, enAt, h]
theorem valsE_take (l : List En) (k : Nat) : vals (l.take k) = (vals l).take k := by simp [vals]
theorem ents_get (l : List En) (j : Nat) (h : j < l.length) : (ents l)[j * 2]? = some (enAt l j).sl ∧ (ents l)[j * 2 + 1]? = some (.string (enAt l j).t) := by
  have ha : l[j]? = some (enAt l j) := by rw [enAt_at l j h]; exact List.getElem?_eq_getElem h
  refine ⟨?_, ?_⟩
  · have := rows_get enC 2 enC_len l j 0 _ ha (by omega)
    rw [Nat.add_zero] at this
    exact this
  · exact rows_get enC 2 enC_len l j 1 _ ha (by omega)
/-- The entries l lie at the address A, in blocks below B. -/
structure DRow (w : World) (B : Nat) (A : Option Addr) (l : List En) : Prop where
  row : Row w B A (ents l)
  outs : ∀ e ∈ l, Row w B e.A (ints e.o)
section
variable {w w' : World} {B B' : Nat} {A : Option Addr} {l : List En}
theorem DRow.mono (h : DRow w B A l) (hB : B ≤ B') : DRow w B' A l := ⟨h.row.mono hB, fun e he => (h.outs e he).mono hB⟩
theorem DRow.below (h : DRow w B A l) (hb : Below B w w') : DRow w' B A l := ⟨h.row.below hb, fun e he => (h.outs e he).below hb⟩
theorem DRow.below_le (h : DRow w B A l) (hb : Below B' w w') (hB : B ≤ B') : DRow w' B A l := ⟨h.row.below_le hb hB, fun e he => (h.outs e he).below_le hb hB⟩
theorem DRow.chg {F : Nat → Prop} (h : DRow w B A l) (hc : Chg w w' F) (hB : B ≤ w.heap.size) (hF : ∀ k, k < B → ¬ F k) : DRow w' B A l := ⟨hc.row h.row hB hF, fun e he => hc.row (h.outs e he) hB hF⟩
theorem DRow.at (h : DRow w B A l) {j : Nat} (hj : j < l.length) :
    ∃ b off, A = some ⟨b, off, none⟩ ∧ b < B ∧ w.cell? ⟨b, off + j * 2, none⟩ = some (.slice (enAt l j).A (enAt l j).o.length (enAt l j).c) ∧ w.cell? ⟨b, off + j * 2 + 1, none⟩ = some (.string (enAt l j).t) ∧ Row w B (enAt l j).A (ints (enAt l j).o) := by
  obtain ⟨b, off, e, hb, hc⟩ := h.row (fun e => by have := ents_length l; rw [e] at this; simp at this; omega)
  obtain ⟨e1, e2⟩ := ents_get l j hj
  exact ⟨b, off, e, hb, hc _ _ e1, by rw [Nat.add_assoc]; exact hc _ _ e2, h.outs _ (enAt_in l j hj)⟩
theorem DRow.take (h : DRow w B A l) (k : Nat) : DRow w B A (l.take k) := ⟨by
  have := h.row.take (k * 2)
  have e : (ents l).take (k * 2) = ents (l.take k) := by
    by_cases hk : k ≤ l.length
    · rw [← List.take_append_drop k l, ents_append, List.take_append_of_le_length (by rw [ents_length, List.length_take]; rw [Nat.min_eq_left hk]; omega), List.take_of_length_le (by rw [ents_length, List.length_take]; rw [Nat.min_eq_left hk]; omega)]
      simp
    · rw [List.take_of_length_le (by rw [ents_length]; omega), List.take_of_length_le (by omega)]
  rwa [e] at this, fun e he => h.outs e (List.mem_of_mem_take he)⟩
theorem DRow.drop (h : DRow w B A l) (k : Nat) : DRow w B (A.map fun a => a.add (k * 2)) (l.drop k) := ⟨by
  have := h.row.drop (k * 2)
  have e : (ents l).drop (k * 2) = ents (l.drop k) := by
    by_cases hk : k ≤ l.length
    · rw [← List.take_append_drop k l, ents_append, List.drop_append_of_le_length (by rw [ents_length, List.length_take]; rw [Nat.min_eq_left hk]; omega), List.drop_of_length_le (by rw [ents_length, List.length_take]; rw [Nat.min_eq_left hk]; omega)]
      simp
    · rw [List.drop_of_length_le (by rw [ents_length]; omega), List.drop_of_length_le (by omega)]
      rfl
  rwa [e] at this, fun e he => h.outs e (List.mem_of_mem_drop he)⟩
end
/-- The sizes of outlines and texts together. -/
def szD (l : List En) : Nat := (l.map fun e => e.o.length + e.t.size).sum
theorem szD_take (l : List En) (k : Nat) (h : k < l.length) : szD (l.take (k + 1)) = szD (l.take k) + ((enAt l k).o.length + (enAt l k).t.size) := by
  rw [enAt_take l k h]; simp [szD]
theorem szD_take_le (l : List En) (k : Nat) : szD (l.take k) ≤ szD l := by
  have : szD l = szD (l.take k) + szD (l.drop k) := by
    rw [szD, szD, szD, ← List.sum_append, ← List.map_append, List.take_append_drop]
  omega
theorem szD_mem (l : List En) (e : En) (h : e ∈ l) : e.o.length + e.t.size ≤ szD l := by
  induction l with
  | nil => cases h
  | cons x r ih =>
    rcases List.mem_cons.1 h with rfl | h
    · simp [szD]
    · have := ih h
      simp only [szD, List.map_cons, List.sum_cons] at this ⊢
      omega
/-- The rows of a dictionary of the call's own: the entries, then the outlines. -/
def oRow (ti : TypeId) (e : En) : RowD := ⟨e.sl, ti, 1, e.o.length, ints e.o⟩
def eRow (te : TypeId) (v : Value) (l : List En) : RowD := ⟨v, te, 2, l.length, ents l⟩
def dRows (te ti : TypeId) (v : Value) (l : List En) : List RowD := eRow te v l :: l.map (oRow ti)
theorem DRow.of_own {w : World} {base : Nat} {te ti : TypeId} {A : Option Addr} {n c : Nat} {l : List En} (hn : l.length = n) (h : OwnAll w base (dRows te ti (.slice A n c) l)) : DRow w w.heap.size A l := by
  subst hn
  refine ⟨Row.of_own (h.own (eRow te (.slice A l.length c) l) (by simp [dRows])), fun e he => ?_⟩
  have := h.own (oRow ti e) (by simp [dRows]; exact Or.inr ⟨e, he, rfl⟩)
  exact Row.of_own (A := e.A) (c := e.c) this

/-! One entry of a dictionary of the call's own. -/
theorem sl_block (e : En) (A : Option Addr) (n c : Nat) : (Value.slice A n c).ownBlock = (Value.slice A e.o.length e.c).ownBlock := by cases A <;> rfl
theorem own_noEn (w : World) (base : Nat) (ti : TypeId) : (oRow ti noEn).own w base := ⟨by simp [oRow, noEn, ints], Or.inl ⟨rfl, rfl⟩⟩
theorem dRows_mid (te ti : TypeId) (v : Value) (p : List En) (e : En) (q : List En) : dRows te ti v (p ++ e :: q) = (eRow te v (p ++ e :: q) :: p.map (oRow ti)) ++ oRow ti e :: q.map (oRow ti) := by simp [dRows]
theorem ents_out (p q : List En) (e : En) (o' : List Int) (h : o'.length = e.o.length) : ents (p ++ { e with o := o' } :: q) = ents (p ++ e :: q) := by
  have : enC { e with o := o' } = enC e := by simp [enC, En.sl, h]
  rw [ents, ents, rows_append, rows_append]
  show _ ++ (enC _ ++ _) = _ ++ (enC _ ++ _)
  rw [this]
/-- Its outline is written. -/
theorem dOwn_out {w w' : World} {base : Nat} {te ti : TypeId} {v : Value} {p q : List En} {e : En} {o' : List Int} (h : OwnAll w base (dRows te ti v (p ++ e :: q))) (hl : o'.length = e.o.length) (hg : w.grownBy w' e.sl.ownBlock) (ho : w'.ownsRow base ti 1 e.sl o'.length (ints o')) : OwnAll w' base (dRows te ti v (p ++ { e with o := o' } :: q)) := by
  rw [dRows_mid] at h ⊢
  have hs : (oRow ti { e with o := o' }).v = e.sl := by simp [oRow, En.sl, hl]
  have h2 := h.upd (r' := oRow ti { e with o := o' }) hg (by show World.ownsRow _ _ _ _ _ _ _; rw [hs]; exact ho) (fun g e2 => Or.inl (by rw [hs] at e2; exact e2))
  have : eRow te v (p ++ { e with o := o' } :: q) = eRow te v (p ++ e :: q) := by simp only [eRow, ents_out p q e o' hl]; simp
  rw [this]
  exact h2
theorem ents_set (p q : List En) (e e' : En) (j : Nat) (hj : p.length = j) : ((ents (p ++ e :: q)).set (j * 2) e'.sl).set (j * 2 + 1) (.string e'.t) = ents (p ++ e' :: q) := by
  have hl : (ents p).length = j * 2 := by rw [ents_length, hj]
  rw [ents_append, ents_append, app_set0 _ _ _ _ hl, app_set _ _ _ 1 _ hl]
  rfl
theorem ents_set1 (p q : List En) (e : En) (t' : ByteArray) (j : Nat) (hj : p.length = j) : (ents (p ++ e :: q)).set (j * 2 + 1) (.string t') = ents (p ++ { e with t := t' } :: q) := by
  have hl : (ents p).length = j * 2 := by rw [ents_length, hj]
  rw [ents_append, ents_append, app_set _ _ _ 1 _ hl]
  rfl
/-- Its text is written. -/
theorem dOwn_text {w : World} {base : Nat} {te ti : TypeId} {g n c : Nat} {p q : List En} {e : En} {j : Nat} (h : OwnAll w base (dRows te ti (.slice (some ⟨g, 0, none⟩) n c) (p ++ e :: q))) (hn : (p ++ e :: q).length = n) (hj : p.length = j) (t' : ByteArray) :
    OwnAll (w.setCell ⟨g, j * 2 + 1, none⟩ (.string t')) base (dRows te ti (.slice (some ⟨g, 0, none⟩) n c) (p ++ { e with t := t' } :: q)) ∧ w.grownBy (w.setCell ⟨g, j * 2 + 1, none⟩ (.string t')) (some g) := by
  subst hn
  obtain ⟨o1, g1⟩ := (h.own (eRow te (.slice (some ⟨g, 0, none⟩) (p ++ e :: q).length c) (p ++ e :: q)) (by simp [dRows])).stored (j * 2 + 1) (.string t')
  refine ⟨?_, g1⟩
  have h' : OwnAll w base ([] ++ eRow te (.slice (some ⟨g, 0, none⟩) (p ++ e :: q).length c) (p ++ e :: q) :: (p ++ e :: q).map (oRow ti)) := h
  have hm : (p ++ { e with t := t' } :: q).map (oRow ti) = (p ++ e :: q).map (oRow ti) := by simp [oRow, En.sl]
  have hl : (p ++ { e with t := t' } :: q).length = (p ++ e :: q).length := by simp
  have := h'.upd (r' := eRow te (.slice (some ⟨g, 0, none⟩) (p ++ e :: q).length c) (p ++ { e with t := t' } :: q)) g1 (by
    show World.ownsRow _ _ _ _ _ _ _
    simp only [eRow] at o1 ⊢
    rw [ents_set1 p q e t' j hj] at o1
    rw [hl]
    exact o1) (fun k hk => Or.inl hk)
  rw [dRows, hm]
  exact this
/-- A new entry in the place of an old one: its outline is new, its cells are stored. -/
theorem dOwn_put {w w2 : World} {base B : Nat} {te ti : TypeId} {g n c : Nat} {p q : List En} {e e' : En} {j : Nat} (h : OwnAll w base (dRows te ti (.slice (some ⟨g, 0, none⟩) n c) (p ++ e :: q))) (hn : (p ++ e :: q).length = n) (hj : p.length = j)
    (hb : Below B w w2) (hB : w.heap.size ≤ B) (hbase : base ≤ w.heap.size) (ho : w2.ownsRow w.heap.size ti 1 e'.sl e'.o.length (ints e'.o)) :
    OwnAll ((w2.setCell ⟨g, j * 2, none⟩ e'.sl).setCell ⟨g, j * 2 + 1, none⟩ (.string e'.t)) base (dRows te ti (.slice (some ⟨g, 0, none⟩) n c) (p ++ e' :: q)) ∧ w2.grownBy ((w2.setCell ⟨g, j * 2, none⟩ e'.sl).setCell ⟨g, j * 2 + 1, none⟩ (.string e'.t)) (some g) := by
  subst hn
  rw [dRows_mid] at h
  have h2 := h.swap (r' := oRow ti e') hb hB ho hbase
  have h3 : OwnAll w2 base ([] ++ eRow te (.slice (some ⟨g, 0, none⟩) (p ++ e :: q).length c) (p ++ e :: q) :: (p.map (oRow ti) ++ oRow ti e' :: q.map (oRow ti))) := h2
  obtain ⟨o1, g1⟩ := World.ownsRow.stored (h3.own (eRow te (.slice (some ⟨g, 0, none⟩) (p ++ e :: q).length c) (p ++ e :: q)) (List.mem_cons_self ..)) (j * 2) e'.sl
  obtain ⟨o2, g2⟩ := World.ownsRow.stored o1 (j * 2 + 1) (.string e'.t)
  have g3 := g1.trans g2
  refine ⟨?_, g3⟩
  have hl : (p ++ e' :: q).length = (p ++ e :: q).length := by simp
  have := h3.upd (r' := eRow te (.slice (some ⟨g, 0, none⟩) (p ++ e :: q).length c) (p ++ e' :: q)) g3 (by
    show World.ownsRow _ _ _ _ _ _ _
    simp only [eRow] at o2 ⊢
    rw [ents_set p q e e' j hj] at o2
    rw [hl]
    exact o2) (fun k hk => Or.inl hk)
  rw [dRows_mid]
  exact this
/-! The marks. -/
def markE : Int → List En → List En
  | _, [] => []
  | k, e :: l => { e with o := marks k e.o.length, t := mkT (k + (e.o.length : Int)) } :: markE (k + (e.o.length : Int) + 1) l
def cntE (l : List En) : Int := (l.map fun e => (e.o.length : Int) + 1).sum
theorem markE_append (a b : List En) : ∀ k, markE k (a ++ b) = markE k a ++ markE (k + cntE a) b := by
  induction a with
  | nil => intro k; simp [markE, cntE]
  | cons e a ih =>
    intro k
    rw [List.cons_append, markE, markE, ih, List.cons_append]
    congr 2
    simp only [cntE, List.map_cons, List.sum_cons]
    congr 1
    omega
theorem cntE_nn (l : List En) : 0 ≤ cntE l := by
  induction l with
  | nil => simp [cntE]
  | cons e l ih => simp only [cntE, List.map_cons, List.sum_cons] at ih ⊢; omega
theorem cntE_append (a b : List En) : cntE (a ++ b) = cntE a + cntE b := by simp [cntE]
theorem cntE_take_le (l : List En) (k : Nat) : cntE (l.take k) ≤ cntE l := by
  have h := cntE_append (l.take k) (l.drop k)
  rw [List.take_append_drop] at h
  have := cntE_nn (l.drop k)
  omega
theorem cntE_succ (l : List En) (k : Nat) (h : k < l.length) : cntE (l.take (k + 1)) = cntE (l.take k) + ((enAt l k).o.length : Int) + 1 := by
  rw [enAt_take l k h, cntE_append]
  simp [cntE]
  omega
theorem cntE_le (l : List En) : cntE l ≤ (szD l : Int) + (l.length : Int) := by
  induction l with
  | nil => simp [cntE, szD]
  | cons e l ih => simp only [cntE, szD, List.map_cons, List.sum_cons, List.length_cons] at ih ⊢; omega
theorem markE_len (l : List En) : ∀ k, (markE k l).length = l.length := by
  induction l with
  | nil => intro k; rfl
  | cons e l ih => intro k; rw [markE, List.length_cons, List.length_cons, ih]
theorem markE_succ (k : Int) (l : List En) (j : Nat) (h : j < l.length) : markE k (l.take (j + 1)) = markE k (l.take j) ++ [{ enAt l j with o := marks (k + cntE (l.take j)) (enAt l j).o.length, t := mkT (k + cntE (l.take j) + ((enAt l j).o.length : Int)) }] := by
  rw [enAt_take l j h, markE_append]
  rfl
theorem drop_en (l : List En) (k : Nat) (h : k < l.length) : l.drop k = enAt l k :: l.drop (k + 1) := by
  rw [List.drop_eq_getElem_cons h]; simp [enAt, h]
theorem enAt_mid (p q : List En) (e : En) (j : Nat) (hj : p.length = j) : enAt (p ++ e :: q) j = e := by
  rw [enAt, List.getD_eq_getElem?_getD, List.getElem?_append_right (by omega)]
  simp [hj]
theorem dLt_mid {hi : Nat} {te ti : TypeId} {v : Value} {p q : List En} {e e' : En} (h : AllLt hi (dRows te ti v (p ++ e :: q))) (he : ∀ g, e'.sl.ownBlock = some g → g < hi) : AllLt hi (dRows te ti v (p ++ e' :: q)) := fun r hr => by
  rcases List.mem_cons.1 hr with rfl | hr
  · exact h (eRow te v (p ++ e :: q)) (List.mem_cons_self ..)
  · obtain ⟨x, hx, rfl⟩ := List.mem_map.1 hr
    rcases List.mem_append.1 hx with hx | hx
    · exact h (oRow ti x) (List.mem_cons_of_mem _ (List.mem_map.2 ⟨x, by simp [hx], rfl⟩))
    · rcases List.mem_cons.1 hx with rfl | hx
      · exact he
      · exact h (oRow ti x) (List.mem_cons_of_mem _ (List.mem_map.2 ⟨x, by simp [hx], rfl⟩))
theorem dOwn_e {w : World} {base : Nat} {te ti : TypeId} {A : Option Addr} {n c : Nat} {l : List En} (h : OwnAll w base (dRows te ti (.slice A n c) l)) (hn : l.length = n) : w.ownsRow base te 2 (.slice A n c) n (ents l) := by
  have := h.own (eRow te (.slice A n c) l) (List.mem_cons_self ..)
  subst hn
  exact this
theorem dOwn_o {w : World} {base : Nat} {te ti : TypeId} {v : Value} {l : List En} (h : OwnAll w base (dRows te ti v l)) {e : En} (he : e ∈ l) : w.ownsRow base ti 1 (.slice e.A e.o.length e.c) e.o.length (ints e.o) :=
  h.own (oRow ti e) (List.mem_cons_of_mem _ (List.mem_map.2 ⟨e, he, rfl⟩))
theorem dLt_o {hi : Nat} {te ti : TypeId} {v : Value} {l : List En} (h : AllLt hi (dRows te ti v l)) {e : En} (he : e ∈ l) : ∀ g, (Value.slice e.A e.o.length e.c).ownBlock = some g → g < hi :=
  h (oRow ti e) (List.mem_cons_of_mem _ (List.mem_map.2 ⟨e, he, rfl⟩))
theorem vals_at {l l' : List En} (h : vals l = vals l') (k : Nat) (hk : k < l.length) : k < l'.length ∧ (enAt l k).o = (enAt l' k).o ∧ (enAt l k).t = (enAt l' k).t := by
  have hl : l.length = l'.length := by have := congrArg List.length h; rwa [vals_len, vals_len] at this
  have e := congrArg (fun d => evAt d k) h
  simp only [evAt_vals l k hk, evAt_vals l' k (by omega)] at e
  exact ⟨by omega, congrArg Prod.fst e, congrArg Prod.snd e⟩
theorem sizes_smallE {l : List En} {n : Nat} (h : n + szD l ≤ 1048576) : ∀ e ∈ l, e.o.length ≤ 1048576 ∧ e.t.size ≤ 1048576 := fun e he => by
  have := szD_mem l e he
  omega
theorem vals_small {l l' : List En} (hv : vals l' = vals l) {N : Nat} (h : ∀ e ∈ l, e.o.length ≤ N ∧ e.t.size ≤ N) : ∀ e ∈ l', e.o.length ≤ N ∧ e.t.size ≤ N := fun e he => by
  have hm : e.v ∈ vals l' := List.mem_map.2 ⟨e, he, rfl⟩
  rw [hv] at hm
  obtain ⟨x, hx, e2⟩ := List.mem_map.1 hm
  have h1 := congrArg Prod.fst e2
  have h2 := congrArg Prod.snd e2
  simp only [En.v] at h1 h2
  have := h x hx
  rw [h1, h2] at this
  exact this
end Go.Proofs.YtnpiljkchjdpfaaDoor

namespace Go.Proofs.YtnpiljkchjdpfaaDoor
open Go.RowKit

/-- A struct in a block of its own, as a row of one element. -/
def ownC (T : TypeId) (w : World) (B H : Nat) (cs : List Value) : Prop := w.ownsRow B T cs.length (.slice (some ⟨H, 0, none⟩) 1 1) 1 cs
section
variable {T : TypeId} {w w' : World} {B H : Nat} {cs : List Value}
theorem ownC_new (T : TypeId) (w : World) (cs : Array Value) : ownC T (w.alloc (.cells cs T)) w.heap.size w.heap.size cs.toList :=
  World.ownsRow_lit w cs 1 (Nat.le_refl _) (by unfold maxLen; omega) (by simp)
theorem ownC.heap (h : ownC T w B H cs) : w.heap[H]? = some (.cells cs.toArray T (0, 0)) := by
  rcases h.2 with ⟨h', _⟩ | ⟨g, cap, cur, h', _, hg, _, _, hs, ht⟩
  · simp at h'
  · simp only [Value.slice.injEq, Option.some.injEq, Addr.mk.injEq, and_true, true_and] at h'
    obtain ⟨rfl, rfl⟩ := h'
    have e : cur = cs.toArray := by
      apply Array.toList_inj.1
      rw [← ht, List.take_of_length_le (by rw [Array.length_toList, hs]; exact Nat.le_refl _)]
    rw [hg, e]
theorem ownC.below {C : Nat} (h : ownC T w B H cs) (hb : Below C w w') (hC : w.heap.size ≤ C) : ownC T w' B H cs := own_below h hb hC
theorem ownC.alloc (h : ownC T w B H cs) (o : Obj) : ownC T (w.alloc o) B H cs := World.ownsRow.alloc h o
theorem ownC.grown {row : Option Nat} (h : ownC T w B H cs) (hg : w.grownBy w' row) (hne : row ≠ some H) : ownC T w' B H cs := World.ownsRow.kept h hg (Or.inr fun e => hne e.symm)
theorem ownC.drewN (h : ownC T w B H cs) (n : Nat) : ownC T (w.drewN n) B H cs := h
theorem ownC.set (h : ownC T w B H cs) (j : Nat) (x : Value) : ownC T (w.setCell ⟨H, j, none⟩ x) B H (cs.set j x) ∧ w.grownBy (w.setCell ⟨H, j, none⟩ x) (some H) := by
  obtain ⟨h1, h2⟩ := World.ownsRow.stored h j x
  refine ⟨?_, h2⟩
  show World.ownsRow _ _ _ _ _ _ _
  rw [List.length_set]
  exact h1
theorem ownC.cell (h : ownC T w B H cs) {j : Nat} {u : Value} (hj : cs[j]? = some u) : w.cell? ⟨H, j, none⟩ = some u := by
  have hlt := (List.getElem?_eq_some_iff.1 hj).1
  rw [World.ownsRow.cellAt h j (by omega), hj]
theorem ownC.frozen (h : ownC T w B H cs) (j : Nat) : w.frozen? ⟨H, j, none⟩ = false := World.ownsRow.frozenAt h j
theorem ownC.lt (h : ownC T w B H cs) : B ≤ H ∧ H < w.heap.size := World.ownsRow.lt h H rfl
end
theorem ownC.base {T : TypeId} {w : World} {B B' H : Nat} {cs : List Value} (h : ownC T w B H cs) (hB : B' ≤ B) : ownC T w B' H cs := own_base h hB
/-- Two blocks, three blocks laid one behind the other. -/
theorem two_new (T1 T2 : TypeId) (w : World) (X Y : Array Value) : ownC T1 ((w.alloc (.cells X T1)).alloc (.cells Y T2)) w.heap.size w.heap.size X.toList ∧ ownC T2 ((w.alloc (.cells X T1)).alloc (.cells Y T2)) w.heap.size (w.heap.size + 1) Y.toList ∧ Below w.heap.size w ((w.alloc (.cells X T1)).alloc (.cells Y T2)) := by
  have h1 := ownC_new T1 w X
  have h2 := ownC_new T2 (w.alloc (.cells X T1)) Y
  have e : (w.alloc (.cells X T1)).heap.size = w.heap.size + 1 := by simp
  rw [e] at h2
  have b1 := (Below.refl w.heap.size w).alloc (Nat.le_refl _) (.cells X T1)
  exact ⟨h1.alloc _, h2.base (Nat.le_succ _), b1.alloc b1.size _⟩
theorem three_new (T1 T2 T3 : TypeId) (w : World) (X Y Z : Array Value) : ownC T1 (((w.alloc (.cells X T1)).alloc (.cells Y T2)).alloc (.cells Z T3)) w.heap.size w.heap.size X.toList ∧ ownC T2 (((w.alloc (.cells X T1)).alloc (.cells Y T2)).alloc (.cells Z T3)) w.heap.size (w.heap.size + 1) Y.toList ∧
    ownC T3 (((w.alloc (.cells X T1)).alloc (.cells Y T2)).alloc (.cells Z T3)) w.heap.size (w.heap.size + 1 + 1) Z.toList ∧ Below w.heap.size w (((w.alloc (.cells X T1)).alloc (.cells Y T2)).alloc (.cells Z T3)) := by
  obtain ⟨h1, h2, b2⟩ := two_new T1 T2 w X Y
  have h3 := ownC_new T3 ((w.alloc (.cells X T1)).alloc (.cells Y T2)) Z
  have e : ((w.alloc (.cells X T1)).alloc (.cells Y T2)).heap.size = w.heap.size + 1 + 1 := by simp
  rw [e] at h3
  exact ⟨h1.alloc _, h2.alloc _, h3.base (by omega), b2.alloc b2.size _⟩
theorem results_row_tmp {P : Program} {fn : Func} {p u : Tmp} {ty : TypeId} (h : fn.results = #[.cell p ty, .tmp u]) (tmps : Array Value) (w : World) (g : Nat) (t : TypeId) (cs : Array Value) (fr : Nat × Nat) (d : TypeDesc)
    (hp : tmps.getD p undef = .pointer (some ⟨g, 0, none⟩)) (hg : w.heap[g]? = some (.cells cs t fr))
    (hu : P.underlying ty = some d) (hd : (match d with | .struct _ | .array _ _ => true | _ => false) = true) (hi : (P.info? ty).map (·.size) = some cs.size) :
    (results fn tmps).run P w = .ok (.tuple #[.agg cs, tmps.getD u undef]) w := by
  rw [results_cell_tmp h, hp]
  simp [asAddr, run_loadVar_row w g t ty cs fr d hg hu hd hi, Result.andThen]
/-- The end of a function with one struct. -/
theorem endC {P : Program} {fn : Func} {T : TypeId} {d : TypeDesc} (hr : fn.results = #[.cell 2 T]) (Q : Ending → World → Prop) (w' : World) (a : Act) (B H : Nat) (cs : List Value) (ha : a.tmps.getD 2 undef = .pointer (some ⟨H, 0, none⟩)) (hdf : a.defers = [])
    (hc : ownC T w' B H cs) (hu : P.underlying T = some d) (hd : (match d with | .struct _ | .array _ _ => true | _ => false) = true) (hi : (P.info? T).map (·.size) = some cs.length) (hQ : Q (.returned (.agg cs.toArray)) w') : bodyPost P fn Q .ret a w' :=
  bodyPost_ret (results_cell_row hr _ _ H T cs.toArray (0, 0) _ ha hc.heap hu hd (by simpa using hi)) hdf hQ
/-- The end of a function with a struct and a bool. -/
theorem endCb {P : Program} {fn : Func} {T : TypeId} {d : TypeDesc} {p u : Tmp} (hr : fn.results = #[.cell p T, .tmp u]) (Q : Ending → World → Prop) (w' : World) (a : Act) (B H : Nat) (cs : List Value) (v : Value) (ha : a.tmps.getD p undef = .pointer (some ⟨H, 0, none⟩)) (hv : a.tmps.getD u undef = v) (hdf : a.defers = [])
    (hc : ownC T w' B H cs) (hu : P.underlying T = some d) (hd : (match d with | .struct _ | .array _ _ => true | _ => false) = true) (hi : (P.info? T).map (·.size) = some cs.length) (hQ : Q (.returned (.tuple #[.agg cs.toArray, v])) w') : bodyPost P fn Q .ret a w' := by
  refine bodyPost_ret (results_row_tmp hr _ _ H T cs.toArray (0, 0) _ ha hc.heap hu hd (by simpa using hi)) hdf ?_
  rw [hv]
  exact hQ
end Go.Proofs.YtnpiljkchjdpfaaDoor

namespace Go.Proofs.YtnpiljkchjdpfaaDoor
open Go.RowKit

theorem entT : ElemT Tryd.prog 36 27 (.agg #[.slice none 0 0, .string ⟨#[]⟩]) 2 40 := ⟨Tryd.underlying36, by kernel_rfl, rfl, by decide⟩
theorem szIntSL_any (A : Option Addr) (n c : Nat) (left : Int) (w : World) (h0 : 0 ≤ left) (h1 : left ≤ 1048576) (hm : n ≤ maxLen) : Calls Tryd.prog 34 #[.slice A n c, .int .i64 left] w fun e w' => e = .returned (.int .i64 (if (n : Int) ≤ left then left - (n : Int) else -1)) ∧ w = w' := by
  unfold maxLen at hm
  by_cases h : (n : Int) ≤ left
  · rw [if_pos h]
    go_enter Tryd.func34, Tryd.ntmps34
    go_wp2
    go_ret
    exact ⟨rfl, rfl⟩
  · rw [if_neg h]
    go_enter Tryd.func34, Tryd.ntmps34
    go_wp2
    go_ret
    exact ⟨rfl, rfl⟩
set_option maxHeartbeats 1000000 in
theorem szEntryL_any (A : Option Addr) (n c : Nat) (t : ByteArray) (left : Int) (w : World) (h0 : 0 ≤ left) (h1 : left ≤ 1048576) (hm : n ≤ maxLen) (ht : t.size ≤ maxLen) : Calls Tryd.prog 9 #[.agg #[.slice A n c, .string t], .int .i64 left] w fun e w' => e = .returned (.int .i64 (if (n : Int) + (t.size : Int) ≤ left then left - (n : Int) - (t.size : Int) else -1)) ∧ Below w.heap.size w w' := by
  have o0 := ownC_new 24 w #[.slice A n c, .string t]
  have b0 := (Below.refl w.heap.size w).alloc (Nat.le_refl _) (.cells #[.slice A n c, .string t] 24)
  have hz := Lib.hid (szIntSL_any A n c left (w.alloc (.cells #[.slice A n c, .string t] 24)) h0 h1 hm)
  unfold maxLen at hm ht
  by_cases h2 : (n : Int) ≤ left
  · rw [if_pos h2] at hz
    by_cases h3 : (n : Int) + (t.size : Int) ≤ left
    · rw [if_pos h3]
      go_enter Tryd.func9, Tryd.ntmps9
      go_wp2_with fail
      refine hz.out.mono ?_
      rintro e w' ⟨rfl, rfl⟩
      go_wp2
      go_ret
      exact ⟨rfl, b0⟩
    · rw [if_neg h3]
      go_enter Tryd.func9, Tryd.ntmps9
      go_wp2_with fail
      refine hz.out.mono ?_
      rintro e w' ⟨rfl, rfl⟩
      go_wp2
      go_ret
      exact ⟨rfl, b0⟩
  · rw [if_neg h2] at hz
    rw [if_neg (by omega)]
    go_enter Tryd.func9, Tryd.ntmps9
    go_wp2_with fail
    refine hz.out.mono ?_
    rintro e w' ⟨rfl, rfl⟩
    go_wp2
    go_ret
    exact ⟨rfl, b0⟩
set_option maxHeartbeats 1000000 in
theorem toEntry_any (A : Option Addr) (n c : Nat) (o : List Int) (t : ByteArray) (w : World) (hn : o.length = n) (hle : n ≤ 1048576) (hr : Row w w.heap.size A (ints o)) :
    Calls Tryd.prog 11 #[.agg #[.slice A n c, .string t]] w fun e w' => ∃ A' c', e = .returned (.agg #[.slice A' n c', .string t]) ∧ w'.ownsRow w.heap.size 3 1 (.slice A' n c') n (ints o) ∧ Below w.heap.size w w' := by
  obtain ⟨o1, o2, o3, b3⟩ := three_new 24 27 27 w #[.slice A n c, .string t] #[.slice none 0 0, .string ⟨#[]⟩] #[.slice none 0 0, .string ⟨#[]⟩]
  have hT := Lib.hid (toIntS_any A n c o _ hn hle ((hr.below b3).mono b3.size))
  have s3 := b3.size
  go_enter Tryd.func11, Tryd.ntmps11
  go_wp2_with fail
  refine hT.out.mono ?_
  rintro e w4 ⟨rfl, ho4, hb4⟩
  generalize hA : (((w.alloc (.cells #[.slice A n c, .string t] 24)).alloc (.cells #[.slice none 0 0, .string ⟨#[]⟩] 27)).alloc (.cells #[.slice none 0 0, .string ⟨#[]⟩] 27)) = w3 at *
  clear hT hA
  have b4 := b3.trans (hb4.mono b3.size)
  have o1 := o1.below hb4 (Nat.le_refl _)
  have o2 := o2.below hb4 (Nat.le_refl _)
  have hl3 := o3.lt
  have o3 := o3.below hb4 (Nat.le_refl _)
  have f30 := o3.frozen 0
  have c30 := o3.cell (j := 0) rfl
  obtain ⟨p3, g5⟩ := o3.set 0 (.slice (some ⟨w3.heap.size, 0, none⟩) n n)
  have o15 := o1.grown g5 (by simp <;> omega)
  have o25 := o2.grown g5 (by simp <;> omega)
  have c11 := o15.cell (j := 1) rfl
  have f31 := p3.frozen 1
  have c31 := p3.cell (j := 1) rfl
  obtain ⟨q3, g6⟩ := p3.set 1 (.string t)
  have o26 := o25.grown g6 (by simp <;> omega)
  have d30 := q3.cell (j := 0) rfl
  have d31 := q3.cell (j := 1) rfl
  have e20 := o26.cell (j := 0) rfl
  have e21 := o26.cell (j := 1) rfl
  have f20 := o26.frozen 0
  have f21 := o26.frozen 1
  obtain ⟨p2, g7⟩ := o26.set 0 (.slice (some ⟨w3.heap.size, 0, none⟩) n n)
  obtain ⟨q2, g8⟩ := p2.set 1 (.string t)
  have E := Lib.hid q2
  have bE := Lib.hid ((((b4.grown g5 b4.size (fun k e => by injection e with e; omega)).grown g6 (by simpa using b4.size) (fun k e => by injection e with e; omega)).grown g7 (by simpa using b4.size) (fun k e => by injection e with e; omega)).grown g8 (by simpa using b4.size) (fun k e => by injection e with e; omega))
  have hne : (Value.slice (some ⟨w3.heap.size, 0, none⟩) n n).ownBlock = some w3.heap.size := rfl
  have hoE := Lib.hid ((((ho4.kept g5 (Or.inr (by rw [hne]; simp <;> omega))).kept g6 (Or.inr (by rw [hne]; simp <;> omega))).kept g7 (Or.inr (by rw [hne]; simp <;> omega))).kept g8 (Or.inr (by rw [hne]; simp <;> omega)))
  clear p2 q2 p3 q3 g5 g6 g7 g8 o1 o2 o3 o15 o25 o26 hne
  go_wp2
  exact endC rfl _ _ _ w.heap.size (w.heap.size + 1) _ rfl rfl E.out Tryd.underlying27 rfl (by kernel_rfl) ⟨_, _, rfl, own_base hoE.out s3, bE.out⟩
theorem madeE (n : Nat) : (madeCells #[.slice none 0 0, .string ⟨#[]⟩] (n * 2)).toList = ents (List.replicate n noEn) :=
  made_rows enC 2 (fun _ => rfl) _ noEn rfl n
theorem dOwn_made (w : World) (n : Nat) (hn : n ≤ 1099511627776) : OwnAll (w.alloc (.cells (madeCells #[.slice none 0 0, .string ⟨#[]⟩] (n * 2)) 27)) w.heap.size (dRows 27 3 (.slice (some ⟨w.heap.size, 0, none⟩) n n) (List.replicate n noEn)) := by
  have h := World.ownsRow_lit (base := w.heap.size) (e := 27) (size := 2) w (madeCells #[.slice none 0 0, .string ⟨#[]⟩] (n * 2)) n (Nat.le_refl _) (by unfold maxLen; omega) (by rw [size_madeCells])
  rw [madeE] at h
  have hm : ∀ r ∈ (List.replicate n noEn).map (oRow 3), r = oRow 3 noEn := fun r hr => by
    obtain ⟨e, he, rfl⟩ := List.mem_map.1 hr
    rw [List.eq_of_mem_replicate he]
  refine ⟨fun r hr => ?_, ?_⟩
  · rcases List.mem_cons.1 hr with rfl | hr
    · show World.ownsRow _ _ _ _ _ _ _
      simp only [eRow, List.length_replicate]
      exact h
    · rw [hm r hr]
      exact own_noEn _ _ _
  · refine List.pairwise_cons.2 ⟨fun r hr g _ e => ?_, ?_⟩
    · rw [hm r hr] at e; cases e
    · refine List.pairwise_of_forall_mem_list fun a ha b hb g e => ?_
      rw [hm a ha] at e; cases e
theorem rep_succ (n k : Nat) (h : k < n) : List.replicate (n - k) noEn = noEn :: List.replicate (n - (k + 1)) noEn := by
  rw [show n - k = (n - (k + 1)) + 1 by omega, List.replicate_succ]

set_option maxHeartbeats 1000000 in
theorem toEntryS_any (A : Option Addr) (n c : Nat) (l : List En) (w : World) (hn : l.length = n) (hle : n ≤ 1048576) (hs : ∀ e ∈ l, e.o.length ≤ 1048576) (hr : DRow w w.heap.size A l) :
    Calls Tryd.prog 42 #[.slice A n c] w fun e w' => ∃ l' : List En, e = .returned (.slice (some ⟨w.heap.size, 0, none⟩) n n) ∧ vals l' = vals l ∧ OwnAll w' w.heap.size (dRows 27 3 (.slice (some ⟨w.heap.size, 0, none⟩) n n) l') ∧ Below w.heap.size w w' := by
  have hmk := fun W => run_make_len (P := Tryd.prog) entT n (by omega) (by decide) W
  go_enter Tryd.func42, Tryd.ntmps42
  go_wp2
  go_loopw [4] (fun i wr => ∃ k : Nat, k ≤ n ∧ i = .int .i64 k ∧ (∃ l' : List En, l'.length = k ∧ vals l' = vals (l.take k) ∧ OwnAll wr w.heap.size (dRows 27 3 (.slice (some ⟨w.heap.size, 0, none⟩) n n) (l' ++ List.replicate (n - k) noEn))) ∧ Below w.heap.size w wr) (fun i _ => n - (intOf i).toNat)
  case atStart => exact ⟨0, by omega, rfl, ⟨[], rfl, rfl, dOwn_made w n (by omega)⟩, (Below.refl _ _).alloc (Nat.le_refl _) _⟩
  case round =>
    obtain ⟨k, hk, rfl, ⟨l', hl', hv, hown⟩, hbel⟩ := hrel
    have hsz := hbel.size
    by_cases hlt : k < n
    · obtain ⟨b, off, rfl, hb, hc1, hc2, hro⟩ := (hr.below hbel).at (j := k) (by omega)
      have hin := enAt_in l k (by omega)
      have hln := hs _ hin
      have hvn := Lib.hid (show vals (l.take (k + 1)) = vals (l.take k) ++ [(enAt l k).v] by rw [enAt_take l k (by omega), vals_snoc])
      have hT := Lib.hid (toEntry_any (enAt l k).A (enAt l k).o.length (enAt l k).c (enAt l k).o (enAt l k).t wr rfl hln (hro.mono hsz))
      rw [rep_succ n k hlt] at hown
      have hL : (l' ++ noEn :: List.replicate (n - (k + 1)) noEn).length = n := by simp; omega
      have hown := Lib.hid hown
      have hL := Lib.hid hL
      clear hro hr hin
      go_wp2_with fail
      refine hT.out.mono ?_
      rintro e w2 ⟨A', c', rfl, ho2, hb2⟩
      have ho := hown.out.below hb2 (Nat.le_refl _)
      have hrow := ho.own (eRow 27 (.slice (some ⟨w.heap.size, 0, none⟩) n n) (l' ++ noEn :: List.replicate (n - (k + 1)) noEn)) (List.mem_cons_self ..)
      have hrow2 : w2.ownsRow w.heap.size 27 2 (.slice (some ⟨w.heap.size, 0, none⟩) n n) n (ents (l' ++ noEn :: List.replicate (n - (k + 1)) noEn)) := by
        have : (l' ++ noEn :: List.replicate (n - (k + 1)) noEn).length = n := hL.out
        simp only [RowD.own, eRow, this] at hrow
        exact hrow
      have hfr0 := hrow2.frozenAt (k * 2)
      have hfr1 := hrow2.frozenAt (k * 2 + 1)
      obtain ⟨u0, hg0⟩ : ∃ u, w2.cell? ⟨w.heap.size, k * 2, none⟩ = some u := ⟨_, (hrow2.cellAt (k * 2) (by omega)).trans (List.getElem?_eq_getElem (by have := hrow2.1; omega))⟩
      obtain ⟨u1, hg1⟩ : ∃ u, w2.cell? ⟨w.heap.size, k * 2 + 1, none⟩ = some u := ⟨_, (hrow2.cellAt (k * 2 + 1) (by omega)).trans (List.getElem?_eq_getElem (by have := hrow2.1; omega))⟩
      obtain ⟨oE, gE⟩ := dOwn_put (e' := ⟨A', c', (enAt l k).o, (enAt l k).t⟩) (j := k) hown.out hL.out hl' hb2 (Nat.le_refl _) hsz ho2
      have oE := Lib.hid oE
      have gE := Lib.hid gE
      have b2 := hbel.trans (hb2.mono hsz)
      have s2 := b2.size
      clear ho hrow hrow2 ho2 hc1 hc2 hT
      go_wp2
      go_roundw
      case rel =>
        refine ⟨k + 1, by omega, by go_num, ⟨l' ++ [⟨A', c', (enAt l k).o, (enAt l k).t⟩], by simp [hl'], by rw [vals_snoc, hv, hvn.out]; rfl, ?_⟩, b2.grown gE.out s2 (fun q e => by injection e with e; omega)⟩
        rw [List.append_assoc]
        exact oE.out
      case measure => simp [intOf]; omega
    · obtain rfl : k = n := by omega
      have hall : l.take k = l := List.take_of_length_le (by omega)
      rw [Nat.sub_self, List.replicate_zero, List.append_nil] at hown
      rw [hall] at hv
      go_wp2
      go_ret
      exact ⟨l', rfl, hv, hown, hbel⟩

set_option maxHeartbeats 1000000 in
theorem szEntryS_any (A : Option Addr) (n c : Nat) (l : List En) (w : World) (hn : l.length = n) (hm : n ≤ maxLen) (hs : ∀ e ∈ l, e.o.length ≤ maxLen ∧ e.t.size ≤ maxLen) (hr : DRow w w.heap.size A l) :
    Calls Tryd.prog 40 #[.slice A n c, .int .i64 1048576] w fun e w' => e = .returned (.int .i64 (if n + szD l ≤ 1048576 then 1048576 - (n : Int) - (szD l : Int) else -1)) ∧ Below w.heap.size w w' := by
  unfold maxLen at hm
  by_cases h : n ≤ 1048576
  · have hd : decide (1048576 - (n : Int) < 0) = false := by simp; omega
    go_enter Tryd.func40, Tryd.ntmps40
    go_wp2
    go_loopw [1, 5] (fun left i wr => ∃ k : Nat, k ≤ n ∧ i = .int .i64 k ∧ left = .int .i64 (1048576 - (n : Int) - (szD (l.take k) : Int)) ∧ n + szD (l.take k) ≤ 1048576 ∧ Below w.heap.size w wr) (fun _ i _ => n - (intOf i).toNat)
    case atStart => exact ⟨0, by omega, rfl, by simp [szD], by simpa [szD] using h, Below.refl _ _⟩
    case round =>
      obtain ⟨k, hk, rfl, rfl, hb, hbel⟩ := hrel
      have hsz := hbel.size
      by_cases hlt : k < n
      · obtain ⟨b, off, rfl, hbb, hc1, hc2, _⟩ := (hr.below hbel).at (j := k) (by omega)
        obtain ⟨hz1, hz2⟩ := hs (enAt l k) (enAt_in l k (by omega))
        have ht := Lib.hid (szD_take l k (by omega))
        have hle := Lib.hid (szD_take_le l (k + 1))
        have hcon := Lib.hid (szEntryL_any (enAt l k).A (enAt l k).o.length (enAt l k).c (enAt l k).t (1048576 - (n : Int) - (szD (l.take k) : Int)) wr (by omega) (by omega) hz1 hz2)
        by_cases hq : n + szD (l.take k) + ((enAt l k).o.length + (enAt l k).t.size) ≤ 1048576
        · rw [if_pos (by omega)] at hcon
          go_wp2_with fail
          refine hcon.out.mono ?_
          rintro e w2 ⟨rfl, hb2⟩
          go_wp2
          go_roundw
          case rel => exact ⟨k + 1, by omega, by go_num, by rw [ht.out]; go_num, by rw [ht.out]; omega, hbel.trans (hb2.mono hsz)⟩
          case measure => simp [intOf]; omega
        · have hf := Lib.hid (show ¬ n + szD l ≤ 1048576 by have := hle.out; rw [ht.out] at this; omega)
          rw [if_neg (by omega)] at hcon
          go_wp2_with fail
          refine hcon.out.mono ?_
          rintro e w2 ⟨rfl, hb2⟩
          go_wp2
          go_ret
          exact ⟨ret_int (by first | rfl | rw [if_neg hf.out]), hbel.trans (hb2.mono hsz)⟩
      · obtain rfl : k = n := by omega
        have e : l.take k = l := List.take_of_length_le (by omega)
        rw [e] at hb ⊢
        have hf := Lib.hid hb
        go_wp2
        go_ret
        exact ⟨ret_int (by first | rfl | rw [if_pos hf.out]), hbel⟩
  · have hf := Lib.hid (show ¬ n + szD l ≤ 1048576 by omega)
    go_enter Tryd.func40, Tryd.ntmps40
    go_wp2
    go_ret
    exact ⟨ret_int (by first | rfl | rw [if_neg hf.out]), Below.refl _ _⟩
theorem szDict_any (A : Option Addr) (n c : Nat) (l : List En) (w : World) (hn : l.length = n) (hm : n ≤ maxLen) (hs : ∀ e ∈ l, e.o.length ≤ maxLen ∧ e.t.size ≤ maxLen) (hr : DRow w w.heap.size A l) :
    Calls Tryd.prog 14 #[.agg #[.slice A n c], .int .i64 1048576] w fun e w' => e = .returned (.int .i64 (if n + szD l ≤ 1048576 then 1048576 - (n : Int) - (szD l : Int) else -1)) ∧ Below w.heap.size w w' := by
  have b0 := (Below.refl w.heap.size w).alloc (Nat.le_refl _) (.cells #[.slice A n c] 33)
  have hz := Lib.hid (szEntryS_any A n c l (w.alloc (.cells #[.slice A n c] 33)) hn hm hs ((hr.below b0).mono b0.size))
  by_cases h : n + szD l ≤ 1048576
  · rw [if_pos h] at hz ⊢
    have h1 : (0 : Int) ≤ 1048576 - (n : Int) - (szD l : Int) := by omega
    generalize 1048576 - (n : Int) - (szD l : Int) = r at hz h1
    go_enter Tryd.func14, Tryd.ntmps14
    go_wp2_with fail
    refine hz.out.mono ?_
    rintro e w' ⟨rfl, hb⟩
    go_wp2
    go_ret
    exact ⟨rfl, b0.trans (hb.mono b0.size)⟩
  · rw [if_neg h] at hz ⊢
    go_enter Tryd.func14, Tryd.ntmps14
    go_wp2_with fail
    refine hz.out.mono ?_
    rintro e w' ⟨rfl, hb⟩
    go_wp2
    go_ret
    exact ⟨rfl, b0.trans (hb.mono b0.size)⟩
set_option maxHeartbeats 1000000 in
theorem toDict_any (A : Option Addr) (n c : Nat) (l : List En) (w : World) (hn : l.length = n) (hle : n ≤ 1048576) (hs : ∀ e ∈ l, e.o.length ≤ 1048576) (hr : DRow w w.heap.size A l) :
    Calls Tryd.prog 16 #[.agg #[.slice A n c]] w fun e w' => ∃ A' c', ∃ l' : List En, e = .returned (.agg #[.slice A' n c']) ∧ vals l' = vals l ∧ n ≤ c' ∧ OwnAll w' w.heap.size (dRows 27 3 (.slice A' n c') l') ∧ Below w.heap.size w w' := by
  obtain ⟨o1, o2, o3, b3⟩ := three_new 33 38 38 w #[.slice A n c] #[.slice none 0 0] #[.slice none 0 0]
  have hT := Lib.hid (toEntryS_any A n c l _ hn hle hs ((hr.below b3).mono b3.size))
  have s3 := b3.size
  go_enter Tryd.func16, Tryd.ntmps16
  go_wp2_with fail
  refine hT.out.mono ?_
  rintro e w4 ⟨l', rfl, hv, ho4, hb4⟩
  generalize hA : (((w.alloc (.cells #[.slice A n c] 33)).alloc (.cells #[.slice none 0 0] 38)).alloc (.cells #[.slice none 0 0] 38)) = w3 at *
  clear hT hA
  have b4 := b3.trans (hb4.mono b3.size)
  have o2 := o2.below hb4 (Nat.le_refl _)
  have hl3 := o3.lt
  have o3 := o3.below hb4 (Nat.le_refl _)
  have f30 := o3.frozen 0
  have c30 := o3.cell (j := 0) rfl
  obtain ⟨p3, g5⟩ := o3.set 0 (.slice (some ⟨w3.heap.size, 0, none⟩) n n)
  have o25 := o2.grown g5 (by simp <;> omega)
  have d30 := p3.cell (j := 0) rfl
  have e20 := o25.cell (j := 0) rfl
  have f20 := o25.frozen 0
  obtain ⟨p2, g7⟩ := o25.set 0 (.slice (some ⟨w3.heap.size, 0, none⟩) n n)
  have E := Lib.hid p2
  have bE := Lib.hid ((b4.grown g5 b4.size (fun k e => by injection e with e; omega)).grown g7 (by simpa using b4.size) (fun k e => by injection e with e; omega))
  have hge := ho4.ge
  have hoE := Lib.hid ((ho4.chg (Chg.of_grown g5 (F := fun g => g < w3.heap.size) (fun g e => by injection e with e; show g < _; omega)) (fun r hr g hg f => by have := hge r hr g hg; have : g < w3.heap.size := f; omega)).chg (Chg.of_grown g7 (F := fun g => g < w3.heap.size) (fun g e => by injection e with e; show g < _; omega)) (fun r hr g hg f => by have := hge r hr g hg; have : g < w3.heap.size := f; omega))
  clear p2 p3 g5 g7 o1 o2 o3 o25 hge
  have hv := Lib.hid hv
  go_wp2
  exact endC rfl _ _ _ w.heap.size (w.heap.size + 1) _ rfl rfl E.out Tryd.underlying38 rfl (by kernel_rfl) ⟨_, _, l', rfl, hv.out, Nat.le_refl _, hoE.out.base_le s3, bE.out⟩

set_option maxHeartbeats 1000000 in
theorem eqEntry_same (A A' : Option Addr) (n c c' : Nat) (o : List Int) (t : ByteArray) (w : World) (hn : o.length = n) (hle : n ≤ 1048576) (B : Nat) (hB : B ≤ w.heap.size) (hr : Row w B A (ints o)) (hr' : Row w B A' (ints o)) :
    Calls Tryd.prog 13 #[.agg #[.slice A n c, .string t], .agg #[.slice A' n c', .string t]] w fun e w' => e = .returned (.bool true) ∧ Below w.heap.size w w' := by
  obtain ⟨o1, o2, b2⟩ := two_new 27 27 w #[.slice A n c, .string t] #[.slice A' n c', .string t]
  have hI := Lib.hid (eqIntS_same A A' n c c' o _ hn hle B (hr.below_le b2 hB) (hr'.below_le b2 hB))
  have hsm := seq_same t
  go_enter Tryd.func13, Tryd.ntmps13
  go_wp2_with fail
  refine hI.out.mono ?_
  rintro e w3 ⟨rfl, hb3⟩
  have c11 := (o1.below hb3 (Nat.le_refl _)).cell (j := 1) rfl
  have c21 := (o2.below hb3 (Nat.le_refl _)).cell (j := 1) rfl
  have b3 := b2.trans (hb3.mono b2.size)
  clear o1 o2
  go_wp2
  go_ret
  exact ⟨rfl, b3⟩
set_option maxHeartbeats 2000000 in
theorem eqEntryS_same (A A' : Option Addr) (n c c' : Nat) (l l' : List En) (w : World) (hn : l.length = n) (hv : vals l = vals l') (hle : n ≤ 1048576) (hs : ∀ e ∈ l, e.o.length ≤ 1048576) (B : Nat) (hB : B ≤ w.heap.size) (hr : DRow w B A l) (hr' : DRow w B A' l') :
    Calls Tryd.prog 44 #[.slice A n c, .slice A' n c'] w fun e w' => e = .returned (.bool true) ∧ Below w.heap.size w w' := by
  have hv := Lib.hid hv
  go_enter Tryd.func44, Tryd.ntmps44
  go_wp2
  go_loopw [5] (fun i wr => ∃ k : Nat, k ≤ n ∧ i = .int .i64 k ∧ Below w.heap.size w wr) (fun i _ => n - (intOf i).toNat)
  case atStart => exact ⟨0, by omega, rfl, Below.refl _ _⟩
  case round =>
    obtain ⟨k, hk, rfl, hbel⟩ := hrel
    by_cases hlt : k < n
    · obtain ⟨hk', e1, e2⟩ := vals_at hv.out k (by omega)
      obtain ⟨b, off, rfl, hb, hc1, hc2, hro⟩ := (hr.below_le hbel hB).at (j := k) (by omega)
      obtain ⟨b', off', rfl, hb', hd1, hd2, hro'⟩ := (hr'.below_le hbel hB).at (j := k) hk'
      have hin := hs _ (enAt_in l k (by omega))
      have hs := hbel.size
      rw [← e1] at hro' hd1
      rw [← e2] at hd2
      have hE := Lib.hid (fun (W : World) (hW : Below wr.heap.size wr W) => eqEntry_same (enAt l k).A (enAt l' k).A (enAt l k).o.length (enAt l k).c (enAt l' k).c (enAt l k).o (enAt l k).t W rfl hin B (by have := hW.size; omega) (hro.below_le hW (by omega)) (hro'.below_le hW (by omega)))
      clear hro hro' e1 e2 hk'
      generalize (enAt l k).A = P1 at hc1 hE
      generalize (enAt l' k).A = P2 at hd1 hE
      generalize (enAt l k).c = q1 at hc1 hE
      generalize (enAt l' k).c = q2 at hd1 hE
      generalize (enAt l k).o.length = ln at hc1 hd1 hE
      generalize (enAt l k).t = tx at hc2 hd2 hE
      have h1 : (0 : Int) ≤ (k : Int) := by omega
      have h2 : (k : Int) < (n : Int) := by omega
      have hbs : b < wr.heap.size := by omega
      have hbs' : b' < wr.heap.size := by omega
      clear hr hr'
      go_wp2
      go_region_held3 (fun w' => w'.cell? ⟨b, off + k * 2, none⟩ = some (.slice P1 ln q1) ∧ w'.cell? ⟨b, off + k * 2 + 1, none⟩ = some (.string tx) ∧ w'.cell? ⟨b', off' + k * 2, none⟩ = some (.slice P2 ln q2) ∧ w'.cell? ⟨b', off' + k * 2 + 1, none⟩ = some (.string tx)) (go_keep)
        (first
          | (go_at_call 13; refine (hE.out _ (by first | exact Below.refl _ _ | exact (Below.refl _ _).drew)).mono ?_; rintro e w2 ⟨rfl, hb2⟩; have k1 := (bcell hb2 b (off + k * 2) hbs).trans hc1; have k2 := (bcell hb2 b (off + k * 2 + 1) hbs).trans hc2; have k4 := (bcell hb2 b' (off' + k * 2) hbs').trans hd1; have k5 := (bcell hb2 b' (off' + k * 2 + 1) hbs').trans hd2))
      clear k1 k2 k4 k5
      go_wp2
      go_roundw
      case rel => exact ⟨k + 1, by omega, by go_num, hbel.drew.trans (hb2.mono hs)⟩
      case measure => simp [intOf]; omega
    · obtain rfl : k = n := by omega
      go_wp2
      go_ret
      exact ⟨rfl, hbel⟩
theorem eqDict_same (A A' : Option Addr) (n c c' : Nat) (l l' : List En) (w : World) (hn : l.length = n) (hv : vals l = vals l') (hle : n ≤ 1048576) (hs : ∀ e ∈ l, e.o.length ≤ 1048576) (B : Nat) (hB : B ≤ w.heap.size) (hr : DRow w B A l) (hr' : DRow w B A' l') :
    Calls Tryd.prog 18 #[.agg #[.slice A n c], .agg #[.slice A' n c']] w fun e w' => e = .returned (.bool true) ∧ Below w.heap.size w w' := by
  obtain ⟨o1, o2, b2⟩ := two_new 38 38 w #[.slice A n c] #[.slice A' n c']
  have hI := Lib.hid (eqEntryS_same A A' n c c' l l' _ hn hv hle hs B (Nat.le_trans hB b2.size) (hr.below_le b2 hB) (hr'.below_le b2 hB))
  clear hv
  go_enter Tryd.func18, Tryd.ntmps18
  go_wp2_with fail
  refine hI.out.mono ?_
  rintro e w3 ⟨rfl, hb3⟩
  go_wp2
  go_ret
  exact ⟨rfl, b2.trans (hb3.mono b2.size)⟩
end Go.Proofs.YtnpiljkchjdpfaaDoor
