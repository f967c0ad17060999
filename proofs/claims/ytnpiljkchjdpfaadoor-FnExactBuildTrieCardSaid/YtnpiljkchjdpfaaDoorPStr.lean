/- Plain laws on joining and splitting texts, with no program in sight. No condition. -/
import Derived.Test.YtnpiljkchjdpfaaDoorPSplit
import Derived.Test.YtnpiljkchjdpfaaDoorBits
import Derived.Lib.Join
namespace Go.Proofs.YtnpiljkchjdpfaaDoor
open Go.RowKit

def lst (ss : List ByteArray) : List (List UInt8) := ss.map (·.data.toList)
def sizes (ss : List ByteArray) : Nat := (ss.map (·.size)).sum
theorem sizes_snoc (ss : List ByteArray) (s : ByteArray) : sizes (ss ++ [s]) = sizes ss + s.size := by simp [sizes]
theorem sizes_take (ss : List ByteArray) (k : Nat) (h : k < ss.length) : sizes (ss.take (k + 1)) = sizes (ss.take k) + (ss[k]).size := by
  rw [List.take_succ_eq_append_getElem h, sizes_snoc]
theorem sizes_take_le (ss : List ByteArray) (k : Nat) : sizes (ss.take k) ≤ sizes ss := by
  have h : sizes ss = sizes (ss.take k) + sizes (ss.drop k) := by
    have e := List.take_append_drop k ss
    have h2 : sizes (ss.take k ++ ss.drop k) = sizes (ss.take k) + sizes (ss.drop k) := by unfold sizes; rw [List.map_append, List.sum_append]
    rwa [e] at h2
  omega
theorem lst_snoc (ss : List ByteArray) (s : ByteArray) : lst (ss ++ [s]) = lst ss ++ [s.data.toList] := by simp [lst]
theorem lst_len (ss : List ByteArray) : (lst ss).length = ss.length := by simp [lst]
theorem joinS_snoc (xs : List (List UInt8)) (y sep : List UInt8) (h : xs ≠ []) : Lib.join (xs ++ [y]) sep = Lib.join xs sep ++ sep ++ y := by
  cases xs with
  | nil => exact absurd rfl h
  | cons x r =>
    rw [List.cons_append, Lib.join_cons, Lib.join_cons]
    simp [Lib.joinTail, List.append_assoc]
theorem rev_ind {α : Type} {P : List α → Prop} (h0 : P []) (h1 : ∀ l a, P l → P (l ++ [a])) (l : List α) : P l := by
  have h : ∀ r : List α, P r.reverse := fun r => by
    induction r with
    | nil => exact h0
    | cons a r ih => rw [List.reverse_cons]; exact h1 _ _ ih
  have := h l.reverse
  rwa [List.reverse_reverse] at this
theorem join_size (b : UInt8) (ss : List ByteArray) : ss ≠ [] → (Lib.join (lst ss) [b]).length = sizes ss + (ss.length - 1) := by
  refine rev_ind (P := fun ss => ss ≠ [] → (Lib.join (lst ss) [b]).length = sizes ss + (ss.length - 1)) (fun h => absurd rfl h) ?_ ss
  intro ss s ih _
  rw [lst_snoc, sizes_snoc]
  by_cases h : ss = []
  · subst h
    simp [lst, sizes, Lib.join_one]
  · have hl : lst ss ≠ [] := by simpa [lst] using h
    have hp := List.length_pos_iff.2 h
    have := ih h
    rw [joinS_snoc _ _ _ hl]
    simp only [List.length_append, List.length_cons, List.length_nil]
    rw [this]
    have hs : s.data.toList.length = s.size := (bs_size' s).symm
    omega
theorem join_take_le (b : UInt8) (ss : List ByteArray) (k : Nat) (hk : 0 < k) (hl : k ≤ ss.length) : (Lib.join (lst (ss.take k)) [b]).length ≤ (Lib.join (lst ss) [b]).length := by
  have h1 : ss ≠ [] := by intro e; subst e; simp at hl; omega
  have h2 : ss.take k ≠ [] := by
    intro e
    have := congrArg List.length e
    rw [List.length_take, List.length_nil] at this
    omega
  rw [join_size b _ h1, join_size b _ h2, List.length_take]
  have := sizes_take_le ss k
  omega
/-- May these texts be joined? -/
def joinOk (ss : List ByteArray) (sep : ByteArray) : Bool :=
  match sep.data.toList with
  | [b] => !ss.isEmpty && ss.all (fun s => !s.data.toList.contains b) && decide ((Lib.join (lst ss) [b]).length ≤ 4000)
  | _ => false
def joinR (ss : List ByteArray) (sep : ByteArray) : List UInt8 := if joinOk ss sep then Lib.join (lst ss) sep.data.toList else []
theorem joinR_no {ss : List ByteArray} {sep : ByteArray} (h : joinOk ss sep = false) : joinR ss sep = [] := by rw [joinR, h]; rfl
theorem joinR_yes {ss : List ByteArray} {sep : ByteArray} (h : joinOk ss sep = true) : joinR ss sep = Lib.join (lst ss) sep.data.toList := by rw [joinR, if_pos h]
theorem join_bad_sep {ss : List ByteArray} {sep : ByteArray} (h : sep.size ≠ 1) : joinOk ss sep = false := by
  rw [bs_size'] at h
  unfold joinOk
  split
  · rename_i b e; rw [e] at h; simp at h
  · rfl
theorem join_bad_nil {sep : ByteArray} : joinOk [] sep = false := by
  unfold joinOk
  split <;> rfl
theorem one_byte {sep : ByteArray} (h : sep.size = 1) : ∃ b, sep = bs [b] := by
  rw [bs_size'] at h
  match e : sep.data.toList with
  | [] => rw [e] at h; simp at h
  | [b] => exact ⟨b, bs_of e⟩
  | _ :: _ :: _ => rw [e] at h; simp at h
theorem joinOk_one (ss : List ByteArray) (b : UInt8) : joinOk ss (bs [b]) = (!ss.isEmpty && ss.all (fun s => !s.data.toList.contains b) && decide ((Lib.join (lst ss) [b]).length ≤ 4000)) := rfl
theorem join_bad_at {ss : List ByteArray} {b : UInt8} {k : Nat} (hk : k < ss.length) (h : (ss[k]).data.toList.contains b = true) : joinOk ss (bs [b]) = false := by
  rw [joinOk_one]
  have : ss.all (fun s => !s.data.toList.contains b) = false := by
    rw [List.all_eq_false]
    exact ⟨ss[k], List.getElem_mem hk, by rw [h]; simp⟩
  rw [this, Bool.and_false, Bool.false_and]
theorem join_bad_long {ss : List ByteArray} {b : UInt8} (h : 4000 < (Lib.join (lst ss) [b]).length) : joinOk ss (bs [b]) = false := by
  rw [joinOk_one]
  have : decide ((Lib.join (lst ss) [b]).length ≤ 4000) = false := by simp; omega
  rw [this, Bool.and_false]
def FreeTo (b : UInt8) (ss : List ByteArray) (k : Nat) : Prop := ∀ i (h : i < ss.length), i < k → (ss[i]).data.toList.contains b = false
theorem free_succ {b : UInt8} {ss : List ByteArray} {k : Nat} (hk : k < ss.length) (h : FreeTo b ss k) (g : (ss[k]).data.toList.contains b = false) : FreeTo b ss (k + 1) := fun i hi hik => by
  by_cases e : i = k
  · subst e; exact g
  · exact h i hi (by omega)
theorem join_good {ss : List ByteArray} {b : UInt8} (hne : ss ≠ []) (hf : FreeTo b ss ss.length) (hl : (Lib.join (lst ss) [b]).length ≤ 4000) : joinOk ss (bs [b]) = true := by
  rw [joinOk_one]
  have h1 : ss.isEmpty = false := by cases ss with
    | nil => exact absurd rfl hne
    | cons a r => rfl
  have h2 : ss.all (fun s => !s.data.toList.contains b) = true := by
    rw [List.all_eq_true]
    intro x hx
    obtain ⟨i, hi⟩ := List.getElem?_of_mem hx
    obtain ⟨hlt, e⟩ := List.getElem?_eq_some_iff.1 hi
    rw [← e, hf i hlt hlt]
    rfl
  rw [h1, h2]
  simpa using hl
theorem joinR_len (ss : List ByteArray) (sep : ByteArray) : (joinR ss sep).length ≤ 4000 := by
  unfold joinR
  split
  · rename_i h
    by_cases hs : sep.size = 1
    · obtain ⟨b, rfl⟩ := one_byte hs
      rw [joinOk_one, Bool.and_eq_true] at h
      have h2 : (Lib.join (lst ss) [b]).length ≤ 4000 := by simpa using h.2
      exact h2
    · rw [join_bad_sep hs] at h; cases h
  · simp

/-! Splitting and joining. -/
theorem join_splits (b : UInt8) (l : List UInt8) : Lib.join (splits b l) [b] = l := by
  induction l with
  | nil => rfl
  | cons x r ih =>
    rw [splits]
    have hne := splits_ne b r
    cases hs : splits b r with
    | nil => exact absurd hs hne
    | cons p ps =>
      rw [hs] at ih
      by_cases h : x = b
      · rw [if_pos h, Lib.join_cons]
        simp only [Lib.joinTail, List.map_cons, List.flatten_cons, List.nil_append]
        rw [Lib.join_cons] at ih
        rw [← ih, h]
        simp [Lib.joinTail]
      · rw [if_neg h]
        simp only
        rw [Lib.join_cons, List.cons_append, ← Lib.join_cons, ih]
theorem splits_free (b : UInt8) (l : List UInt8) : ∀ p ∈ splits b l, b ∉ p := by
  induction l with
  | nil => intro p hp; simp [splits] at hp; subst hp; simp
  | cons x r ih =>
    intro p hp
    rw [splits] at hp
    by_cases h : x = b
    · rw [if_pos h] at hp
      rcases List.mem_cons.1 hp with rfl | hp
      · simp
      · exact ih p hp
    · rw [if_neg h] at hp
      cases hs : splits b r with
      | nil => exact absurd hs (splits_ne b r)
      | cons q qs =>
        rw [hs] at hp ih
        simp only at hp
        rcases List.mem_cons.1 hp with rfl | hp
        · simp only [List.mem_cons, not_or]
          exact ⟨fun e => h e.symm, ih q (by simp)⟩
        · exact ih p (List.mem_cons_of_mem _ hp)
theorem splits_len (b : UInt8) (l : List UInt8) : (splits b l).length ≤ l.length + 1 := by
  induction l with
  | nil => simp [splits]
  | cons x r ih =>
    rw [splits]
    split
    · simp only [List.length_cons]; omega
    · split
      · simp
      · rename_i p ps e
        rw [e] at ih
        simp only [List.length_cons] at ih ⊢
        omega
def partsB (ps : List (List UInt8)) : List ByteArray := ps.map bs
theorem lst_parts (ps : List (List UInt8)) : lst (partsB ps) = ps := by
  unfold lst partsB
  rw [List.map_map]
  conv => rhs; rw [← List.map_id ps]
  apply List.map_congr_left
  intro p _
  rfl
/-- What SplitString returns. -/
def splitOk (s sep : ByteArray) : Bool := decide (s.size ≤ 4000) && decide (sep.size = 1)
def splitR (s sep : ByteArray) : List ByteArray := if splitOk s sep then partsB (splits (sep.data.toList.headD 0) s.data.toList) else []
theorem split_back {s sep : ByteArray} (h : splitOk s sep = true) : joinOk (splitR s sep) sep = true ∧ bs (joinR (splitR s sep) sep) = s := by
  have h0 := h
  rw [splitOk, Bool.and_eq_true] at h
  obtain ⟨h1, h2⟩ := h
  have h1 : s.size ≤ 4000 := by simpa using h1
  obtain ⟨b, rfl⟩ := one_byte (show sep.size = 1 by simpa using h2)
  have e : splitR s (bs [b]) = partsB (splits b s.data.toList) := by rw [splitR, if_pos h0]; rfl
  have hj : Lib.join (lst (splitR s (bs [b]))) [b] = s.data.toList := by rw [e, lst_parts, join_splits]
  have hne : splitR s (bs [b]) ≠ [] := by
    rw [e]
    have := splits_ne b s.data.toList
    simpa [partsB] using this
  have hg : joinOk (splitR s (bs [b])) (bs [b]) = true := by
    refine join_good hne ?_ ?_
    · intro i hi _
      have hm : (splitR s (bs [b]))[i] ∈ splitR s (bs [b]) := List.getElem_mem hi
      have hm2 : ((splitR s (bs [b]))[i]).data.toList ∈ splits b s.data.toList := by
        have hm' : (splitR s (bs [b]))[i] ∈ partsB (splits b s.data.toList) := e ▸ hm
        obtain ⟨p, hp, hpe⟩ := List.mem_map.1 hm'
        rw [← hpe]
        exact hp
      have := splits_free b _ _ hm2
      cases hq : ((splitR s (bs [b]))[i]).data.toList.contains b
      · rfl
      · rw [List.contains_iff_mem] at hq
        exact absurd hq this
    · rw [hj, ← bs_size']; exact h1
  refine ⟨hg, ?_⟩
  rw [joinR_yes hg]
  have : Lib.join (lst (splitR s (bs [b]))) (bs [b]).data.toList = s.data.toList := hj
  rw [this]
  rfl
theorem splitR_len (s sep : ByteArray) : (splitR s sep).length ≤ 4001 := by
  unfold splitR
  split
  · rename_i h
    rw [splitOk, Bool.and_eq_true] at h
    have h1 : s.size ≤ 4000 := by simpa using h.1
    rw [bs_size'] at h1
    have := splits_len (sep.data.toList.headD 0) s.data.toList
    simp only [partsB, List.length_map]
    omega
  · simp

/-! The numeral behind the letter m. -/
def mkRun : Nat → List UInt8 → List UInt8
  | 0, o => o
  | k + 1, o => mkRun ((k + 1) / 10) (UInt8.ofNat (48 + (k + 1) % 10) :: o)
termination_by k => k
decreasing_by omega
theorem mkRun_zero (o : List UInt8) : mkRun 0 o = o := by rw [mkRun]
theorem mkRun_pos (k : Nat) (h : 0 < k) (o : List UInt8) : mkRun k o = mkRun (k / 10) (UInt8.ofNat (48 + k % 10) :: o) := by
  obtain ⟨j, rfl⟩ : ∃ j, k = j + 1 := ⟨k - 1, by omega⟩
  rw [mkRun]
def mkT (k : Int) : ByteArray := if k ≤ 0 then bs [109, 48] else bs (109 :: mkRun k.toNat [])
def dcount : Nat → Nat
  | 0 => 0
  | k + 1 => dcount ((k + 1) / 10) + 1
termination_by k => k
decreasing_by omega
theorem dcount_zero : dcount 0 = 0 := by rw [dcount]
theorem dcount_pos (k : Nat) (h : 0 < k) : dcount k = dcount (k / 10) + 1 := by
  obtain ⟨j, rfl⟩ : ∃ j, k = j + 1 := ⟨k - 1, by omega⟩
  rw [dcount]
theorem dcount_le (d : Nat) : ∀ k, k < 10 ^ d → dcount k ≤ d := by
  induction d with
  | zero => intro k h; simp at h; subst h; rw [dcount_zero]; omega
  | succ d ih =>
    intro k h
    rcases Nat.eq_zero_or_pos k with rfl | hk
    · rw [dcount_zero]; omega
    · rw [dcount_pos k hk]
      rw [Nat.pow_succ] at h
      have := ih (k / 10) (by omega)
      omega
theorem mkRun_len (k : Nat) (o : List UInt8) : (mkRun k o).length = dcount k + o.length := by
  induction k using Nat.strongRecOn generalizing o with
  | _ k ih =>
    rcases Nat.eq_zero_or_pos k with rfl | hk
    · rw [mkRun_zero, dcount_zero]; omega
    · rw [mkRun_pos k hk, dcount_pos k hk, ih (k / 10) (by omega)]
      simp only [List.length_cons]
      omega
end Go.Proofs.YtnpiljkchjdpfaaDoor
