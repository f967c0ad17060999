/- Plain laws on the events of chords, with no program in sight: what they assemble to in both modes. No condition. -/
import Derived.Test.YthnecaeljpaggaaPEvent
import Derived.Test.YthnecaeljpaggaaStroke
namespace Go.Proofs.Ythnecaeljpaggaa
open Go.RowKit

/-- The events of one stroke: its keys go down at one time and up at another. -/
def chordDn (iv : Int) (i : Nat) (s : Int) : List Ev := (keysL s).map fun k => ⟨2 * (i : Int) * iv, k, true⟩
def chordUp (iv : Int) (i : Nat) (s : Int) : List Ev := (keysL s).map fun k => ⟨(2 * (i : Int) + 1) * iv, k, false⟩
def chordAcc (iv : Int) (st : Nat × List Ev) (s : Int) : Nat × List Ev := (st.1 + 1, st.2 ++ chordDn iv st.1 s ++ chordUp iv st.1 s)
def chordRun (iv : Int) (l : List Int) : Nat × List Ev := l.foldl (chordAcc iv) (0, [])
def chordL (iv : Int) (l : List Int) : List Ev := (chordRun iv l).2
theorem chordRun_snoc (iv : Int) (l : List Int) (s : Int) : chordRun iv (l ++ [s]) = chordAcc iv (chordRun iv l) s := by simp [chordRun, List.foldl_append]
theorem chordRun_fst (iv : Int) (l : List Int) : (chordRun iv l).1 = l.length := by
  refine snoc_ind (P := fun l => (chordRun iv l).1 = l.length) rfl ?_ l
  intro l s ih
  rw [chordRun_snoc, chordAcc, ih]
  simp
theorem chordL_snoc (iv : Int) (l : List Int) (s : Int) : chordL iv (l ++ [s]) = chordL iv l ++ chordDn iv l.length s ++ chordUp iv l.length s := by
  rw [chordL, chordRun_snoc, chordAcc, chordRun_fst]
  rfl
theorem chordDn_len (iv : Int) (i : Nat) (s : Int) : (chordDn iv i s).length = (keysL s).length := by simp [chordDn]
theorem chordUp_len (iv : Int) (i : Nat) (s : Int) : (chordUp iv i s).length = (keysL s).length := by simp [chordUp]
theorem chordL_app_len (iv : Int) (l r : List Int) : (chordL iv l).length ≤ (chordL iv (l ++ r)).length := by
  refine snoc_ind (P := fun r => (chordL iv l).length ≤ (chordL iv (l ++ r)).length) (by simp) ?_ r
  intro r s ih
  rw [← List.append_assoc, chordL_snoc, List.length_append, List.length_append]
  omega
theorem chord_take_len (iv : Int) (l : List Int) (k : Nat) : (chordL iv (l.take k)).length ≤ (chordL iv l).length := by
  have := chordL_app_len iv (l.take k) (l.drop k)
  rwa [List.take_append_drop] at this
/-- Is there such a list of events? -/
def chordOk (iv : Int) (l : List Int) : Bool := inB iv 0 1000 && l.all goodB && decide ((chordL iv l).length ≤ 200)
def chordR (iv : Int) (l : List Int) : List Ev := if chordOk iv l then chordL iv l else []
theorem chord_bad_iv {iv : Int} {l : List Int} (h : inB iv 0 1000 = false) : chordOk iv l = false := by rw [chordOk, h]; rfl
theorem chord_bad_at {iv : Int} {l : List Int} {k : Nat} (hk : k < l.length) (h : goodB (elt l k) = false) : chordOk iv l = false := by
  have : l.all goodB = false := by
    rw [List.all_eq_false]
    exact ⟨elt l k, elt_in l k hk, by simp [h]⟩
  rw [chordOk, this, Bool.and_false]
  rfl
theorem chord_long {iv : Int} {l : List Int} {k : Nat} (h : 200 < (chordL iv (l.take k)).length) : chordOk iv l = false := by
  have := chord_take_len iv l k
  have : decide ((chordL iv l).length ≤ 200) = false := by simp; omega
  rw [chordOk, this, Bool.and_false]
theorem chord_ok {iv : Int} {l : List Int} (h1 : inB iv 0 1000 = true) (h2 : ∀ k, k < l.length → goodB (elt l k) = true) (h3 : (chordL iv l).length ≤ 200) : chordOk iv l = true := by
  have : l.all goodB = true := by
    rw [List.all_eq_true]
    intro x hx
    obtain ⟨i, hi⟩ := List.getElem?_of_mem hx
    have hlt := (List.getElem?_eq_some_iff.1 hi).1
    have := h2 i hlt
    rw [elt, List.getD_eq_getElem?_getD, hi] at this
    exact this
  rw [chordOk, h1, this]
  simpa using h3
theorem chordOk_iff {iv : Int} {l : List Int} (h : chordOk iv l = true) : inB iv 0 1000 = true ∧ (∀ x ∈ l, goodB x = true) ∧ (chordL iv l).length ≤ 200 := by
  rw [chordOk, Bool.and_eq_true, Bool.and_eq_true] at h
  exact ⟨h.1.1, List.all_eq_true.1 h.1.2, by simpa using h.2⟩
theorem keysL_ne {s : Int} (g : goodB s = true) : keysL s ≠ [] := by
  obtain ⟨g1, g2⟩ := good_bd g
  intro e
  have := orL_keysL (s := s) (by omega) g2
  rw [e] at this
  simp only [orL, List.foldl_nil] at this
  omega
theorem chord_len2 (iv : Int) (l : List Int) : (∀ x ∈ l, goodB x = true) → 2 * l.length ≤ (chordL iv l).length := by
  refine snoc_ind (P := fun l => (∀ x ∈ l, goodB x = true) → 2 * l.length ≤ (chordL iv l).length) (by simp) ?_ l
  intro l s ih h
  have i1 := ih (fun x hx => h x (by simp [hx]))
  have i2 := keysL_ne (h s (by simp))
  have i3 : 0 < (keysL s).length := List.length_pos_iff.2 i2
  rw [chordL_snoc]
  simp only [List.length_append, List.length_cons, List.length_nil, chordDn_len, chordUp_len]
  omega

/-! One block of keys. -/
def xorL (a : Nat) (p : List Int) : Nat := p.foldl (fun s k => s ^^^ 2 ^ k.toNat) a
theorem xorL_cons (a : Nat) (k : Int) (p : List Int) : xorL a (k :: p) = xorL (a ^^^ 2 ^ k.toNat) p := rfl
theorem xorL_bit (p : List Int) (hp : p.Pairwise (· < ·)) (hb : ∀ k ∈ p, 0 ≤ k) (a i : Nat) : (xorL a p).testBit i = (a.testBit i ^^ decide ((i : Int) ∈ p)) := by
  induction p generalizing a with
  | nil => simp [xorL]
  | cons k p ih =>
    rw [List.pairwise_cons] at hp
    obtain ⟨h1, h2⟩ := hp
    have hk := hb k (by simp)
    rw [xorL_cons, ih h2 (fun q hq => hb q (by simp [hq])), Nat.testBit_xor, Nat.testBit_two_pow]
    by_cases e : k = (i : Int)
    · subst e
      have hn : (i : Int) ∉ p := fun hm => by have := h1 _ hm; omega
      simp [hn]
    · have e' : ¬ k.toNat = i := by omega
      have e2 : ¬ (i : Int) = k := fun h => e h.symm
      simp [e', e2]
theorem mem_keysL {s : Int} {i : Nat} : ((i : Int) ∈ keysL s) ↔ i < 23 ∧ s.toNat.testBit i = true := by
  simp only [keysL, keysTo, List.mem_map, List.mem_filter, List.mem_range]
  constructor
  · rintro ⟨j, ⟨h1, h2⟩, h3⟩
    have : j = i := by omega
    subst this
    exact ⟨h1, h2⟩
  · rintro ⟨h1, h2⟩
    exact ⟨i, ⟨h1, h2⟩, rfl⟩
theorem keysL_bit {s : Int} (h0 : 0 ≤ s) (h1 : s ≤ 8388607) (i : Nat) : s.toNat.testBit i = decide ((i : Int) ∈ keysL s) := by
  rw [Bool.eq_iff_iff, decide_eq_true_iff, mem_keysL]
  constructor
  · intro h
    refine ⟨?_, h⟩
    rcases Nat.lt_or_ge i 23 with hi | hi
    · exact hi
    · have : s.toNat < 2 ^ i := Nat.lt_of_lt_of_le (show s.toNat < 2 ^ 23 by omega) (Nat.pow_le_pow_right (by omega) hi)
      rw [Nat.testBit_lt_two_pow this] at h
      cases h
  · exact fun h => h.2
theorem keysL_nn (s : Int) : ∀ k ∈ keysL s, 0 ≤ k := fun _ hk => (keysL_mem hk).1
theorem xor_up {s : Int} (h0 : 0 ≤ s) (h1 : s ≤ 8388607) : xorL 0 (keysL s) = s.toNat := by
  apply Nat.eq_of_testBit_eq
  intro i
  rw [xorL_bit _ (keysL_sorted s) (keysL_nn s), keysL_bit h0 h1]
  simp
theorem xor_down {s : Int} (h0 : 0 ≤ s) (h1 : s ≤ 8388607) : xorL s.toNat (keysL s) = 0 := by
  apply Nat.eq_of_testBit_eq
  intro i
  rw [xorL_bit _ (keysL_sorted s) (keysL_nn s), keysL_bit h0 h1]
  simp

theorem ev_block (b : Bool) (T : Int) (hT : T ≤ 999999) (ks : List Int) (hp : ks.Pairwise (· < ·)) (hb : ∀ k ∈ ks, 0 ≤ k ∧ k ≤ 22) (d : Nat) (t : Int) (ht : t ≤ T) (hd : ∀ k ∈ ks, d.testBit k.toNat = !b) :
    ∃ t', t' ≤ T ∧ (ks.map fun k => (⟨T, k, b⟩ : Ev)).foldl evStep (some (d, t)) = some (xorL d ks, t') := by
  induction ks generalizing d t with
  | nil => exact ⟨t, ht, rfl⟩
  | cons k ks ih =>
    rw [List.pairwise_cons] at hp
    obtain ⟨h1, h2⟩ := hp
    obtain ⟨k0, k1⟩ := hb k (by simp)
    have hdk := hd k (by simp)
    have e : evStep (some (d, t)) ⟨T, k, b⟩ = some (d ^^^ 2 ^ k.toNat, T) := by
      rw [evStep, if_pos]
      refine ⟨ht, hT, k0, k1, ?_⟩
      show b ≠ d.testBit k.toNat
      rw [hdk]
      cases b <;> simp
    rw [List.map_cons, List.foldl_cons, e, xorL_cons]
    refine ih h2 (fun q hq => hb q (by simp [hq])) _ T (Int.le_refl _) (fun q hq => ?_)
    rw [Nat.testBit_xor, hd q (by simp [hq]), Nat.testBit_two_pow]
    have := h1 q hq
    have e2 : ¬ k.toNat = q.toNat := by have := (hb q (by simp [hq])).1; omega
    simp [e2]
theorem lu_dn (T : Int) (ks : List Int) (hp : ks.Pairwise (· < ·)) (hb : ∀ k ∈ ks, 0 ≤ k) (d : Nat) (o ts : List Int) (hd : ∀ k ∈ ks, d.testBit k.toNat = false) :
    (ks.map fun k => (⟨T, k, true⟩ : Ev)).foldl luStep ⟨d, d, o, ts⟩ = ⟨xorL d ks, xorL d ks, o, ts⟩ := by
  induction ks generalizing d with
  | nil => rfl
  | cons k ks ih =>
    rw [List.pairwise_cons] at hp
    obtain ⟨h1, h2⟩ := hp
    have k0 := hb k (by simp)
    have hdk := hd k (by simp)
    have hx : (d ^^^ 2 ^ k.toNat).testBit k.toNat = true := by rw [Nat.testBit_xor, hdk, Nat.testBit_two_pow]; simp
    have hne : d ^^^ 2 ^ k.toNat ≠ 0 := by intro e; rw [e, Nat.zero_testBit] at hx; cases hx
    have hor : d ||| (d ^^^ 2 ^ k.toNat) = d ^^^ 2 ^ k.toNat := by
      apply Nat.eq_of_testBit_eq
      intro i
      rw [Nat.testBit_or, Nat.testBit_xor, Nat.testBit_two_pow]
      by_cases e : k.toNat = i
      · subst e; simp [hdk]
      · simp [e]
    have e : luStep ⟨d, d, o, ts⟩ ⟨T, k, true⟩ = ⟨d ^^^ 2 ^ k.toNat, d ^^^ 2 ^ k.toNat, o, ts⟩ := by
      rw [luStep]
      simp only
      rw [if_neg hne, hor]
    rw [List.map_cons, List.foldl_cons, e, xorL_cons]
    refine ih h2 (fun q hq => hb q (by simp [hq])) _ (fun q hq => ?_)
    rw [Nat.testBit_xor, hd q (by simp [hq]), Nat.testBit_two_pow]
    have := h1 q hq
    have e2 : ¬ k.toNat = q.toNat := by have := hb q (by simp [hq]); omega
    simp [e2]
theorem lu_up (T : Int) (ks : List Int) (hne : ks ≠ []) (hp : ks.Pairwise (· < ·)) (hb : ∀ k ∈ ks, 0 ≤ k) (d c : Nat) (o ts : List Int) (hd : ∀ i : Nat, d.testBit i = decide ((i : Int) ∈ ks)) (hs : ∀ i : Nat, (i : Int) ∈ ks → c.testBit i = true) :
    (ks.map fun k => (⟨T, k, false⟩ : Ev)).foldl luStep ⟨d, c, o, ts⟩ = ⟨0, 0, o ++ [(c : Int)], ts ++ [T]⟩ := by
  induction ks generalizing d with
  | nil => exact absurd rfl hne
  | cons k ks ih =>
    rw [List.pairwise_cons] at hp
    obtain ⟨h1, h2⟩ := hp
    have k0 := hb k (by simp)
    obtain ⟨n, rfl⟩ := Int.eq_ofNat_of_zero_le k0
    have hnot : (n : Int) ∉ ks := fun hm => by have := h1 _ hm; omega
    have hd' : ∀ i : Nat, (d ^^^ 2 ^ n).testBit i = decide ((i : Int) ∈ ks) := fun i => by
      rw [Nat.testBit_xor, hd i, Nat.testBit_two_pow]
      by_cases e : n = i
      · subst e; simp [hnot]
      · have e2 : ¬ (i : Int) = (n : Int) := by omega
        simp [e, e2]
    rw [List.map_cons, List.foldl_cons]
    cases ks with
    | nil =>
      have h0 : d ^^^ 2 ^ n = 0 := by
        apply Nat.eq_of_testBit_eq
        intro i
        rw [hd' i]
        simp
      rw [luStep]
      simp only [Int.toNat_natCast, h0, if_true, Nat.or_zero, List.map_nil, List.foldl_nil]
    | cons k2 r =>
      have k20 := hb k2 (by simp)
      obtain ⟨n2, rfl⟩ := Int.eq_ofNat_of_zero_le k20
      have hx : (d ^^^ 2 ^ n).testBit n2 = true := by rw [hd' n2]; simp
      have hne' : d ^^^ 2 ^ n ≠ 0 := by intro e; rw [e, Nat.zero_testBit] at hx; cases hx
      have hor : c ||| (d ^^^ 2 ^ n) = c := by
        apply Nat.eq_of_testBit_eq
        intro i
        rw [Nat.testBit_or, hd' i]
        by_cases e : (i : Int) ∈ ((n2 : Int) :: r)
        · rw [hs i (List.mem_cons_of_mem _ e)]; simp
        · simp only [e, decide_false, Bool.or_false]
      have e : luStep ⟨d, c, o, ts⟩ ⟨T, (n : Int), false⟩ = ⟨d ^^^ 2 ^ n, c, o, ts⟩ := by
        rw [luStep]
        simp only [Int.toNat_natCast]
        rw [if_neg hne', hor]
      rw [e]
      exact ih (by simp) h2 (fun q hq => hb q (List.mem_cons_of_mem _ hq)) _ hd' (fun i hi => hs i (List.mem_cons_of_mem _ hi))
theorem fu_dn (T : Int) (ks : List Int) (d : Nat) (pv : Bool) (o : List Int) : (ks.map fun k => (⟨T, k, true⟩ : Ev)).foldl fuStep (d, pv, o) = (xorL d ks, (if ks = [] then pv else true), o) := by
  induction ks generalizing d pv with
  | nil => rfl
  | cons k ks ih =>
    have e : fuStep (d, pv, o) ⟨T, k, true⟩ = (d ^^^ 2 ^ k.toNat, true, o) := by rw [fuStep]; simp
    rw [List.map_cons, List.foldl_cons, e, ih, xorL_cons]
    simp
theorem fu_up0 (T : Int) (ks : List Int) (d : Nat) (o : List Int) : (ks.map fun k => (⟨T, k, false⟩ : Ev)).foldl fuStep (d, false, o) = (xorL d ks, false, o) := by
  induction ks generalizing d with
  | nil => rfl
  | cons k ks ih =>
    have e : fuStep (d, false, o) ⟨T, k, false⟩ = (d ^^^ 2 ^ k.toNat, false, o) := by rw [fuStep]; simp
    rw [List.map_cons, List.foldl_cons, e, ih, xorL_cons]
theorem fu_up (T : Int) (ks : List Int) (hne : ks ≠ []) (d : Nat) (o : List Int) : (ks.map fun k => (⟨T, k, false⟩ : Ev)).foldl fuStep (d, true, o) = (xorL d ks, false, o ++ [(d : Int)]) := by
  cases ks with
  | nil => exact absurd rfl hne
  | cons k ks =>
    have e : fuStep (d, true, o) ⟨T, k, false⟩ = (d ^^^ 2 ^ k.toNat, false, o ++ [(d : Int)]) := by rw [fuStep]; simp
    rw [List.map_cons, List.foldl_cons, e, fu_up0, xorL_cons]

def chordTimes (iv : Int) (n : Nat) : List Int := (List.range n).map fun (i : Nat) => (2 * (i : Int) + 1) * iv
theorem chordTimes_succ (iv : Int) (n : Nat) : chordTimes iv (n + 1) = chordTimes iv n ++ [(2 * (n : Int) + 1) * iv] := by simp [chordTimes, List.range_succ]
theorem mul_bd {a b A B : Int} (h0 : 0 ≤ a) (h1 : a ≤ A) (h2 : 0 ≤ b) (h3 : b ≤ B) : 0 ≤ a * b ∧ a * b ≤ A * B :=
  ⟨Int.mul_nonneg h0 h2, Int.le_trans (Int.mul_le_mul_of_nonneg_right h1 h2) (Int.mul_le_mul_of_nonneg_left h3 (by omega))⟩
/-- What the events of chords assemble to. -/
theorem chord_run (iv : Int) (hi : 0 ≤ iv ∧ iv ≤ 1000) (l : List Int) : (∀ x ∈ l, goodB x = true) → l.length ≤ 100 →
    (∃ t, t ≤ 2 * (l.length : Int) * iv ∧ evRun (chordL iv l) = some (0, t)) ∧ luRun (chordL iv l) = ⟨0, 0, l, chordTimes iv l.length⟩ ∧ fuRun (chordL iv l) = (0, false, l) := by
  refine snoc_ind (P := fun l => (∀ x ∈ l, goodB x = true) → l.length ≤ 100 → (∃ t, t ≤ 2 * (l.length : Int) * iv ∧ evRun (chordL iv l) = some (0, t)) ∧ luRun (chordL iv l) = ⟨0, 0, l, chordTimes iv l.length⟩ ∧ fuRun (chordL iv l) = (0, false, l)) ?_ ?_ l
  · intro _ _
    exact ⟨⟨0, by simp, rfl⟩, rfl, rfl⟩
  · intro l s ih hg hl
    rw [List.length_append, List.length_cons, List.length_nil] at hl
    obtain ⟨⟨t, ht, e1⟩, e2, e3⟩ := ih (fun x hx => hg x (by simp [hx])) (by omega)
    have gs := hg s (by simp)
    obtain ⟨g1, g2⟩ := good_bd gs
    have hne := keysL_ne gs
    have hsort := keysL_sorted s
    have hbd : ∀ k ∈ keysL s, 0 ≤ k ∧ k ≤ 22 := fun k hk => keysL_mem hk
    have hnn := keysL_nn s
    have hm1 := mul_bd (a := 2 * (l.length : Int)) (b := iv) (A := 200) (B := 1000) (by omega) (by omega) hi.1 hi.2
    have hm2 := mul_bd (a := 2 * (l.length : Int) + 1) (b := iv) (A := 201) (B := 1000) (by omega) (by omega) hi.1 hi.2
    have hm3 : 2 * (l.length : Int) * iv ≤ (2 * (l.length : Int) + 1) * iv := Int.mul_le_mul_of_nonneg_right (by omega) hi.1
    have hm4 : (2 * (l.length : Int) + 1) * iv ≤ (2 * ((l.length + 1 : Nat) : Int)) * iv := Int.mul_le_mul_of_nonneg_right (by omega) hi.1
    have hbit : ∀ i : Nat, s.toNat.testBit i = decide ((i : Int) ∈ keysL s) := keysL_bit (by omega) g2
    have hxu := xor_up (s := s) (by omega) g2
    have hxd := xor_down (s := s) (by omega) g2
    have hsn : ((s.toNat : Nat) : Int) = s := by omega
    refine ⟨?_, ?_, ?_⟩
    · obtain ⟨t1, ht1, f1⟩ := ev_block true (2 * (l.length : Int) * iv) (by omega) (keysL s) hsort hbd 0 t ht (fun k _ => by rw [Nat.zero_testBit]; rfl)
      obtain ⟨t2, ht2, f2⟩ := ev_block false ((2 * (l.length : Int) + 1) * iv) (by omega) (keysL s) hsort hbd (xorL 0 (keysL s)) t1 (by omega) (fun k hk => by
        rw [hxu, hbit]
        have := hnn k hk
        rw [show ((k.toNat : Nat) : Int) = k by omega]
        simp [hk])
      refine ⟨t2, ?_, ?_⟩
      · rw [List.length_append, List.length_cons, List.length_nil]
        exact Int.le_trans ht2 hm4
      · rw [chordL_snoc, evRun, List.foldl_append, List.foldl_append]
        rw [evRun] at e1
        rw [e1]
        have f1' : List.foldl evStep (some (0, t)) (chordDn iv l.length s) = some (xorL 0 (keysL s), t1) := f1
        have f2' : List.foldl evStep (some (xorL 0 (keysL s), t1)) (chordUp iv l.length s) = some (xorL (xorL 0 (keysL s)) (keysL s), t2) := f2
        rw [f1', f2', hxu, hxd]
    · rw [chordL_snoc, luRun, List.foldl_append, List.foldl_append]
      rw [luRun] at e2
      rw [e2]
      have f1 : List.foldl luStep ⟨0, 0, l, chordTimes iv l.length⟩ (chordDn iv l.length s) = ⟨xorL 0 (keysL s), xorL 0 (keysL s), l, chordTimes iv l.length⟩ :=
        lu_dn (2 * (l.length : Int) * iv) (keysL s) hsort hnn 0 l (chordTimes iv l.length) (fun k _ => Nat.zero_testBit _)
      rw [f1, hxu]
      have f2 : List.foldl luStep ⟨s.toNat, s.toNat, l, chordTimes iv l.length⟩ (chordUp iv l.length s) = ⟨0, 0, l ++ [((s.toNat : Nat) : Int)], chordTimes iv l.length ++ [(2 * (l.length : Int) + 1) * iv]⟩ :=
        lu_up ((2 * (l.length : Int) + 1) * iv) (keysL s) hne hsort hnn s.toNat s.toNat l (chordTimes iv l.length) hbit (fun i hi => by rw [hbit]; simpa using hi)
      rw [f2, hsn, List.length_append, List.length_cons, List.length_nil, chordTimes_succ]
    · rw [chordL_snoc, fuRun, List.foldl_append, List.foldl_append]
      rw [fuRun] at e3
      rw [e3]
      have f1 : List.foldl fuStep (0, false, l) (chordDn iv l.length s) = (xorL 0 (keysL s), (if keysL s = [] then false else true), l) := fu_dn (2 * (l.length : Int) * iv) (keysL s) 0 false l
      rw [f1, if_neg hne, hxu]
      have f2 : List.foldl fuStep (s.toNat, true, l) (chordUp iv l.length s) = (xorL s.toNat (keysL s), false, l ++ [((s.toNat : Nat) : Int)]) := fu_up ((2 * (l.length : Int) + 1) * iv) (keysL s) hne s.toNat l
      rw [f2, hxd, hsn]
theorem chord_good {iv : Int} {l : List Int} (h : chordOk iv l = true) : evOk (chordL iv l) = true ∧ (luRun (chordL iv l)).out = l ∧ (luRun (chordL iv l)).times = chordTimes iv l.length ∧ (fuRun (chordL iv l)).1 = 0 ∧ (fuRun (chordL iv l)).2.2 = l ∧ l.length ≤ 100 := by
  obtain ⟨h1, h2, h3⟩ := chordOk_iff h
  have h4 := chord_len2 iv l h2
  obtain ⟨⟨t, _, e1⟩, e2, e3⟩ := chord_run iv (in_bd h1) l h2 (by omega)
  refine ⟨?_, by rw [e2], by rw [e2], by rw [e3], by rw [e3], by omega⟩
  rw [evOk, e1]
  simpa using h3
end Go.Proofs.Ythnecaeljpaggaa
