/- Plain laws on both modes: first-up mode emits at least as many strokes, and every key of a last-up stroke went down. No condition. -/
import Derived.Test.YthnecaeljpaggaaPEvent
namespace Go.Proofs.Ythnecaeljpaggaa
open Go.RowKit

/-- The keys that went down. -/
def dnStep (a : Nat) (e : Ev) : Nat := if e.d then a ||| 2 ^ e.k.toNat else a
def dnAll (l : List Ev) : Nat := l.foldl dnStep 0
theorem dnAll_snoc (l : List Ev) (e : Ev) : dnAll (l ++ [e]) = dnStep (dnAll l) e := by simp [dnAll, List.foldl_append]
def orAll (l : List Int) : Nat := l.foldl (fun a x => a ||| x.toNat) 0
theorem orAll_snoc (l : List Int) (x : Int) : orAll (l ++ [x]) = orAll l ||| x.toNat := by simp [orAll, List.foldl_append]
def Sub (a b : Nat) : Prop := ∀ i, a.testBit i = true → b.testBit i = true
theorem sub_and {a b : Nat} (h : Sub a b) : a &&& b = a := by
  apply Nat.eq_of_testBit_eq
  intro i
  rw [Nat.testBit_and]
  have := h i
  cases ha : a.testBit i
  · rfl
  · rw [this ha]; rfl
theorem Sub.or_left {a b c : Nat} (h : Sub a c) (k : Sub b c) : Sub (a ||| b) c := fun i hi => by
  rw [Nat.testBit_or, Bool.or_eq_true] at hi
  rcases hi with hi | hi
  · exact h i hi
  · exact k i hi
theorem Sub.mono {a b c : Nat} (h : Sub a b) (k : Sub b c) : Sub a c := fun i hi => k i (h i hi)
theorem sub_or (a b : Nat) : Sub a (a ||| b) := fun i hi => by rw [Nat.testBit_or, hi]; rfl
theorem sub_or' (a b : Nat) : Sub b (a ||| b) := fun i hi => by rw [Nat.testBit_or, hi, Bool.or_true]
theorem dnStep_sub (a : Nat) (e : Ev) : Sub a (dnStep a e) := by
  unfold dnStep
  split
  · exact sub_or _ _
  · exact fun _ h => h
theorem dnStep_bd {a : Nat} {e : Ev} (ha : a < 2 ^ 23) (hk : e.k ≤ 22) : dnStep a e < 2 ^ 23 := by
  unfold dnStep
  split
  · exact Nat.or_lt_two_pow ha (Nat.pow_lt_pow_right (by omega) (by omega))
  · exact ha
theorem dnAll_bd (l : List Ev) : (∀ e ∈ l, e.k ≤ 22) → dnAll l < 2 ^ 23 := by
  refine snoc_ind (P := fun l => (∀ e ∈ l, e.k ≤ 22) → dnAll l < 2 ^ 23) (by simp [dnAll]) ?_ l
  intro l e ih h
  rw [dnAll_snoc]
  exact dnStep_bd (ih fun x hx => h x (by simp [hx])) (h e (by simp))

/-- What holds of both modes behind a valid list. -/
structure Both (l : List Ev) : Prop where
  le : (luRun l).out.length ≤ (fuRun l).2.2.length
  held : (luRun l).down ≠ 0 → (fuRun l).2.1 = false → (luRun l).out.length + 1 ≤ (fuRun l).2.2.length
  sub : Sub (luRun l).chord (dnAll l)
  all : Sub (orAll (luRun l).out) (dnAll l)
  nn : ∀ x ∈ (luRun l).out, 0 ≤ x ∧ x < 8388608
theorem both (l : List Ev) : (∃ d t, evRun l = some (d, t)) → (∀ e ∈ l, e.k ≤ 22) → Both l := by
  refine snoc_ind (P := fun l => (∃ d t, evRun l = some (d, t)) → (∀ e ∈ l, e.k ≤ 22) → Both l) ?_ ?_ l
  · intro _ _
    exact ⟨Nat.le_refl _, fun h => absurd rfl h, fun i h => by simp [luRun] at h, fun i h => by simp [luRun, orAll] at h, fun x hx => by simp [luRun] at hx⟩
  · intro l e ih ⟨d, t, hr⟩ hk
    obtain ⟨d', t', h1, h2, h3⟩ := evRun_init hr
    have ihb := ih ⟨d', t', h1⟩ (fun x hx => hk x (by simp [hx]))
    have hd := lu_down l d' t' h1
    have hd2 := lu_down _ d t hr
    have hf := fu_down l d' t' h1
    have hbd := lu_bd l (fun x hx => hk x (by simp [hx]))
    have hch := chord_eq (lu_sub l) (k := e.k.toNat) (d := e.d) (by rw [hd]; exact h3)
    have hke := hk e (by simp)
    have hsub : Sub (if e.d then (luRun l).chord ||| 2 ^ e.k.toNat else (luRun l).chord) (dnStep (dnAll l) e) := by
      unfold dnStep
      cases e.d
      · exact ihb.sub
      · exact (ihb.sub.mono (sub_or _ _)).or_left (sub_or' _ _)
    have hall : Sub (orAll (luRun l).out) (dnStep (dnAll l) e) := ihb.all.mono (dnStep_sub _ _)
    have hxl : (luRun l).down ^^^ 2 ^ e.k.toNat < 2 ^ 23 := Nat.xor_lt_two_pow hbd.1 (Nat.pow_lt_pow_right (by omega) (by omega))
    have hol : (luRun l).chord ||| ((luRun l).down ^^^ 2 ^ e.k.toNat) < 2 ^ 23 := Nat.or_lt_two_pow hbd.2.1 hxl
    -- an event that goes up finds a key down
    have hup : e.d = false → (luRun l).down ≠ 0 := fun he h0 => by
      rw [he, ← hd, h0, Nat.zero_testBit] at h3
      exact h3 rfl
    have hlu : luRun (l ++ [e]) = luStep (luRun l) e := luRun_snoc l e
    have hfu : fuRun (l ++ [e]) = fuStep (fuRun l) e := fuRun_snoc l e
    have hfo : (fuStep (fuRun l) e).2.2.length = (fuRun l).2.2.length + (if e.d = false ∧ (fuRun l).2.1 = true then 1 else 0) := by
      unfold fuStep
      simp only
      split <;> simp
    have hfp : (fuStep (fuRun l) e).2.1 = e.d := rfl
    by_cases h0 : (luRun l).down ^^^ 2 ^ e.k.toNat = 0
    · have hs : luStep (luRun l) e = ⟨0, 0, (luRun l).out ++ [(((luRun l).chord ||| ((luRun l).down ^^^ 2 ^ e.k.toNat) : Nat) : Int)], (luRun l).times ++ [e.t]⟩ := by rw [luStep, if_pos h0]
      -- the last key goes up
      have hed : e.d = false := by
        cases hq : e.d
        · rfl
        · rw [hq] at h3
          have hb : d'.testBit e.k.toNat = false := by cases hz : d'.testBit e.k.toNat <;> simp_all
          have : ((luRun l).down ^^^ 2 ^ e.k.toNat).testBit e.k.toNat = true := by rw [Nat.testBit_xor, hd, hb, Nat.testBit_two_pow]; simp
          rw [h0, Nat.zero_testBit] at this
          cases this
      have hle : (luRun l).out.length + 1 ≤ (fuStep (fuRun l) e).2.2.length := by
        rw [hfo]
        cases hp : (fuRun l).2.1
        · have := ihb.held (hup hed) hp
          simp [hed]
          omega
        · have := ihb.le
          simp [hed]
          omega
      refine ⟨?_, ?_, ?_, ?_, ?_⟩
      · rw [hlu, hfu, hs]; simp only [List.length_append, List.length_cons, List.length_nil]; exact hle
      · intro hne; rw [hlu, hs] at hne; exact absurd rfl hne
      · rw [hlu, hs]; intro i hi; simp at hi
      · rw [hlu, hs, dnAll_snoc]
        simp only
        rw [orAll_snoc, Int.toNat_natCast, hch]
        exact hall.or_left hsub
      · rw [hlu, hs]
        intro x hx
        simp only [List.mem_append, List.mem_cons, List.not_mem_nil, or_false] at hx
        rcases hx with hx | rfl
        · exact ihb.nn x hx
        · omega
    · have hs : luStep (luRun l) e = ⟨(luRun l).down ^^^ 2 ^ e.k.toNat, (luRun l).chord ||| ((luRun l).down ^^^ 2 ^ e.k.toNat), (luRun l).out, (luRun l).times⟩ := by rw [luStep, if_neg h0]
      refine ⟨?_, ?_, ?_, ?_, ?_⟩
      · rw [hlu, hfu, hs, hfo]; simp only; have := ihb.le; omega
      · intro _ hp
        rw [hfu, hfp] at hp
        rw [hlu, hfu, hs, hfo]
        simp only
        cases hq : (fuRun l).2.1
        · have := ihb.held (hup hp) hq
          omega
        · have := ihb.le
          simp [hp]
          omega
      · rw [hlu, hs, dnAll_snoc, hch]; exact hsub
      · rw [hlu, hs, dnAll_snoc]; exact hall
      · rw [hlu, hs]; exact ihb.nn
theorem both_ok {l : List Ev} (h : evOk l = true) : Both l := by
  obtain ⟨_, h2⟩ := ev_valid h
  refine both l ?_ ?_
  · rw [evOk, Bool.and_eq_true] at h
    obtain ⟨⟨d, t⟩, e⟩ := Option.isSome_iff_exists.1 h.1
    exact ⟨d, t, e⟩
  · intro e he
    obtain ⟨i, hi⟩ := List.getElem?_of_mem he
    have hlt := (List.getElem?_eq_some_iff.1 hi).1
    obtain ⟨_, _, _, _, _, _, q, _⟩ := h2 i hlt
    have : evt l i = e := by rw [evt, List.getD_eq_getElem?_getD, hi]; rfl
    rwa [this] at q
end Go.Proofs.Ythnecaeljpaggaa
