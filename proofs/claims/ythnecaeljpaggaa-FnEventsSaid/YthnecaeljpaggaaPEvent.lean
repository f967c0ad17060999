/- Plain laws on key events, with no program in sight. No condition. -/
import Derived.Test.YthnecaeljpaggaaPStroke2
import Derived.Test.YthnecaeljpaggaaMem
namespace Go.Proofs.Ythnecaeljpaggaa
open Go.RowKit

/-- A key event. -/
structure Ev where
  t : Int
  k : Int
  d : Bool
def noEv : Ev := ⟨0, 0, false⟩
def evC (e : Ev) : List Value := [.int .i64 e.t, .int .i64 e.k, .bool e.d]
def evs (l : List Ev) : List Value := l.flatMap evC
theorem evs_length (l : List Ev) : (evs l).length = l.length * 3 := by
  induction l with
  | nil => rfl
  | cons e l ih => simp [evs, evC] at *; omega
theorem evs_snoc (l : List Ev) (e : Ev) : evs (l ++ [e]) = evs l ++ evC e := by simp [evs]
def evt (l : List Ev) (j : Nat) : Ev := l.getD j noEv
theorem evt_take (l : List Ev) (j : Nat) (h : j < l.length) : l.take (j + 1) = l.take j ++ [evt l j] := by
  rw [List.take_succ_eq_append_getElem h]; simp [evt, h]
theorem evs_get (l : List Ev) (j : Nat) (h : j < l.length) : (evs l)[j * 3]? = some (.int .i64 (evt l j).t) ∧ (evs l)[j * 3 + 1]? = some (.int .i64 (evt l j).k) ∧ (evs l)[j * 3 + 2]? = some (.bool (evt l j).d) := by
  induction l generalizing j with
  | nil => simp at h
  | cons e l ih =>
    cases j with
    | zero => simp [evs, evC, evt]
    | succ j =>
      have := ih j (by simpa using h)
      have e1 : ∀ i, (evs (e :: l))[(j + 1) * 3 + i]? = (evs l)[j * 3 + i]? := fun i => by
        rw [show (j + 1) * 3 + i = (j * 3 + i) + 3 by omega]
        simp [evs, evC]
      have e2 : evt (e :: l) (j + 1) = evt l j := by simp [evt]
      rw [e2]
      refine ⟨?_, ?_, ?_⟩
      · have := e1 0; simp only [Nat.add_zero] at this; rw [this]; exact (ih j (by simpa using h)).1
      · rw [e1 1]; exact (ih j (by simpa using h)).2.1
      · rw [e1 2]; exact (ih j (by simpa using h)).2.2
theorem Row.ev {w : World} {B : Nat} {A : Option Addr} {l : List Ev} (h : Row w B A (evs l)) {j : Nat} (hj : j < l.length) :
    ∃ b off, A = some ⟨b, off, none⟩ ∧ b < B ∧ w.cell? ⟨b, off + j * 3, none⟩ = some (.int .i64 (evt l j).t) ∧ w.cell? ⟨b, off + j * 3 + 1, none⟩ = some (.int .i64 (evt l j).k) ∧ w.cell? ⟨b, off + j * 3 + 2, none⟩ = some (.bool (evt l j).d) := by
  obtain ⟨b, off, e, hb, hc⟩ := h (fun e => by have := evs_length l; rw [e] at this; simp at this; omega)
  obtain ⟨e1, e2, e3⟩ := evs_get l j hj
  exact ⟨b, off, e, hb, hc _ _ e1, by rw [Nat.add_assoc]; exact hc _ _ e2, by rw [Nat.add_assoc]; exact hc _ _ e3⟩

/-- One event: the keys that are down, the last time. -/
def evStep (st : Option (Nat × Int)) (e : Ev) : Option (Nat × Int) :=
  match st with
  | none => none
  | some (down, last) => if last ≤ e.t ∧ e.t ≤ 999999 ∧ 0 ≤ e.k ∧ e.k ≤ 22 ∧ e.d ≠ down.testBit e.k.toNat then some (down ^^^ 2 ^ e.k.toNat, e.t) else none
def evRun (l : List Ev) : Option (Nat × Int) := l.foldl evStep (some (0, 0))
def evOk (l : List Ev) : Bool := (evRun l).isSome && decide (l.length ≤ 200)
theorem evRun_snoc (l : List Ev) (e : Ev) : evRun (l ++ [e]) = evStep (evRun l) e := by simp [evRun, List.foldl_append]
theorem evStep_none (l : List Ev) : l.foldl evStep none = none := by
  induction l with
  | nil => rfl
  | cons b t ih => rw [List.foldl_cons]; exact ih
theorem ev_take_none {l : List Ev} {k : Nat} (h : evRun (l.take k) = none) : evOk l = false := by
  have : evRun l = none := by
    unfold evRun at *
    rw [← List.take_append_drop k l, List.foldl_append, h, evStep_none]
  rw [evOk, this]
  rfl
theorem ev_long {l : List Ev} (h : 200 < l.length) : evOk l = false := by
  have : decide (l.length ≤ 200) = false := by simp; omega
  rw [evOk, this, Bool.and_false]
def EvIn (st : Option (Nat × Int)) : Prop := ∀ d t, st = some (d, t) → d < 2 ^ 23 ∧ 0 ≤ t ∧ t ≤ 999999
theorem ev_step_in (st : Option (Nat × Int)) (e : Ev) (ih : EvIn st) : EvIn (evStep st e) := by
  intro d t h
  match st, ih, h with
  | none, _, h => rw [evStep] at h; cases h
  | some (d', t'), ih, h =>
    obtain ⟨i1, i2, i3⟩ := ih d' t' rfl
    rw [evStep] at h
    split at h
    · rename_i hc
      simp only [Option.some.injEq, Prod.mk.injEq] at h
      obtain ⟨rfl, rfl⟩ := h
      refine ⟨Nat.xor_lt_two_pow i1 (Nat.pow_lt_pow_right (by omega) (by omega)), by omega, by omega⟩
    · cases h
theorem ev_in (l : List Ev) {d : Nat} {t : Int} (h : evRun l = some (d, t)) : d < 2 ^ 23 ∧ 0 ≤ t ∧ t ≤ 999999 :=
  fold_inv evStep EvIn ev_step_in l (some (0, 0)) (by intro d t h; simp only [Option.some.injEq, Prod.mk.injEq] at h; omega) d t h
theorem ev_last (l : List Ev) (e : Ev) {d : Nat} {t : Int} (h : evRun (l ++ [e]) = some (d, t)) : t = e.t := by
  rw [evRun_snoc] at h
  match hs : evRun l with
  | none => rw [hs, evStep] at h; cases h
  | some (d', t') =>
    rw [hs, evStep] at h
    split at h
    · simp only [Option.some.injEq, Prod.mk.injEq] at h
      exact h.2.symm
    · cases h
/-- What a valid list gives of each of its events. -/
theorem ev_valid {l : List Ev} (h : evOk l = true) : l.length ≤ 200 ∧ ∀ j, j < l.length → ∃ d t, evRun (l.take j) = some (d, t) ∧ t ≤ (evt l j).t ∧ (evt l j).t ≤ 999999 ∧ 0 ≤ (evt l j).k ∧ (evt l j).k ≤ 22 ∧ (evt l j).d ≠ d.testBit (evt l j).k.toNat ∧ evRun (l.take (j + 1)) = some (d ^^^ 2 ^ (evt l j).k.toNat, (evt l j).t) := by
  have hr : ∀ k, evRun (l.take k) ≠ none := fun k e => by rw [ev_take_none e] at h; cases h
  have hlen : l.length ≤ 200 := by
    refine Nat.not_lt.1 fun e => ?_
    rw [ev_long e] at h
    cases h
  refine ⟨hlen, fun j hj => ?_⟩
  match hs : evRun (l.take j), hr j with
  | some (d, t), _ =>
    have h1 := hr (j + 1)
    rw [evt_take l j hj, evRun_snoc, hs, evStep] at h1
    have h2 : evRun (l.take (j + 1)) = evStep (some (d, t)) (evt l j) := by rw [evt_take l j hj, evRun_snoc, hs]
    rw [evStep] at h2
    split at h1
    · rename_i hc
      rw [if_pos hc] at h2
      exact ⟨d, t, rfl, hc.1, hc.2.1, hc.2.2.1, hc.2.2.2.1, hc.2.2.2.2, h2⟩
    · exact absurd rfl h1

/-- Last-up mode: the keys that are down, the chord, the strokes, their times. -/
structure LU where
  down : Nat
  chord : Nat
  out : List Int
  times : List Int
def luStep (s : LU) (e : Ev) : LU :=
  if s.down ^^^ 2 ^ e.k.toNat = 0 then ⟨0, 0, s.out ++ [((s.chord ||| (s.down ^^^ 2 ^ e.k.toNat) : Nat) : Int)], s.times ++ [e.t]⟩
  else ⟨s.down ^^^ 2 ^ e.k.toNat, s.chord ||| (s.down ^^^ 2 ^ e.k.toNat), s.out, s.times⟩
def luRun (l : List Ev) : LU := l.foldl luStep ⟨0, 0, [], []⟩
theorem luRun_snoc (l : List Ev) (e : Ev) : luRun (l ++ [e]) = luStep (luRun l) e := by simp [luRun, List.foldl_append]
theorem snoc_ind {α : Type} {P : List α → Prop} (h0 : P []) (h1 : ∀ l a, P l → P (l ++ [a])) (l : List α) : P l := by
  have h : ∀ r : List α, P r.reverse := fun r => by
    induction r with
    | nil => exact h0
    | cons a r ih => rw [List.reverse_cons]; exact h1 _ _ ih
  have := h l.reverse
  rwa [List.reverse_reverse] at this
theorem evRun_init {l : List Ev} {e : Ev} {d : Nat} {t : Int} (h : evRun (l ++ [e]) = some (d, t)) : ∃ d' t', evRun l = some (d', t') ∧ d = d' ^^^ 2 ^ e.k.toNat ∧ e.d ≠ d'.testBit e.k.toNat := by
  rw [evRun_snoc] at h
  match hs : evRun l with
  | none => rw [hs, evStep] at h; cases h
  | some (d', t') =>
    rw [hs, evStep] at h
    split at h
    · rename_i hc
      simp only [Option.some.injEq, Prod.mk.injEq] at h
      exact ⟨d', t', rfl, h.1.symm, hc.2.2.2.2⟩
    · cases h
theorem lu_down (l : List Ev) : ∀ d t, evRun l = some (d, t) → (luRun l).down = d := by
  refine snoc_ind (P := fun l => ∀ d t, evRun l = some (d, t) → (luRun l).down = d) ?_ ?_ l
  · intro d t h
    simp only [evRun, List.foldl_nil, Option.some.injEq, Prod.mk.injEq] at h
    rw [← h.1]
    rfl
  · intro l e ih d t h
    obtain ⟨d', t', h1, h2, _⟩ := evRun_init h
    rw [luRun_snoc, luStep, ih d' t' h1]
    split
    · rename_i h0
      rw [h2, h0]
    · rw [h2]
theorem lu_sub (l : List Ev) : ∀ i, (luRun l).down.testBit i = true → (luRun l).chord.testBit i = true := by
  refine snoc_ind (P := fun l => ∀ i, (luRun l).down.testBit i = true → (luRun l).chord.testBit i = true) ?_ ?_ l
  · intro i h
    simp [luRun] at h
  · intro l e _ i h
    rw [luRun_snoc, luStep] at h ⊢
    split at h
    · simp at h
    · rename_i h0
      rw [if_neg h0]
      simp only [Nat.testBit_or] at h ⊢
      rw [h, Bool.or_true]
theorem chord_eq {down chord k : Nat} {d : Bool} (hsub : ∀ i, down.testBit i = true → chord.testBit i = true) (hd : d ≠ down.testBit k) : chord ||| (down ^^^ 2 ^ k) = if d then chord ||| 2 ^ k else chord := by
  apply Nat.eq_of_testBit_eq
  intro i
  have hs := hsub i
  by_cases e : k = i
  · subst e
    cases d <;> cases hdn : down.testBit k <;> simp_all [Nat.testBit_or, Nat.testBit_xor, Nat.testBit_two_pow_self]
  · cases d <;> cases hdn : down.testBit i <;> cases hc : chord.testBit i <;> simp_all [Nat.testBit_or, Nat.testBit_xor]
theorem lu_bd (l : List Ev) (hv : ∀ e ∈ l, e.k ≤ 22) : (luRun l).down < 2 ^ 23 ∧ (luRun l).chord < 2 ^ 23 ∧ (luRun l).out.length ≤ l.length ∧ (luRun l).times.length = (luRun l).out.length := by
  revert hv
  refine snoc_ind (P := fun l => (∀ e ∈ l, e.k ≤ 22) → (luRun l).down < 2 ^ 23 ∧ (luRun l).chord < 2 ^ 23 ∧ (luRun l).out.length ≤ l.length ∧ (luRun l).times.length = (luRun l).out.length) ?_ ?_ l
  · intro _
    simp [luRun]
  · intro l e ih hv
    obtain ⟨i1, i2, i3, i4⟩ := ih (fun e he => hv e (by simp [he]))
    have he := hv e (by simp)
    have h1 : (luRun l).down ^^^ 2 ^ e.k.toNat < 2 ^ 23 := Nat.xor_lt_two_pow i1 (Nat.pow_lt_pow_right (by omega) (by omega))
    rw [luRun_snoc, luStep]
    split
    · refine ⟨by simp, by simp, ?_, ?_⟩
      · simp; omega
      · simp; omega
    · refine ⟨h1, Nat.or_lt_two_pow i2 h1, ?_, i4⟩
      simp; omega

/-- First-up mode: the keys that are down, 'the event before went down', the strokes. -/
def fuStep (s : Nat × Bool × List Int) (e : Ev) : Nat × Bool × List Int :=
  (s.1 ^^^ 2 ^ e.k.toNat, e.d, if e.d = false ∧ s.2.1 = true then s.2.2 ++ [(s.1 : Int)] else s.2.2)
def fuRun (l : List Ev) : Nat × Bool × List Int := l.foldl fuStep (0, false, [])
theorem fuRun_snoc (l : List Ev) (e : Ev) : fuRun (l ++ [e]) = fuStep (fuRun l) e := by simp [fuRun, List.foldl_append]
theorem fu_down (l : List Ev) : ∀ d t, evRun l = some (d, t) → (fuRun l).1 = d := by
  refine snoc_ind (P := fun l => ∀ d t, evRun l = some (d, t) → (fuRun l).1 = d) ?_ ?_ l
  · intro d t h
    simp only [evRun, List.foldl_nil, Option.some.injEq, Prod.mk.injEq] at h
    rw [← h.1]
    rfl
  · intro l e ih d t h
    obtain ⟨d', t', h1, h2, _⟩ := evRun_init h
    rw [fuRun_snoc, fuStep, ih d' t' h1, h2]
theorem fu_len (l : List Ev) : (fuRun l).2.2.length ≤ l.length := by
  refine snoc_ind (P := fun l => (fuRun l).2.2.length ≤ l.length) ?_ ?_ l
  · simp [fuRun]
  · intro l e ih
    rw [fuRun_snoc, fuStep]
    simp only
    split <;> simp <;> omega
theorem fu_prev (l : List Ev) (e : Ev) : (fuRun (l ++ [e])).2.1 = e.d := by rw [fuRun_snoc]; rfl

/-- What a round of first-up mode meets. -/
theorem fu_round {l : List Ev} {j dn : Nat} {pv : Bool} {xs : List Int} (hv : evOk l = true) (hj : j < l.length) (h : fuRun (l.take j) = (dn, pv, xs)) :
    dn < 8388608 ∧ 0 ≤ (evt l j).k ∧ (evt l j).k ≤ 22 ∧ 0 ≤ (evt l j).t ∧ (evt l j).t ≤ 999999 ∧ (evt l j).d ≠ dn.testBit (evt l j).k.toNat ∧ fuRun (l.take (j + 1)) = fuStep (dn, pv, xs) (evt l j) ∧
    ((evt l j).d = false → ∃ i, j = i + 1 ∧ (evt l i).d = pv) ∧ xs.length ≤ j := by
  obtain ⟨h1, h2⟩ := ev_valid hv
  obtain ⟨d, t, e1, e2, e3, e4, e5, e6, e7⟩ := h2 j hj
  have hd : dn = d := by have := fu_down _ _ _ e1; rw [h] at this; exact this
  subst hd
  have hb := ev_in _ e1
  refine ⟨by omega, e4, e5, by omega, e3, e6, by rw [evt_take l j hj, fuRun_snoc, h], fun hf => ?_, ?_⟩
  · cases j with
    | zero =>
      simp only [evRun, List.take_zero, List.foldl_nil, Option.some.injEq, Prod.mk.injEq] at e1
      rw [← e1.1, Nat.zero_testBit, hf] at e6
      exact absurd rfl e6
    | succ i =>
      refine ⟨i, rfl, ?_⟩
      have := fu_prev (l.take i) (evt l i)
      rw [← evt_take l i (by omega), h] at this
      exact this.symm
  · have := fu_len (l.take j)
    rw [h] at this
    have h3 : (l.take j).length ≤ j := List.length_take_le _ _
    simp only at this
    omega
theorem ev_lt {l : List Ev} (hv : evOk l = true) : l.length ≤ 200 := (ev_valid hv).1
/-- The keys that are down at the end. -/
def downOf (l : List Ev) : Nat := match evRun l with | none => 0 | some (d, _) => d
end Go.Proofs.Ythnecaeljpaggaa
