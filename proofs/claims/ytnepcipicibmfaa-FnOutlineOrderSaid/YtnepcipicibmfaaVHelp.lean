/- Contracts of the laws' helpers vInts, vCut. Condition: the bytes are at most 2^20. -/
import Derived.Test.YtnepcipicibmfaaOutl2
import Derived.Test.YtnepcipicibmfaaCur
import Derived.Test.YtnepcipicibmfaaMem2
namespace Go.Proofs.Ytnepcipicibmfaa
open Go.RowKit Go.Shelf

set_option maxHeartbeats 400000 in
theorem vInts_any (A A' : Option Addr) (n m c c' : Nat) (xs ys : List Int) (w : World) (hx : xs.length = n) (hy : ys.length = m) (hn : n ≤ maxLen) (hm : m ≤ maxLen) (B : Nat) (hr : Row w B A (ints xs)) (hr' : Row w B A' (ints ys)) :
    Calls Try.prog 27 #[.slice A n c, .slice A' m c'] w fun e w' => e = .returned (.bool (xs == ys)) ∧ ∃ k, w' = w.drewN k := by
  unfold maxLen at hn hm
  by_cases hnm : n = m
  · subst hnm
    go_enter Try.func27, Try.ntmps27
    go_wp2
    go_loopw [5] (fun i wr => ∃ k : Nat, k ≤ n ∧ i = .int .i64 k ∧ xs.take k = ys.take k ∧ ∃ m, wr = w.drewN m) (fun i _ => n - (intOf i).toNat)
    case atStart => exact ⟨0, by omega, rfl, rfl, 0, rfl⟩
    case round =>
      obtain ⟨k, hk, rfl, ht, m, rfl⟩ := hrel
      by_cases hlt : k < n
      · obtain ⟨b, off, rfl, hb, hc⟩ := hr.int (k := k) (by omega)
        obtain ⟨b', off', rfl, hb', hc'⟩ := hr'.int (k := k) (by omega)
        have h1 : (0 : Int) ≤ (k : Int) := by omega
        have h2 : (k : Int) < (n : Int) := by omega
        by_cases he : elt xs k = elt ys k
        · have H := Lib.hid (takes_succ (by omega) (by omega) ht he)
          rw [← he] at hc'
          clear ht he
          go_wp2
          go_quiet (fail)
          go_wp2
          go_roundw
          case rel => exact ⟨k + 1, by omega, by go_num, H.out, _, rfl⟩
          case measure => simp [intOf]; omega
        · have H := Lib.hid (ne_of_elt k he)
          have he' : (elt xs k == elt ys k) = false := by simpa using he
          clear ht he
          go_wp2
          go_quiet (fail)
          go_wp2
          go_ret
          exact ⟨ret_bool H.out.symm, _, World.drewN_drewN ..⟩
      · obtain rfl : k = n := by omega
        have H := Lib.hid (eq_of_takes hx hy ht)
        clear ht
        go_wp2
        go_ret
        exact ⟨ret_bool H.out.symm, m, rfl⟩
  · have H := Lib.hid (ne_of_len (xs := xs) (ys := ys) (by omega))
    have hd : ((n : Int) == (m : Int)) = false := by simp; omega
    go_enter Try.func27, Try.ntmps27
    go_wp2
    go_ret
    exact ⟨ret_bool H.out.symm, 0, rfl⟩


theorem byteT : ElemT Try.prog 35 5 (.int .u8 0) 1 1 := ⟨Try.underlying35, by kernel_rfl, rfl, by decide⟩

theorem code_of_own {w : World} {A : Option Addr} {n m c base : Nat} (l : List Int) (k : Int) (hk : (Lit.int .u8 k).wf = true) (h : ∀ x ∈ l, (Lit.int .u8 x).wf = true) (hl : l.length = m) (hm : m + 1 = n) (hn : n ≤ 1048576)
    (ho : w.ownsRow base 5 1 (.slice A n c) n (l.map (Value.int .u8) ++ [.int .u8 k])) : Code w A n :=
  ⟨l ++ [k], by simp [hl, hm], hn, fun x hx => by rcases List.mem_append.1 hx with g | g; exact h x g; simp at g; rw [g]; exact hk, by
    have := Row.of_own ho
    rwa [List.map_append]⟩
theorem bytes_one (l : List Int) : ∀ u ∈ l.map (Value.int .u8), u.oneCell' = true := by
  intro u hu
  obtain ⟨_, _, rfl⟩ := List.mem_map.1 hu
  rfl

set_option maxHeartbeats 2000000 in
theorem vCut_any (A : Option Addr) (n c : Nat) (w : World) (h : Code w A n) (hm : n ≤ 65536) (hnc : n ≤ c) (hcm : c ≤ maxLen) (hno : A = none → c = 0) :
    Calls Try.prog 26 #[.slice A n c, .int .i64 3] w fun e w' => ∃ A' n' c', e = .returned (.slice A' n' c') ∧ Code w' A' n' ∧ n' ≤ 65540 ∧ Below w.heap.size w w' := by
  obtain ⟨l, hl, hle, hwf, hr⟩ := h
  unfold maxLen at hcm
  by_cases h3 : 3 ≤ n
  · obtain ⟨b, off, rfl, hb, hcell⟩ := hr (by intro e; rw [List.map_eq_nil_iff] at e; subst e; simp at hl; omega)
    have hg : decide ((n : Int) < 3) = false := by simp; omega
    by_cases hc3 : c = 3
    · obtain rfl : n = 3 := by omega
      subst hc3
      have r1 := ((Row.nil : Row w w.heap.size (some ⟨b, off, none⟩) (([] : List Int).map (Value.int .u8)))).grown (World.grownBy_alloc w (.cells #[] 5) none) (Nat.le_refl _) (fun g e => by cases e)
      go_enter Try.func26, Try.ntmps26
      go_wp2_with first | (at_builtin; refine wpList_appRow byteT ((Below.refl _ w).alloc (Nat.le_refl _) _) (World.ownsRow_made _ _ _ (Nat.le_refl _) (by unfold maxLen; omega) (by simp)) (some ⟨b, off, none⟩) 0 0 (([] : List Int).map (Value.int .u8)) rfl r1 (bytes_one _) (Nat.le_refl _) (by simp) (by omega) (by decide) rfl (.tmp 11) (.tmp 14) rfl rfl rfl ?_; intro v1 w1 ho1 b1 _ _) | (at_builtin; refine wpList_app1 (.int .u8 3) byteT b1 ho1 rfl (Nat.le_refl _) b1.size (by omega) (by decide) rfl (.tmp 15) (.tmp 18) rfl rfl rfl ?_; intro v2 w2 ho2 b2 _ _)
      obtain ⟨A2, c2, rfl, _⟩ := own_slice ho2
      go_ret
      first | exact ⟨A2, _, c2, rfl, code_of_own [] 3 (by decide) (by simp) rfl (by first | omega | simp) (by omega) (by simpa using ho2), by omega, b2⟩ | exact ⟨A2, _, ⟨c2, rfl⟩, code_of_own [] 3 (by decide) (by simp) rfl (by first | omega | simp) (by omega) (by simpa using ho2), by omega, b2⟩
    · have hrow : Row w w.heap.size (some ⟨b, off + 3, none⟩) ((l.drop 3).map (Value.int .u8)) := by
        have := hr.drop 3
        rwa [Option.map_some, ← List.map_drop, show (⟨b, off, none⟩ : Addr).add 3 = ⟨b, off + 3, none⟩ from rfl] at this
      have hwf' : ∀ x ∈ l.drop 3, (Lit.int .u8 x).wf = true := fun x hx => hwf x (List.mem_of_mem_drop hx)
      have hld : (l.drop 3).length = n - 3 := by simp [hl]
      have r1 := (hrow).grown (World.grownBy_alloc w (.cells #[] 5) none) (Nat.le_refl _) (fun g e => by cases e)
      go_enter Try.func26, Try.ntmps26
      go_wp2_with first | (at_builtin; refine wpList_appRow byteT ((Below.refl _ w).alloc (Nat.le_refl _) _) (World.ownsRow_made _ _ _ (Nat.le_refl _) (by unfold maxLen; omega) (by simp)) (some ⟨b, off + 3, none⟩) (n - 3) (c - 3) ((l.drop 3).map (Value.int .u8)) (by simp [hl]) r1 (bytes_one _) (Nat.le_refl _) (by simp) (by omega) (by decide) rfl (.tmp 11) (.tmp 14) rfl rfl rfl ?_; intro v1 w1 ho1 b1 _ _) | (at_builtin; refine wpList_app1 (.int .u8 3) byteT b1 ho1 rfl (Nat.le_refl _) b1.size (by omega) (by decide) rfl (.tmp 15) (.tmp 18) rfl rfl rfl ?_; intro v2 w2 ho2 b2 _ _)
      obtain ⟨A2, c2, rfl, _⟩ := own_slice ho2
      go_ret
      first | exact ⟨A2, _, c2, rfl, code_of_own (l.drop 3) 3 (by decide) hwf' hld (by omega) (by omega) (by simpa using ho2), by omega, b2⟩ | exact ⟨A2, _, ⟨c2, rfl⟩, code_of_own (l.drop 3) 3 (by decide) hwf' hld (by omega) (by omega) (by simpa using ho2), by omega, b2⟩
  · have hn : n = 0 ∨ n = 1 ∨ n = 2 := by omega
    cases A with
    | none =>
      have h0 : n = 0 := by rcases hn with h | h | h; exact h; all_goals (have := hno rfl; omega)
      subst h0
      obtain rfl := hno rfl
      have r1 := ((Row.nil : Row w w.heap.size none (([] : List Int).map (Value.int .u8)))).grown (World.grownBy_alloc w (.cells #[] 5) none) (Nat.le_refl _) (fun g e => by cases e)
      go_enter Try.func26, Try.ntmps26
      go_wp2_with first | (at_builtin; refine wpList_appRow byteT ((Below.refl _ w).alloc (Nat.le_refl _) _) (World.ownsRow_made _ _ _ (Nat.le_refl _) (by unfold maxLen; omega) (by simp)) none 0 0 (([] : List Int).map (Value.int .u8)) rfl r1 (bytes_one _) (Nat.le_refl _) (by simp) (by omega) (by decide) rfl (.tmp 11) (.tmp 14) rfl rfl rfl ?_; intro v1 w1 ho1 b1 _ _) | (at_builtin; refine wpList_app1 (.int .u8 0) byteT b1 ho1 rfl (Nat.le_refl _) b1.size (by omega) (by decide) rfl (.tmp 15) (.tmp 18) rfl rfl rfl ?_; intro v2 w2 ho2 b2 _ _)
      obtain ⟨A2, c2, rfl, _⟩ := own_slice ho2
      go_ret
      first | exact ⟨A2, _, c2, rfl, code_of_own [] 0 (by decide) (by simp) rfl (by first | omega | simp) (by omega) (by simpa using ho2), by omega, b2⟩ | exact ⟨A2, _, ⟨c2, rfl⟩, code_of_own [] 0 (by decide) (by simp) rfl (by first | omega | simp) (by omega) (by simpa using ho2), by omega, b2⟩
    | some a =>
      rcases hn with rfl | rfl | rfl
      · have r1 := ((Row.nil : Row w w.heap.size (some a) (([] : List Int).map (Value.int .u8)))).grown (World.grownBy_alloc w (.cells #[] 5) none) (Nat.le_refl _) (fun g e => by cases e)
        go_enter Try.func26, Try.ntmps26
        go_wp2_with first | (at_builtin; refine wpList_appRow byteT ((Below.refl _ w).alloc (Nat.le_refl _) _) (World.ownsRow_made _ _ _ (Nat.le_refl _) (by unfold maxLen; omega) (by simp)) (some a) 0 c (([] : List Int).map (Value.int .u8)) rfl r1 (bytes_one _) (Nat.le_refl _) (by simp) (by omega) (by decide) rfl (.tmp 11) (.tmp 14) rfl rfl rfl ?_; intro v1 w1 ho1 b1 _ _) | (at_builtin; refine wpList_app1 (.int .u8 0) byteT b1 ho1 rfl (Nat.le_refl _) b1.size (by omega) (by decide) rfl (.tmp 15) (.tmp 18) rfl rfl rfl ?_; intro v2 w2 ho2 b2 _ _)
        obtain ⟨A2, c2, rfl, _⟩ := own_slice ho2
        go_ret
        first | exact ⟨A2, _, c2, rfl, code_of_own [] 0 (by decide) (by simp) rfl (by first | omega | simp) (by omega) (by simpa using ho2), by omega, b2⟩ | exact ⟨A2, _, ⟨c2, rfl⟩, code_of_own [] 0 (by decide) (by simp) rfl (by first | omega | simp) (by omega) (by simpa using ho2), by omega, b2⟩
      · obtain ⟨b, off, rfl, hb, hcell⟩ : ∃ b off, a = ⟨b, off, none⟩ ∧ b < w.heap.size ∧ True := by
          obtain ⟨b, off, e, hb, _⟩ := hr (by intro e; rw [List.map_eq_nil_iff] at e; subst e; simp at hl)
          cases e
          exact ⟨b, off, rfl, hb, trivial⟩
        by_cases hc0 : c = 1
        · subst hc0
          have r1 := ((Row.nil : Row w w.heap.size (some ⟨b, off, none⟩) (([] : List Int).map (Value.int .u8)))).grown (World.grownBy_alloc w (.cells #[] 5) none) (Nat.le_refl _) (fun g e => by cases e)
          go_enter Try.func26, Try.ntmps26
          go_wp2_with first | (at_builtin; refine wpList_appRow byteT ((Below.refl _ w).alloc (Nat.le_refl _) _) (World.ownsRow_made _ _ _ (Nat.le_refl _) (by unfold maxLen; omega) (by simp)) (some ⟨b, off, none⟩) 0 0 (([] : List Int).map (Value.int .u8)) rfl r1 (bytes_one _) (Nat.le_refl _) (by simp) (by omega) (by decide) rfl (.tmp 11) (.tmp 14) rfl rfl rfl ?_; intro v1 w1 ho1 b1 _ _) | (at_builtin; refine wpList_app1 (.int .u8 1) byteT b1 ho1 rfl (Nat.le_refl _) b1.size (by omega) (by decide) rfl (.tmp 15) (.tmp 18) rfl rfl rfl ?_; intro v2 w2 ho2 b2 _ _)
          obtain ⟨A2, c2, rfl, _⟩ := own_slice ho2
          go_ret
          first | exact ⟨A2, _, c2, rfl, code_of_own [] 1 (by decide) (by simp) rfl (by first | omega | simp) (by omega) (by simpa using ho2), by omega, b2⟩ | exact ⟨A2, _, ⟨c2, rfl⟩, code_of_own [] 1 (by decide) (by simp) rfl (by first | omega | simp) (by omega) (by simpa using ho2), by omega, b2⟩
        · have r1 := ((Row.nil : Row w w.heap.size (some ⟨b, off + 1, none⟩) (([] : List Int).map (Value.int .u8)))).grown (World.grownBy_alloc w (.cells #[] 5) none) (Nat.le_refl _) (fun g e => by cases e)
          go_enter Try.func26, Try.ntmps26
          go_wp2_with first | (at_builtin; refine wpList_appRow byteT ((Below.refl _ w).alloc (Nat.le_refl _) _) (World.ownsRow_made _ _ _ (Nat.le_refl _) (by unfold maxLen; omega) (by simp)) (some ⟨b, off + 1, none⟩) 0 (c - 1) (([] : List Int).map (Value.int .u8)) rfl r1 (bytes_one _) (Nat.le_refl _) (by simp) (by omega) (by decide) rfl (.tmp 11) (.tmp 14) rfl rfl rfl ?_; intro v1 w1 ho1 b1 _ _) | (at_builtin; refine wpList_app1 (.int .u8 1) byteT b1 ho1 rfl (Nat.le_refl _) b1.size (by omega) (by decide) rfl (.tmp 15) (.tmp 18) rfl rfl rfl ?_; intro v2 w2 ho2 b2 _ _)
          obtain ⟨A2, c2, rfl, _⟩ := own_slice ho2
          go_ret
          first | exact ⟨A2, _, c2, rfl, code_of_own [] 1 (by decide) (by simp) rfl (by first | omega | simp) (by omega) (by simpa using ho2), by omega, b2⟩ | exact ⟨A2, _, ⟨c2, rfl⟩, code_of_own [] 1 (by decide) (by simp) rfl (by first | omega | simp) (by omega) (by simpa using ho2), by omega, b2⟩
      · obtain ⟨b, off, rfl, hb, hcell⟩ : ∃ b off, a = ⟨b, off, none⟩ ∧ b < w.heap.size ∧ True := by
          obtain ⟨b, off, e, hb, _⟩ := hr (by intro e; rw [List.map_eq_nil_iff] at e; subst e; simp at hl)
          cases e
          exact ⟨b, off, rfl, hb, trivial⟩
        by_cases hc0 : c = 2
        · subst hc0
          have r1 := ((Row.nil : Row w w.heap.size (some ⟨b, off, none⟩) (([] : List Int).map (Value.int .u8)))).grown (World.grownBy_alloc w (.cells #[] 5) none) (Nat.le_refl _) (fun g e => by cases e)
          go_enter Try.func26, Try.ntmps26
          go_wp2_with first | (at_builtin; refine wpList_appRow byteT ((Below.refl _ w).alloc (Nat.le_refl _) _) (World.ownsRow_made _ _ _ (Nat.le_refl _) (by unfold maxLen; omega) (by simp)) (some ⟨b, off, none⟩) 0 0 (([] : List Int).map (Value.int .u8)) rfl r1 (bytes_one _) (Nat.le_refl _) (by simp) (by omega) (by decide) rfl (.tmp 11) (.tmp 14) rfl rfl rfl ?_; intro v1 w1 ho1 b1 _ _) | (at_builtin; refine wpList_app1 (.int .u8 2) byteT b1 ho1 rfl (Nat.le_refl _) b1.size (by omega) (by decide) rfl (.tmp 15) (.tmp 18) rfl rfl rfl ?_; intro v2 w2 ho2 b2 _ _)
          obtain ⟨A2, c2, rfl, _⟩ := own_slice ho2
          go_ret
          first | exact ⟨A2, _, c2, rfl, code_of_own [] 2 (by decide) (by simp) rfl (by first | omega | simp) (by omega) (by simpa using ho2), by omega, b2⟩ | exact ⟨A2, _, ⟨c2, rfl⟩, code_of_own [] 2 (by decide) (by simp) rfl (by first | omega | simp) (by omega) (by simpa using ho2), by omega, b2⟩
        · have r1 := ((Row.nil : Row w w.heap.size (some ⟨b, off + 2, none⟩) (([] : List Int).map (Value.int .u8)))).grown (World.grownBy_alloc w (.cells #[] 5) none) (Nat.le_refl _) (fun g e => by cases e)
          go_enter Try.func26, Try.ntmps26
          go_wp2_with first | (at_builtin; refine wpList_appRow byteT ((Below.refl _ w).alloc (Nat.le_refl _) _) (World.ownsRow_made _ _ _ (Nat.le_refl _) (by unfold maxLen; omega) (by simp)) (some ⟨b, off + 2, none⟩) 0 (c - 2) (([] : List Int).map (Value.int .u8)) rfl r1 (bytes_one _) (Nat.le_refl _) (by simp) (by omega) (by decide) rfl (.tmp 11) (.tmp 14) rfl rfl rfl ?_; intro v1 w1 ho1 b1 _ _) | (at_builtin; refine wpList_app1 (.int .u8 2) byteT b1 ho1 rfl (Nat.le_refl _) b1.size (by omega) (by decide) rfl (.tmp 15) (.tmp 18) rfl rfl rfl ?_; intro v2 w2 ho2 b2 _ _)
          obtain ⟨A2, c2, rfl, _⟩ := own_slice ho2
          go_ret
          first | exact ⟨A2, _, c2, rfl, code_of_own [] 2 (by decide) (by simp) rfl (by first | omega | simp) (by omega) (by simpa using ho2), by omega, b2⟩ | exact ⟨A2, _, ⟨c2, rfl⟩, code_of_own [] 2 (by decide) (by simp) rfl (by first | omega | simp) (by omega) (by simpa using ho2), by omega, b2⟩
end Go.Proofs.Ytnepcipicibmfaa
