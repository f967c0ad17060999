/- Contracts on the notation of a translation: l5List, l5Text, FormatTranslation. Condition: texts no longer than 2^20. -/
import Derived.Test.YtkgphkpckcfihaaFmtA
import Derived.Test.YtkgphkpckcfihaaPAtoms
import Derived.Test.YtkgphkpckcfihaaJoinC
import Derived.Shelf.SlicesQ.IndexFunc
import Derived.Deep.QuietTactic
import Derived.BigQuiet
import Derived.Lib.Hide
namespace Go.Proofs.Ytkgphkpckcfihaa
open Go.RowKit Go.Shelf
def Try.lContQ_ren : Go.Shelf.Ren := ⟨fun | 8 => 40 | 6 => 47 | n => n, fun | 22 => 34 | 23 => 26 | 25 => 25 | 4 => 4 | 3 => 3 | 0 => 0 | n => n, fun | n => n⟩
theorem Try.lContQ : Go.Proofs.SlLaysH0.n8 Try.prog Try.lContQ_ren := {
  mixed := by kernel_rfl
  f6 := ⟨Try.f47.name, by decide, Try.func47.trans (congrArg some (by kernel_rfl))⟩
  f8 := ⟨Try.f40.name, by decide, Try.func40.trans (congrArg some (by kernel_rfl))⟩
  t0 := Try.underlying0
  a0 := Try.isAgg0
  z0 := Try.sizeOf0
  v0 := Try.zeroValue0
  t3 := Try.underlying3
  a3 := Try.isAgg3
  z3 := Try.sizeOf3
  v3 := Try.zeroValue3
  t4 := Try.underlying4
  a4 := Try.isAgg4
  z4 := Try.sizeOf4
  v4 := Try.zeroValue4
  t22 := Try.underlying34
  a22 := Try.isAgg34
  z22 := Try.sizeOf34
  v22 := Try.zeroValue34
  t25 := Try.underlying25
  a25 := Try.isAgg25
  z25 := Try.sizeOf25
  v25 := Try.zeroValue25 }

theorem bs_app2 (a b : ByteArray) : (a ++ b).data.toList = a.data.toList ++ b.data.toList := by simp
/-- An atom whose text is no longer than a text can be. -/
abbrev AtS : Type := { a : At // a.t.size ≤ 1048576 }
instance : Inhabited AtS := ⟨⟨noAt, by show (0 : Nat) ≤ _; omega⟩⟩
theorem atS_of (l : List At) (h : ∀ a ∈ l, a.t.size ≤ 1048576) : ∃ zs : List AtS, zs.map (·.1) = l := by
  induction l with
  | nil => exact ⟨[], rfl⟩
  | cons a r ih =>
    obtain ⟨zs, hz⟩ := ih (fun b hb => h b (by simp [hb]))
    exact ⟨⟨a, h a (by simp)⟩ :: zs, by simp [hz]⟩
theorem notGoodA_pred (B : Nat) (w : World) (hB : B < w.heap.size) (hcell : w.cell? ⟨B, 0, none⟩ = some (.func (.func 10) #[] #[])) :
    PredBelow Try.prog 41 #[.pointer (some ⟨B, 0, none⟩)] (fun x : AtS => .agg (atC x.1).toArray) (fun x => !goodT x.1) w := fun W x hb => by
  have hc : W.cell? ⟨B, 0, none⟩ = some (.func (.func 10) #[] #[]) := (hb.cell (p := ⟨B, 0, none⟩) hB).trans hcell
  have hBW : B < W.heap.size := Nat.lt_of_lt_of_le hB hb.size
  have hne : B ≠ W.heap.size := by omega
  obtain ⟨⟨k, t⟩, hx⟩ := x
  have hG := Lib.hid (fun W => implIsValidAtom_any k t W (by have : t.size ≤ 1048576 := hx; unfold maxLen; omega))
  show Calls Try.prog 41 #[.agg #[.int .i64 k, .string t], .pointer (some ⟨B, 0, none⟩)] W fun e w' => e = .returned (.bool (!goodA k t.data.toList)) ∧ _
  generalize goodA k t.data.toList = q at hG
  go_enter Try.func41, Try.ntmps41
  go_wp2_with (go_at_call 10; refine (hG.out _).mono ?_; rintro e w' ⟨rfl, hb2⟩)
  go_ret
  exact ⟨rfl, (hb.alloc hb.size _).trans (hb2.mono (by simp; have := hb.size; omega))⟩

theorem allT_any (A : Option Addr) (n c : Nat) (l : List At) (w : World) (hn : l.length = n) (h0 : 0 < n) (hle : n ≤ maxLen) (hs : ∀ a ∈ l, a.t.size ≤ 1048576) (B : Nat) (hB : B ≤ w.heap.size) (hr : Row w B A (atoms l)) :
    Calls Try.prog 32 #[.slice A n c, .func (.func 10) #[] #[]] w fun e w' => e = .returned (.bool (l.all goodT)) ∧ Below w.heap.size w w' := by
  have eg : ∀ args w, (callFunc 41 args).run Try.prog w = .ok (.enter 41 args) w := enters_of Try.func41 (by kernel_rfl) rfl
  obtain ⟨b, off, rfl, hb, _⟩ := hr.atm (j := 0) (by omega)
  obtain ⟨zs, hz⟩ := atS_of l hs
  have hzl : zs.length = n := by rw [← hn, ← hz, List.length_map]
  have hcon := AnyQ.slices_ContainsFunc Try.lContQ 2 Try.isAgg26 Try.sizeOf26 (fun x : AtS => atC x.1) (fun _ => rfl) (fun x => !goodT x.1) 41 #[.pointer (some ⟨w.heap.size, 0, none⟩)] eg b off n c zs (w.alloc (.cells #[.func (.func 10) #[] #[]] 25))
    (notGoodA_pred w.heap.size _ (by simp) (by simp)) (by omega) (by unfold maxLen at hle; omega) (by simp; omega) (fun j hj i v hi => by
      refine Lib.cell?_alloc_some _ ?_
      obtain ⟨b2, off2, e2, _, h1, h2⟩ := hr.atm (j := j) (by omega)
      injection e2 with e2
      injection e2 with e3 e4
      subst e3 e4
      have hv : att l j = (zs[j]!).1 := by
        subst hz
        simp [att, hj]
      rw [hv] at h1 h2
      generalize zs[j]! = y at hi h1 h2
      match i, hi with
      | 0, hi => simp [atC] at hi; rw [← hi]; exact h1
      | 1, hi => simp [atC] at hi; rw [← hi]; exact h2
      | i + 2, hi => simp [atC] at hi)
  rw [show (zs.take n).any (fun x => !goodT x.1) = !(l.all goodT) by rw [← hzl, List.take_length, ← hz, List.all_map, List.not_all_eq_any_not]; rfl] at hcon
  change Calls Try.prog 40 _ _ _ at hcon
  generalize l.all goodT = r at hcon ⊢
  clear hr hz
  go_enter Try.func32, Try.ntmps32
  go_wp2_with (go_at_call 40; refine hcon.mono ?_; rintro e w' ⟨rfl, hb'⟩)
  go_ret
  exact ⟨by simp, ((Below.refl _ w).alloc (Nat.le_refl _) _).trans (hb'.mono (by simp))⟩

theorem trOk_parts {l : List At} (hn : 0 < l.length) (h10 : inB (l.length : Int) 1 10 = true) (ha : l.all goodT = true) : trOk l = decide ((l.length : Int) - 1 + (sizesF l : Int) ≤ 60) := by
  have := trL_len l hn
  rw [trOk, h10, ha, Bool.eq_iff_iff]
  simp
  omega
theorem trOk_bad {l : List At} (ha : l.all goodT = false) : trOk l = false := by rw [trOk, ha]; simp
theorem trOk_len {l : List At} (h10 : inB (l.length : Int) 1 10 = false) : trOk l = false := by rw [trOk, h10]; simp

set_option maxHeartbeats 1000000 in
theorem l5List_any (A : Option Addr) (n c : Nat) (l : List At) (w : World) (hn : l.length = n) (hm : n ≤ maxLen) (hs : ∀ a ∈ l, a.t.size ≤ 1048576) (B : Nat) (hB : B ≤ w.heap.size) (hr : Row w B A (atoms l)) :
    Calls Try.prog 30 #[.slice A n c] w fun e w' => e = .returned (.bool (trOk l)) ∧ Below w.heap.size w w' := by
  unfold maxLen at hm
  have h1 := Lib.hid (l1In_any (n : Int) 1 10 w)
  rcases Bool.eq_false_or_eq_true (inB (n : Int) 1 10) with g | g
  · have h6 := in_bd g
    have hok := Lib.hid (fun ha => trOk_parts (l := l) (by omega) (by rw [hn]; exact g) ha)
    rw [g] at h1
    clear g
    go_enter Try.func30, Try.ntmps30
    go_wp2_with (go_at_call 39; refine h1.out.mono ?_; rintro e w' ⟨rfl, rfl⟩)
    clear h1
    go_loopw [3, 4] (fun q i wr => ∃ k : Nat, k ≤ n ∧ i = .int .i64 k ∧ q = .int .i64 ((n : Int) - 1 + (sizesF (l.take k) : Int)) ∧ sizesF (l.take k) ≤ 24 * k ∧ Hid ((l.take k).all goodT = true) ∧ Below w.heap.size w wr) (fun _ i _ => n - (intOf i).toNat)
    case atStart => exact ⟨0, by omega, rfl, by simp [sizesF], by simp [sizesF], by show _ = _; simp, Below.refl _ _⟩
    case round =>
      obtain ⟨k, hk, rfl, rfl, hz, ha, hbel⟩ := hrel
      have hsz := hbel.size
      by_cases hlt : k < n
      · obtain ⟨b, off, rfl, hb, hc1, hc2⟩ := (hr.below_le hbel hB).atm (j := k) (by omega)
        have hin := att_in l k (by omega)
        have ht := hs _ hin
        have hS := Lib.hid (allT_succ l k (by omega))
        have hbad := Lib.hid (allT_bad l k (by omega))
        have hT := Lib.hid (sizesF_take l k (by omega))
        have hG := Lib.hid (l5Good_any (att l k).k (att l k).t wr (by unfold maxLen; omega))
        have hbs : b < wr.heap.size := by omega
        rcases Bool.eq_false_or_eq_true (goodT (att l k)) with g2 | g2
        · have hF : (fmtT (att l k)).length ≤ 24 := fmtT_len g2
          have hF2 : (bs (fmtA (att l k).k (att l k).t.data.toList)).size = (fmtT (att l k)).length := rfl
          rw [show goodA (att l k).k (att l k).t.data.toList = true from g2] at hG
          have G2 := Lib.hid g2
          clear g2
          go_wp2_with fail
          refine hG.out.mono ?_
          rintro e w2 ⟨rfl, hb2⟩
          have d1 := (bcell hb2 b (off + k * 2) hbs).trans hc1
          have d2 := (bcell hb2 b (off + k * 2 + 1) hbs).trans hc2
          clear hc1 hc2
          have b2 := hbel.trans (hb2.mono hsz)
          go_wp2_with fail
          refine (l5Format_any (att l k).k (att l k).t w2 ht).mono ?_
          rintro e w3 ⟨rfl, hb3⟩
          go_wp2
          go_roundw
          case rel => exact ⟨k + 1, by omega, by go_num, by rw [hT.out]; go_num, by rw [hT.out]; omega, by show _ = _; rw [hS.out, ha.out, G2.out]; rfl, b2.trans (hb3.mono b2.size)⟩
          case measure => simp [intOf]; omega
        · rw [show goodA (att l k).k (att l k).t.data.toList = false from g2] at hG
          have hf := Lib.hid (trOk_bad (hbad.out g2))
          clear g2
          go_wp2_with fail
          refine hG.out.mono ?_
          rintro e w2 ⟨rfl, hb2⟩
          go_wp2
          go_ret
          exact ⟨ret_bool hf.out.symm, hbel.trans (hb2.mono hsz)⟩
      · obtain rfl : k = n := by omega
        have e : l.take k = l := List.take_of_length_le (by omega)
        rw [e] at hz ha ⊢
        have hf := Lib.hid (hok.out ha.out)
        rw [hn] at hf
        go_wp2
        go_ret
        exact ⟨ret_bool (by rw [hf.out]), hbel⟩
  · have hf := Lib.hid (trOk_len (l := l) (by rw [hn]; exact g))
    rw [g] at h1
    clear g
    go_enter Try.func30, Try.ntmps30
    go_wp2_with (go_at_call 39; refine h1.out.mono ?_; rintro e w' ⟨rfl, rfl⟩)
    go_ret
    exact ⟨ret_bool hf.out.symm, Below.refl _ _⟩

set_option maxHeartbeats 1000000 in
theorem l5Text_any (A : Option Addr) (n c : Nat) (l : List At) (w : World) (hn : l.length = n) (hle : n ≤ 10) (hg : ∀ a ∈ l, goodT a = true) (hs : ∀ a ∈ l, a.t.size ≤ 1048576) (B : Nat) (hB : B ≤ w.heap.size) (hr : Row w B A (atoms l)) :
    Calls Try.prog 31 #[.slice A n c] w fun e w' => e = .returned (.string (bs (trL l))) ∧ Below w.heap.size w w' := by
  go_enter Try.func31, Try.ntmps31
  go_wp2
  go_loopw [3, 4] (fun out i wr => ∃ k : Nat, ∃ o : ByteArray, k ≤ n ∧ i = .int .i64 k ∧ out = .string o ∧ o.size ≤ 25 * k ∧ Hid (o.data.toList = trL (l.take k)) ∧ Below w.heap.size w wr) (fun _ i _ => n - (intOf i).toNat)
  case atStart => exact ⟨0, _, by omega, rfl, rfl, Nat.le_refl 0, rfl, Below.refl _ _⟩
  case round =>
    obtain ⟨k, o, hk, rfl, rfl, hsz, ho, hbel⟩ := hrel
    have hs1 := hbel.size
    by_cases hlt : k < n
    · obtain ⟨b, off, rfl, hb, hc1, hc2⟩ := (hr.below_le hbel hB).atm (j := k) (by omega)
      have hin := att_in l k (by omega)
      have ht := hs _ hin
      have hf := fmtT_len (hg _ hin)
      have hfz : (bs (fmtA (att l k).k (att l k).t.data.toList)).size ≤ 24 := hf
      have hft : Hid ((bs (fmtA (att l k).k (att l k).t.data.toList)).data.toList = fmtT (att l k)) := rfl
      by_cases h0 : k = 0
      · subst h0
        simp only [Nat.zero_mul, Nat.add_zero] at hc1 hc2
        have he := Lib.hid (trL_one l (by omega))
        go_wp2_with fail
        refine (l5Format_any (att l 0).k (att l 0).t wr ht).mono ?_
        rintro e w1 ⟨rfl, hb1⟩
        go_wp2
        go_roundw
        case rel => exact ⟨1, _, by omega, by go_num, rfl, by rw [ByteArray.size_append]; omega, by show _ = _; rw [bs_app2, ho.out, he.out, hft.out]; rfl, hbel.trans (hb1.mono hs1)⟩
        case measure => simp [intOf]; omega
      · have he := Lib.hid (trL_succ l k (by omega) (by omega))
        have h0' : (0 : Int) < (k : Int) := by omega
        go_wp2_with fail
        refine (l5Format_any (att l k).k (att l k).t wr ht).mono ?_
        rintro e w1 ⟨rfl, hb1⟩
        go_wp2
        go_roundw
        case rel => exact ⟨k + 1, _, by omega, by go_num, rfl, by rw [ByteArray.size_append, ByteArray.size_append]; have : (⟨#[32]⟩ : ByteArray).size = 1 := rfl; omega, by show _ = _; rw [bs_app2, bs_app2, ho.out, he.out, hft.out], hbel.trans (hb1.mono hs1)⟩
        case measure => simp [intOf]; omega
    · obtain rfl : k = n := by omega
      have hf := Lib.hid (show o = bs (trL l) by rw [← hn, List.take_length] at ho; exact bs_of ho.out)
      go_wp2
      go_ret
      exact ⟨by rw [← hf.out]; rfl, hbel⟩

theorem specFmtTr_any (A : Option Addr) (n c : Nat) (l : List At) (w : World) (hn : l.length = n) (hm : n ≤ maxLen) (hs : ∀ a ∈ l, a.t.size ≤ 1048576) (B : Nat) (hB : B ≤ w.heap.size) (hr : Row w B A (atoms l)) :
    Calls Try.prog 14 #[.slice A n c] w fun e w' => e = .returned (.tuple #[.string (bs (trR l)), .bool (trOk l)]) ∧ Below w.heap.size w w' := by
  have hL := Lib.hid (l5List_any A n c l w hn hm hs B hB hr)
  rcases Bool.eq_false_or_eq_true (trOk l) with g | g
  · obtain ⟨h1, h2, h3, _⟩ := trOk_iff g
    have hR := Lib.hid (trR_yes g)
    rw [g] at hL ⊢
    clear g
    go_enter Try.func14, Try.ntmps14
    go_wp2_with fail
    refine hL.out.mono ?_
    rintro e w1 ⟨rfl, hb1⟩
    go_wp2_with fail
    refine (l5Text_any A n c l w1 hn (by omega) h3 hs B (Nat.le_trans hB hb1.size) (hr.below_le hb1 hB)).mono ?_
    rintro e w2 ⟨rfl, hb2⟩
    go_wp2
    go_ret2
    exact ⟨by rw [hR.out]; rfl, hb1.trans (hb2.mono hb1.size)⟩
  · have hR := Lib.hid (trR_no g)
    rw [g] at hL ⊢
    clear g
    go_enter Try.func14, Try.ntmps14
    go_wp2_with fail
    refine hL.out.mono ?_
    rintro e w1 ⟨rfl, hb1⟩
    go_wp2
    go_ret2
    exact ⟨by rw [hR.out]; rfl, hb1⟩

theorem trOk_impl {l : List At} (h10 : inB (l.length : Int) 1 10 = true) (ha : l.all goodT = true) : trOk l = !decide (60 < ((bs (trL l)).size : Int)) := by
  rw [trOk, h10, ha, bs_len, Bool.eq_iff_iff]
  simp
  omega
set_option maxHeartbeats 1000000 in
theorem implFmtTr_any (A : Option Addr) (n c : Nat) (l : List At) (w : World) (hn : l.length = n) (hm : n ≤ maxLen) (hs : ∀ a ∈ l, a.t.size ≤ 1048576) (B : Nat) (hB : B ≤ w.heap.size) (hr : Row w B A (atoms l)) :
    Calls Try.prog 16 #[.slice A n c] w fun e w' => e = .returned (.tuple #[.string (bs (trR l)), .bool (trOk l)]) ∧ Below w.heap.size w w' := by
  have h1 := Lib.hid (implIn_any (n : Int) 1 10 w)
  rcases Bool.eq_false_or_eq_true (inB (n : Int) 1 10) with g | g
  · have h6 := in_bd g
    have h2 := Lib.hid (allT_any A n c l w hn (by omega) hm hs B hB hr)
    rcases Bool.eq_false_or_eq_true (l.all goodT) with ga | ga
    · have hg : ∀ a ∈ l, goodT a = true := List.all_eq_true.1 ga
      have hok := Lib.hid (trOk_impl (l := l) (by rw [hn]; exact g) ga)
      rw [g] at h1
      rw [ga] at h2
      have hlen := Lib.hid (trL_len l (by omega))
      have hsf : sizesF l ≤ 24 * n := by
        have key : ∀ r : List At, (∀ a ∈ r, goodT a = true) → sizesF r ≤ 24 * r.length := fun r => by
          induction r with
          | nil => intro _; simp [sizesF]
          | cons a r ih =>
            intro h
            have i1 := ih (fun b hb => h b (by simp [hb]))
            have i2 := fmtT_len (h a (by simp))
            simp only [sizesF, List.map_cons, List.sum_cons, List.length_cons] at i1 ⊢
            omega
        have := key l hg
        omega
      clear g ga
      go_enter Try.func16, Try.ntmps16
      go_wp2_with first | (go_at_call 27; refine h1.out.mono ?_; rintro e w' ⟨rfl, rfl⟩) | (go_at_call 32; refine h2.out.mono ?_; rintro e w1 ⟨rfl, hb1⟩)
      clear h1 h2
      have hb1s := hb1.size
      have hra := hr.below_le hb1 hB
      go_loopw [4, 6, 20] (fun v _ i wr => ∃ k : Nat, k ≤ n ∧ i = .int .i64 k ∧ wr.ownsRow w1.heap.size 9 1 v k (strs (wordsT (l.take k))) ∧ Below w1.heap.size w1 wr) (fun _ _ i _ => n - (intOf i).toNat)
      case atStart => exact ⟨0, by omega, rfl, World.ownsRow_made _ _ _ (Nat.le_refl _) (by unfold maxLen; omega) (by simp), (Below.refl _ _).alloc (Nat.le_refl _) _⟩
      case round =>
        obtain ⟨k, hk, rfl, hown, hbel⟩ := hrel
        have hsz := hbel.size
        by_cases hlt : k < n
        · obtain ⟨b, off, rfl, hb, hc1, hc2⟩ := (hra.below_le hbel (by omega)).atm (j := k) (by omega)
          have hin := att_in l k (by omega)
          have ht := hs _ hin
          have hw := Lib.hid (wordsT_succ l k (by omega))
          go_wp2_with fail
          refine (notaA_any (att l k).k (att l k).t _ ht).mono ?_
          rintro e w2 ⟨rfl, hb2⟩
          have b2 := (hbel.alloc hsz _).trans (hb2.mono (by simp; omega))
          have ho2 := own_below (hown.alloc _) hb2 (Nat.le_refl _)
          have s2 := b2.size
          go_wp2_with (at_builtin; refine wpList_app1 (.string (bs (fmtA (att l k).k (att l k).t.data.toList))) strT b2 ho2 rfl (Nat.le_refl _) s2 (by omega) (by decide) rfl (.tmp 24) (.tmp 27) rfl rfl rfl ?_; intro v3 w3 ho3 b3 _ _)
          go_roundw
          case rel => exact ⟨k + 1, by omega, by go_num, by rw [hw.out]; simpa [strs, fmtT] using ho3, b3⟩
          case measure => simp [intOf]; omega
        · obtain rfl : k = n := by omega
          rw [← hn, List.take_length, hn] at hown
          obtain ⟨A1, c1, rfl, _⟩ := own_slice hown
          have hj := join_any A1 k c1 _ (wordsT l) (bs [32]) wr (by simp [wordsT, hn]) (by omega) (by omega) hown (by rw [wordsT_join, bs_toList]; show (trL l).length ≤ _; have := hlen.out; omega)
          rw [wordsT_join, bs_toList] at hj
          have hj2 := Lib.hid hj
          clear hj
          go_wp2_with fail
          refine hj2.out.mono ?_
          rintro e w3 ⟨rfl, hb3⟩
          have bend := (hb1.trans (hbel.mono hb1s)).trans (hb3.mono (Nat.le_trans hb1s hsz))
          rcases Bool.eq_false_or_eq_true (decide (60 < ((bs (trL l)).size : Int))) with g60 | g60
          · have hf := Lib.hid (show trOk l = false by rw [hok.out, g60]; rfl)
            have hR := Lib.hid (trR_no hf.out)
            have g60' : decide (60 < ((bs (Lib.join (List.map fmtT l) [32])).size : Int)) = true := g60
            go_wp2
            go_ret2
            exact ⟨ret_stb (by rw [hR.out] <;> rfl) hf.out.symm, bend⟩
          · have hf := Lib.hid (show trOk l = true by rw [hok.out, g60]; rfl)
            have hR := Lib.hid (trR_yes hf.out)
            have g60' : decide (60 < ((bs (Lib.join (List.map fmtT l) [32])).size : Int)) = false := g60
            go_wp2
            go_ret2
            exact ⟨ret_stb (by rw [hR.out] <;> rfl) hf.out.symm, bend⟩
    · have hf := Lib.hid (trOk_bad ga)
      have hR := Lib.hid (trR_no hf.out)
      rw [g] at h1
      rw [ga] at h2
      clear g ga
      go_enter Try.func16, Try.ntmps16
      go_wp2_with first | (go_at_call 27; refine h1.out.mono ?_; rintro e w' ⟨rfl, rfl⟩) | (go_at_call 32; refine h2.out.mono ?_; rintro e w1 ⟨rfl, hb1⟩)
      go_ret2
      exact ⟨ret_stb (by rw [hR.out] <;> rfl) hf.out.symm, hb1⟩
  · have hf := Lib.hid (trOk_len (l := l) (by rw [hn]; exact g))
    have hR := Lib.hid (trR_no hf.out)
    rw [g] at h1
    clear g
    go_enter Try.func16, Try.ntmps16
    go_wp2_with (go_at_call 27; refine h1.out.mono ?_; rintro e w' ⟨rfl, rfl⟩)
    go_ret2
    exact ⟨ret_stb (by rw [hR.out] <;> rfl) hf.out.symm, Below.refl _ _⟩
end Go.Proofs.Ytkgphkpckcfihaa
