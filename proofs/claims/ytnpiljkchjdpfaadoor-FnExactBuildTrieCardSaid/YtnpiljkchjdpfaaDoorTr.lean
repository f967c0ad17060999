/- Contracts on the notation of a translation: l5List, l5Text, FormatTranslation. Condition: texts no longer than 2^20. -/
import Derived.Test.YtnpiljkchjdpfaaDoorFmtA
import Derived.Test.YtnpiljkchjdpfaaDoorPAtoms
import Derived.Test.YtnpiljkchjdpfaaDoorJoinC
import Derived.Shelf.SlicesQ.IndexFunc
import Derived.Deep.QuietTactic
import Derived.BigQuiet
import Derived.Lib.Hide
namespace Go.Proofs.YtnpiljkchjdpfaaDoor
open Go.RowKit Go.Shelf
theorem bs_app2 (a b : ByteArray) : (a ++ b).data.toList = a.data.toList ++ b.data.toList := by simp
/-- An atom whose text is no longer than a text can be. -/
abbrev AtS : Type := { a : At // a.t.size ≤ 1048576 }
instance : Inhabited AtS := ⟨⟨noAt, by show (0 : Nat) ≤ _; omega⟩⟩
theorem atS_of (l : List At) (h : ∀ a ∈ l, a.t.size ≤ 1048576) : ∃ zs : List AtS, zs.map (·.1) = l := by
  induction l with
  | nil => exact ⟨[], rfl⟩
  | cons a r ih =>
    obtain ⟨zs, hz⟩ := ih (fun b hb => h b (by simp [hb]))
    exact ⟨⟨a, h a (by simp)⟩ :: zs, by simp [hz]⟩
theorem trOk_parts {l : List At} (hn : 0 < l.length) (h10 : inB (l.length : Int) 1 10 = true) (ha : l.all goodT = true) : trOk l = decide ((l.length : Int) - 1 + (sizesF l : Int) ≤ 60) := by
  have := trL_len l hn
  rw [trOk, h10, ha, Bool.eq_iff_iff]
  simp
  omega
theorem trOk_bad {l : List At} (ha : l.all goodT = false) : trOk l = false := by rw [trOk, ha]; simp
theorem trOk_len {l : List At} (h10 : inB (l.length : Int) 1 10 = false) : trOk l = false := by rw [trOk, h10]; simp

set_option maxHeartbeats 1000000 in
theorem l5List_any (A : Option Addr) (n c : Nat) (l : List At) (w : World) (hn : l.length = n) (hm : n ≤ maxLen) (hs : ∀ a ∈ l, a.t.size ≤ 1048576) (B : Nat) (hB : B ≤ w.heap.size) (hr : Row w B A (atoms l)) :
    Calls Tryd.prog 76 #[.slice A n c] w fun e w' => e = .returned (.bool (trOk l)) ∧ Below w.heap.size w w' := by
  unfold maxLen at hm
  have h1 := Lib.hid (l1In_any (n : Int) 1 10 w)
  rcases Bool.eq_false_or_eq_true (inB (n : Int) 1 10) with g | g
  · have h6 := in_bd g
    have hok := Lib.hid (fun ha => trOk_parts (l := l) (by omega) (by rw [hn]; exact g) ha)
    rw [g] at h1
    clear g
    go_enter Tryd.func76, Tryd.ntmps76
    go_wp2_with (go_at_call 77; refine h1.out.mono ?_; rintro e w' ⟨rfl, rfl⟩)
    clear h1
    go_loopw [3, 4] (fun q i wr => ∃ k : Nat, k ≤ n ∧ i = .int .i64 k ∧ q = .int .i64 ((n : Int) - 1 + (sizesF (l.take k) : Int)) ∧ sizesF (l.take k) ≤ 24 * k ∧ Hid ((l.take k).all goodT = true) ∧ Below w.heap.size w wr) (fun _ i _ => n - (intOf i).toNat)
    case atStart => exact ⟨0, by omega, rfl, by simp [sizesF], by simp [sizesF], by show _ = _; simp, Below.refl _ _⟩
    case round =>
      obtain ⟨k, hk, rfl, rfl, hz, ha, hbel⟩ := hrel
      have hsz := hbel.size
      by_cases hlt : k < n
      · obtain ⟨b, off, rfl, hb, hc1, hc2⟩ := (hr.below_le hbel hB).atm (j := k) (by omega)
        have hin := att_in l k (by omega)
        have ht := hs _ hin
        have hS := Lib.hid (allT_succ l k (by omega))
        have hbad := Lib.hid (allT_bad l k (by omega))
        have hT := Lib.hid (sizesF_take l k (by omega))
        have hG := Lib.hid (l5Good_any (att l k).k (att l k).t wr (by unfold maxLen; omega))
        have hbs : b < wr.heap.size := by omega
        rcases Bool.eq_false_or_eq_true (goodT (att l k)) with g2 | g2
        · have hF : (fmtT (att l k)).length ≤ 24 := fmtT_len g2
          have hF2 : (bs (fmtA (att l k).k (att l k).t.data.toList)).size = (fmtT (att l k)).length := rfl
          rw [show goodA (att l k).k (att l k).t.data.toList = true from g2] at hG
          have G2 := Lib.hid g2
          clear g2
          go_wp2_with fail
          refine hG.out.mono ?_
          rintro e w2 ⟨rfl, hb2⟩
          have d1 := (bcell hb2 b (off + k * 2) hbs).trans hc1
          have d2 := (bcell hb2 b (off + k * 2 + 1) hbs).trans hc2
          clear hc1 hc2
          have b2 := hbel.trans (hb2.mono hsz)
          go_wp2_with fail
          refine (l5Format_any (att l k).k (att l k).t w2 ht).mono ?_
          rintro e w3 ⟨rfl, hb3⟩
          go_wp2
          go_roundw
          case rel => exact ⟨k + 1, by omega, by go_num, by rw [hT.out]; go_num, by rw [hT.out]; omega, by show _ = _; rw [hS.out, ha.out, G2.out]; rfl, b2.trans (hb3.mono b2.size)⟩
          case measure => simp [intOf]; omega
        · rw [show goodA (att l k).k (att l k).t.data.toList = false from g2] at hG
          have hf := Lib.hid (trOk_bad (hbad.out g2))
          clear g2
          go_wp2_with fail
          refine hG.out.mono ?_
          rintro e w2 ⟨rfl, hb2⟩
          go_wp2
          go_ret
          exact ⟨ret_bool hf.out.symm, hbel.trans (hb2.mono hsz)⟩
      · obtain rfl : k = n := by omega
        have e : l.take k = l := List.take_of_length_le (by omega)
        rw [e] at hz ha ⊢
        have hf := Lib.hid (hok.out ha.out)
        rw [hn] at hf
        go_wp2
        go_ret
        exact ⟨ret_bool (by rw [hf.out]), hbel⟩
  · have hf := Lib.hid (trOk_len (l := l) (by rw [hn]; exact g))
    rw [g] at h1
    clear g
    go_enter Tryd.func76, Tryd.ntmps76
    go_wp2_with (go_at_call 77; refine h1.out.mono ?_; rintro e w' ⟨rfl, rfl⟩)
    go_ret
    exact ⟨ret_bool hf.out.symm, Below.refl _ _⟩

theorem trOk_impl {l : List At} (h10 : inB (l.length : Int) 1 10 = true) (ha : l.all goodT = true) : trOk l = !decide (60 < ((bs (trL l)).size : Int)) := by
  rw [trOk, h10, ha, bs_len, Bool.eq_iff_iff]
  simp
  omega
end Go.Proofs.YtnpiljkchjdpfaaDoor
