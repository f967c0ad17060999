/- The walk of the law FnAtoms. No condition. -/
import Derived.Test.YtkgphkpckcfihaaDoorCurAtom
import Derived.Test.YtkgphkpckcfihaaDoorCurStroke
namespace Go.Proofs.YtkgphkpckcfihaaDoor
open Go.RowKit

theorem tsq_same (a : ByteArray) : (a.toList == a.toList) = true := by simp
/-- What the law's two readings give. -/
theorem atoms_way (k : Int) (t : ByteArray) : goodA k t.data.toList = true → paOk (faR k t.data.toList) = true ∧ paK (faR k t.data.toList) = k ∧ bs (paT (faR k t.data.toList)) = t := fun h => by
  rw [faR_yes h]
  obtain ⟨h1, h2, h3⟩ := paOk_fmt h
  exact ⟨h1, h2, by rw [h3, bs_self]⟩
theorem atoms_back (u : ByteArray) : paOk u.data.toList = true → goodA (paK u.data.toList) (paT u.data.toList) = true ∧ bs (faR (paK u.data.toList) (paT u.data.toList)) = u := fun h => by
  obtain ⟨h1, h2⟩ := paOk_in h
  rw [faR_yes h1, h2, bs_self]
  exact ⟨h1, rfl⟩
set_option maxRecDepth 100000 in
set_option maxHeartbeats 4000000 in
theorem lawAtoms (A : Option Addr) (n c : Nat) (w : World) (hn : n ≤ maxLen) (hcode : n ≤ 65536 → Code w A n) : Calls Tryd.prog 4 #[.slice A n c] w fun e w' => e = .returned (.bool true) ∧ Below w.heap.size w w' := by
  by_cases hb : 65536 < n
  · have hd : decide (65536 < n) = true := by simpa using hb
    go_enter Tryd.func4, Tryd.ntmps4
    go_wp2_with (go_at_call 10; refine (vBig_any A n c _ hn).mono ?_; rintro e w' ⟨rfl, rfl⟩)
    go_ret
    exact ⟨rfl, Below.refl _ _⟩
  · have hd : decide (65536 < n) = false := by simpa using hb
    have hc := hcode (by omega)
    go_enter Tryd.func4, Tryd.ntmps4
    go_wp2_with fail
    refine (vBig_any A n c w hn).mono ?_
    rintro e w' ⟨rfl, rfl⟩
    go_wp2_with fail
    refine (drawFormatAtom_any A n c w hc).mono ?_
    rintro e w1 ⟨k, t, rfl, ht, b1⟩
    have o1 := ownP_new w1 (.int .i64 k) (.string t)
    have b1 := b1.alloc b1.size (.cells #[.int .i64 k, .string t] 23)
    have hF := Lib.hid (fun W => implFormatAtom_any k t W (by omega))
    have hFs := Lib.hid (fun W => specFormatAtom_any k t W (by omega))
    have hV := Lib.hid (fun W => implIsValidAtom_any k t W (by unfold maxLen; omega))
    have way := Lib.hid (atoms_way k t)
    have hfz := fmtA_sz k t (by omega)
    have hB := Lib.hid (fun W => implParseAtom_any (bs (faR k t.data.toList)) W (by rw [bs_len]; have h1 := fmtA_len k t.data.toList; have := bs_size' t; unfold faR; split <;> simp; omega))
    rw [bs_toList] at hB
    generalize faR k t.data.toList = fr at hF hFs hB way hfz
    generalize goodA k t.data.toList = q at hF hFs hV way
    have hs1 := tsq_same (bs fr)
    have hs2 := tsq_same t
    have hqq : (q == q) = true := by cases q <;> rfl
    go_wp2_with fail
    refine (hF.out _).mono ?_
    rintro e w2 ⟨rfl, hb2⟩
    have b2 := b1.trans (hb2.mono b1.size)
    have o2 := o1.below hb2 (Nat.le_refl _)
    obtain ⟨a0, a1, a2, a3, a4, a5⟩ := o2.facts
    go_wp2_with fail
    refine (hFs.out _).mono ?_
    rintro e w3 ⟨rfl, hb3⟩
    have b3 := b2.trans (hb3.mono b2.size)
    have o3 := o2.below hb3 (Nat.le_refl _)
    clear a0 a1 a2 a3 a4 a5
    obtain ⟨a0, a1, a2, a3, a4, a5⟩ := o3.facts
    go_wp2_with fail
    refine (hV.out _).mono ?_
    rintro e w4 ⟨rfl, hb4⟩
    have b4 := b3.trans (hb4.mono b3.size)
    have o4 := o3.below hb4 (Nat.le_refl _)
    clear a0 a1 a2 a3 a4 a5
    go_wp2_with fail
    refine (drawParseAtom_any A n c w4 (hc.below b4)).mono ?_
    rintro e w5 ⟨u, rfl, hu, hb5⟩
    have b5 := b4.trans (hb5.mono b4.size)
    have o5 := o4.below hb5 (Nat.le_refl _)
    have hI := Lib.hid (fun W => implParseAtom_any u W (by omega))
    have hS := Lib.hid (fun W => specParseAtom_any u W (by omega))
    have back := Lib.hid (atoms_back u)
    have hA2 := Lib.hid (fun W => implFormatAtom_any (paK u.data.toList) (bs (paT u.data.toList)) W (by rw [bs_len]; have := paT_le u.data.toList; omega))
    rw [bs_toList] at hA2
    generalize faR (paK u.data.toList) (paT u.data.toList) = fu at back hA2
    generalize goodA (paK u.data.toList) (paT u.data.toList) = qu at back hA2
    generalize paK u.data.toList = ku at hI hS hA2
    generalize bs (paT u.data.toList) = tu at hI hS hA2
    generalize paOk u.data.toList = fine at hI hS back
    have hff : (fine == fine) = true := by cases fine <;> rfl
    have hs3 := tsq_same tu
    have hs4 := tsq_same u
    go_wp2_with fail
    refine (hI.out _).mono ?_
    rintro e w6 ⟨rfl, hb6⟩
    have b6 := b5.trans (hb6.mono b5.size)
    have o6 := o5.below hb6 (Nat.le_refl _)
    have oB := ownP_new w6 (.int .i64 ku) (.string tu)
    have b6 := b6.alloc b6.size (.cells #[.int .i64 ku, .string tu] 23)
    have o6 := o6.alloc (.cells #[.int .i64 ku, .string tu] 23)
    go_wp2_with fail
    refine (hS.out _).mono ?_
    rintro e w7 ⟨rfl, hb7⟩
    have b7 := b6.trans (hb7.mono b6.size)
    have o7 := o6.below hb7 (Nat.le_refl _)
    have oB7 := oB.below hb7 (Nat.le_refl _)
    obtain ⟨a0, a1, a2, a3, a4, a5⟩ := oB7.facts
    have b7 := b7.alloc b7.size (.cells #[.int .i64 ku, .string tu] 23)
    have o7 := o7.alloc (.cells #[.int .i64 ku, .string tu] 23)
    have oB7 := oB7.alloc (.cells #[.int .i64 ku, .string tu] 23)
    generalize paOk fr = pB at hB way
    generalize paK fr = kB at hB way
    generalize bs (paT fr) = tB at hB way
    go_wp2_with fail
    refine (hB.out _).mono ?_
    rintro e w8 ⟨rfl, hb8⟩
    have b8 := b7.trans (hb8.mono b7.size)
    have o8 := o7.below hb8 (Nat.le_refl _)
    have oB8 := oB7.below hb8 (Nat.le_refl _)
    clear a0 a1 a2 a3 a4 a5
    have oC := ownP_new w8 (.int .i64 kB) (.string tB)
    have b8 := b8.alloc b8.size (.cells #[.int .i64 kB, .string tB] 23)
    have o8 := o8.alloc (.cells #[.int .i64 kB, .string tB] 23)
    have oB8 := oB8.alloc (.cells #[.int .i64 kB, .string tB] 23)
    obtain ⟨a0, a1, a2, a3, a4, a5⟩ := oB8.facts
    go_wp2_with fail
    refine (hA2.out _).mono ?_
    rintro e w9 ⟨rfl, hb9⟩
    have b9 := b8.trans (hb9.mono b8.size)
    have o9 := o8.below hb9 (Nat.le_refl _)
    have oC9 := oC.below hb9 (Nat.le_refl _)
    clear a0 a1 a2 a3 a4 a5
    obtain ⟨a0, a1, a2, a3, a4, a5⟩ := o9.facts
    obtain ⟨c0, c1, c2, c3, c4, c5⟩ := oC9.facts
    clear hB hF hFs hV hI hS hA2
    cases q
    · clear way
      cases fine
      · clear back
        go_wp2
        go_ret
        exact ⟨rfl, b9⟩
      · obtain ⟨rfl, e2⟩ := back.out rfl
        rw [e2]
        clear back
        go_wp2
        go_ret
        exact ⟨rfl, b9⟩
    · obtain ⟨rfl, rfl, rfl⟩ := way.out rfl
      clear way
      cases fine
      · clear back
        go_wp2
        go_ret
        exact ⟨rfl, b9⟩
      · obtain ⟨rfl, e2⟩ := back.out rfl
        rw [e2]
        clear back
        go_wp2
        go_ret
        exact ⟨rfl, b9⟩
end Go.Proofs.YtkgphkpckcfihaaDoor
