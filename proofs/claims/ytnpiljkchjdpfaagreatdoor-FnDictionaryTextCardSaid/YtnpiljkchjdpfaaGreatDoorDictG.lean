/- The reference's draws for the law on dictionaries and texts. Condition: the bytes that came in are at most 2^20. -/
import Derived.Test.YtnpiljkchjdpfaaGreatDoorDictE
namespace Go.Proofs.YtnpiljkchjdpfaaGreatDoor
open Go.RowKit

/-- What a drawn dictionary is. -/
def Drawn (w : World) (e : Ending) (w' : World) : Prop := ∃ A c l, e = .returned (.agg #[.slice A l.length c]) ∧ l.length ≤ 41 ∧ (∀ e ∈ l, e.o.length ≤ 8 ∧ e.t.size ≤ 100) ∧ OwnAll w' w.heap.size (dRows 42 3 (.slice A l.length c) l) ∧ Below w.heap.size w w'
set_option maxHeartbeats 1000000 in
theorem drawIsValidDict_any (A : Option Addr) (n c : Nat) (w : World) (h : Code w A n) : Calls Tryz.prog 25 #[.slice A n c] w (Drawn w) := by
  have b0 := (Below.refl w.heap.size w).alloc (Nat.le_refl _) (.cells #[.slice none 0 0] 24)
  have hc := (h.below b0).cur c
  have oR := ownC_new 24 w #[.slice none 0 0]
  have e1 : (w.alloc (.cells #[.slice none 0 0] 24)).heap.size = w.heap.size + 1 := by simp
  have gX := World.grownBy_alloc (w.alloc (.cells #[.slice none 0 0] 24)) (.cells #[.slice A n c, .int .i64 0, .int .u64 0] 53) (some (w.heap.size + 1))
  have bX := b0.alloc b0.size (.cells #[.slice A n c, .int .i64 0, .int .u64 0] 53)
  have oR := oR.alloc (.cells #[.slice A n c, .int .i64 0, .int .u64 0] 53)
  rw [e1] at hc
  have hc := Lib.hid hc
  have hz : ((w.alloc (.cells #[.slice none 0 0] 24)).alloc (.cells #[.slice A n c, .int .i64 0, .int .u64 0] 53)).heap.size = w.heap.size + 2 := by simp
  go_enter Tryz.func25, Tryz.ntmps25
  go_wp2_with fail
  refine (anyDictionary_any _ (w.heap.size + 1) 0 hc.out (by omega)).mono ?_
  rintro e w2 ⟨A2, c2, l, rfl, hl, hbd, own2, _, hg2⟩
  have oR2 := oR.grown hg2 (fun e => by have := Option.some.inj e; omega)
  have b2 := bX.grown hg2 bX.size (fun q e => by have := Option.some.inj e; omega)
  rw [hz] at own2
  have fR := oR2.frozen 0
  have cR := oR2.cell (j := 0) rfl
  obtain ⟨oR8, gR⟩ := oR2.set 0 (.slice A2 l.length c2)
  have own8 := (own2.chg (Chg.of_grown gR (F := fun g => g = w.heap.size) (fun g e => (Option.some.inj e).symm)) (fun r hr g hg f => by have h1 := own2.ge r hr g hg; have h2 : g = w.heap.size := f; omega)).base_le (show w.heap.size ≤ w.heap.size + 2 by omega)
  have b8 := b2.grown gR b2.size (fun q e => by have := Option.some.inj e; omega)
  have E := Lib.hid oR8
  have X := Lib.hid (And.intro own8 b8)
  clear oR oR2 oR8 gR own8 b8 own2 b2 bX gX hz
  go_wp2
  exact endC rfl _ _ _ w.heap.size w.heap.size _ rfl rfl E.out Tryz.underlying24 rfl (by kernel_rfl) ⟨A2, c2, l, rfl, hl, hbd, X.out.1, X.out.2⟩
set_option maxHeartbeats 1000000 in
theorem drawFmtDict_any (A : Option Addr) (n c : Nat) (w : World) (h : Code w A n) : Calls Tryz.prog 11 #[.slice A n c] w (Drawn w) := by
  have b0 := (Below.refl w.heap.size w).alloc (Nat.le_refl _) (.cells #[.slice none 0 0] 24)
  have hD := Lib.hid (drawIsValidDict_any A n c (w.alloc (.cells #[.slice none 0 0] 24)) (h.below b0))
  have oR := ownC_new 24 w #[.slice none 0 0]
  have e1 : (w.alloc (.cells #[.slice none 0 0] 24)).heap.size = w.heap.size + 1 := by simp
  go_enter Tryz.func11, Tryz.ntmps11
  go_wp2_with fail
  refine hD.out.mono ?_
  rintro e w2 ⟨A2, c2, l, rfl, hl, hbd, own2, hb2⟩
  have oR2 := oR.below hb2 (Nat.le_refl _)
  have b2 := b0.trans (hb2.mono b0.size)
  rw [e1] at own2
  have fR := oR2.frozen 0
  have cR := oR2.cell (j := 0) rfl
  obtain ⟨oR8, gR⟩ := oR2.set 0 (.slice A2 l.length c2)
  have own8 := (own2.chg (Chg.of_grown gR (F := fun g => g = w.heap.size) (fun g e => (Option.some.inj e).symm)) (fun r hr g hg f => by have h1 := own2.ge r hr g hg; have h2 : g = w.heap.size := f; omega)).base_le (show w.heap.size ≤ w.heap.size + 1 by omega)
  have b8 := b2.grown gR b2.size (fun q e => by have := Option.some.inj e; omega)
  have E := Lib.hid oR8
  have X := Lib.hid (And.intro own8 b8)
  clear oR oR2 oR8 gR own8 b8 own2 b2 b0 hb2 e1 hD
  go_wp2
  exact endC rfl _ _ _ w.heap.size w.heap.size _ rfl rfl E.out Tryz.underlying24 rfl (by kernel_rfl) ⟨A2, c2, l, rfl, hl, hbd, X.out.1, X.out.2⟩
set_option maxHeartbeats 1000000 in
theorem drawParseDict_any (A : Option Addr) (n c : Nat) (w : World) (h : Code w A n) :
    Calls Tryz.prog 14 #[.slice A n c] w fun e w' => ∃ x : ByteArray, e = .returned (.string x) ∧ Below w.heap.size w w' := by
  have hc := Lib.hid (h.cur c)
  have e1 : (w.alloc (.cells #[.slice A n c, .int .i64 0, .int .u64 0] 53)).heap.size = w.heap.size + 1 := by simp
  go_enter Tryz.func14, Tryz.ntmps14
  go_wp2_with fail
  refine (dictionary_any _ w.heap.size 0 hc.out (by omega)).mono ?_
  rintro e w1 ⟨A1, c1, l, rfl, hl1, hl9, hPl, own1, hc1, hg1⟩
  have b1 := below_new hg1
  have hT := Lib.hid (l6TextP_any A1 l.length c1 l w1 rfl (by omega) hPl w1.heap.size (Nat.le_refl _) (DRow.of_own rfl own1))
  clear own1 hPl
  have hlt := hc1.lt
  go_wp2_with fail
  refine hT.out.mono ?_
  rintro e w2 ⟨⟨t, rfl, ht⟩, hb2⟩
  have hc2 := hc1.below hb2 hlt
  have b2 := b1.trans (hb2.mono b1.size)
  go_wp2_with fail
  refine (one_any w2 w.heap.size _ 3 hc2 (by omega) (by omega)).mono ?_
  rintro e w3 ⟨b, rfl, hc3, hg3⟩
  have b3 := b2.grown hg3 b2.size (fun k e => by injection e with e; omega)
  cases b
  · go_wp2_with fail
    refine (one_any w3 w.heap.size _ 16 hc3 (by omega) (by omega)).mono ?_
    rintro e w4 ⟨b, rfl, hc4, hg4⟩
    have b4 := b3.grown hg4 b3.size (fun k e => by injection e with e; omega)
    have hlt4 := hc4.lt
    cases b
    · go_wp2
      go_ret
      exact ⟨_, rfl, b4⟩
    · go_wp2_with fail
      refine (of_any _ w.heap.size _ _ 5 5 [⟨#[]⟩, ⟨#[10]⟩, ⟨#[75, 65, 84, 32, 99, 97, 116]⟩, ⟨#[75, 65, 84, 10]⟩, ⟨#[75, 65, 84, 32, 99, 97, 116, 10, 75, 65, 84, 32, 99, 97, 116, 10]⟩] _ (hc4.alloc _) (by omega) rfl (by omega) (by omega) (Row.lit w4 _ _) (fun b off e => by injection e with e; injection e with e; omega)).mono ?_
      rintro e w5 ⟨x, rfl, hx, hc5, hg5⟩
      clear hx
      go_wp2
      go_ret
      exact ⟨x, rfl, (b4.alloc b4.size _).grown hg5 (by have := b4.size; simp; omega) (fun k e => by injection e with e; omega)⟩
  · go_wp2_with fail
    refine (spoilt_any w3 w.heap.size _ t ⟨#[47, 32, 10, 123, 125, 83, 84, 75, 97]⟩ hc3 (by omega) (by omega) (by decide) (by decide)).mono ?_
    rintro e w4 ⟨o, rfl, ho, hc4, hg4⟩
    have b4 := b3.grown hg4 b3.size (fun k e => by injection e with e; omega)
    go_wp2
    go_ret
    exact ⟨_, rfl, b4⟩
end Go.Proofs.YtnpiljkchjdpfaaGreatDoor
