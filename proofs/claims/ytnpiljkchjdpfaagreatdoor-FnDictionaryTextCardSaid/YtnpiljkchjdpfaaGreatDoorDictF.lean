/- Contracts on the longest outline and on the text of a dictionary. Condition: the cell of internal/bytealg.MaxLen is an int; outlines and texts are at most 2^20 long. -/
import Derived.Test.YtnpiljkchjdpfaaGreatDoorDictV
import Derived.Test.YtnpiljkchjdpfaaGreatDoorNotat
import Derived.Deep.QuietTactic
import Derived.Deep.RegionHeld3
import Derived.Test.YtnpiljkchjdpfaaGreatDoorTr
namespace Go.Proofs.YtnpiljkchjdpfaaGreatDoor
open Go.RowKit

theorem longR_yes {d : List EV} (h : dictB d = true) : longR d = longL d := by rw [longR, h]; rfl
theorem longR_no {d : List EV} (h : dictB d = false) : longR d = 0 := by rw [longR, h]; rfl
theorem dict_out6 {d : List EV} (h : dictB d = true) : ∀ e ∈ d, e.1.length ≤ 6 := fun e he => (outB_len (entB_iff (dictB_ent h e he)).1).2
theorem take_vals_succ (l : List En) (k : Nat) (h : k < l.length) : longL ((vals l).take (k + 1)) = max (longL ((vals l).take k)) (enAt l k).o.length := by
  rw [longL_succ _ _ (by rw [vals_len]; exact h), evAt_vals l k h]; rfl
theorem max_int (a b : Nat) : (max (a : Int) (b : Int)) = ((max a b : Nat) : Int) := by omega
/-! The text. -/
theorem dictL_vals (l : List En) (k : Nat) (h : k < l.length) : dictL ((vals l).take (k + 1)) = dictL ((vals l).take k) ++ notL (enAt l k).o ++ [32] ++ (enAt l k).t.data.toList ++ [10] := by
  rw [dictL_succ _ _ (by rw [vals_len]; exact h), evAt_vals l k h]; rfl
theorem dict_ent_at {l : List En} (h : dictB (vals l) = true) (k : Nat) (hk : k < l.length) : outB (enAt l k).o = true ∧ (enAt l k).t.size ≤ 60 := by
  have := dictB_ent h (enAt l k).v (List.mem_map.2 ⟨_, enAt_in l k hk, rfl⟩)
  obtain ⟨h1, h2⟩ := entB_iff this
  exact ⟨h1, by have := (ptOk_iff h2).1; rw [bs_size']; exact this⟩
theorem dfOk_of {d : List EV} (h : dictB d = true) : dfOk d = !decide (4000 < ((bs (dictL d)).size : Int)) := by
  rw [dfOk, h, bs_len, Bool.eq_iff_iff]
  simp
  omega
theorem piece_ok (o : ByteArray) (p x t : List UInt8) (h : o.data.toList = p) : (o ++ (bs x ++ ⟨#[32]⟩ ++ bs t ++ ⟨#[10]⟩)).data.toList = p ++ x ++ [32] ++ t ++ [10] := by
  subst h
  simp [bs]
theorem piece_ok2 (o : ByteArray) (p x t : List UInt8) (h : o.data.toList = p) : (o ++ bs x ++ ⟨#[32]⟩ ++ bs t ++ ⟨#[10]⟩).data.toList = p ++ x ++ [32] ++ t ++ [10] := by
  subst h
  simp [bs]
set_option maxHeartbeats 2000000 in
theorem implFmtDict_any (A : Option Addr) (n c : Nat) (l : List En) (w : World) (m : Int) (hmax : w.cell? ⟨0, 0, none⟩ = some (.int .i64 m)) (hn : l.length = n) (hle : n ≤ 1048576) (hs : ∀ e ∈ l, e.o.length ≤ 1048576 ∧ e.t.size ≤ 1048576) (B : Nat) (hB : B ≤ w.heap.size) (hr : DRow w B A l) :
    Calls Tryz.prog 12 #[.agg #[.slice A n c]] w fun e w' => e = .returned (.tuple #[.string (bs (dfR (vals l))), .bool (dfOk (vals l))]) ∧ Below w.heap.size w w' := by
  have hlt0 : 0 < w.heap.size := World.block_lt_of_cell? w _ hmax
  have o0 := ownC_new 24 w #[.slice A n c]
  have b0 := (Below.refl w.heap.size w).alloc (Nat.le_refl _) (.cells #[.slice A n c] 24)
  have hV := Lib.hid (implValidDict_any A n c l (w.alloc (.cells #[.slice A n c] 24)) m ((b0.cell (p := ⟨0, 0, none⟩) hlt0).trans hmax) hn hle hs B (Nat.le_trans hB b0.size) (hr.below_le b0 hB))
  clear hmax
  rcases Bool.eq_false_or_eq_true (dictB (vals l)) with q | q
  · have hok := Lib.hid (dfOk_of q)
    have hent := Lib.hid (fun k (hk : k < l.length) => dict_ent_at q k hk)
    have h40 : n ≤ 40 := by have := (dictB_iff q).1; rw [vals_len] at this; omega
    rw [q] at hV
    clear q
    go_enter Tryz.func12, Tryz.ntmps12
    go_wp2_with fail
    refine hV.out.mono ?_
    rintro e w1 ⟨rfl, hb1⟩
    have b1 := b0.trans (hb1.mono b0.size)
    have c1 := (o0.below hb1 (Nat.le_refl _)).cell (j := 0) rfl
    clear hV
    go_wp2
    go_loopw [4, 6, 13] (fun x _ i wr => ∃ k : Nat, ∃ o : ByteArray, k ≤ n ∧ i = .int .i64 k ∧ x = .string o ∧ o.size ≤ 400 * k ∧ Hid (o.data.toList = dictL ((vals l).take k)) ∧ Below w.heap.size w wr) (fun _ _ i _ => n - (intOf i).toNat)
    case atStart => exact ⟨0, _, by omega, rfl, rfl, Nat.le_refl 0, rfl, b1⟩
    case round =>
      obtain ⟨k, o, hk, rfl, rfl, hos, ho, hbel⟩ := hrel
      have hsz := hbel.size
      by_cases hlt : k < n
      · obtain ⟨b, off, rfl, hb, hc1, hc2, hro⟩ := (hr.below_le hbel hB).at (j := k) (by omega)
        obtain ⟨hout, ht60⟩ := hent.out k (by omega)
        have hol := outB_len hout
        have hst := Lib.hid (dictL_vals l k (by omega))
        have hnl := notL_len (enAt l k).o
        have hnz : (bs (notL (enAt l k).o)).size ≤ 282 := by rw [bs_len]; omega
        have oE := ownC_new 42 wr #[.slice (enAt l k).A (enAt l k).o.length (enAt l k).c, .string (enAt l k).t]
        have ce0 := oE.cell (j := 0) rfl
        have ce1 := oE.cell (j := 1) rfl
        have hbA := Lib.hid ((Below.refl wr.heap.size wr).alloc (Nat.le_refl _) (.cells #[.slice (enAt l k).A (enAt l k).o.length (enAt l k).c, .string (enAt l k).t] 42))
        have hN := Lib.hid (fun W (hW : Below wr.heap.size wr W) => notation_any (enAt l k).A (enAt l k).o.length (enAt l k).c (enAt l k).o W rfl (by omega) (by omega) B (by have := hW.size; omega) (hro.below_le hW (by omega)))
        have hpc := Lib.hid (piece_ok o _ (notL (enAt l k).o) (enAt l k).t.data.toList ho.out)
        rw [bs_self] at hpc
        generalize hx : bs (notL (enAt l k).o) = x at hN hpc hnz
        generalize (enAt l k).t = tx at hc2 hst hpc ht60 ce0 ce1 hbA
        have hlA : wr.heap.size < (wr.alloc (.cells #[.slice (enAt l k).A (enAt l k).o.length (enAt l k).c, .string tx] 42)).heap.size := by simp
        have hos2 : o.size ≤ 16000 := by omega
        have y1 : (⟨#[32]⟩ : ByteArray).size = 1 := rfl
        have y2 : (⟨#[10]⟩ : ByteArray).size = 1 := rfl
        have p1 : (x ++ ⟨#[32]⟩).size ≤ 283 := by rw [ByteArray.size_append]; omega
        have p2 : (x ++ ⟨#[32]⟩ ++ tx).size ≤ 343 := by rw [ByteArray.size_append]; omega
        have p3 : (x ++ ⟨#[32]⟩ ++ tx ++ ⟨#[10]⟩).size ≤ 344 := by rw [ByteArray.size_append]; omega
        have v0 : ¬ 9223372036854775807 < x.size + 1 := by omega
        have v1 : ¬ 9223372036854775807 < x.size + 1 + tx.size := by omega
        have v2 : ¬ 9223372036854775807 < x.size + 1 + tx.size + 1 := by omega
        have v3 : ¬ 9223372036854775807 < o.size + (x.size + 1 + tx.size + 1) := by omega
        clear p1 p2 p3 y1 y2
        clear hx hro hout hnl oE
        go_wp2
        go_region_held3 (fun w' => w'.cell? ⟨wr.heap.size, 0, none⟩ = some (.slice (enAt l k).A (enAt l k).o.length (enAt l k).c) ∧ w'.cell? ⟨wr.heap.size, 1, none⟩ = some (.string tx)) (go_keep)
          (first
            | (go_at_call 27; refine (hN.out _ (by first | exact hbA.out.drew | exact hbA.out)).mono ?_; rintro e w2 ⟨rfl, hb2⟩; have k1 := (bcell hb2 wr.heap.size 0 hlA).trans ce0; have k2 := (bcell hb2 wr.heap.size 1 hlA).trans ce1))
        clear k1 k2
        have b2 := hbel.trans ((hbA.out.drew.trans (hb2.mono hbA.out.drew.size)).mono hsz)
        have htx : tx.data.toList.length ≤ 60 := by rw [← bs_size']; exact ht60
        have hpl : (o ++ (x ++ ⟨#[32]⟩ ++ tx ++ ⟨#[10]⟩)).size ≤ 400 * (k + 1) := by simp only [ByteArray.size_append]; have e1 : (⟨#[32]⟩ : ByteArray).size = 1 := rfl; have e2 : (⟨#[10]⟩ : ByteArray).size = 1 := rfl; omega
        go_wp2
        go_roundw
        case rel => exact ⟨k + 1, _, by omega, by go_num, rfl, hpl, by rw [hst.out]; exact hpc.out, b2⟩
        case measure => simp [intOf]; omega
      · obtain rfl : k = n := by omega
        have hall : (vals l).take k = vals l := List.take_of_length_le (by rw [vals_len]; omega)
        rw [hall] at ho
        have hob := Lib.hid (bs_of ho.out)
        have hos2 : o.size ≤ 16000 := by omega
        rcases Bool.eq_false_or_eq_true (decide (4000 < (o.size : Int))) with g | g
        · have e1 := Lib.hid (show dfOk (vals l) = false by rw [hok.out, ← hob.out, g]; rfl)
          have e2 := Lib.hid (dfR_no e1.out)
          go_wp2
          go_ret2
          exact ⟨by rw [e1.out, e2.out]; rfl, hbel⟩
        · have e1 := Lib.hid (show dfOk (vals l) = true by rw [hok.out, ← hob.out, g]; rfl)
          have e2 := Lib.hid (dfR_yes e1.out)
          go_wp2
          go_ret2
          exact ⟨by rw [e1.out, e2.out, ← hob.out]; rfl, hbel⟩
  · have hf := Lib.hid (dfOk_no q)
    have hR := Lib.hid (dfR_no hf.out)
    rw [q] at hV
    clear q
    go_enter Tryz.func12, Tryz.ntmps12
    go_wp2_with fail
    refine hV.out.mono ?_
    rintro e w1 ⟨rfl, hb1⟩
    go_wp2
    go_ret2
    exact ⟨by rw [hR.out, hf.out]; rfl, b0.trans (hb1.mono b0.size)⟩
set_option maxHeartbeats 2000000 in
theorem l6Text_any (A : Option Addr) (n c : Nat) (l : List En) (w : World) (hn : l.length = n) (hle : n ≤ 40) (hd : dictB (vals l) = true) (B : Nat) (hB : B ≤ w.heap.size) (hr : DRow w B A l) :
    Calls Tryz.prog 19 #[.agg #[.slice A n c]] w fun e w' => e = .returned (.string (bs (dictL (vals l)))) ∧ Below w.heap.size w w' := by
  have o0 := ownC_new 24 w #[.slice A n c]
  have b0 := (Below.refl w.heap.size w).alloc (Nat.le_refl _) (.cells #[.slice A n c] 24)
  have hent := Lib.hid (fun k (hk : k < l.length) => dict_ent_at hd k hk)
  clear hd
  go_enter Tryz.func19, Tryz.ntmps19
  go_wp2
  go_loopw [3, 4] (fun x i wr => ∃ k : Nat, ∃ o : ByteArray, k ≤ n ∧ i = .int .i64 k ∧ x = .string o ∧ o.size ≤ 400 * k ∧ Hid (o.data.toList = dictL ((vals l).take k)) ∧ ownC 24 wr w.heap.size w.heap.size [.slice A n c] ∧ Below w.heap.size w wr) (fun _ i _ => n - (intOf i).toNat)
  case atStart => exact ⟨0, _, by omega, rfl, rfl, Nat.le_refl 0, rfl, o0, b0⟩
  case round =>
    obtain ⟨k, o, hk, rfl, rfl, hos, ho, hoD, hbel⟩ := hrel
    have hsz := hbel.size
    have hcd := hoD.cell (j := 0) rfl
    have hwl : w.heap.size < wr.heap.size := hoD.lt.2
    by_cases hlt : k < n
    · obtain ⟨b, off, rfl, hb, hc1, hc2, hro⟩ := (hr.below_le hbel hB).at (j := k) (by omega)
      obtain ⟨hout, ht60⟩ := hent.out k (by omega)
      have hbw : b < wr.heap.size := by omega
      have hol := outB_len hout
      have hst := Lib.hid (dictL_vals l k (by omega))
      have hnl := notL_len (enAt l k).o
      have hnz : (bs (notL (enAt l k).o)).size ≤ 282 := by rw [bs_len]; omega
      have hN := Lib.hid (fun W (hW : Below wr.heap.size wr W) => l4Format_any (enAt l k).A (enAt l k).o.length (enAt l k).c (enAt l k).o W rfl (by omega) (outB_all hout) B (by have := hW.size; omega) (hro.below_le hW (by omega)))
      have hpc := Lib.hid (piece_ok2 o _ (notL (enAt l k).o) (enAt l k).t.data.toList ho.out)
      rw [bs_self] at hpc
      generalize hx : bs (notL (enAt l k).o) = x at hN hpc hnz
      generalize (enAt l k).t = tx at hc2 hst hpc ht60
      have hos2 : o.size ≤ 16000 := by omega
      have y1 : (⟨#[32]⟩ : ByteArray).size = 1 := rfl
      have y2 : (⟨#[10]⟩ : ByteArray).size = 1 := rfl
      have p1 : (o ++ x).size ≤ 16300 := by rw [ByteArray.size_append]; omega
      have p2 : (o ++ x ++ ⟨#[32]⟩).size ≤ 16400 := by rw [ByteArray.size_append]; omega
      have p3 : (o ++ x ++ ⟨#[32]⟩ ++ tx).size ≤ 16500 := by rw [ByteArray.size_append]; omega
      have v0 : ¬ 9223372036854775807 < o.size + x.size := by omega
      have v1 : ¬ 9223372036854775807 < o.size + x.size + 1 := by omega
      have v2 : ¬ 9223372036854775807 < o.size + x.size + 1 + tx.size := by omega
      have v3 : ¬ 9223372036854775807 < o.size + x.size + 1 + tx.size + 1 := by omega
      clear p1 p2 p3 y1 y2
      clear hx hro hout hnl
      go_wp2
      go_region_held3 (fun w' => w'.cell? ⟨w.heap.size, 0, none⟩ = some (.slice (some ⟨b, off, none⟩) n c) ∧ w'.cell? ⟨b, off + k * 2, none⟩ = some (.slice (enAt l k).A (enAt l k).o.length (enAt l k).c) ∧ w'.cell? ⟨b, off + k * 2 + 1, none⟩ = some (.string tx)) (go_keep)
        (first
          | (go_at_call 37; refine (hN.out _ (by first | exact Below.refl _ _ | exact (Below.refl _ _).drew)).mono ?_; rintro e w2 ⟨rfl, hb2⟩; have k1 := (bcell hb2 w.heap.size 0 hwl).trans hcd; have k2 := (bcell hb2 b (off + k * 2) hbw).trans hc1; have k3 := (bcell hb2 b (off + k * 2 + 1) hbw).trans hc2))
      clear k1 k2 k3
      have b2 := hbel.trans (((Below.refl wr.heap.size wr).drew.trans hb2).mono hsz)
      have oD2 := (hoD.drewN 1).below hb2 (Nat.le_refl _)
      have hpl : (o ++ x ++ ⟨#[32]⟩ ++ tx ++ ⟨#[10]⟩).size ≤ 400 * (k + 1) := by simp only [ByteArray.size_append]; have e1 : (⟨#[32]⟩ : ByteArray).size = 1 := rfl; have e2 : (⟨#[10]⟩ : ByteArray).size = 1 := rfl; omega
      go_wp2
      go_roundw
      case rel => exact ⟨k + 1, _, by omega, by go_num, rfl, hpl, by rw [hst.out]; exact hpc.out, oD2, b2⟩
      case measure => simp [intOf]; omega
    · obtain rfl : k = n := by omega
      have hall : (vals l).take k = vals l := List.take_of_length_le (by rw [vals_len]; omega)
      rw [hall] at ho
      have hob := bs_of ho.out
      go_wp2
      go_ret
      exact ⟨by rw [hob]; rfl, hbel⟩
set_option maxHeartbeats 1000000 in
theorem specFmtDict_any (A : Option Addr) (n c : Nat) (l : List En) (w : World) (hn : l.length = n) (hle : n ≤ 1048576) (hs : ∀ e ∈ l, e.o.length ≤ 1048576 ∧ e.t.size ≤ 1048576) (B : Nat) (hB : B ≤ w.heap.size) (hr : DRow w B A l) :
    Calls Tryz.prog 13 #[.agg #[.slice A n c]] w fun e w' => e = .returned (.tuple #[.string (bs (dfR (vals l))), .bool (dfOk (vals l))]) ∧ Below w.heap.size w w' := by
  have o0 := ownC_new 24 w #[.slice A n c]
  have b0 := (Below.refl w.heap.size w).alloc (Nat.le_refl _) (.cells #[.slice A n c] 24)
  have hV := Lib.hid (l6Good_any A n c l (w.alloc (.cells #[.slice A n c] 24)) hn hle hs B (Nat.le_trans hB b0.size) (hr.below_le b0 hB))
  rcases Bool.eq_false_or_eq_true (dictB (vals l)) with q | q
  · have hok := Lib.hid (dfOk_of q)
    have h40 : n ≤ 40 := by have := (dictB_iff q).1; rw [vals_len] at this; omega
    have hL := Lib.hid (fun W (hW : Below w.heap.size w W) => l6Text_any A n c l W hn h40 q B (Nat.le_trans hB hW.size) (hr.below_le hW hB))
    have hlen : (bs (dictL (vals l))).size ≤ 20000 := by have := dictL_len (dictB_ent q); rw [bs_len]; rw [vals_len] at this; omega
    rw [q] at hV
    clear q
    go_enter Tryz.func13, Tryz.ntmps13
    go_wp2_with fail
    refine hV.out.mono ?_
    rintro e w1 ⟨rfl, hb1⟩
    have b1 := b0.trans (hb1.mono b0.size)
    have c1 := (o0.below hb1 (Nat.le_refl _)).cell (j := 0) rfl
    rcases Bool.eq_false_or_eq_true (decide (4000 < ((bs (dictL (vals l))).size : Int))) with g | g
    · have e1 := Lib.hid (show dfOk (vals l) = false by rw [hok.out, g]; rfl)
      have e2 := Lib.hid (dfR_no e1.out)
      generalize bs (dictL (vals l)) = o at hL hlen g
      go_wp2_with fail
      refine (hL.out w1 b1).mono ?_
      rintro e w2 ⟨rfl, hb2⟩
      go_wp2
      go_ret2
      exact ⟨by rw [e1.out, e2.out]; rfl, b1.trans (hb2.mono b1.size)⟩
    · have e1 := Lib.hid (show dfOk (vals l) = true by rw [hok.out, g]; rfl)
      have e2 := Lib.hid (congrArg bs (dfR_yes e1.out))
      generalize bs (dictL (vals l)) = o at hL hlen g e2
      go_wp2_with fail
      refine (hL.out w1 b1).mono ?_
      rintro e w2 ⟨rfl, hb2⟩
      go_wp2
      go_ret2
      exact ⟨by rw [e1.out, e2.out]; rfl, b1.trans (hb2.mono b1.size)⟩
  · have hf := Lib.hid (dfOk_no q)
    have hR := Lib.hid (dfR_no hf.out)
    rw [q] at hV
    clear q
    go_enter Tryz.func13, Tryz.ntmps13
    go_wp2_with fail
    refine hV.out.mono ?_
    rintro e w1 ⟨rfl, hb1⟩
    go_wp2
    go_ret2
    exact ⟨by rw [hR.out, hf.out]; rfl, b0.trans (hb1.mono b0.size)⟩
end Go.Proofs.YtnpiljkchjdpfaaGreatDoor
