/- The contract of the program's builder of tries. Condition: entries as a valid dictionary's, at most 40. -/
import Derived.Test.YtnpiljkchjdpfaaDoorGT
import Derived.Test.YtnpiljkchjdpfaaDoorGA
import Derived.Deep.DeepCutAuto
import Derived.Deep.RegionHeldLaw
import Derived.Deep.AppendLies
namespace Go.Proofs.YtnpiljkchjdpfaaDoor
open Go.RowKit
set_option linter.unusedSimpArgs false

theorem has_f {d : Nat} {l : List EV} (h : hasT d l = false) : txtT d l = ⟨#[]⟩ ∧ resT d l = l := by
  cases l with
  | nil => exact ⟨rfl, rfl⟩
  | cons e r =>
    have : ¬ e.1.length = d := by simpa [hasT] using h
    exact ⟨by rw [txtT, if_neg this], by rw [resT, if_neg this]⟩
theorem add_at (b off j : Nat) : (⟨b, off, none⟩ : Addr).add j = ⟨b, off + j, none⟩ := by
  unfold Addr.add
  split <;> simp_all
theorem DRow.nil (w : World) (B : Nat) (A : Option Addr) : DRow w B A [] := ⟨fun h => absurd rfl h, fun e he => by cases he⟩
/-- The stroke of entry k at the depth d. -/
theorem DRow.st {w : World} {B : Nat} {A : Option Addr} {l : List En} (h : DRow w B A l) {k d : Nat} (hk : k < l.length) (hd : d < (enAt l k).o.length) :
    ∃ b off b2 off2, A = some ⟨b, off, none⟩ ∧ b < B ∧ (enAt l k).A = some ⟨b2, off2, none⟩ ∧ w.cell? ⟨b, off + k * 2, none⟩ = some (.slice (some ⟨b2, off2, none⟩) (enAt l k).o.length (enAt l k).c) ∧ w.cell? ⟨b2, off2 + d, none⟩ = some (.int .i64 (stAt d (enAt l k).v)) := by
  obtain ⟨b, off, rfl, hb, hc1, _, hro⟩ := h.at hk
  have hl : (ints (enAt l k).o).length = (enAt l k).o.length := by simp [ints]
  obtain ⟨b2, off2, hA, _, hcell⟩ := hro (fun e => by rw [e] at hl; simp at hl; omega)
  refine ⟨b, off, b2, off2, rfl, hb, hA, by rw [← hA]; exact hc1, hcell d _ ?_⟩
  simp [ints, stAt, En.v, List.getD_eq_getElem?_getD, hd]
/-- How long a slice is. -/
def slLen : Value → Nat
  | .slice _ n _ => n
  | _ => 0
theorem tnT : ElemT Tryd.prog 53 94 (.agg #[.slice none 0 0, .slice none 0 0, .bool false, .string ⟨#[]⟩]) 4 72 := ⟨Tryd.underlying53, by kernel_rfl, rfl, by decide⟩
set_option maxRecDepth 100000 in
set_option maxHeartbeats 8000000 in
theorem plant_any : ∀ (f d : Nat) (A : Option Addr) (n c : Nat) (l : List En) (g N BB B base : Nat) (v : Value) (L : List Value) (w : World), 1 ≤ f → d + f = 7 → l.length = n → n ≤ c → n ≤ 40 → Tri d (vals l) → DRow w B A l → B ≤ BB → B ≤ base → base ≤ w.heap.size → OwnAll w base [nRow 94 v N L] → ownC 91 w BB g [v] → (∀ q, v.ownBlock = some q → q ≠ g) → N + 8 * n + f ≤ 100000 →
    Calls Tryd.prog 72 #[.pointer (some ⟨g, 0, none⟩), .slice A n c, .int .i64 d] w fun e w' => e = .returned (.int .i64 N) ∧ ∃ (v' : Value) (S : List Tn), tvals S = tree f d N (vals l) ∧ OwnAll w' base (nRow 94 v' (N + S.length) (L ++ tns S) :: ndRows 3 S) ∧ (∀ r ∈ ndRows 3 S, ∀ q, r.v.ownBlock = some q → w.heap.size ≤ q) ∧ ownC 91 w' BB g [v'] ∧ (∀ q, v'.ownBlock = some q → q ≠ g ∧ (v.ownBlock = some q ∨ w.heap.size ≤ q)) ∧ Chg w w' (fun k => k = g ∨ v.ownBlock = some k) := by
  intro f
  induction f with
  | zero => intro d A n c l g N BB B base v L w hf; omega
  | succ f ih =>
    intro d A n c l g N BB B base v L w _ hdf hn hnc hn40 hT hr hBB hBb hbw hrow hB hvg hN
    subst hn
    have hv0 : w.ownsRow base 94 4 v N L := hrow.own (nRow 94 v N L) (List.mem_cons_self ..)
    obtain ⟨Av, cv, rfl, hcv⟩ := own_slice hv0
    have hgl := hB.lt
    have cB := hB.cell (j := 0) rfl
    have fB := hB.frozen 0
    have hd6 : d ≤ 6 := by omega
    replace ih := Lib.hid ih
    have s1 : (w.alloc (.cells #[] 3)).heap.size = w.heap.size + 1 := by simp
    have s2 : ((w.alloc (.cells #[] 3)).alloc (.cells #[] 3)).heap.size = w.heap.size + 1 + 1 := by simp
    have m1 := World.ownsRow_made w #[] 0 (base := w.heap.size) (e := 3) (size := 1) (Nat.le_refl _) (by unfold maxLen; omega) (by simp)
    have m2 := World.ownsRow_made (w.alloc (.cells #[] 3)) #[] 0 (base := w.heap.size + 1) (e := 3) (size := 1) (by omega) (by unfold maxLen; omega) (by simp)
    have hP := ownC_new 94 ((w.alloc (.cells #[] 3)).alloc (.cells #[] 3)) #[.slice (some ⟨w.heap.size, 0, none⟩) 0 0, .slice (some ⟨w.heap.size + 1, 0, none⟩) 0 0, .bool false, .string ⟨#[]⟩]
    rw [s1] at m2
    rw [s2] at hP
    have b1 := (Below.refl w.heap.size w).alloc (Nat.le_refl _) (.cells #[] 3)
    have b2 := (Below.refl (w.heap.size + 1) (w.alloc (.cells #[] 3))).alloc (by omega) (.cells #[] 3)
    have b3 := (Below.refl (w.heap.size + 2) ((w.alloc (.cells #[] 3)).alloc (.cells #[] 3))).alloc (by omega) (.cells #[.slice (some ⟨w.heap.size, 0, none⟩) 0 0, .slice (some ⟨w.heap.size + 1, 0, none⟩) 0 0, .bool false, .string ⟨#[]⟩] 94)
    have lt3 : AllLt (w.heap.size + 1 + 1) (nRow 94 (.slice Av N cv) N L :: ndRows 3 [(⟨some ⟨w.heap.size, 0, none⟩, 0, [], some ⟨w.heap.size + 1, 0, none⟩, 0, [], false, ⟨#[]⟩⟩ : Tn)]) := by
      have q1 := hrow.push (r := ndRow1 3 (⟨some ⟨w.heap.size, 0, none⟩, 0, [], some ⟨w.heap.size + 1, 0, none⟩, 0, [], false, ⟨#[]⟩⟩ : Tn)) b1 (Nat.le_refl _) m1 hbw
      have q2 := q1.push (r := ndRow2 3 (⟨some ⟨w.heap.size, 0, none⟩, 0, [], some ⟨w.heap.size + 1, 0, none⟩, 0, [], false, ⟨#[]⟩⟩ : Tn)) b2 (by omega) (show World.ownsRow _ _ _ _ _ _ _ by rw [s1]; exact m2) (by omega)
      have := q2.lt
      rw [s2] at this
      exact this
    have own3 : OwnAll (((w.alloc (.cells #[] 3)).alloc (.cells #[] 3)).alloc (.cells #[.slice (some ⟨w.heap.size, 0, none⟩) 0 0, .slice (some ⟨w.heap.size + 1, 0, none⟩) 0 0, .bool false, .string ⟨#[]⟩] 94)) base (nRow 94 (.slice Av N cv) N L :: ndRows 3 [(⟨some ⟨w.heap.size, 0, none⟩, 0, [], some ⟨w.heap.size + 1, 0, none⟩, 0, [], false, ⟨#[]⟩⟩ : Tn)]) := by
      have q1 := hrow.push (r := ndRow1 3 (⟨some ⟨w.heap.size, 0, none⟩, 0, [], some ⟨w.heap.size + 1, 0, none⟩, 0, [], false, ⟨#[]⟩⟩ : Tn)) b1 (Nat.le_refl _) m1 hbw
      have q2 := q1.push (r := ndRow2 3 (⟨some ⟨w.heap.size, 0, none⟩, 0, [], some ⟨w.heap.size + 1, 0, none⟩, 0, [], false, ⟨#[]⟩⟩ : Tn)) b2 (by omega) (show World.ownsRow _ _ _ _ _ _ _ by rw [s1]; exact m2) (by omega)
      exact q2.below b3 (by omega)
    have bA := (b1.trans (b2.mono (by omega))).trans (b3.mono (by omega))
    have ch3 := Chg.of_below bA (Nat.le_refl _) (fun k => k = g ∨ (Value.slice Av N cv).ownBlock = some k)
    have hB3 := hB.below bA (Nat.le_refl _)
    have hr3 := hr.below_le bA (by omega)
    have fB3 := hB3.frozen 0
    have cB3 := hB3.cell (j := 0) rfl
    clear m1 m2 b1 b2 b3 hrow hB s1 s2
    go_enter Tryd.func72, Tryd.ntmps72
    go_upto_region 3 with fail
    generalize (((w.alloc (.cells #[] 3)).alloc (.cells #[] 3)).alloc (.cells #[.slice (some ⟨w.heap.size, 0, none⟩) 0 0, .slice (some ⟨w.heap.size + 1, 0, none⟩) 0 0, .bool false, .string ⟨#[]⟩] 94)) = w3 at *
    obtain ⟨PB, hPB⟩ : ∃ PB, PB = w.heap.size + 1 + 1 := ⟨_, rfl⟩
    rw [← hPB] at hP lt3 ⊢
    replace hPB := Nat.le_antisymm_iff.1 hPB
    go_cut [30] (fun s W => s = .bool (hasT d (vals l)) ∧ W = w3)
    case first =>
      cases l with
      | nil => go_wp2; go_meet; case rel => exact ⟨rfl, rfl⟩
      | cons x r =>
        obtain ⟨b, off, rfl, hb, hc1, hc2, hro⟩ := hr3.at (j := 0) (by simp)
        have hc1' : w3.cell? ⟨b, off, none⟩ = some (.slice x.A x.o.length x.c) := hc1
        go_wp2
        go_meet
        case rel => exact ⟨by simp only [hasT, vals, List.map_cons, En.v]; rw [Value.bool.injEq, Bool.eq_iff_iff]; simp <;> omega, rfl⟩
    case rest =>
      obtain ⟨rfl, hw⟩ := hcut
      subst hw
      rename World => w3
      go_upto_if 30 with fail
      go_cut [1] (fun s W => ∃ (A' : Option Addr) (c' : Nat) (l' : List En), s = .slice A' l'.length c' ∧ l'.length ≤ c' ∧ l'.length ≤ l.length ∧ DRow w B A' l' ∧ vals l' = resT d (vals l) ∧ OwnAll W base (nRow 94 (.slice Av N cv) N L :: ndRows 3 [⟨some ⟨w.heap.size, 0, none⟩, 0, [], some ⟨w.heap.size + 1, 0, none⟩, 0, [], hasT d (vals l), txtT d (vals l)⟩]) ∧ ownC 91 W BB g [.slice Av N cv] ∧ ownC 94 W PB PB (tnC ⟨some ⟨w.heap.size, 0, none⟩, 0, [], some ⟨w.heap.size + 1, 0, none⟩, 0, [], hasT d (vals l), txtT d (vals l)⟩) ∧ Chg w W (fun k => k = g ∨ (Value.slice Av N cv).ownBlock = some k))
      case first =>
        rcases Bool.eq_false_or_eq_true (hasT d (vals l)) with q | q
        · cases l with
          | nil => cases q
          | cons x r =>
            have hxd : x.o.length = d := by simpa [hasT, vals, En.v] using q
            obtain ⟨b, off, rfl, hb, hc1, hc2, hro⟩ := hr3.at (j := 0) (by simp)
            have hc2' : w3.cell? ⟨b, off + 1, none⟩ = some (.string x.t) := hc2
            have nbP : PB ≠ b := by omega
            clear hc1 hc2 hro
            have fP2 := hP.frozen 2
            have cP2 := hP.cell (j := 2) rfl
            obtain ⟨hP4, g4⟩ := hP.set 2 (.bool true)
            have fP3 := hP4.frozen 3
            have cP3 := hP4.cell (j := 3) rfl
            obtain ⟨hP5, g5⟩ := hP4.set 3 (.string x.t)
            rw [q]
            go_wp2
            go_region_held3 (fun w' => w'.cell? ⟨b, off + 1, none⟩ = some (.string x.t)) (go_keep) (fail)
            have cF := (Chg.of_set (g4.trans g5)).drew 1
            have hE0 : tnC ⟨some ⟨w.heap.size, 0, none⟩, 0, [], some ⟨w.heap.size + 1, 0, none⟩, 0, [], hasT d (vals (x :: r)), txtT d (vals (x :: r))⟩ = [.slice (some ⟨w.heap.size, 0, none⟩) 0 0, .slice (some ⟨w.heap.size + 1, 0, none⟩) 0 0, .bool true, .string x.t] := by rw [q]; simp [tnC, Tn.s1, Tn.s2, txtT, vals, En.v, hxd]
            have hre0 : resT d (vals (x :: r)) = vals r := by simp [resT, vals, En.v, hxd]
            have ownF := own3.chg cF (fun r hr k hk f => by have h1 := lt3 r hr k hk; have h2 : k = PB := f; omega)
            have hBF := (hB3.grown (g4.trans g5) (fun e => by have := Option.some.inj e; omega)).drewN 1
            have chF := ch3.trans_new cF (fun i hi f => by have h2 : i = PB := f; omega)
            have hs3 := bA.size
            have hrF := hr.drop 1
            simp only [Option.map_some, add_at] at hrF
            have hE := Lib.hid hE0
            have hre := Lib.hid hre0
            clear hE0 hre0
            go_wp2
            · obtain rfl : r = [] := List.length_eq_zero_iff.1 (by simp at hnc; omega)
              go_meet
              case rel => exact ⟨some ⟨b, off, none⟩, 0, [], rfl, Nat.le_refl _, by simp, DRow.nil _ _ _, hre.out.symm, ownF, hBF, by rw [hE.out]; exact hP5, chF⟩
            · go_meet
              case rel => exact ⟨some ⟨b, off + 2, none⟩, c - 1, r, rfl, by simp at hnc; omega, by simp, hrF, hre.out.symm, ownF, hBF, by rw [hE.out]; exact hP5, chF⟩
        · obtain ⟨q1, q2⟩ := has_f q
          rw [q]
          go_wp2
          go_meet
          case rel => exact ⟨A, c, l, rfl, hnc, Nat.le_refl _, hr, q2.symm, own3, hB3, by rw [q, q1]; exact hP, ch3⟩
      case rest =>
        have hrW := Lib.hid (fun (W : World) (h : Chg w W (fun k => k = g ∨ (Value.slice Av N cv).ownBlock = some k)) (A' : Option Addr) (l' : List En) (h2 : DRow w B A' l') => h2.chg h (by omega) (fun k hk f => by rcases f with f | f; omega; have := (hv0.lt k f).1; omega))
        clear own3 hB3 hr3 ch3 fB3 cB3 hP bA hr
        rename World => w4
        obtain ⟨A', c', l', rfl, hlc', hll', hr', hv', own, hB, hP, hch⟩ := hcut
        have hT2 := hT.res
        rw [← hv'] at hT2
        replace hv' := Lib.hid hv'
        have hTree := Lib.hid (show tree (f + 1) d N (vals l) = (fun Q : KV => (⟨Q.1, Q.2.1, hasT d (vals l), txtT d (vals l)⟩ : TV) :: Q.2.2) (kids (tree f (d + 1)) d (vals l).length (N + 1) (vals l')) by rw [hv'.out]; rfl)
        clear lt3
        generalize hasT d (vals l) = ht at *
        generalize txtT d (vals l) = tx at *
        obtain ⟨iT, hi0, hi1, hi2, hi3⟩ := info_parts tnT.info
        have hv4 : (w4.drewN 1).ownsRow base 94 4 (.slice Av N cv) N L := own.own (nRow 94 (.slice Av N cv) N L) (List.mem_cons_self ..)
        have nvP : (Value.slice Av N cv).ownBlock ≠ some PB := fun e => by have := (hv0.lt _ e).2; omega
        have nvg : (Value.slice Av N cv).ownBlock ≠ some g := fun e => hvg g e rfl
        have hs4 := hch.size
        have hPl := hP.lt.2
        have cBa : (w4.alloc (.cells #[.slice (some ⟨w.heap.size, 0, none⟩) 0 0, .slice (some ⟨w.heap.size + 1, 0, none⟩) 0 0, .bool ht, .string tx] 94)).cell? ⟨g, 0, none⟩ = some (.slice Av N cv) := (hB.alloc _).cell (j := 0) rfl
        have a0 : w4.cell? ⟨PB, 0, none⟩ = some (.slice (some ⟨w.heap.size, 0, none⟩) 0 0) := hP.cell (j := 0) rfl
        have a1 : w4.cell? ⟨PB, 1, none⟩ = some (.slice (some ⟨w.heap.size + 1, 0, none⟩) 0 0) := hP.cell (j := 1) rfl
        have a2 : w4.cell? ⟨PB, 2, none⟩ = some (.bool ht) := hP.cell (j := 2) rfl
        have a3 : w4.cell? ⟨PB, 3, none⟩ = some (.string tx) := hP.cell (j := 3) rfl
        have cB := hB.cell (j := 0) rfl
        go_upto_region 6 with fail
        go_cut [] (fun W => ∃ v, PInv 91 94 3 w W base BB g PB (N + 1) (.slice Av N cv) v (L ++ tnC ⟨some ⟨w.heap.size, 0, none⟩, 0, [], some ⟨w.heap.size + 1, 0, none⟩, 0, [], ht, tx⟩) ⟨some ⟨w.heap.size, 0, none⟩, 0, [], some ⟨w.heap.size + 1, 0, none⟩, 0, [], ht, tx⟩ [])
        case first =>
          refine wp_region_held_drew (S := (fun w' => w'.cell? ⟨PB, 0, none⟩ = some (.slice (some ⟨w.heap.size, 0, none⟩) 0 0) ∧ w'.cell? ⟨PB, 1, none⟩ = some (.slice (some ⟨w.heap.size + 1, 0, none⟩) 0 0) ∧ w'.cell? ⟨PB, 2, none⟩ = some (.bool ht) ∧ w'.cell? ⟨PB, 3, none⟩ = some (.string tx))) (by kernel_rfl) ?_ (fun hHeld => ?_)
          · go_keep
          refine wpAnyH_take (i := 0) (oi := _) (v := ?vr39n1) rfl (by kernel_rfl) (by kernel_rfl) (by kernel_rfl) (fun _ _ _ h => h) (Or.inl ⟨by rfl, ?hyr39n1⟩) (by assumption) ?_
          case hyr39n1 => (intro w' hSw; (try dsimp only at hSw); go_simp; try (with_reducible rfl))
          change wpAnyH _ _ _ _ _ _ _ (Act.put _ (some 39) _) _
          simp only [Act.put, List.setIfInBounds_toArray, List.set_cons_zero, List.set_cons_succ]
          refine wpAnyH_take (i := 1) (oi := _) (v := ?vr39n2) rfl (by kernel_rfl) (by kernel_rfl) (by kernel_rfl) (fun _ _ _ h => h) (Or.inl ⟨by rfl, ?hyr39n2⟩) (by assumption) ?_
          case hyr39n2 => (intro w' hSw; (try dsimp only at hSw); go_simp; try (with_reducible rfl))
          change wpAnyH _ _ _ _ _ _ _ (Act.put _ (some 40) _) _
          simp only [Act.put, List.setIfInBounds_toArray, List.set_cons_zero, List.set_cons_succ]
          refine wpAnyH_take (i := 2) (oi := _) (v := ?vr39n3) rfl (by kernel_rfl) (by kernel_rfl) (by kernel_rfl) (fun _ _ _ h => h) (Or.inl ⟨by rfl, ?hyr39n3⟩) (by assumption) ?_
          case hyr39n3 => (intro w' hSw; (try dsimp only at hSw); go_simp; try (with_reducible rfl))
          change wpAnyH _ _ _ _ _ _ _ (Act.put _ (some 41) _) _
          simp only [Act.put, List.setIfInBounds_toArray, List.set_cons_zero, List.set_cons_succ]
          refine wpAnyH_take (i := 3) (oi := _) (v := ?vr39n4) rfl (by kernel_rfl) (by kernel_rfl) (by kernel_rfl) (fun _ _ _ h => h) (Or.inl ⟨by rfl, ?hyr39n4⟩) (by assumption) ?_
          case hyr39n4 => (intro w' hSw; (try dsimp only at hSw); go_simp; try (with_reducible rfl))
          change wpAnyH _ _ _ _ _ _ _ (Act.put _ (some 42) _) _
          simp only [Act.put, List.setIfInBounds_toArray, List.set_cons_zero, List.set_cons_succ]
          refine wpAnyH_take (i := 5) (oi := _) (v := ?vr39n5) rfl (by kernel_rfl) (by kernel_rfl) (by kernel_rfl) (fun _ _ _ h => h) (Or.inl ⟨by rfl, ?hyr39n5⟩) (by assumption) ?_
          case hyr39n5 => (intro w' hSw; (try dsimp only at hSw); go_simp; try (with_reducible rfl))
          change wpAnyH _ _ _ _ _ _ _ (Act.put _ (some 44) _) _
          simp only [Act.put, List.setIfInBounds_toArray, List.set_cons_zero, List.set_cons_succ]
          refine wpAnyH_ready (rs := [4, 6]) (by kernel_rfl) (by simp) ?_
          refine AllReadyH.cons rfl (fun K hK => ?_) (AllReadyH.cons rfl (fun K hK => ?_) AllReadyH.nil)
          · go_simp
            refine hK.out _ _ ?_ (fun hHeld => ?_)
            · first | go_keep | exact ⟨a0, a1, a2, a3⟩ | exact ⟨p0, p1, p2, p3⟩ | exact ⟨r0, r1, r2, r3⟩
            clear hK K
            try simp only [Act.put, List.setIfInBounds_toArray, List.set_cons_zero, List.set_cons_succ]
            refine wpAnyH_ready (rs := [6]) (by kernel_rfl) (by simp) ?_
            refine AllReadyH.cons rfl (fun K hK => ?_) AllReadyH.nil
            go_simp
            refine hK.out _ _ ?_ (fun hHeld => ?_)
            · first | go_keep | exact ⟨a0, a1, a2, a3⟩ | exact ⟨p0, p1, p2, p3⟩ | exact ⟨r0, r1, r2, r3⟩
            clear hK K
            try simp only [Act.put, List.setIfInBounds_toArray, List.set_cons_zero, List.set_cons_succ]
            refine wpAnyH_ready (rs := [7]) (by kernel_rfl) (by simp) ?_
            refine AllReadyH.cons rfl (fun K hK => ?_) AllReadyH.nil
            refine step_append_lies _ rfl (.tmp 43) (.tmp 45) 53 rfl base 94 iT _ 4 72 Tryd.underlying53 hi0 hi1 hi2 hi3 rfl (by decide) (.slice Av N cv) N L rfl (World.ownsRow.alloc hv4 _) ⟨w4.heap.size, 0, none⟩ 1 1 #[.slice (some ⟨w.heap.size, 0, none⟩) 0 0, .slice (some ⟨w.heap.size + 1, 0, none⟩) 0 0, .bool ht, .string tx].toList rfl rfl (World.news_of_block (cs := #[.slice (some ⟨w.heap.size, 0, none⟩) 0 0, .slice (some ⟨w.heap.size + 1, 0, none⟩) 0 0, .bool ht, .string tx]) (t := 94) (fr := (0, 0)) (heap_alloc_new (w4.drewN 1) _)) (by simp [Value.oneCell']) (by omega) (by unfold maxLen; omega) (by omega) (by have : (w4.drewN 1).heap.size = w4.heap.size := rfl; simp; omega) (w4.heap.size + 1) (by simp) ?_
            intro gg cap w6 ho6 hg6 hat6 hlt6
            have hP6 := ((hP.drewN 1).alloc (.cells #[.slice (some ⟨w.heap.size, 0, none⟩) 0 0, .slice (some ⟨w.heap.size + 1, 0, none⟩) 0 0, .bool ht, .string tx] 94)).grown hg6 nvP
            have p0 : w6.cell? ⟨PB, 0, none⟩ = some (.slice (some ⟨w.heap.size, 0, none⟩) 0 0) := hP6.cell (j := 0) rfl
            have p1 : w6.cell? ⟨PB, 1, none⟩ = some (.slice (some ⟨w.heap.size + 1, 0, none⟩) 0 0) := hP6.cell (j := 1) rfl
            have p2 : w6.cell? ⟨PB, 2, none⟩ = some (.bool ht) := hP6.cell (j := 2) rfl
            have p3 : w6.cell? ⟨PB, 3, none⟩ = some (.string tx) := hP6.cell (j := 3) rfl
            have hB6 := ((hB.drewN 1).alloc (.cells #[.slice (some ⟨w.heap.size, 0, none⟩) 0 0, .slice (some ⟨w.heap.size + 1, 0, none⟩) 0 0, .bool ht, .string tx] 94)).grown hg6 nvg
            have fB6 := hB6.frozen 0
            have cB6 := hB6.cell (j := 0) rfl
            have gset := (hB6.set 0 (.slice (some ⟨gg, 0, none⟩) (N + 1) cap)).2
            have hP7 := hP6.grown gset (fun e => by have := Option.some.inj e; omega)
            have r0 : (w6.setCell ⟨g, 0, none⟩ (.slice (some ⟨gg, 0, none⟩) (N + 1) cap)).cell? ⟨PB, 0, none⟩ = some (.slice (some ⟨w.heap.size, 0, none⟩) 0 0) := hP7.cell (j := 0) rfl
            have r1 : (w6.setCell ⟨g, 0, none⟩ (.slice (some ⟨gg, 0, none⟩) (N + 1) cap)).cell? ⟨PB, 1, none⟩ = some (.slice (some ⟨w.heap.size + 1, 0, none⟩) 0 0) := hP7.cell (j := 1) rfl
            have r2 : (w6.setCell ⟨g, 0, none⟩ (.slice (some ⟨gg, 0, none⟩) (N + 1) cap)).cell? ⟨PB, 2, none⟩ = some (.bool ht) := hP7.cell (j := 2) rfl
            have r3 : (w6.setCell ⟨g, 0, none⟩ (.slice (some ⟨gg, 0, none⟩) (N + 1) cap)).cell? ⟨PB, 3, none⟩ = some (.string tx) := hP7.cell (j := 3) rfl
            refine hK.out _ _ ?_ (fun hHeld => ?_)
            · first | go_keep | exact ⟨a0, a1, a2, a3⟩ | exact ⟨p0, p1, p2, p3⟩ | exact ⟨r0, r1, r2, r3⟩
            clear hK K
            try simp only [Act.put, List.setIfInBounds_toArray, List.set_cons_zero, List.set_cons_succ]
            refine wpAnyH_take (i := 8) (oi := _) (v := ?vr39n6) rfl (by kernel_rfl) (by kernel_rfl) (by kernel_rfl) (fun _ _ _ h => h) (Or.inl ⟨by rfl, ?hyr39n6⟩) (by assumption) ?_
            case hyr39n6 => (intro w' hSw; (try dsimp only at hSw); go_simp; try (with_reducible rfl))
            change wpAnyH _ _ _ _ _ _ _ (Act.put _ (some 47) _) _
            simp only [Act.put, List.setIfInBounds_toArray, List.set_cons_zero, List.set_cons_succ]
            refine wpAnyH_take (i := 9) (oi := _) (v := ?vr39n7) rfl (by kernel_rfl) (by kernel_rfl) (by kernel_rfl) (fun _ _ _ h => h) (Or.inl ⟨by rfl, ?hyr39n7⟩) (by assumption) ?_
            case hyr39n7 => (intro w' hSw; (try dsimp only at hSw); go_simp; try (with_reducible rfl))
            change wpAnyH _ _ _ _ _ _ _ (Act.put _ (some 48) _) _
            simp only [Act.put, List.setIfInBounds_toArray, List.set_cons_zero, List.set_cons_succ]
            refine wpAnyH_ready (rs := [10]) (by kernel_rfl) (by simp) ?_
            refine AllReadyH.cons rfl (fun K hK => ?_) AllReadyH.nil
            go_simp
            refine hK.out _ _ ?_ (fun hHeld => ?_)
            · first | go_keep | exact ⟨a0, a1, a2, a3⟩ | exact ⟨p0, p1, p2, p3⟩ | exact ⟨r0, r1, r2, r3⟩
            clear hK K
            try simp only [Act.put, List.setIfInBounds_toArray, List.set_cons_zero, List.set_cons_succ]
            refine wpAnyH_done (by kernel_rfl) ?_ _
            clear a0 a1 a2 a3 p0 p1 p2 p3 r0 r1 r2 r3
            have hgE := (only_drewN' w4 1).trans ((World.grownBy_alloc (w4.drewN 1) (.cells #[.slice (some ⟨w.heap.size, 0, none⟩) 0 0, .slice (some ⟨w.heap.size + 1, 0, none⟩) 0 0, .bool ht, .string tx] 94) (Value.slice Av N cv).ownBlock).trans hg6)
            have hB7 := (hB6.set 0 (.slice (some ⟨gg, 0, none⟩) (N + 1) cap)).1
            have cS := Chg.of_set gset
            have hvb : ∀ q, (Value.slice (some ⟨gg, 0, none⟩) (N + 1) cap).ownBlock = some q → q ≠ g ∧ q ≠ PB ∧ ((Value.slice Av N cv).ownBlock = some q ∨ w.heap.size ≤ q) := fun q hq => by
              have h2 : gg = q := Option.some.inj hq
              rcases hat6 with hh | hh
              · rw [h2] at hh
                exact ⟨hvg q hh, fun e => nvP (by rw [hh, e]), Or.inl hh⟩
              · exact ⟨by omega, by omega, Or.inr (by omega)⟩
            have own6 := own_up1 (r' := nRow 94 (.slice (some ⟨gg, 0, none⟩) (N + 1) cap) (N + 1) (L ++ tnC ⟨some ⟨w.heap.size, 0, none⟩, 0, [], some ⟨w.heap.size + 1, 0, none⟩, 0, [], ht, tx⟩)) own hgE ho6 (fun q hq => by
              have h2 : gg = q := Option.some.inj hq
              rcases hat6 with hh | hh
              · rw [h2] at hh; exact Or.inl hh
              · exact Or.inr (by omega))
            have hge0 : ∀ r ∈ ndRows 3 ((⟨some ⟨w.heap.size, 0, none⟩, 0, [], some ⟨w.heap.size + 1, 0, none⟩, 0, [], ht, tx⟩ : Tn) :: []), ∀ q, r.v.ownBlock = some q → w.heap.size ≤ q ∧ q ≠ PB := fun r hr q hq => by
              rw [ndRows_cons] at hr
              rcases List.mem_cons.1 hr with rfl | hr
              · have h2 : w.heap.size = q := Option.some.inj hq
                omega
              · rcases List.mem_cons.1 hr with rfl | hr
                · have h2 : w.heap.size + 1 = q := Option.some.inj hq
                  omega
                · cases hr
            have own7 := own6.chg cS (fun r hr q hq f => by
              have f2 : q = g := f
              rcases List.mem_cons.1 hr with rfl | hr
              · exact (hvb q hq).1 f2
              · have := (hge0 r hr q hq).1
                omega)
            have inv : PInv 91 94 3 w _ base BB g PB (N + 1) (.slice Av N cv) (.slice (some ⟨gg, 0, none⟩) (N + 1) cap) (L ++ tnC ⟨some ⟨w.heap.size, 0, none⟩, 0, [], some ⟨w.heap.size + 1, 0, none⟩, 0, [], ht, tx⟩) ⟨some ⟨w.heap.size, 0, none⟩, 0, [], some ⟨w.heap.size + 1, 0, none⟩, 0, [], ht, tx⟩ [] := ⟨by simpa [tns, rows] using own7, hge0, hB7, hP7, hvb, (hch.trans_new (Chg.of_grown (F := fun q => (Value.slice Av N cv).ownBlock = some q) hgE (fun q hq => hq)) (fun i _ f => Or.inr f)).trans_new cS (fun i _ f => Or.inl f)⟩
            go_wp2
            go_meet
            case rel => exact ⟨_, inv⟩
          · go_simp
            refine hK.out _ _ ?_ (fun hHeld => ?_)
            · first | go_keep | exact ⟨a0, a1, a2, a3⟩ | exact ⟨p0, p1, p2, p3⟩ | exact ⟨r0, r1, r2, r3⟩
            clear hK K
            try simp only [Act.put, List.setIfInBounds_toArray, List.set_cons_zero, List.set_cons_succ]
            refine wpAnyH_ready (rs := [4]) (by kernel_rfl) (by simp) ?_
            refine AllReadyH.cons rfl (fun K hK => ?_) AllReadyH.nil
            go_simp
            refine hK.out _ _ ?_ (fun hHeld => ?_)
            · first | go_keep | exact ⟨a0, a1, a2, a3⟩ | exact ⟨p0, p1, p2, p3⟩ | exact ⟨r0, r1, r2, r3⟩
            clear hK K
            try simp only [Act.put, List.setIfInBounds_toArray, List.set_cons_zero, List.set_cons_succ]
            refine wpAnyH_ready (rs := [7]) (by kernel_rfl) (by simp) ?_
            refine AllReadyH.cons rfl (fun K hK => ?_) AllReadyH.nil
            refine step_append_lies _ rfl (.tmp 43) (.tmp 45) 53 rfl base 94 iT _ 4 72 Tryd.underlying53 hi0 hi1 hi2 hi3 rfl (by decide) (.slice Av N cv) N L rfl (World.ownsRow.alloc hv4 _) ⟨w4.heap.size, 0, none⟩ 1 1 #[.slice (some ⟨w.heap.size, 0, none⟩) 0 0, .slice (some ⟨w.heap.size + 1, 0, none⟩) 0 0, .bool ht, .string tx].toList rfl rfl (World.news_of_block (cs := #[.slice (some ⟨w.heap.size, 0, none⟩) 0 0, .slice (some ⟨w.heap.size + 1, 0, none⟩) 0 0, .bool ht, .string tx]) (t := 94) (fr := (0, 0)) (heap_alloc_new (w4.drewN 1) _)) (by simp [Value.oneCell']) (by omega) (by unfold maxLen; omega) (by omega) (by have : (w4.drewN 1).heap.size = w4.heap.size := rfl; simp; omega) (w4.heap.size + 1) (by simp) ?_
            intro gg cap w6 ho6 hg6 hat6 hlt6
            have hP6 := ((hP.drewN 1).alloc (.cells #[.slice (some ⟨w.heap.size, 0, none⟩) 0 0, .slice (some ⟨w.heap.size + 1, 0, none⟩) 0 0, .bool ht, .string tx] 94)).grown hg6 nvP
            have p0 : w6.cell? ⟨PB, 0, none⟩ = some (.slice (some ⟨w.heap.size, 0, none⟩) 0 0) := hP6.cell (j := 0) rfl
            have p1 : w6.cell? ⟨PB, 1, none⟩ = some (.slice (some ⟨w.heap.size + 1, 0, none⟩) 0 0) := hP6.cell (j := 1) rfl
            have p2 : w6.cell? ⟨PB, 2, none⟩ = some (.bool ht) := hP6.cell (j := 2) rfl
            have p3 : w6.cell? ⟨PB, 3, none⟩ = some (.string tx) := hP6.cell (j := 3) rfl
            have hB6 := ((hB.drewN 1).alloc (.cells #[.slice (some ⟨w.heap.size, 0, none⟩) 0 0, .slice (some ⟨w.heap.size + 1, 0, none⟩) 0 0, .bool ht, .string tx] 94)).grown hg6 nvg
            have fB6 := hB6.frozen 0
            have cB6 := hB6.cell (j := 0) rfl
            have gset := (hB6.set 0 (.slice (some ⟨gg, 0, none⟩) (N + 1) cap)).2
            have hP7 := hP6.grown gset (fun e => by have := Option.some.inj e; omega)
            have r0 : (w6.setCell ⟨g, 0, none⟩ (.slice (some ⟨gg, 0, none⟩) (N + 1) cap)).cell? ⟨PB, 0, none⟩ = some (.slice (some ⟨w.heap.size, 0, none⟩) 0 0) := hP7.cell (j := 0) rfl
            have r1 : (w6.setCell ⟨g, 0, none⟩ (.slice (some ⟨gg, 0, none⟩) (N + 1) cap)).cell? ⟨PB, 1, none⟩ = some (.slice (some ⟨w.heap.size + 1, 0, none⟩) 0 0) := hP7.cell (j := 1) rfl
            have r2 : (w6.setCell ⟨g, 0, none⟩ (.slice (some ⟨gg, 0, none⟩) (N + 1) cap)).cell? ⟨PB, 2, none⟩ = some (.bool ht) := hP7.cell (j := 2) rfl
            have r3 : (w6.setCell ⟨g, 0, none⟩ (.slice (some ⟨gg, 0, none⟩) (N + 1) cap)).cell? ⟨PB, 3, none⟩ = some (.string tx) := hP7.cell (j := 3) rfl
            refine hK.out _ _ ?_ (fun hHeld => ?_)
            · first | go_keep | exact ⟨a0, a1, a2, a3⟩ | exact ⟨p0, p1, p2, p3⟩ | exact ⟨r0, r1, r2, r3⟩
            clear hK K
            try simp only [Act.put, List.setIfInBounds_toArray, List.set_cons_zero, List.set_cons_succ]
            refine wpAnyH_take (i := 8) (oi := _) (v := ?vr39n8) rfl (by kernel_rfl) (by kernel_rfl) (by kernel_rfl) (fun _ _ _ h => h) (Or.inl ⟨by rfl, ?hyr39n8⟩) (by assumption) ?_
            case hyr39n8 => (intro w' hSw; (try dsimp only at hSw); go_simp; try (with_reducible rfl))
            change wpAnyH _ _ _ _ _ _ _ (Act.put _ (some 47) _) _
            simp only [Act.put, List.setIfInBounds_toArray, List.set_cons_zero, List.set_cons_succ]
            refine wpAnyH_take (i := 9) (oi := _) (v := ?vr39n9) rfl (by kernel_rfl) (by kernel_rfl) (by kernel_rfl) (fun _ _ _ h => h) (Or.inl ⟨by rfl, ?hyr39n9⟩) (by assumption) ?_
            case hyr39n9 => (intro w' hSw; (try dsimp only at hSw); go_simp; try (with_reducible rfl))
            change wpAnyH _ _ _ _ _ _ _ (Act.put _ (some 48) _) _
            simp only [Act.put, List.setIfInBounds_toArray, List.set_cons_zero, List.set_cons_succ]
            refine wpAnyH_ready (rs := [10]) (by kernel_rfl) (by simp) ?_
            refine AllReadyH.cons rfl (fun K hK => ?_) AllReadyH.nil
            go_simp
            refine hK.out _ _ ?_ (fun hHeld => ?_)
            · first | go_keep | exact ⟨a0, a1, a2, a3⟩ | exact ⟨p0, p1, p2, p3⟩ | exact ⟨r0, r1, r2, r3⟩
            clear hK K
            try simp only [Act.put, List.setIfInBounds_toArray, List.set_cons_zero, List.set_cons_succ]
            refine wpAnyH_done (by kernel_rfl) ?_ _
            clear a0 a1 a2 a3 p0 p1 p2 p3 r0 r1 r2 r3
            have hgE := (only_drewN' w4 1).trans ((World.grownBy_alloc (w4.drewN 1) (.cells #[.slice (some ⟨w.heap.size, 0, none⟩) 0 0, .slice (some ⟨w.heap.size + 1, 0, none⟩) 0 0, .bool ht, .string tx] 94) (Value.slice Av N cv).ownBlock).trans hg6)
            have hB7 := (hB6.set 0 (.slice (some ⟨gg, 0, none⟩) (N + 1) cap)).1
            have cS := Chg.of_set gset
            have hvb : ∀ q, (Value.slice (some ⟨gg, 0, none⟩) (N + 1) cap).ownBlock = some q → q ≠ g ∧ q ≠ PB ∧ ((Value.slice Av N cv).ownBlock = some q ∨ w.heap.size ≤ q) := fun q hq => by
              have h2 : gg = q := Option.some.inj hq
              rcases hat6 with hh | hh
              · rw [h2] at hh
                exact ⟨hvg q hh, fun e => nvP (by rw [hh, e]), Or.inl hh⟩
              · exact ⟨by omega, by omega, Or.inr (by omega)⟩
            have own6 := own_up1 (r' := nRow 94 (.slice (some ⟨gg, 0, none⟩) (N + 1) cap) (N + 1) (L ++ tnC ⟨some ⟨w.heap.size, 0, none⟩, 0, [], some ⟨w.heap.size + 1, 0, none⟩, 0, [], ht, tx⟩)) own hgE ho6 (fun q hq => by
              have h2 : gg = q := Option.some.inj hq
              rcases hat6 with hh | hh
              · rw [h2] at hh; exact Or.inl hh
              · exact Or.inr (by omega))
            have hge0 : ∀ r ∈ ndRows 3 ((⟨some ⟨w.heap.size, 0, none⟩, 0, [], some ⟨w.heap.size + 1, 0, none⟩, 0, [], ht, tx⟩ : Tn) :: []), ∀ q, r.v.ownBlock = some q → w.heap.size ≤ q ∧ q ≠ PB := fun r hr q hq => by
              rw [ndRows_cons] at hr
              rcases List.mem_cons.1 hr with rfl | hr
              · have h2 : w.heap.size = q := Option.some.inj hq
                omega
              · rcases List.mem_cons.1 hr with rfl | hr
                · have h2 : w.heap.size + 1 = q := Option.some.inj hq
                  omega
                · cases hr
            have own7 := own6.chg cS (fun r hr q hq f => by
              have f2 : q = g := f
              rcases List.mem_cons.1 hr with rfl | hr
              · exact (hvb q hq).1 f2
              · have := (hge0 r hr q hq).1
                omega)
            have inv : PInv 91 94 3 w _ base BB g PB (N + 1) (.slice Av N cv) (.slice (some ⟨gg, 0, none⟩) (N + 1) cap) (L ++ tnC ⟨some ⟨w.heap.size, 0, none⟩, 0, [], some ⟨w.heap.size + 1, 0, none⟩, 0, [], ht, tx⟩) ⟨some ⟨w.heap.size, 0, none⟩, 0, [], some ⟨w.heap.size + 1, 0, none⟩, 0, [], ht, tx⟩ [] := ⟨by simpa [tns, rows] using own7, hge0, hB7, hP7, hvb, (hch.trans_new (Chg.of_grown (F := fun q => (Value.slice Av N cv).ownBlock = some q) hgE (fun q hq => hq)) (fun i _ f => Or.inr f)).trans_new cS (fun i _ f => Or.inl f)⟩
            go_wp2
            go_meet
            case rel => exact ⟨_, inv⟩
        case rest =>
          clear own hB hP hch hv4 a0 a1 a2 a3 cB cBa hs4 hPl
          obtain ⟨v7, inv⟩ := hcut
          obtain ⟨e0, he0⟩ : ∃ e0 : Tn, e0 = ⟨some ⟨w.heap.size, 0, none⟩, 0, [], some ⟨w.heap.size + 1, 0, none⟩, 0, [], ht, tx⟩ := ⟨_, rfl⟩
          rw [← he0] at inv
          have hk0 := Lib.hid (And.intro (show e0.ss = [] by rw [he0]) (And.intro (show e0.cs = [] by rw [he0]) (And.intro (show e0.b = ht by rw [he0]) (show e0.t = tx by rw [he0]))))
          clear he0
          obtain ⟨Q, hQ⟩ : ∃ Q, Q = kids (tree f (d + 1)) d (vals l).length (N + 1) (vals l') := ⟨_, rfl⟩
          rw [← hQ] at hTree
          have hQ := Lib.hid hQ
          have hgw : g < w.heap.size := hgl.2
          have hPw : w.heap.size ≤ PB := by omega
          go_wp2
          go_loopw [1, 9, 10] (fun s1 _ _ W => ∃ (A' : Option Addr) (c' : Nat) (l' : List En) (v : Value) (e : Tn) (S : List Tn) (m : Nat), s1 = .slice A' l'.length c' ∧ l'.length ≤ c' ∧ l'.length ≤ m ∧ l'.length + e.ss.length ≤ l.length ∧ e.cs.length = e.ss.length ∧ S.length + 8 * l'.length ≤ 8 * l.length ∧ Tri2 d (vals l') ∧ Hid (Q = joinK e.ss e.cs (tvals S) (kids (tree f (d + 1)) d m (N + 1 + S.length) (vals l'))) ∧ Hid (e.b = ht ∧ e.t = tx) ∧ PInv 91 94 3 w W base BB g PB (N + 1) (.slice Av N cv) v (L ++ tnC e0) e S ∧ DRow w B A' l') (fun s1 _ _ _ => slLen s1)
          case atStart => exact ⟨A', c', l', v7, e0, [], (vals l).length, rfl, hlc', by rw [vals_len]; exact hll', by rw [hk0.out.1]; exact hll', by rw [hk0.out.1, hk0.out.2.1], by simp; omega, hT2, by rw [hk0.out.1, hk0.out.2.1]; exact hQ.out, hk0.out.2.2, inv, hr'⟩
          case round =>
            clear inv hk0 hQ hT2 hr' hlc' hll' hv'
            obtain ⟨A', c', l', v, e, S, m, rfl, hlc, hlm, hls, hcs, hS8, hT2, hQ, hbt, inv, hr'⟩ := hrel
            have hrr := hrW.out _ inv.ch A' l' hr'
            replace hcs := Nat.le_antisymm_iff.1 hcs
            cases l' with
            | nil =>
              have hQ2 := hQ.out
              rw [show vals [] = [] from rfl, kids_nil] at hQ2
              replace hQ2 := Lib.hid hQ2
              have hvv : wr.ownsRow base 94 4 v (N + 1 + S.length) (L ++ tnC e0 ++ tns S) := inv.own.own (nRow 94 v (N + 1 + S.length) (L ++ tnC e0 ++ tns S)) (List.mem_cons_self ..)
              obtain ⟨G, cap, rfl, hG1, hG2⟩ := hvv.form (by omega)
              have hvG := inv.vb G rfl
              have nGg : G ≠ g := hvG.1
              have nGP : G ≠ PB := hvG.2.1
              have hLl : L.length = N * 4 := hv0.1
              have hlen := hvv.1
              have cB := inv.b.cell (j := 0) rfl
              have a0 : wr.cell? ⟨PB, 0, none⟩ = some (.slice e.A1 e.ss.length e.c1) := inv.p.cell (j := 0) rfl
              have a1 : wr.cell? ⟨PB, 1, none⟩ = some (.slice e.A2 e.cs.length e.c2) := inv.p.cell (j := 1) rfl
              have a2 : wr.cell? ⟨PB, 2, none⟩ = some (.bool e.b) := inv.p.cell (j := 2) rfl
              have a3 : wr.cell? ⟨PB, 3, none⟩ = some (.string e.t) := inv.p.cell (j := 3) rfl
              have f0 := hvv.frozenAt (N * 4)
              have f1 := hvv.frozenAt (N * 4 + 1)
              have f2 := hvv.frozenAt (N * 4 + 2)
              have f3 := hvv.frozenAt (N * 4 + 3)
              obtain ⟨u0, k0⟩ : ∃ u, wr.cell? ⟨G, N * 4, none⟩ = some u := ⟨_, (hvv.cellAt (N * 4) (by omega)).trans (List.getElem?_eq_getElem (by omega))⟩
              obtain ⟨u1, k1⟩ : ∃ u, wr.cell? ⟨G, N * 4 + 1, none⟩ = some u := ⟨_, (hvv.cellAt (N * 4 + 1) (by omega)).trans (List.getElem?_eq_getElem (by omega))⟩
              obtain ⟨u2, k2⟩ : ∃ u, wr.cell? ⟨G, N * 4 + 2, none⟩ = some u := ⟨_, (hvv.cellAt (N * 4 + 2) (by omega)).trans (List.getElem?_eq_getElem (by omega))⟩
              obtain ⟨u3, k3⟩ : ∃ u, wr.cell? ⟨G, N * 4 + 3, none⟩ = some u := ⟨_, (hvv.cellAt (N * 4 + 3) (by omega)).trans (List.getElem?_eq_getElem (by omega))⟩
              obtain ⟨ownF, gF⟩ := own_store4 (x0 := e0.s1) (x1 := e0.s2) (x2 := .bool e0.b) (x3 := .string e0.t) inv.own hLl e.s1 e.s2 (.bool e.b) (.string e.t)
              have bF := (inv.b.grown gF (fun ee => nGg (Option.some.inj ee))).drewN 1
              have cF := (inv.ch.trans_new (Chg.of_set gF) (fun i hi f => by
                have f9 : i = G := f
                rw [f9] at hi ⊢
                rcases hvG.2.2 with h9 | h9
                · exact Or.inr h9
                · omega)).drew 1
              have X := Lib.hid (And.intro (ownF.drew 1) (And.intro bF cF))
              have hvb := Lib.hid inv.vb
              have hge := Lib.hid inv.ge
              clear ownF gF bF cF hvv hlen hLl inv hvG hT2 hQ hrr hr'
              have hi1' : (N : Int) < (N : Int) + 1 + (S.length : Int) := by omega
              go_wp2
              go_region_held3 (fun w' => w'.cell? ⟨g, 0, none⟩ = some (.slice (some ⟨G, 0, none⟩) (N + 1 + S.length) cap) ∧ w'.cell? ⟨PB, 0, none⟩ = some (.slice e.A1 e.ss.length e.c1) ∧ w'.cell? ⟨PB, 1, none⟩ = some (.slice e.A2 e.cs.length e.c2) ∧ w'.cell? ⟨PB, 2, none⟩ = some (.bool e.b) ∧ w'.cell? ⟨PB, 3, none⟩ = some (.string e.t)) (go_keep) (fail)
              go_wp2
              go_ret
              exact ⟨rfl, .slice (some ⟨G, 0, none⟩) (N + 1 + S.length) cap, e :: S, by rw [hTree.out, hQ2.out]; simp [tvals, joinK, Tn.v, hbt.out.1, hbt.out.2], by rw [tns_cons, ← List.append_assoc, List.length_cons, show N + (S.length + 1) = N + 1 + S.length by omega]; exact X.out.1, fun r hr q hq => (hge.out r hr q hq).1, X.out.2.1, fun q hq => ⟨(hvb.out q hq).1, (hvb.out q hq).2.2⟩, X.out.2.2⟩
            | cons x r =>
              have hxl : (x :: r).length = r.length + 1 := rfl
              have hr40 : r.length + 1 ≤ 40 := by omega
              rw [hxl] at hlc hlm hls hS8
              clear hxl
              have hx6 := hT2.six x.v (by simp [vals])
              have hxd := hT2.lt x.v (by simp [vals])
              obtain ⟨b, off, b2, off2, rfl, hb, hxA, hc1, hc2⟩ := hrr.st (k := 0) (d := d) (by simp) hxd
              have hc1' : wr.cell? ⟨b, off, none⟩ = some (.slice (some ⟨b2, off2, none⟩) x.o.length x.c) := hc1
              obtain ⟨sx, hsx⟩ : ∃ sx, sx = stAt d x.v := ⟨_, rfl⟩
              have hc2' : wr.cell? ⟨b2, off2 + d, none⟩ = some (.int .i64 sx) := by rw [hsx]; exact hc2
              have hdi : (d : Int) < (x.o.length : Int) := by have : d < x.o.length := hxd; omega
              have hd0 : (0 : Int) ≤ (d : Int) := by omega
              obtain ⟨run, hrun⟩ : ∃ run, run = runL d sx (vals (x :: r)) := ⟨_, rfl⟩
              have hrun1 : 1 ≤ run := by rw [hrun, hsx]; exact runL_pos d x.v (vals r)
              have hrunl : run ≤ r.length + 1 := by rw [hrun]; have := runL_le d sx (vals (x :: r)); rw [vals_len] at this; exact this
              replace hsx := Lib.hid hsx
              replace hrun := Lib.hid hrun
              clear hc1 hc2 hxA
              go_wp2
              go_loop [10] (fun i => ∃ k : Nat, i = .int .i64 k ∧ k ≤ run) (fun i => (r.length + 1) - (intOf i).toNat)
              case atStart => exact ⟨0, rfl, Nat.zero_le _⟩
              case round =>
                obtain ⟨k, rfl, hk⟩ := hrel
                go_upto_region 9 with fail
                go_cut [74] (fun s W => s = .bool (decide (k < run)) ∧ W = wr)
                case first =>
                  by_cases hkl : k < r.length + 1
                  · have hke : (enAt (x :: r) k).v ∈ vals (x :: r) := List.mem_map.2 ⟨_, enAt_in (x :: r) k (by simpa using hkl), rfl⟩
                    have hkd : d < (enAt (x :: r) k).o.length := hT2.lt _ hke
                    obtain ⟨b', off', b3, off3, hA, _, _, hd1, hd2⟩ := hrr.st (k := k) (d := d) (by simpa using hkl) hkd
                    cases hA
                    have htest := run_lt (d := d) (s := sx) (l := vals (x :: r)) (k := k) (by rw [← hrun.out]; exact hk) (by rw [vals_len]; simpa using hkl)
                    rw [← hrun.out, evAt_vals _ _ (by simpa using hkl)] at htest
                    have hdk : (d : Int) < ((enAt (x :: r) k).o.length : Int) := by omega
                    have hk1 : (k : Int) < (r.length : Int) + 1 := by omega
                    have hk2 : (0 : Int) ≤ (k : Int) := by omega
                    generalize stAt d (enAt (x :: r) k).v = sy at htest hd2
                    generalize (enAt (x :: r) k).o.length = ol at hd1 hdk
                    generalize (enAt (x :: r) k).c = oc at hd1
                    replace htest := Lib.hid htest
                    go_wp2
                    go_meet
                    case rel => exact ⟨by rw [htest.out], rfl⟩
                  · have hk1 : ¬ (k : Int) < (r.length : Int) + 1 := by omega
                    go_wp2
                    go_meet
                    case rel => exact ⟨by rw [Value.bool.injEq, eq_comm, decide_eq_false_iff_not]; omega, rfl⟩
                case rest =>
                  obtain ⟨rfl, hw⟩ := hcut
                  subst hw
                  rename World => wr
                  by_cases hkr : k < run
                  · go_wp2
                    go_round
                    case rel => exact ⟨k + 1, by go_num, by omega⟩
                    case measure => simp [intOf]; omega
                  · replace hk : k = run := by omega
                    subst hk
                    clear hkr
                    have a0 : wr.cell? ⟨PB, 0, none⟩ = some (.slice e.A1 e.ss.length e.c1) := inv.p.cell (j := 0) rfl
                    have hs1 := inv.s1
                    have n1P : (Value.slice e.A1 e.ss.length e.c1).ownBlock ≠ some PB := fun ee => (inv.ge (ndRow1 3 e) (nd_mem 3 (List.mem_cons_self ..)).1 _ ee).2 rfl
                    have hwr := inv.ch.size
                    go_wp2_with (at_builtin; refine wpList_appW #[.int .i64 sx] intT hs1 rfl (by simp [Value.oneCell']) (by omega) (by omega) (by decide) rfl (.tmp 78) (.tmp 80) rfl _ rfl rfl rfl ?_; intro v6 w6 ho6 hg6 hat6; obtain ⟨A7, c7, rfl, _⟩ := own_slice ho6; have hP6 := inv.p.grown hg6 n1P; have fP6 := hP6.frozen 0; have cP6 : w6.cell? ⟨PB, 0, none⟩ = some (.slice e.A1 e.ss.length e.c1) := hP6.cell (j := 0) rfl)
                    have inv6 := inv.up1 hgw hPw (x := sx) hg6 ho6 hat6
                    obtain ⟨e1, he1⟩ : ∃ e1 : Tn, e1 = { e with A1 := A7, c1 := c7, ss := e.ss ++ [sx] } := ⟨_, rfl⟩
                    rw [← he1] at inv6
                    have k1 := Lib.hid (show e1.ss = e.ss ++ [sx] ∧ e1.cs = e.cs ∧ e1.b = e.b ∧ e1.t = e.t from by rw [he1]; exact ⟨rfl, rfl, rfl, rfl⟩)
                    have kl : e1.cs.length ≤ e.cs.length := by rw [k1.out.2.1]; exact Nat.le_refl _
                    clear he1 inv hs1 n1P ho6 hg6 hat6 hP6 fP6 cP6 a0 hrr hc1' hc2'
                    generalize w6.setCell ⟨PB, 0, none⟩ (.slice A7 (e.ss.length + 1) c7) = w7 at *
                    obtain ⟨K9, hK9⟩ : ∃ K9, K9 = N + 1 + S.length := ⟨_, rfl⟩
                    have hf1 : 1 ≤ f := by have : x.v.1.length ≤ 6 := hx6; have : d < x.v.1.length := hxd; omega
                    have hT3 : Tri (d + 1) (vals ((x :: r).take k)) := by
                      have h9 := hT2.run sx
                      rw [← hrun.out] at h9
                      rw [valsE_take]
                      exact h9
                    have hIH : RowKit.Hid (∀ W, PInv 91 94 3 w W base BB g PB (N + 1) (.slice Av N cv) v (L ++ tnC e0) e1 S → Calls Tryd.prog 72 #[.pointer (some ⟨g, 0, none⟩), .slice (some ⟨b, off, none⟩) k c', .int .i64 ((d : Int) + 1)] W fun e w' => e = .returned (.int .i64 (K9 : Int)) ∧ ∃ (v' : Value) (S' : List Tn), tvals S' = tree f (d + 1) K9 (vals ((x :: r).take k)) ∧ OwnAll w' base (nRow 94 v' (N + 1 + S.length + S'.length) (L ++ tnC e0 ++ tns S ++ tns S') :: ndRows 3 S') ∧ (∀ r ∈ ndRows 3 S', ∀ q, r.v.ownBlock = some q → W.heap.size ≤ q) ∧ ownC 91 w' BB g [v'] ∧ (∀ q, v'.ownBlock = some q → q ≠ g ∧ (v.ownBlock = some q ∨ W.heap.size ≤ q)) ∧ Chg W w' (fun k => k = g ∨ v.ownBlock = some k)) := Lib.hid (fun W hW => by
                      rw [hK9]
                      exact ih.out (d + 1) (some ⟨b, off, none⟩) k c' ((x :: r).take k) g (N + 1 + S.length) BB B base v (L ++ tnC e0 ++ tns S) W hf1 (by omega) (by simp; omega) (by omega) (by omega) hT3 ((hrW.out _ hW.ch _ _ hr').take k) hBB hBb (by have := hW.ch.size; omega) hW.row hW.b (fun q hq => (hW.vb q hq).1) (by omega))
                    replace hK9 := Lib.hid hK9
                    go_upto_region 12 with fail
                    go_cut [] (fun W => ∃ (v8 : Value) (S8 : List Tn) (A2 : Option Addr) (c2 : Nat), tvals S8 = tree f (d + 1) K9 (vals ((x :: r).take k)) ∧ PInv 91 94 3 w W base BB g PB (N + 1) (.slice Av N cv) v8 (L ++ tnC e0) { e1 with A2 := A2, c2 := c2, cs := e1.cs ++ [(K9 : Int)] } (S ++ S8))
                    case first =>
                      have hwd : IntKind.i64.wrap ((d : Int) + 1) = (d : Int) + 1 := IntWalk.i64_in _ (by omega)
                      obtain ⟨iI, hj0, hj1, hj2, hj3⟩ := info_parts intT.info
                      have a1 : w7.cell? ⟨PB, 1, none⟩ = some (.slice e1.A2 e1.cs.length e1.c2) := inv6.p.cell (j := 1) rfl
                      have n2P : (Value.slice e1.A2 e1.cs.length e1.c2).ownBlock ≠ some PB := fun ee => (inv6.ge (ndRow2 3 e1) (nd_mem 3 (List.mem_cons_self ..)).2 _ ee).2 rfl
                      have q1 : (k : Int) ≤ (c' : Int) := by omega
                      have q0 : (0 : Int) ≤ (k : Int) := by omega
                      refine wp_region_held_drew (S := (fun _ => True)) (by kernel_rfl) ?_ (fun hHeld => ?_)
                      · trivial
                      refine wpAnyH_take (i := 0) (oi := _) (v := ?vr83n1) rfl (by kernel_rfl) (by kernel_rfl) (by kernel_rfl) (fun _ _ _ h => h) (Or.inl ⟨by rfl, ?hyr83n1⟩) (by assumption) ?_
                      case hyr83n1 => (intro w' hSw; (try dsimp only at hSw); go_simp; try (with_reducible rfl))
                      change wpAnyH _ _ _ _ _ _ _ (Act.put _ (some 83) _) _
                      simp only [Act.put, List.setIfInBounds_toArray, List.set_cons_zero, List.set_cons_succ]
                      refine wpAnyH_take (i := 2) (oi := _) (v := ?vr83n2) rfl (by kernel_rfl) (by kernel_rfl) (by kernel_rfl) (fun _ _ _ h => h) (Or.inl ⟨by rfl, ?hyr83n2⟩) (by assumption) ?_
                      case hyr83n2 => (intro w' hSw; (try dsimp only at hSw); go_simp; try (with_reducible rfl))
                      change wpAnyH _ _ _ _ _ _ _ (Act.put _ (some 85) _) _
                      simp only [Act.put, List.setIfInBounds_toArray, List.set_cons_zero, List.set_cons_succ]
                      refine wpAnyH_take (i := 3) (oi := _) (v := ?vr83n3) rfl (by kernel_rfl) (by kernel_rfl) (by kernel_rfl) (fun _ _ _ h => h) (Or.inl ⟨by rfl, ?hyr83n3⟩) (by assumption) ?_
                      case hyr83n3 => (intro w' hSw; (try dsimp only at hSw); go_simp; try (with_reducible rfl))
                      change wpAnyH _ _ _ _ _ _ _ (Act.put _ (some 86) _) _
                      simp only [Act.put, List.setIfInBounds_toArray, List.set_cons_zero, List.set_cons_succ]
                      refine wpAnyH_take (i := 4) (oi := _) (v := ?vr83n4) rfl (by kernel_rfl) (by kernel_rfl) (by kernel_rfl) (fun _ _ _ h => h) (Or.inl ⟨by rfl, ?hyr83n4⟩) (by assumption) ?_
                      case hyr83n4 => (intro w' hSw; (try dsimp only at hSw); go_simp; try (with_reducible rfl))
                      change wpAnyH _ _ _ _ _ _ _ (Act.put _ (some 87) _) _
                      simp only [Act.put, List.setIfInBounds_toArray, List.set_cons_zero, List.set_cons_succ]
                      refine wpAnyH_take (i := 5) (oi := _) (v := ?vr83n5) rfl (by kernel_rfl) (by kernel_rfl) (by kernel_rfl) (fun _ _ _ h => h) (Or.inl ⟨by rfl, ?hyr83n5⟩) (by assumption) ?_
                      case hyr83n5 => (intro w' hSw; (try dsimp only at hSw); go_simp; try (with_reducible rfl))
                      change wpAnyH _ _ _ _ _ _ _ (Act.put _ (some 88) _) _
                      simp only [Act.put, List.setIfInBounds_toArray, List.set_cons_zero, List.set_cons_succ]
                      refine wpAnyH_take (i := 6) (oi := _) (v := ?vr83n6) rfl (by kernel_rfl) (by kernel_rfl) (by kernel_rfl) (fun _ _ _ h => h) (Or.inl ⟨by rfl, ?hyr83n6⟩) (by assumption) ?_
                      case hyr83n6 => (intro w' hSw; (try dsimp only at hSw); go_simp; try (with_reducible rfl))
                      change wpAnyH _ _ _ _ _ _ _ (Act.put _ (some 89) _) _
                      simp only [Act.put, List.setIfInBounds_toArray, List.set_cons_zero, List.set_cons_succ]
                      refine wpAnyH_take (i := 7) (oi := _) (v := ?vr83n7) rfl (by kernel_rfl) (by kernel_rfl) (by kernel_rfl) (fun _ _ _ h => h) (Or.inl ⟨by rfl, ?hyr83n7⟩) (by assumption) ?_
                      case hyr83n7 => (intro w' hSw; (try dsimp only at hSw); go_simp; try (with_reducible rfl))
                      change wpAnyH _ _ _ _ _ _ _ (Act.put _ (some 90) _) _
                      simp only [Act.put, List.setIfInBounds_toArray, List.set_cons_zero, List.set_cons_succ]
                      refine wpAnyH_ready (rs := [1, 8]) (by kernel_rfl) (by simp) ?_
                      refine AllReadyH.cons rfl (fun K hK => ?_) (AllReadyH.cons rfl (fun K hK => ?_) AllReadyH.nil)
                      · go_simp
                        refine hK.out _ _ ?_ (fun hHeld => ?_)
                        · trivial
                        clear hK K
                        try simp only [Act.put, List.setIfInBounds_toArray, List.set_cons_zero, List.set_cons_succ]
                        refine wpAnyH_ready (rs := [8]) (by kernel_rfl) (by simp) ?_
                        refine AllReadyH.cons rfl (fun K hK => ?_) AllReadyH.nil
                        go_simp
                        go_at_call 72
                        refine (hIH.out _ (by first | exact inv6 | exact inv6.drew 1)).mono ?_
                        rintro e9 w8 ⟨rfl, v8, S8, hS8, own8, ge8, b8, vb8, ch8⟩
                        have inv8 := (inv6.drew 1).sub hgw hPw own8 ge8 b8 vb8 ch8
                        have m1 : w8.cell? ⟨PB, 1, none⟩ = some (.slice e1.A2 e1.cs.length e1.c2) := inv8.p.cell (j := 1) rfl
                        have mA : (w8.alloc (.cells #[.int .i64 (K9 : Int)] 3)).cell? ⟨PB, 1, none⟩ = some (.slice e1.A2 e1.cs.length e1.c2) := (inv8.p.alloc _).cell (j := 1) rfl
                        have hs8 := inv8.s2
                        have sz8 := inv8.ch.size
                        clear own8 ge8 b8 vb8 ch8
                        refine hK.out _ _ ?_ (fun hHeld => ?_)
                        · trivial
                        clear hK K
                        try simp only [Act.put, List.setIfInBounds_toArray, List.set_cons_zero, List.set_cons_succ]
                        refine wpAnyH_ready (rs := [9]) (by kernel_rfl) (by simp) ?_
                        refine AllReadyH.cons rfl (fun K hK => ?_) AllReadyH.nil
                        go_simp
                        refine hK.out _ _ ?_ (fun hHeld => ?_)
                        · trivial
                        clear hK K
                        try simp only [Act.put, List.setIfInBounds_toArray, List.set_cons_zero, List.set_cons_succ]
                        refine wpAnyH_ready (rs := [10]) (by kernel_rfl) (by simp) ?_
                        refine AllReadyH.cons rfl (fun K hK => ?_) AllReadyH.nil
                        refine step_append_lies _ rfl (.tmp 84) (.tmp 92) 22 rfl base 3 iI _ 1 8 Tryd.underlying22 hj0 hj1 hj2 hj3 rfl (by decide) (.slice e1.A2 e1.cs.length e1.c2) e1.cs.length (ints e1.cs) rfl (World.ownsRow.alloc hs8 _) ⟨w8.heap.size, 0, none⟩ 1 1 [.int .i64 (K9 : Int)] rfl rfl (World.news_of_block (cs := #[.int .i64 (K9 : Int)]) (t := 3) (fr := (0, 0)) (heap_alloc_new w8 _)) (by simp [Value.oneCell']) (by omega) (by unfold maxLen; omega) (by omega) (by simp; omega) (w8.heap.size + 1) (by simp) ?_
                        intro gg cap w9 ho9 hg9 hat9 hlt9
                        have hP9 := (inv8.p.alloc (.cells #[.int .i64 (K9 : Int)] 3)).grown hg9 n2P
                        have fP9 := hP9.frozen 1
                        have cP9 : w9.cell? ⟨PB, 1, none⟩ = some (.slice e1.A2 e1.cs.length e1.c2) := hP9.cell (j := 1) rfl
                        refine hK.out _ _ ?_ (fun hHeld => ?_)
                        · trivial
                        clear hK K
                        try simp only [Act.put, List.setIfInBounds_toArray, List.set_cons_zero, List.set_cons_succ]
                        refine wpAnyH_take (i := 11) (oi := _) (v := ?vr83n8) rfl (by kernel_rfl) (by kernel_rfl) (by kernel_rfl) (fun _ _ _ h => h) (Or.inl ⟨by rfl, ?hyr83n8⟩) (by assumption) ?_
                        case hyr83n8 => (intro w' hSw; (try dsimp only at hSw); go_simp; try (with_reducible rfl))
                        change wpAnyH _ _ _ _ _ _ _ (Act.put _ (some 94) _) _
                        simp only [Act.put, List.setIfInBounds_toArray, List.set_cons_zero, List.set_cons_succ]
                        refine wpAnyH_ready (rs := [12]) (by kernel_rfl) (by simp) ?_
                        refine AllReadyH.cons rfl (fun K hK => ?_) AllReadyH.nil
                        go_simp
                        refine hK.out _ _ ?_ (fun hHeld => ?_)
                        · trivial
                        clear hK K
                        try simp only [Act.put, List.setIfInBounds_toArray, List.set_cons_zero, List.set_cons_succ]
                        refine wpAnyH_done (by kernel_rfl) ?_ _
                        have inv9 := Lib.hid (inv8.up2 hgw hPw (x := (K9 : Int)) ((World.grownBy_alloc w8 (.cells #[.int .i64 (K9 : Int)] 3) (Value.slice e1.A2 e1.cs.length e1.c2).ownBlock).trans hg9) ho9 (by rcases hat9 with hh | hh; exact .inl hh.symm; exact .inr (by rw [hh]; rfl)))
                        clear inv8 hP9 hs8 ho9 hg9 hat9
                        go_wp2
                        go_meet
                        case rel => exact ⟨v8, S8, some ⟨gg, 0, none⟩, cap, hS8, inv9.out⟩
                      · go_simp
                        go_at_call 72
                        refine (hIH.out _ (by first | exact inv6 | exact inv6.drew 1)).mono ?_
                        rintro e9 w8 ⟨rfl, v8, S8, hS8, own8, ge8, b8, vb8, ch8⟩
                        have inv8 := (inv6.drew 1).sub hgw hPw own8 ge8 b8 vb8 ch8
                        have m1 : w8.cell? ⟨PB, 1, none⟩ = some (.slice e1.A2 e1.cs.length e1.c2) := inv8.p.cell (j := 1) rfl
                        have mA : (w8.alloc (.cells #[.int .i64 (K9 : Int)] 3)).cell? ⟨PB, 1, none⟩ = some (.slice e1.A2 e1.cs.length e1.c2) := (inv8.p.alloc _).cell (j := 1) rfl
                        have hs8 := inv8.s2
                        have sz8 := inv8.ch.size
                        clear own8 ge8 b8 vb8 ch8
                        refine hK.out _ _ ?_ (fun hHeld => ?_)
                        · trivial
                        clear hK K
                        try simp only [Act.put, List.setIfInBounds_toArray, List.set_cons_zero, List.set_cons_succ]
                        refine wpAnyH_ready (rs := [1, 9]) (by kernel_rfl) (by simp) ?_
                        refine AllReadyH.cons rfl (fun K hK => ?_) (AllReadyH.cons rfl (fun K hK => ?_) AllReadyH.nil)
                        · go_simp
                          refine hK.out _ _ ?_ (fun hHeld => ?_)
                          · trivial
                          clear hK K
                          try simp only [Act.put, List.setIfInBounds_toArray, List.set_cons_zero, List.set_cons_succ]
                          refine wpAnyH_ready (rs := [9]) (by kernel_rfl) (by simp) ?_
                          refine AllReadyH.cons rfl (fun K hK => ?_) AllReadyH.nil
                          go_simp
                          refine hK.out _ _ ?_ (fun hHeld => ?_)
                          · trivial
                          clear hK K
                          try simp only [Act.put, List.setIfInBounds_toArray, List.set_cons_zero, List.set_cons_succ]
                          refine wpAnyH_ready (rs := [10]) (by kernel_rfl) (by simp) ?_
                          refine AllReadyH.cons rfl (fun K hK => ?_) AllReadyH.nil
                          refine step_append_lies _ rfl (.tmp 84) (.tmp 92) 22 rfl base 3 iI _ 1 8 Tryd.underlying22 hj0 hj1 hj2 hj3 rfl (by decide) (.slice e1.A2 e1.cs.length e1.c2) e1.cs.length (ints e1.cs) rfl (World.ownsRow.alloc hs8 _) ⟨w8.heap.size, 0, none⟩ 1 1 [.int .i64 (K9 : Int)] rfl rfl (World.news_of_block (cs := #[.int .i64 (K9 : Int)]) (t := 3) (fr := (0, 0)) (heap_alloc_new w8 _)) (by simp [Value.oneCell']) (by omega) (by unfold maxLen; omega) (by omega) (by simp; omega) (w8.heap.size + 1) (by simp) ?_
                          intro gg cap w9 ho9 hg9 hat9 hlt9
                          have hP9 := (inv8.p.alloc (.cells #[.int .i64 (K9 : Int)] 3)).grown hg9 n2P
                          have fP9 := hP9.frozen 1
                          have cP9 : w9.cell? ⟨PB, 1, none⟩ = some (.slice e1.A2 e1.cs.length e1.c2) := hP9.cell (j := 1) rfl
                          refine hK.out _ _ ?_ (fun hHeld => ?_)
                          · trivial
                          clear hK K
                          try simp only [Act.put, List.setIfInBounds_toArray, List.set_cons_zero, List.set_cons_succ]
                          refine wpAnyH_take (i := 11) (oi := _) (v := ?vr83n9) rfl (by kernel_rfl) (by kernel_rfl) (by kernel_rfl) (fun _ _ _ h => h) (Or.inl ⟨by rfl, ?hyr83n9⟩) (by assumption) ?_
                          case hyr83n9 => (intro w' hSw; (try dsimp only at hSw); go_simp; try (with_reducible rfl))
                          change wpAnyH _ _ _ _ _ _ _ (Act.put _ (some 94) _) _
                          simp only [Act.put, List.setIfInBounds_toArray, List.set_cons_zero, List.set_cons_succ]
                          refine wpAnyH_ready (rs := [12]) (by kernel_rfl) (by simp) ?_
                          refine AllReadyH.cons rfl (fun K hK => ?_) AllReadyH.nil
                          go_simp
                          refine hK.out _ _ ?_ (fun hHeld => ?_)
                          · trivial
                          clear hK K
                          try simp only [Act.put, List.setIfInBounds_toArray, List.set_cons_zero, List.set_cons_succ]
                          refine wpAnyH_done (by kernel_rfl) ?_ _
                          have inv9 := Lib.hid (inv8.up2 hgw hPw (x := (K9 : Int)) ((World.grownBy_alloc w8 (.cells #[.int .i64 (K9 : Int)] 3) (Value.slice e1.A2 e1.cs.length e1.c2).ownBlock).trans hg9) ho9 (by rcases hat9 with hh | hh; exact .inl hh.symm; exact .inr (by rw [hh]; rfl)))
                          clear inv8 hP9 hs8 ho9 hg9 hat9
                          go_wp2
                          go_meet
                          case rel => exact ⟨v8, S8, some ⟨gg, 0, none⟩, cap, hS8, inv9.out⟩
                        · go_simp
                          refine hK.out _ _ ?_ (fun hHeld => ?_)
                          · trivial
                          clear hK K
                          try simp only [Act.put, List.setIfInBounds_toArray, List.set_cons_zero, List.set_cons_succ]
                          refine wpAnyH_ready (rs := [1]) (by kernel_rfl) (by simp) ?_
                          refine AllReadyH.cons rfl (fun K hK => ?_) AllReadyH.nil
                          go_simp
                          refine hK.out _ _ ?_ (fun hHeld => ?_)
                          · trivial
                          clear hK K
                          try simp only [Act.put, List.setIfInBounds_toArray, List.set_cons_zero, List.set_cons_succ]
                          refine wpAnyH_ready (rs := [10]) (by kernel_rfl) (by simp) ?_
                          refine AllReadyH.cons rfl (fun K hK => ?_) AllReadyH.nil
                          refine step_append_lies _ rfl (.tmp 84) (.tmp 92) 22 rfl base 3 iI _ 1 8 Tryd.underlying22 hj0 hj1 hj2 hj3 rfl (by decide) (.slice e1.A2 e1.cs.length e1.c2) e1.cs.length (ints e1.cs) rfl (World.ownsRow.alloc hs8 _) ⟨w8.heap.size, 0, none⟩ 1 1 [.int .i64 (K9 : Int)] rfl rfl (World.news_of_block (cs := #[.int .i64 (K9 : Int)]) (t := 3) (fr := (0, 0)) (heap_alloc_new w8 _)) (by simp [Value.oneCell']) (by omega) (by unfold maxLen; omega) (by omega) (by simp; omega) (w8.heap.size + 1) (by simp) ?_
                          intro gg cap w9 ho9 hg9 hat9 hlt9
                          have hP9 := (inv8.p.alloc (.cells #[.int .i64 (K9 : Int)] 3)).grown hg9 n2P
                          have fP9 := hP9.frozen 1
                          have cP9 : w9.cell? ⟨PB, 1, none⟩ = some (.slice e1.A2 e1.cs.length e1.c2) := hP9.cell (j := 1) rfl
                          refine hK.out _ _ ?_ (fun hHeld => ?_)
                          · trivial
                          clear hK K
                          try simp only [Act.put, List.setIfInBounds_toArray, List.set_cons_zero, List.set_cons_succ]
                          refine wpAnyH_take (i := 11) (oi := _) (v := ?vr83n10) rfl (by kernel_rfl) (by kernel_rfl) (by kernel_rfl) (fun _ _ _ h => h) (Or.inl ⟨by rfl, ?hyr83n10⟩) (by assumption) ?_
                          case hyr83n10 => (intro w' hSw; (try dsimp only at hSw); go_simp; try (with_reducible rfl))
                          change wpAnyH _ _ _ _ _ _ _ (Act.put _ (some 94) _) _
                          simp only [Act.put, List.setIfInBounds_toArray, List.set_cons_zero, List.set_cons_succ]
                          refine wpAnyH_ready (rs := [12]) (by kernel_rfl) (by simp) ?_
                          refine AllReadyH.cons rfl (fun K hK => ?_) AllReadyH.nil
                          go_simp
                          refine hK.out _ _ ?_ (fun hHeld => ?_)
                          · trivial
                          clear hK K
                          try simp only [Act.put, List.setIfInBounds_toArray, List.set_cons_zero, List.set_cons_succ]
                          refine wpAnyH_done (by kernel_rfl) ?_ _
                          have inv9 := Lib.hid (inv8.up2 hgw hPw (x := (K9 : Int)) ((World.grownBy_alloc w8 (.cells #[.int .i64 (K9 : Int)] 3) (Value.slice e1.A2 e1.cs.length e1.c2).ownBlock).trans hg9) ho9 (by rcases hat9 with hh | hh; exact .inl hh.symm; exact .inr (by rw [hh]; rfl)))
                          clear inv8 hP9 hs8 ho9 hg9 hat9
                          go_wp2
                          go_meet
                          case rel => exact ⟨v8, S8, some ⟨gg, 0, none⟩, cap, hS8, inv9.out⟩
                    case rest =>
                      obtain ⟨v8, S8, A2, c2, hT8, inv8⟩ := hcut
                      rename World => w8
                      have q1 : (k : Int) ≤ (c' : Int) := by omega
                      have q0 : (0 : Int) ≤ (k : Int) := by omega
                      have q2 : (k : Int) ≤ (r.length : Int) + 1 := by omega
                      obtain ⟨m2, rfl⟩ : ∃ m2, m = m2 + 1 := ⟨m - 1, by omega⟩
                      have hst := kids_step (rec := tree f (d + 1)) (d := d) (m := m2) (k := N + 1 + S.length) (e := x.v) (r := vals r) (ss := e.ss) (cs := e.cs) (ns := tvals S) (n := k) (sub := tvals S8) (by rw [← hsx.out]; exact hrun.out.symm) (by rw [hT8, hK9.out, valsE_take]; rfl)
                      have hQ3 := Lib.hid (show Q = joinK (e.ss ++ [sx]) (e.cs ++ [(K9 : Int)]) (tvals S ++ tvals S8) (kids (tree f (d + 1)) d m2 (N + 1 + S.length + (tvals S8).length) ((vals (x :: r)).drop k)) by rw [hQ.out, hsx.out, hK9.out]; exact hst)
                      have h8l : S8.length ≤ 1 + 6 * k := by
                        have h9 := tree_len f (d + 1) K9 (vals ((x :: r).take k))
                        rw [← hT8, tvals_len, vals_len, List.length_take, Nat.min_eq_left (by simpa using hrunl)] at h9
                        have h10 : f * k ≤ 6 * k := Nat.mul_le_mul_right _ (by omega)
                        omega
                      have hdl : ((x :: r).drop k).length = r.length + 1 - k := by rw [List.length_drop]; rfl
                      replace hdl := Lib.hid hdl
                      replace hT8 := Lib.hid hT8
                      clear hst
                      have hdr : DRow w B (if c' = k then some ⟨b, off, none⟩ else some ⟨b, off + k * 2, none⟩) ((x :: r).drop k) := by
                        split
                        · rw [List.drop_of_length_le (by have : (x :: r).length = r.length + 1 := rfl; omega)]
                          exact DRow.nil _ _ _
                        · have h9 := hr'.drop k
                          simp only [Option.map_some, add_at] at h9
                          exact h9
                      replace hdr := Lib.hid hdr
                      go_wp2
                      go_roundw
                      case rel =>
                        refine ⟨_, _, (x :: r).drop k, v8, { e1 with A2 := A2, c2 := c2, cs := e1.cs ++ [(K9 : Int)] }, S ++ S8, m2, by rw [hdl.out], by rw [hdl.out]; omega, by rw [hdl.out]; omega, ?_, ?_, ?_, ?_, Lib.hid ?_, Lib.hid ⟨k1.out.2.2.1.trans hbt.out.1, k1.out.2.2.2.trans hbt.out.2⟩, inv8, hdr.out⟩
                        · show ((x :: r).drop k).length + e1.ss.length ≤ l.length
                          rw [hdl.out, k1.out.1, List.length_append, List.length_singleton]
                          omega
                        · show (e1.cs ++ [(K9 : Int)]).length = e1.ss.length
                          rw [k1.out.1, k1.out.2.1, List.length_append, List.length_append, List.length_singleton, List.length_singleton]
                          omega
                        · rw [hdl.out, List.length_append]
                          omega
                        · rw [show vals ((x :: r).drop k) = (vals (x :: r)).drop k by simp [vals]]
                          exact hT2.sub (List.drop_sublist _ _)
                        · show Q = joinK e1.ss (e1.cs ++ [(K9 : Int)]) (tvals (S ++ S8)) (kids (tree f (d + 1)) d m2 (N + 1 + (S ++ S8).length) (vals ((x :: r).drop k)))
                          rw [k1.out.1, k1.out.2.1, tvals_append, List.length_append, show vals ((x :: r).drop k) = (vals (x :: r)).drop k by simp [vals], ← Nat.add_assoc, hQ3.out, tvals_len]
                      case measure =>
                        simp [slLen]
                        omega

end Go.Proofs.YtnpiljkchjdpfaaDoor
