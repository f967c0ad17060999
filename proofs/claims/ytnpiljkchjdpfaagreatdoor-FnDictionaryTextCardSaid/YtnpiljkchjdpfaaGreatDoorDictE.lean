/- The reference's draws of dictionaries that may be invalid, of a dictionary and of a text for the law. Condition: the bytes that came in are at most 2^20. -/
import Derived.Test.YtnpiljkchjdpfaaGreatDoorDictD
namespace Go.Proofs.YtnpiljkchjdpfaaGreatDoor
open Go.RowKit
set_option linter.unusedSimpArgs false

/-- None of the rows lies in the block DB. -/
def NeB (DB : Nat) (rs : List RowD) : Prop := ∀ r ∈ rs, ∀ q, r.v.ownBlock = some q → q ≠ DB
theorem pushG {w2 : World} {base N : Nat} {rs : List RowD} {r : RowD} (h2 : OwnAll w2 base rs) (hlt : AllLt N rs) (ho : r.own w2 N) (hbase : base ≤ N) : OwnAll w2 base (rs ++ [r]) := by
  refine ⟨fun x hx => ?_, ?_⟩
  · rcases List.mem_append.1 hx with hx | hx
    · exact h2.own x hx
    · rw [List.mem_singleton.1 hx]
      exact own_base ho hbase
  · refine List.pairwise_append.2 ⟨h2.apart, List.pairwise_singleton _ _, fun x hx y hy g hxb e => ?_⟩
    rw [List.mem_singleton.1 hy] at e
    have h1 := hlt x hx g hxb
    have h3 := (ho.lt g e).1
    omega
theorem dOwn_pushG {w2 w3 : World} {base N : Nat} {te ti : TypeId} {v v' : Value} {l : List En} {e : En} (hlt : AllLt N (dRows te ti v l)) (h2 : OwnAll w2 base (dRows te ti v l)) (hbase : base ≤ N)
    (ho : w2.ownsRow N ti 1 e.sl e.o.length (ints e.o)) (ho3 : w3.ownsRow base te 2 v' (l.length + 1) (ents l ++ enC e)) (hg : w2.grownBy w3 v.ownBlock) (hat : v'.ownBlock = v.ownBlock ∨ v'.ownBlock = some (w2.heap.size + 1)) : OwnAll w3 base (dRows te ti v' (l ++ [e])) := by
  have h3 : OwnAll w2 base ([] ++ eRow te v l :: (l.map (oRow ti) ++ [oRow ti e])) := pushG (r := oRow ti e) h2 hlt ho hbase
  have h4 := h3.upd (r' := eRow te v' (l ++ [e])) hg (by
    show World.ownsRow _ _ _ _ _ _ _
    simp only [eRow, List.length_append, List.length_cons, List.length_nil, ents_snoc]
    exact ho3) (fun g e2 => by
    rcases hat with hq | hq
    · exact Or.inl (hq.symm.trans e2)
    · right
      have e2' : v'.ownBlock = some g := e2
      rw [hq] at e2'
      injection e2' with e3
      omega)
  have e5 : dRows te ti v' (l ++ [e]) = [] ++ eRow te v' (l ++ [e]) :: (l.map (oRow ti) ++ [oRow ti e]) := by simp [dRows]
  rw [e5]
  exact h4
theorem ne_push {DB : Nat} {te ti : TypeId} {v v' : Value} {l : List En} {e : En} (h : NeB DB (dRows te ti v l)) (hv : ∀ q, v'.ownBlock = some q → q ≠ DB) (he : ∀ q, e.sl.ownBlock = some q → q ≠ DB) : NeB DB (dRows te ti v' (l ++ [e])) := fun r hr => by
  rcases List.mem_cons.1 hr with rfl | hr
  · exact hv
  · obtain ⟨x, hx, rfl⟩ := List.mem_map.1 hr
    rcases List.mem_append.1 hx with hx | hx
    · exact h (oRow ti x) (List.mem_cons_of_mem _ (List.mem_map.2 ⟨x, hx, rfl⟩))
    · rw [List.mem_singleton.1 hx]
      exact he
theorem ne_nil {DB : Nat} {te ti : TypeId} : NeB DB (dRows te ti (.slice none 0 0) []) := fun r hr => by
  rw [List.mem_singleton.1 hr]
  intro q e
  cases e
theorem ne_head {DB : Nat} {te ti : TypeId} {v : Value} {e e' : En} {q : List En} (h : NeB DB (dRows te ti v (e :: q))) (he : ∀ k, e'.sl.ownBlock = some k → k ≠ DB) : NeB DB (dRows te ti v (e' :: q)) := fun r hr => by
  rcases List.mem_cons.1 hr with rfl | hr
  · exact h (eRow te v (e :: q)) (List.mem_cons_self ..)
  · rcases List.mem_cons.1 hr with rfl | hr
    · exact he
    · exact h r (List.mem_cons_of_mem _ (List.mem_cons_of_mem _ hr))
/-- A new outline in the place of the first entry's. -/
theorem dOwn_outG {w2 : World} {base N : Nat} {te ti : TypeId} {g n c : Nat} {e e' : En} {q : List En} (hn : (e :: q).length = n) (hlt : AllLt N (dRows te ti (.slice (some ⟨g, 0, none⟩) n c) (e :: q))) (h2 : OwnAll w2 base (dRows te ti (.slice (some ⟨g, 0, none⟩) n c) (e :: q))) (hbase : base ≤ N)
    (ho : w2.ownsRow N ti 1 e'.sl e'.o.length (ints e'.o)) :
    OwnAll (w2.setCell ⟨g, 0, none⟩ e'.sl) base (dRows te ti (.slice (some ⟨g, 0, none⟩) n c) ({ e' with t := e.t } :: q)) ∧ w2.grownBy (w2.setCell ⟨g, 0, none⟩ e'.sl) (some g) := by
  subst hn
  have hs : (eRow te (.slice (some ⟨g, 0, none⟩) (e :: q).length c) (e :: q) :: q.map (oRow ti)).Sublist (dRows te ti (.slice (some ⟨g, 0, none⟩) (e :: q).length c) (e :: q)) := List.Sublist.cons_cons _ (List.Sublist.cons _ (List.Sublist.refl _))
  have h3 := pushG (r := oRow ti e') (h2.sub hs) (fun r hr => hlt r (hs.subset hr)) ho hbase
  have h4 : OwnAll w2 base ([] ++ eRow te (.slice (some ⟨g, 0, none⟩) (e :: q).length c) (e :: q) :: (q.map (oRow ti) ++ [oRow ti e'])) := h3
  obtain ⟨o1, g1⟩ := World.ownsRow.stored (h4.own (eRow te (.slice (some ⟨g, 0, none⟩) (e :: q).length c) (e :: q)) (List.mem_cons_self ..)) 0 e'.sl
  refine ⟨?_, g1⟩
  have h5 := h4.upd (r' := eRow te (.slice (some ⟨g, 0, none⟩) (e :: q).length c) ({ e' with t := e.t } :: q)) g1 (by
    show World.ownsRow _ _ _ _ _ _ _
    exact o1) (fun k hk => Or.inl hk)
  refine h5.perm ?_
  show (eRow te _ _ :: (q.map (oRow ti) ++ [oRow ti e'])).Perm (eRow te _ _ :: (oRow ti e' :: q.map (oRow ti)))
  exact List.Perm.cons _ List.perm_append_comm
theorem cons_of {l : List En} (h : 1 ≤ l.length) : ∃ e q, l = e :: q := by
  cases l with
  | nil => simp at h
  | cons e q => exact ⟨e, q, rfl⟩
set_option maxRecDepth 100000 in
set_option maxHeartbeats 4000000 in
theorem anyDictionary_any (w : World) (g m : Nat) (h : Cur w g m) (hm : m ≤ 1000) :
    Calls Tryz.prog 45 #[.pointer (some ⟨g, 0, none⟩)] w fun e w' => ∃ A c l, e = .returned (.agg #[.slice A l.length c]) ∧ l.length ≤ 41 ∧ (∀ e ∈ l, e.o.length ≤ 8 ∧ e.t.size ≤ 100) ∧ OwnAll w' w.heap.size (dRows 42 3 (.slice A l.length c) l) ∧ Cur w' g (m + 800) ∧ w.grownBy w' (some g) := by
  have hlt := h.lt
  have oR := ownC_new 24 w #[.slice none 0 0]
  have hcA := h.alloc (.cells #[.slice none 0 0] 24)
  have gA : w.grownBy (w.alloc (.cells #[.slice none 0 0] 24)) (some g) := World.grownBy_alloc w _ _
  have hneR : (some g : Option Nat) ≠ some w.heap.size := fun e => by have := Option.some.inj e; omega
  obtain ⟨iE, hi0, hi1, hi2, hi3⟩ := info_parts entT.info
  go_enter Tryz.func45, Tryz.ntmps45
  apply wp_seq_k
  intro K0 hK0
  replace hK0 := Lib.hid hK0
  go_wp2
  refine hK0.out _ _ ?_
  clear hK0 K0
  apply wp_seq_k
  intro K0 hK0
  replace hK0 := Lib.hid hK0
  go_wp2_with fail
  refine (dictionary_any _ g m hcA (by omega)).mono ?_
  rintro e w2 ⟨A, c, l, rfl, hl1, hl9, hPl, own2, hc2, hg2⟩
  have s2 := hg2.size
  have e1 : (w.alloc (.cells #[.slice none 0 0] 24)).heap.size = w.heap.size + 1 := by simp
  rw [e1] at s2 own2
  have hbd : ∀ e ∈ l, e.o.length ≤ 8 ∧ e.t.size ≤ 100 := fun e he => ⟨Nat.le_trans (outB_len (hPl e he).1).2 (by decide), (hPl e he).2⟩
  have bD := (Below.refl w2.heap.size w2).alloc (Nat.le_refl _) (.cells #[.slice A l.length c] 24)
  have hDn := (ownC_new 24 w2 #[.slice A l.length c]).base (show w.heap.size ≤ w2.heap.size by omega)
  have hRn := (oR.grown hg2 hneR).alloc (.cells #[.slice A l.length c] 24)
  have own3 := own2.below bD (Nat.le_refl _)
  have ne3 : NeB w2.heap.size (dRows 42 3 (.slice A l.length c) l) := fun r hr q hq => Nat.ne_of_lt (own2.lt r hr q hq)
  have hc3 := hc2.alloc (.cells #[.slice A l.length c] 24)
  have g3 := grown_below (gA.trans hg2) bD
  clear oR hcA gA hPl own2 hc2 hg2 bD e1
  have hneD : (some g : Option Nat) ≠ some w2.heap.size := fun e => by have := Option.some.inj e; omega
  have hDB := hDn.lt.2
  generalize hDBe : w2.heap.size = DB at *
  go_wp2_with fail
  refine hK0.out _ _ ?_
  clear hK0 K0
  apply wp_seq_k
  intro K0 hK0
  go_cut [] (fun W => ∃ (A : Option Addr) (c : Nat) (l : List En), l.length ≤ 10 ∧ (∀ e ∈ l, e.o.length ≤ 8 ∧ e.t.size ≤ 100) ∧ OwnAll W (w.heap.size + 1) (dRows 42 3 (.slice A l.length c) l) ∧ NeB DB (dRows 42 3 (.slice A l.length c) l) ∧ ownC 24 W w.heap.size w.heap.size [.slice none 0 0] ∧ ownC 24 W w.heap.size DB [.slice A l.length c] ∧ Cur W g (m + 680) ∧ w.grownBy W (some g))
  case first =>
    clear hK0
    go_wp2_with fail
    refine (pick_any _ g _ 20 hc3 (by omega) (by omega)).mono ?_
    rintro e w4 ⟨y, rfl, y0, y1, hcr, hg4⟩
    have own := ownAll_grown own3 hg4 (by omega)
    have hD := hDn.grown hg4 hneD
    have hR := hRn.grown hg4 hneR
    have hgr := g3.trans hg4
    have ne := ne3
    clear own3 hDn hRn g3 ne3 hc3 hg4
    have hDB4 := hD.lt.2
    have cD := hD.cell (j := 0) rfl
    have fD := hD.frozen 0
    have hEn := Lib.hid (fun W (hW : Cur W g (m + 602)) => entry_any W g _ hW (by omega))
    have hvv := dOwn_v own
    have nvD : (Value.slice A l.length c).ownBlock ≠ some DB := fun e => ne (eRow 42 (.slice A l.length c) l) (List.mem_cons_self ..) _ e rfl
    by_cases h0 : y = 0
    · subst h0
      go_wp2
      refine wp_region_held_drew (S := (fun _ => True)) (by kernel_rfl) ?_ (fun hHeld => ?_)
      · trivial
      refine wpAnyH_take (i := 0) (oi := _) (v := ?vr1) rfl (by kernel_rfl) (by kernel_rfl) (by kernel_rfl) (fun _ _ _ h => h) (Or.inl ⟨by rfl, ?hyr1⟩) (by assumption) ?_
      case hyr1 => (intro w' hSw; (try dsimp only at hSw); go_simp; try (with_reducible rfl))
      change wpAnyH _ _ _ _ _ _ _ (Act.put _ (some 11) _) _
      simp only [Act.put, List.setIfInBounds_toArray, List.set_cons_zero, List.set_cons_succ]
      refine wpAnyH_take (i := 2) (oi := _) (v := ?vr2) rfl (by kernel_rfl) (by kernel_rfl) (by kernel_rfl) (fun _ _ _ h => h) (Or.inl ⟨by rfl, ?hyr2⟩) (by assumption) ?_
      case hyr2 => (intro w' hSw; (try dsimp only at hSw); go_simp; try (with_reducible rfl))
      change wpAnyH _ _ _ _ _ _ _ (Act.put _ (some 13) _) _
      simp only [Act.put, List.setIfInBounds_toArray, List.set_cons_zero, List.set_cons_succ]
      refine wpAnyH_ready (rs := [1, 3]) (by kernel_rfl) (by simp) ?_
      refine AllReadyH.cons rfl (fun K hK => ?_) (AllReadyH.cons rfl (fun K hK => ?_) AllReadyH.nil)
      · go_simp
        refine hK.out _ _ ?_ (fun hHeld => ?_)
        · trivial
        clear hK K
        try simp only [Act.put, List.setIfInBounds_toArray, List.set_cons_zero, List.set_cons_succ]
        refine wpAnyH_ready (rs := [3]) (by kernel_rfl) (by simp) ?_
        refine AllReadyH.cons rfl (fun K hK => ?_) AllReadyH.nil
        go_simp
        go_at_call 52
        refine (hEn.out _ (by first | exact hcr | exact hcr.drewN 1)).mono ?_
        rintro e w8 ⟨A8, n8, c8, o8, t8, rfl, ho8l, hpe8, ho8, hc8, hg8⟩
        subst ho8l
        have own8 := ownAll_grown (own.drew 1) hg8 (by omega)
        have hD8 := (hD.drewN 1).grown hg8 hneD
        have hR8 := (hR.drewN 1).grown hg8 hneR
        have cD8 := hD8.cell (j := 0) rfl
        have hvv8 := dOwn_v own8
        have mA := (hD8.alloc (.cells #[.slice A8 o8.length c8, .string t8] 42)).cell (j := 0) rfl
        have s8 := hg8.size
        have s8b : w4.drew.heap.size = w4.heap.size := rfl
        refine hK.out _ _ ?_ (fun hHeld => ?_)
        · trivial
        clear hK K
        try simp only [Act.put, List.setIfInBounds_toArray, List.set_cons_zero, List.set_cons_succ]
        refine wpAnyH_ready (rs := [4]) (by kernel_rfl) (by simp) ?_
        refine AllReadyH.cons rfl (fun K hK => ?_) AllReadyH.nil
        go_simp
        refine hK.out _ _ ?_ (fun hHeld => ?_)
        · trivial
        clear hK K
        try simp only [Act.put, List.setIfInBounds_toArray, List.set_cons_zero, List.set_cons_succ]
        refine wpAnyH_ready (rs := [5]) (by kernel_rfl) (by simp) ?_
        refine AllReadyH.cons rfl (fun K hK => ?_) AllReadyH.nil
        refine step_append_lies _ rfl (.tmp 12) (.tmp 15) 22 rfl (w.heap.size + 1) 42 iE _ 2 40 Tryz.underlying22 hi0 hi1 hi2 hi3 rfl (by decide) (.slice A l.length c) l.length (ents l) rfl (World.ownsRow.alloc hvv8 _) ⟨w8.heap.size, 0, none⟩ 1 1 [.slice A8 o8.length c8, .string t8] rfl rfl (World.news_of_block (cs := #[.slice A8 o8.length c8, .string t8]) (t := 42) (fr := (0, 0)) (heap_alloc_new w8 _)) (by simp [Value.oneCell']) (by omega) (by unfold maxLen; omega) (by omega) (by have := hgr.size; simp; omega) (w8.heap.size + 1) (by simp) ?_
        intro gg cap w9 ho9 hg9 hat9 hlt9
        have hD9 := (hD8.alloc (.cells #[.slice A8 o8.length c8, .string t8] 42)).grown hg9 nvD
        have fD9 := hD9.frozen 0
        have cD9 := hD9.cell (j := 0) rfl
        refine hK.out _ _ ?_ (fun hHeld => ?_)
        · trivial
        clear hK K
        try simp only [Act.put, List.setIfInBounds_toArray, List.set_cons_zero, List.set_cons_succ]
        refine wpAnyH_take (i := 6) (oi := _) (v := ?vr3) rfl (by kernel_rfl) (by kernel_rfl) (by kernel_rfl) (fun _ _ _ h => h) (Or.inl ⟨by rfl, ?hyr3⟩) (by assumption) ?_
        case hyr3 => (intro w' hSw; (try dsimp only at hSw); go_simp; try (with_reducible rfl))
        change wpAnyH _ _ _ _ _ _ _ (Act.put _ (some 17) _) _
        simp only [Act.put, List.setIfInBounds_toArray, List.set_cons_zero, List.set_cons_succ]
        refine wpAnyH_ready (rs := [7]) (by kernel_rfl) (by simp) ?_
        refine AllReadyH.cons rfl (fun K hK => ?_) AllReadyH.nil
        go_simp
        refine hK.out _ _ ?_ (fun hHeld => ?_)
        · trivial
        clear hK K
        try simp only [Act.put, List.setIfInBounds_toArray, List.set_cons_zero, List.set_cons_succ]
        refine wpAnyH_done (by kernel_rfl) ?_ _
        have hgE := (World.grownBy_alloc w8 (.cells #[.slice A8 o8.length c8, .string t8] 42) (Value.slice A l.length c).ownBlock).trans hg9
        have g8 := hgr.trans ((only_drewN' w4 1).trans hg8)
        have hs0 := hgr.size
        have own9 := dOwn_pushG (e := ⟨A8, c8, o8, t8⟩) own.lt own8 (by omega) ho8 ho9 hgE (by rcases hat9 with hh | hh; exact Or.inl hh.symm; exact Or.inr (by rw [hh]; rfl))
        have ne9 := ne_push (e := ⟨A8, c8, o8, t8⟩) ne (v' := .slice (some ⟨gg, 0, none⟩) (l.length + 1) cap) (fun q hq => by
          have h2 : gg = q := Option.some.inj hq
          rcases hat9 with hh | hh
          · exact ne (eRow 42 (.slice A l.length c) l) (List.mem_cons_self ..) q (hh.trans (congrArg some h2))
          · omega) (fun q hq => by have := (ho8.lt q hq).1; omega)
        have nR : (Value.slice A l.length c).ownBlock ≠ some w.heap.size := fun e => by have := (hvv8.lt _ e).1; omega
        obtain ⟨hD10, g10⟩ := hD9.set 0 (.slice (some ⟨gg, 0, none⟩) (l.length + 1) cap)
        have own10 := own9.chg (Chg.of_grown g10 (F := fun q => q = DB) (fun q e => (Option.some.inj e).symm)) (fun r hr q hq f => ne9 r hr q hq f)
        have hR10 := (hR8.grown hgE nR).grown g10 (fun e => by have := Option.some.inj e; omega)
        have hc10 := ((hc8.grown hgE (fun q e => by have := (hvv8.lt q e).1; omega)).grown g10 (fun q e => by have := Option.some.inj e; omega)).more (show m + 602 + 62 ≤ m + 680 by omega)
        have gr10 := grown_own (grown_own g8 (own_base hvv8 (show w.heap.size ≤ w.heap.size + 1 by omega)) hgE) hD9 g10
        go_wp2
        go_meet
        case rel => exact ⟨some ⟨gg, 0, none⟩, cap, l ++ [⟨A8, c8, o8, t8⟩], by simp; omega, fun e he => by rcases List.mem_append.1 he with h | h; exact hbd e h; rw [List.mem_singleton.1 h]; exact ⟨Nat.le_trans (outB_len hpe8.1).2 (by decide), hpe8.2⟩, by simpa using own10, by simpa using ne9, hR10, by simpa using hD10, hc10, gr10⟩
      · go_simp
        go_at_call 52
        refine (hEn.out _ (by first | exact hcr | exact hcr.drewN 1)).mono ?_
        rintro e w8 ⟨A8, n8, c8, o8, t8, rfl, ho8l, hpe8, ho8, hc8, hg8⟩
        subst ho8l
        have own8 := ownAll_grown (own.drew 1) hg8 (by omega)
        have hD8 := (hD.drewN 1).grown hg8 hneD
        have hR8 := (hR.drewN 1).grown hg8 hneR
        have cD8 := hD8.cell (j := 0) rfl
        have hvv8 := dOwn_v own8
        have mA := (hD8.alloc (.cells #[.slice A8 o8.length c8, .string t8] 42)).cell (j := 0) rfl
        have s8 := hg8.size
        have s8b : w4.drew.heap.size = w4.heap.size := rfl
        refine hK.out _ _ ?_ (fun hHeld => ?_)
        · trivial
        clear hK K
        try simp only [Act.put, List.setIfInBounds_toArray, List.set_cons_zero, List.set_cons_succ]
        refine wpAnyH_ready (rs := [1, 4]) (by kernel_rfl) (by simp) ?_
        refine AllReadyH.cons rfl (fun K hK => ?_) (AllReadyH.cons rfl (fun K hK => ?_) AllReadyH.nil)
        · go_simp
          refine hK.out _ _ ?_ (fun hHeld => ?_)
          · trivial
          clear hK K
          try simp only [Act.put, List.setIfInBounds_toArray, List.set_cons_zero, List.set_cons_succ]
          refine wpAnyH_ready (rs := [4]) (by kernel_rfl) (by simp) ?_
          refine AllReadyH.cons rfl (fun K hK => ?_) AllReadyH.nil
          go_simp
          refine hK.out _ _ ?_ (fun hHeld => ?_)
          · trivial
          clear hK K
          try simp only [Act.put, List.setIfInBounds_toArray, List.set_cons_zero, List.set_cons_succ]
          refine wpAnyH_ready (rs := [5]) (by kernel_rfl) (by simp) ?_
          refine AllReadyH.cons rfl (fun K hK => ?_) AllReadyH.nil
          refine step_append_lies _ rfl (.tmp 12) (.tmp 15) 22 rfl (w.heap.size + 1) 42 iE _ 2 40 Tryz.underlying22 hi0 hi1 hi2 hi3 rfl (by decide) (.slice A l.length c) l.length (ents l) rfl (World.ownsRow.alloc hvv8 _) ⟨w8.heap.size, 0, none⟩ 1 1 [.slice A8 o8.length c8, .string t8] rfl rfl (World.news_of_block (cs := #[.slice A8 o8.length c8, .string t8]) (t := 42) (fr := (0, 0)) (heap_alloc_new w8 _)) (by simp [Value.oneCell']) (by omega) (by unfold maxLen; omega) (by omega) (by have := hgr.size; simp; omega) (w8.heap.size + 1) (by simp) ?_
          intro gg cap w9 ho9 hg9 hat9 hlt9
          have hD9 := (hD8.alloc (.cells #[.slice A8 o8.length c8, .string t8] 42)).grown hg9 nvD
          have fD9 := hD9.frozen 0
          have cD9 := hD9.cell (j := 0) rfl
          refine hK.out _ _ ?_ (fun hHeld => ?_)
          · trivial
          clear hK K
          try simp only [Act.put, List.setIfInBounds_toArray, List.set_cons_zero, List.set_cons_succ]
          refine wpAnyH_take (i := 6) (oi := _) (v := ?vr4) rfl (by kernel_rfl) (by kernel_rfl) (by kernel_rfl) (fun _ _ _ h => h) (Or.inl ⟨by rfl, ?hyr4⟩) (by assumption) ?_
          case hyr4 => (intro w' hSw; (try dsimp only at hSw); go_simp; try (with_reducible rfl))
          change wpAnyH _ _ _ _ _ _ _ (Act.put _ (some 17) _) _
          simp only [Act.put, List.setIfInBounds_toArray, List.set_cons_zero, List.set_cons_succ]
          refine wpAnyH_ready (rs := [7]) (by kernel_rfl) (by simp) ?_
          refine AllReadyH.cons rfl (fun K hK => ?_) AllReadyH.nil
          go_simp
          refine hK.out _ _ ?_ (fun hHeld => ?_)
          · trivial
          clear hK K
          try simp only [Act.put, List.setIfInBounds_toArray, List.set_cons_zero, List.set_cons_succ]
          refine wpAnyH_done (by kernel_rfl) ?_ _
          have hgE := (World.grownBy_alloc w8 (.cells #[.slice A8 o8.length c8, .string t8] 42) (Value.slice A l.length c).ownBlock).trans hg9
          have g8 := hgr.trans ((only_drewN' w4 1).trans hg8)
          have hs0 := hgr.size
          have own9 := dOwn_pushG (e := ⟨A8, c8, o8, t8⟩) own.lt own8 (by omega) ho8 ho9 hgE (by rcases hat9 with hh | hh; exact Or.inl hh.symm; exact Or.inr (by rw [hh]; rfl))
          have ne9 := ne_push (e := ⟨A8, c8, o8, t8⟩) ne (v' := .slice (some ⟨gg, 0, none⟩) (l.length + 1) cap) (fun q hq => by
            have h2 : gg = q := Option.some.inj hq
            rcases hat9 with hh | hh
            · exact ne (eRow 42 (.slice A l.length c) l) (List.mem_cons_self ..) q (hh.trans (congrArg some h2))
            · omega) (fun q hq => by have := (ho8.lt q hq).1; omega)
          have nR : (Value.slice A l.length c).ownBlock ≠ some w.heap.size := fun e => by have := (hvv8.lt _ e).1; omega
          obtain ⟨hD10, g10⟩ := hD9.set 0 (.slice (some ⟨gg, 0, none⟩) (l.length + 1) cap)
          have own10 := own9.chg (Chg.of_grown g10 (F := fun q => q = DB) (fun q e => (Option.some.inj e).symm)) (fun r hr q hq f => ne9 r hr q hq f)
          have hR10 := (hR8.grown hgE nR).grown g10 (fun e => by have := Option.some.inj e; omega)
          have hc10 := ((hc8.grown hgE (fun q e => by have := (hvv8.lt q e).1; omega)).grown g10 (fun q e => by have := Option.some.inj e; omega)).more (show m + 602 + 62 ≤ m + 680 by omega)
          have gr10 := grown_own (grown_own g8 (own_base hvv8 (show w.heap.size ≤ w.heap.size + 1 by omega)) hgE) hD9 g10
          go_wp2
          go_meet
          case rel => exact ⟨some ⟨gg, 0, none⟩, cap, l ++ [⟨A8, c8, o8, t8⟩], by simp; omega, fun e he => by rcases List.mem_append.1 he with h | h; exact hbd e h; rw [List.mem_singleton.1 h]; exact ⟨Nat.le_trans (outB_len hpe8.1).2 (by decide), hpe8.2⟩, by simpa using own10, by simpa using ne9, hR10, by simpa using hD10, hc10, gr10⟩
        · go_simp
          refine hK.out _ _ ?_ (fun hHeld => ?_)
          · trivial
          clear hK K
          try simp only [Act.put, List.setIfInBounds_toArray, List.set_cons_zero, List.set_cons_succ]
          refine wpAnyH_ready (rs := [1]) (by kernel_rfl) (by simp) ?_
          refine AllReadyH.cons rfl (fun K hK => ?_) AllReadyH.nil
          go_simp
          refine hK.out _ _ ?_ (fun hHeld => ?_)
          · trivial
          clear hK K
          try simp only [Act.put, List.setIfInBounds_toArray, List.set_cons_zero, List.set_cons_succ]
          refine wpAnyH_ready (rs := [5]) (by kernel_rfl) (by simp) ?_
          refine AllReadyH.cons rfl (fun K hK => ?_) AllReadyH.nil
          refine step_append_lies _ rfl (.tmp 12) (.tmp 15) 22 rfl (w.heap.size + 1) 42 iE _ 2 40 Tryz.underlying22 hi0 hi1 hi2 hi3 rfl (by decide) (.slice A l.length c) l.length (ents l) rfl (World.ownsRow.alloc hvv8 _) ⟨w8.heap.size, 0, none⟩ 1 1 [.slice A8 o8.length c8, .string t8] rfl rfl (World.news_of_block (cs := #[.slice A8 o8.length c8, .string t8]) (t := 42) (fr := (0, 0)) (heap_alloc_new w8 _)) (by simp [Value.oneCell']) (by omega) (by unfold maxLen; omega) (by omega) (by have := hgr.size; simp; omega) (w8.heap.size + 1) (by simp) ?_
          intro gg cap w9 ho9 hg9 hat9 hlt9
          have hD9 := (hD8.alloc (.cells #[.slice A8 o8.length c8, .string t8] 42)).grown hg9 nvD
          have fD9 := hD9.frozen 0
          have cD9 := hD9.cell (j := 0) rfl
          refine hK.out _ _ ?_ (fun hHeld => ?_)
          · trivial
          clear hK K
          try simp only [Act.put, List.setIfInBounds_toArray, List.set_cons_zero, List.set_cons_succ]
          refine wpAnyH_take (i := 6) (oi := _) (v := ?vr5) rfl (by kernel_rfl) (by kernel_rfl) (by kernel_rfl) (fun _ _ _ h => h) (Or.inl ⟨by rfl, ?hyr5⟩) (by assumption) ?_
          case hyr5 => (intro w' hSw; (try dsimp only at hSw); go_simp; try (with_reducible rfl))
          change wpAnyH _ _ _ _ _ _ _ (Act.put _ (some 17) _) _
          simp only [Act.put, List.setIfInBounds_toArray, List.set_cons_zero, List.set_cons_succ]
          refine wpAnyH_ready (rs := [7]) (by kernel_rfl) (by simp) ?_
          refine AllReadyH.cons rfl (fun K hK => ?_) AllReadyH.nil
          go_simp
          refine hK.out _ _ ?_ (fun hHeld => ?_)
          · trivial
          clear hK K
          try simp only [Act.put, List.setIfInBounds_toArray, List.set_cons_zero, List.set_cons_succ]
          refine wpAnyH_done (by kernel_rfl) ?_ _
          have hgE := (World.grownBy_alloc w8 (.cells #[.slice A8 o8.length c8, .string t8] 42) (Value.slice A l.length c).ownBlock).trans hg9
          have g8 := hgr.trans ((only_drewN' w4 1).trans hg8)
          have hs0 := hgr.size
          have own9 := dOwn_pushG (e := ⟨A8, c8, o8, t8⟩) own.lt own8 (by omega) ho8 ho9 hgE (by rcases hat9 with hh | hh; exact Or.inl hh.symm; exact Or.inr (by rw [hh]; rfl))
          have ne9 := ne_push (e := ⟨A8, c8, o8, t8⟩) ne (v' := .slice (some ⟨gg, 0, none⟩) (l.length + 1) cap) (fun q hq => by
            have h2 : gg = q := Option.some.inj hq
            rcases hat9 with hh | hh
            · exact ne (eRow 42 (.slice A l.length c) l) (List.mem_cons_self ..) q (hh.trans (congrArg some h2))
            · omega) (fun q hq => by have := (ho8.lt q hq).1; omega)
          have nR : (Value.slice A l.length c).ownBlock ≠ some w.heap.size := fun e => by have := (hvv8.lt _ e).1; omega
          obtain ⟨hD10, g10⟩ := hD9.set 0 (.slice (some ⟨gg, 0, none⟩) (l.length + 1) cap)
          have own10 := own9.chg (Chg.of_grown g10 (F := fun q => q = DB) (fun q e => (Option.some.inj e).symm)) (fun r hr q hq f => ne9 r hr q hq f)
          have hR10 := (hR8.grown hgE nR).grown g10 (fun e => by have := Option.some.inj e; omega)
          have hc10 := ((hc8.grown hgE (fun q e => by have := (hvv8.lt q e).1; omega)).grown g10 (fun q e => by have := Option.some.inj e; omega)).more (show m + 602 + 62 ≤ m + 680 by omega)
          have gr10 := grown_own (grown_own g8 (own_base hvv8 (show w.heap.size ≤ w.heap.size + 1 by omega)) hgE) hD9 g10
          go_wp2
          go_meet
          case rel => exact ⟨some ⟨gg, 0, none⟩, cap, l ++ [⟨A8, c8, o8, t8⟩], by simp; omega, fun e he => by rcases List.mem_append.1 he with h | h; exact hbd e h; rw [List.mem_singleton.1 h]; exact ⟨Nat.le_trans (outB_len hpe8.1).2 (by decide), hpe8.2⟩, by simpa using own10, by simpa using ne9, hR10, by simpa using hD10, hc10, gr10⟩
    · have e0 : (y == 0) = false := by simp [h0]
      obtain ⟨e1, q, rfl⟩ := cons_of hl1
      obtain ⟨b, cap, hv, hb1, hb2⟩ := hvv.form (by simp)
      obtain ⟨rfl, rfl⟩ : A = some ⟨b, 0, none⟩ ∧ c = cap := by simpa using hv
      have nb : b ≠ DB := fun e => nvD (congrArg some e)
      clear hv nvD
      by_cases h1 : y = 1
      · subst h1
        have cb : (w4.alloc (.cells #[.string ⟨#[]⟩, .string ⟨#[123]⟩, .string ⟨#[97, 32, 32, 98]⟩] 9)).drew.heap.size = w4.heap.size + 1 := by show (w4.alloc _).heap.size = _; simp
        have hOf := Lib.hid (fun W (hW : Cur W g (m + 602)) (hr : Row W (w4.heap.size + 1) (some ⟨w4.heap.size, 0, none⟩) (strs [⟨#[]⟩, ⟨#[123]⟩, ⟨#[97, 32, 32, 98]⟩])) => of_any W g _ (some ⟨w4.heap.size, 0, none⟩) 3 3 [⟨#[]⟩, ⟨#[123]⟩, ⟨#[97, 32, 32, 98]⟩] _ hW (by omega) rfl (by decide) (by decide) hr (fun b off e => by injection e with e; injection e with e1; omega))
        have hcX := (hcr.drewN 1).alloc (.cells #[.string ⟨#[]⟩, .string ⟨#[123]⟩, .string ⟨#[97, 32, 32, 98]⟩] 9)
        have hrX := Row.lit (w4.drewN 1) #[.string ⟨#[]⟩, .string ⟨#[123]⟩, .string ⟨#[97, 32, 32, 98]⟩] 9
        have oX := own.drew 1
        have bX := (Below.refl w4.heap.size (w4.drewN 1)).alloc (Nat.le_refl _) (.cells #[.string ⟨#[]⟩, .string ⟨#[123]⟩, .string ⟨#[97, 32, 32, 98]⟩] 9)
        have gX := grown_below (hgr.trans (only_drewN' w4 1)) bX
        have oX := oX.below bX (Nat.le_refl _)
        have hDX := (hD.drewN 1).alloc (.cells #[.string ⟨#[]⟩, .string ⟨#[123]⟩, .string ⟨#[97, 32, 32, 98]⟩] 9)
        have hRX := (hR.drewN 1).alloc (.cells #[.string ⟨#[]⟩, .string ⟨#[123]⟩, .string ⟨#[97, 32, 32, 98]⟩] 9)
        go_wp2
        go_region_held3 (fun w' => w'.cell? ⟨DB, 0, none⟩ = some (.slice (some ⟨b, 0, none⟩) (e1 :: q).length c)) (go_keep)
          (first
            | (go_at_call 31; refine (hOf.out _ hcX hrX).mono ?_; rintro e w8 ⟨tx, rfl, htx, hc8, hg8⟩; have hDx := hDX.grown hg8 hneD; have kx := hDx.cell (j := 0) rfl; have ownx := dOwn_v (ownAll_grown oX hg8 (by omega)); have k0 := ownx.frozenAt 1; have k1 : w8.cell? ⟨b, 1, none⟩ = some (.string (enAt (e1 :: q) 0).t) := (ownx.cellAt 1 (by simp <;> omega)).trans (ents_get (e1 :: q) 0 (by simp)).2))
        have own8 := ownAll_grown oX hg8 (by omega)
        have ht4 : tx.size ≤ 100 := by
          simp only [List.mem_cons, List.not_mem_nil, or_false] at htx
          rcases htx with rfl | rfl | rfl <;> decide
        obtain ⟨own9, g9⟩ := dOwn_text (p := []) (q := q) (e := e1) (j := 0) own8 rfl rfl tx
        have ne9 := ne_head (e' := { e1 with t := tx }) ne (fun k hk => ne (oRow 3 e1) (List.mem_cons_of_mem _ (List.mem_cons_self ..)) k hk)
        have hD9 := (hDX.grown hg8 hneD).grown g9 (fun e => nb (Option.some.inj e))
        have hR9 := (hRX.grown hg8 hneR).grown g9 (fun e => by have := Option.some.inj e; omega)
        have hc9 := (hc8.grown g9 (fun k e => by have := Option.some.inj e; omega)).more (show m + 602 + 2 ≤ m + 680 by omega)
        have gr9 := grown_own (gX.trans hg8) (own_base (dOwn_v own8) (show w.heap.size ≤ w.heap.size + 1 by omega)) g9
        have X := Lib.hid (And.intro own9 (And.intro hD9 (And.intro hR9 (And.intro hc9 gr9))))
        clear own9 g9 hD9 hR9 hc9 gr9 own8 ownx hOf
        go_wp2
        go_meet
        case rel => exact ⟨some ⟨b, 0, none⟩, c, { e1 with t := tx } :: q, by simp at hl9 ⊢; omega, fun e he => by rcases List.mem_cons.1 he with rfl | h; exact ⟨(hbd e1 (List.mem_cons_self ..)).1, ht4⟩; exact hbd e (List.mem_cons_of_mem _ h), X.out.1, ne9, X.out.2.2.1, X.out.2.1, X.out.2.2.2.1, X.out.2.2.2.2⟩
      · have e1' : (y == 1) = false := by simp [h1]
        by_cases h2 : y = 2
        · subst h2
          have hAn := Lib.hid (fun W (hW : Cur W g (m + 602)) => anyOutline_any W g _ hW (by omega))
          go_wp2
          go_region_held3 (fun w' => w'.cell? ⟨DB, 0, none⟩ = some (.slice (some ⟨b, 0, none⟩) (e1 :: q).length c)) (go_keep)
            (first
              | (go_at_call 65; refine (hAn.out _ (by first | exact hcr | exact hcr.drewN 1)).mono ?_; rintro e w8 ⟨A8, n8, c8, o8, rfl, hl8, hn8, hnc8, ho8, hc8, hg8⟩; have hDx := (hD.drewN 1).grown hg8 hneD; have kx := hDx.cell (j := 0) rfl; have ownx := dOwn_v (ownAll_grown (own.drew 1) hg8 (by omega)); have k0 := ownx.frozenAt 0; have k1 : w8.cell? ⟨b, 0, none⟩ = some (enAt (e1 :: q) 0).sl := (ownx.cellAt 0 (by simp <;> omega)).trans (ents_get (e1 :: q) 0 (by simp)).1))
          subst hl8
          have own8 := ownAll_grown (own.drew 1) hg8 (by omega)
          obtain ⟨own9, g9⟩ := dOwn_outG (e := e1) (e' := ⟨A8, c8, o8, e1.t⟩) (N := w4.heap.size) rfl own.lt own8 (by omega) ho8
          have ne9 := ne_head (e' := ⟨A8, c8, o8, e1.t⟩) ne (fun k hk => by have h1 := (ho8.lt k hk).1; have h2 : w4.drew.heap.size = w4.heap.size := rfl; omega)
          have hD9 := ((hD.drewN 1).grown hg8 hneD).grown g9 (fun e => nb (Option.some.inj e))
          have hR9 := ((hR.drewN 1).grown hg8 hneR).grown g9 (fun e => by have := Option.some.inj e; omega)
          have hc9 := (hc8.grown g9 (fun k e => by have := Option.some.inj e; omega)).more (show m + 602 + 70 ≤ m + 680 by omega)
          have gr9 := grown_own (hgr.trans ((only_drewN' w4 1).trans hg8)) (own_base (dOwn_v own8) (show w.heap.size ≤ w.heap.size + 1 by omega)) g9
          have X := Lib.hid (And.intro own9 (And.intro hD9 (And.intro hR9 (And.intro hc9 gr9))))
          clear own9 g9 hD9 hR9 hc9 gr9 own8 ownx hAn
          go_wp2
          go_meet
          case rel => exact ⟨some ⟨b, 0, none⟩, c, ⟨A8, c8, o8, e1.t⟩ :: q, by simp at hl9 ⊢; omega, fun e he => by rcases List.mem_cons.1 he with rfl | h; exact ⟨hn8, (hbd e1 (List.mem_cons_self ..)).2⟩; exact hbd e (List.mem_cons_of_mem _ h), X.out.1, ne9, X.out.2.2.1, X.out.2.1, X.out.2.2.2.1, X.out.2.2.2.2⟩
        · have e2' : (y == 2) = false := by simp [h2]
          by_cases h3 : y = 3
          · subst h3
            obtain ⟨hD10, g10⟩ := hD.set 0 (.slice none 0 0)
            have hR10 := hR.grown g10 (fun e => by have := Option.some.inj e; omega)
            have hc10 := (hcr.grown g10 (fun q e => by have := Option.some.inj e; omega)).more (show m + 602 ≤ m + 680 by omega)
            have gr10 := grown_own hgr hD g10
            go_wp2
            go_meet
            case rel => exact ⟨none, 0, [], by simp, by simp, dOwn_nil ⟨rfl, Or.inl ⟨rfl, rfl⟩⟩, ne_nil, hR10, hD10, hc10, gr10⟩
          · have e3' : (y == 3) = false := by simp [h3]
            go_wp2
            go_meet
            case rel => exact ⟨_, _, _, by omega, hbd, own, ne, hR, hD, hcr.more (by omega), hgr⟩
  case rest =>
    obtain ⟨A, c, l, hln, hbd, own, ne, hR, hD, hcr, hgr⟩ := hcut
    go_wp2_with fail
    refine (one_any wc g _ 40 hcr (by omega) (by omega)).mono ?_
    rintro e w5 ⟨bb, rfl, hc5, hg5⟩
    have own5 := ownAll_grown own hg5 (by omega)
    have hD5 := hD.grown hg5 hneD
    have hR5 := hR.grown hg5 hneR
    have gr5 := hgr.trans hg5
    clear own hD hR hgr hcr hg5
    cases bb
    · have cD := hD5.cell (j := 0) rfl
      have fR := hR5.frozen 0
      have cR := hR5.cell (j := 0) rfl
      obtain ⟨oR8, gR⟩ := hR5.set 0 (.slice A l.length c)
      have hc8 := (hc5.grown gR (fun q e => by have := Option.some.inj e; omega)).more (show m + 680 + 2 ≤ m + 800 by omega)
      have g8 := grown_own gr5 hR5 gR
      have own8 := (own5.chg (Chg.of_grown gR (F := fun g => g = w.heap.size) (fun g e => (Option.some.inj e).symm)) (fun r hr g hg f => by have h1 := own5.ge r hr g hg; have h2 : g = w.heap.size := f; omega)).base_le (show w.heap.size ≤ w.heap.size + 1 by omega)
      have E := Lib.hid oR8
      have X := Lib.hid (And.intro own8 (And.intro hc8 g8))
      clear hR5 oR8 gR hc8 g8 own8
      go_wp2
      exact endC rfl _ _ _ w.heap.size w.heap.size _ rfl rfl E.out Tryz.underlying24 rfl (by kernel_rfl) ⟨A, c, l, rfl, by omega, hbd, X.out.1, X.out.2.1, X.out.2.2⟩
    · clear hln hbd ne own5
      have fD5 := hD5.frozen 0
      have cD5 := hD5.cell (j := 0) rfl
      obtain ⟨hD6, g6⟩ := hD5.set 0 (.slice none 0 0)
      have hR6 := hR5.grown g6 (fun e => by have := Option.some.inj e; omega)
      have hc6 := hc5.grown g6 (fun q e => by have := Option.some.inj e; omega)
      have gr6 := grown_own gr5 hD5 g6
      have X := Lib.hid (And.intro hD6 (And.intro hR6 (And.intro hc6 gr6)))
      clear hD5 hR5 hc5 gr5 hD6 hR6 hc6 gr6 g6
      go_wp2
      go_loopw [4] (fun i W => ∃ k : Nat, ∃ A c l, i = .int .i64 ((k : Int) + 1) ∧ k ≤ 41 ∧ l.length = k ∧ (∀ e ∈ l, e.o.length ≤ 8 ∧ e.t.size ≤ 100) ∧ OwnAll W (w.heap.size + 1) (dRows 42 3 (.slice A l.length c) l) ∧ NeB DB (dRows 42 3 (.slice A l.length c) l) ∧ ownC 24 W w.heap.size w.heap.size [.slice none 0 0] ∧ ownC 24 W w.heap.size DB [.slice A l.length c] ∧ Cur W g (m + 682 + 2 * k) ∧ w.grownBy W (some g)) (fun i _ => 43 - (intOf i).toNat)
      case atStart => exact ⟨0, none, 0, [], by go_num, by omega, rfl, by simp, dOwn_nil ⟨rfl, Or.inl ⟨rfl, rfl⟩⟩, ne_nil, X.out.2.1, X.out.1, X.out.2.2.1, X.out.2.2.2⟩
      case round =>
        clear X fD5 cD5 A c l
        obtain ⟨_, A, c, l, rfl, hk, rfl, hbd, own, ne, hR, hD, hcr, hgr⟩ := hrel
        go_wp2_with fail
        refine (pick_any wr g _ 2 hcr (by omega) (by omega)).mono ?_
        rintro e w6 ⟨y, rfl, y0, y1, hc6, hg6⟩
        have own6 := ownAll_grown own hg6 (by omega)
        have hD6 := hD.grown hg6 hneD
        have hR6 := hR.grown hg6 hneR
        have gr6 := hgr.trans hg6
        clear own hD hR hgr hcr hg6
        have hDB6 := hD6.lt.2
        have hs6 := gr6.size
        by_cases hy : (l.length : Int) + 1 ≤ 40 + y
        · have bX := (Below.refl w6.heap.size w6).alloc (Nat.le_refl _) (.cells #[.int .i64 ((l.length : Int) + 1)] 3)
          have ownX := own6.below bX (Nat.le_refl _)
          have hDX := hD6.below bX (Nat.le_refl _)
          have hRX := hR6.below bX (Nat.le_refl _)
          have hcX := hc6.alloc (.cells #[.int .i64 ((l.length : Int) + 1)] 3)
          have gX := grown_below gr6 bX
          have hvvX := dOwn_v ownX
          have cD6 := hD6.cell (j := 0) rfl
          have nvD : (Value.slice A l.length c).ownBlock ≠ some DB := fun e => ne (eRow 42 (.slice A l.length c) l) (List.mem_cons_self ..) _ e rfl
          have nvR : (Value.slice A l.length c).ownBlock ≠ some w.heap.size := fun e => by have := (hvvX.lt _ e).1; omega
          have hoX : (w6.alloc (.cells #[.int .i64 ((l.length : Int) + 1)] 3)).ownsRow w6.heap.size 3 1 (.slice (some ⟨w6.heap.size, 0, none⟩) 1 1) 1 (ints [(l.length : Int) + 1]) := World.ownsRow_lit (base := w6.heap.size) (e := 3) (size := 1) w6 #[.int .i64 ((l.length : Int) + 1)] 1 (Nat.le_refl _) (by unfold maxLen; omega) (by simp)
          go_wp2_with (at_builtin; refine wpList_appN #[.slice (some ⟨w6.heap.size, 0, none⟩) 1 1, .string ⟨#[97]⟩] entT (below_of_grown gX (Nat.le_of_lt hlt)) hvvX rfl (enC_one ⟨some ⟨w6.heap.size, 0, none⟩, 1, [(l.length : Int) + 1], ⟨#[97]⟩⟩) (by omega) (by simp; omega) (by omega) (by decide) rfl (.tmp 49) (.tmp 53) rfl (w6.heap.size + 1) (by simp) rfl rfl ?_; intro v7 w7 ho7 hb7 hg7 hat7; obtain ⟨A7, c7, rfl, _⟩ := own_slice ho7; have hD7 := hDX.grown hg7 nvD; have fD7 := hD7.frozen 0; have cD7 := hD7.cell (j := 0) rfl)
          have own7 := dOwn_push (e := ⟨some ⟨w6.heap.size, 0, none⟩, 1, [(l.length : Int) + 1], ⟨#[97]⟩⟩) own6 bX (Nat.le_refl _) (by omega) hoX ho7 hg7 (by rcases hat7 with h | h; exact .inl h; exact .inr (by rw [h]; simp))
          have ne7 := ne_push (e := ⟨some ⟨w6.heap.size, 0, none⟩, 1, [(l.length : Int) + 1], ⟨#[97]⟩⟩) ne (v' := .slice A7 (l.length + 1) c7) (fun q hq => by
            rcases hat7 with hh | hh
            · exact ne (eRow 42 (.slice A l.length c) l) (List.mem_cons_self ..) q (hh.symm.trans hq)
            · rw [hh] at hq
              have := Option.some.inj hq
              omega) (fun q hq => by have h2 : w6.heap.size = q := Option.some.inj hq; omega)
          obtain ⟨hD8, g8⟩ := hD7.set 0 (.slice A7 (l.length + 1) c7)
          have own8 := own7.chg (Chg.of_grown g8 (F := fun q => q = DB) (fun q e => (Option.some.inj e).symm)) (fun r hr q hq f => ne7 r hr q hq f)
          have hR8 := (hRX.grown hg7 nvR).grown g8 (fun e => by have := Option.some.inj e; omega)
          have hc8 := (hcX.grown hg7 (fun q e => by have := (hvvX.lt q e).1; omega)).grown g8 (fun q e => by have := Option.some.inj e; omega)
          have gr8 := grown_own (grown_own gX (own_base hvvX (show w.heap.size ≤ w.heap.size + 1 by omega)) hg7) hD7 g8
          go_roundw
          case rel => exact ⟨l.length + 1, A7, c7, l ++ [⟨some ⟨w6.heap.size, 0, none⟩, 1, [(l.length : Int) + 1], ⟨#[97]⟩⟩], by go_num, by omega, by simp, fun e he => by rcases List.mem_append.1 he with h | h; exact hbd e h; rw [List.mem_singleton.1 h]; exact ⟨by simp, show (⟨#[97]⟩ : ByteArray).size ≤ 100 from by decide⟩, by simpa using own8, by simpa using ne7, hR8, by simpa using hD8, hc8.more (by omega), gr8⟩
          case measure => simp [intOf]; omega
        · have cD := hD6.cell (j := 0) rfl
          have fR := hR6.frozen 0
          have cR := hR6.cell (j := 0) rfl
          obtain ⟨oR8, gR⟩ := hR6.set 0 (.slice A l.length c)
          have hc8 := (hc6.grown gR (fun q e => by have := Option.some.inj e; omega)).more (show m + 682 + 2 * l.length + 2 ≤ m + 800 by omega)
          have g8 := grown_own gr6 hR6 gR
          have own8 := (own6.chg (Chg.of_grown gR (F := fun g => g = w.heap.size) (fun g e => (Option.some.inj e).symm)) (fun r hr g hg f => by have h1 := own6.ge r hr g hg; have h2 : g = w.heap.size := f; omega)).base_le (show w.heap.size ≤ w.heap.size + 1 by omega)
          have E := Lib.hid oR8
          have X := Lib.hid (And.intro own8 (And.intro hc8 g8))
          clear hR6 oR8 gR hc8 g8 own8
          go_wp2
          exact endC rfl _ _ _ w.heap.size w.heap.size _ rfl rfl E.out Tryz.underlying24 rfl (by kernel_rfl) ⟨A, c, l, rfl, by omega, hbd, X.out.1, X.out.2.1, X.out.2.2⟩
end Go.Proofs.YtnpiljkchjdpfaaGreatDoor
