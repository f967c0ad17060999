/- The contract of the reference's builder of tries. Condition: entries as a valid dictionary's, at most 40. -/
import Derived.Test.YtnpiljkchjdpfaaDoorTrieW
namespace Go.Proofs.YtnpiljkchjdpfaaDoor
open Go.RowKit
set_option linter.unusedSimpArgs false

set_option maxRecDepth 100000 in
set_option maxHeartbeats 8000000 in
theorem l7Add_any : ∀ (f d : Nat) (A : Option Addr) (n c : Nat) (l : List En) (lo hi g N BB B base : Nat) (v : Value) (L : List Value) (w : World), 1 ≤ f → d + f = 7 → l.length = n → n ≤ 40 → lo ≤ hi → hi ≤ n → Tri d (vals (seg l lo hi)) → DRow w B A l → B ≤ BB → B ≤ base → base ≤ w.heap.size → OwnAll w base [nRow 94 v N L] → ownC 55 w BB g [v] → (∀ q, v.ownBlock = some q → q ≠ g) → N + 8 * (hi - lo) + f ≤ 100000 →
    Calls Tryd.prog 71 #[.pointer (some ⟨g, 0, none⟩), .agg #[.slice A n c], .int .i64 lo, .int .i64 hi, .int .i64 d] w fun e w' => e = .returned (.int .i64 N) ∧ ∃ (v' : Value) (S : List Tn), tvals S = tree f d N (vals (seg l lo hi)) ∧ OwnAll w' base (nRow 94 v' (N + S.length) (L ++ tns S) :: ndRows 3 S) ∧ (∀ r ∈ ndRows 3 S, ∀ q, r.v.ownBlock = some q → w.heap.size ≤ q) ∧ ownC 55 w' BB g [v'] ∧ (∀ q, v'.ownBlock = some q → q ≠ g ∧ (v.ownBlock = some q ∨ w.heap.size ≤ q)) ∧ Chg w w' (fun k => k = g ∨ v.ownBlock = some k) := by
  intro f
  induction f with
  | zero => intro d A n c l lo hi g N BB B base v L w hf; omega
  | succ f ih =>
    intro d A n c l lo hi g N BB B base v L w _ hdf hn hn40 hlh hhi hT hr hBB hBb hbw hrow hB hvg hN
    subst hn
    have hv0 : w.ownsRow base 94 4 v N L := hrow.own (nRow 94 v N L) (List.mem_cons_self ..)
    obtain ⟨Av, cv, rfl, hcv⟩ := own_slice hv0
    have hgl := hB.lt
    have hd6 : d ≤ 6 := by omega
    replace ih := Lib.hid ih
    have nvg : (Value.slice Av N cv).ownBlock ≠ some g := fun e => hvg g e rfl
    have bU := (Below.refl w.heap.size w).alloc (Nat.le_refl _) (.cells #[.slice A l.length c] 38)
    have oD := ownC_new 38 w #[.slice A l.length c]
    have hus : (w.alloc (.cells #[.slice A l.length c] 38)).heap.size = w.heap.size + 1 := by simp
    have hru := hr.below_le bU (by omega)
    have hrowu := hrow.below bU (Nat.le_refl _)
    have hBu := hB.below bU (Nat.le_refl _)
    have hcu := Chg.of_below bU (Nat.le_refl _) (fun k => k = g ∨ (Value.slice Av N cv).ownBlock = some k)
    obtain ⟨D0, hD⟩ : ∃ D0, D0 = w.heap.size := ⟨_, rfl⟩
    go_enter Tryd.func71, Tryd.ntmps71
    go_upto_region 1 with fail
    generalize w.alloc (.cells #[.slice A l.length c] 38) = u at *
    rw [← hD] at oD ⊢
    have cD := oD.cell (j := 0) rfl
    have hgu : g < u.heap.size := by omega
    have hvlt : ∀ q, (Value.slice Av N cv).ownBlock = some q → base ≤ q ∧ q < D0 := fun q hq => by have := hv0.lt q hq; omega
    have hgD : g < D0 := by omega
    have hDu : D0 < u.heap.size := by omega
    have hus2 : w.heap.size ≤ u.heap.size := by omega
    have hbu : base ≤ u.heap.size := by omega
    have hD0 := Lib.hid (fun (W : World) (h : Chg u W (fun k => k = g ∨ (Value.slice Av N cv).ownBlock = some k)) => h.cell cD (fun ff => by rcases ff with ff | ff; have ff2 : D0 = g := ff; omega; have := (hvlt _ ff).2; have : D0 < D0 := this; omega))
    have hrW := Lib.hid (fun (W : World) (h : Chg u W (fun k => k = g ∨ (Value.slice Av N cv).ownBlock = some k)) => hru.chg h (by omega) (fun k hk ff => by rcases ff with ff | ff; omega; have := (hvlt k ff).1; omega))
    have hvu : u.ownsRow base 94 4 (.slice Av N cv) N L := hrowu.own (nRow 94 (.slice Av N cv) N L) (List.mem_cons_self ..)
    have cB := hBu.cell (j := 0) rfl
    clear bU hrow hB hr oD hus hD
    go_upto_region 4 with (at_builtin; refine wpList_appW #[.slice none 0 0, .slice none 0 0, .bool false, .string ⟨#[]⟩] tnT hvu rfl (by simp [Value.oneCell']) hbu (by omega) (by decide) rfl (.tmp 24) (.tmp 26) rfl _ rfl rfl rfl ?_; intro v6 w6 ho6 hg6 hat6; obtain ⟨A7, c7, rfl, _⟩ := own_slice ho6; have hB6 := hBu.grown hg6 nvg; have fB6 := hB6.frozen 0; have cB6 := hB6.cell (j := 0) rfl)
    have hB7 := (hB6.set 0 (.slice A7 (N + 1) c7)).1
    have gS := (hB6.set 0 (.slice A7 (N + 1) c7)).2
    have own6 := own_up1 (r' := nRow 94 (.slice A7 (N + 1) c7) (N + 1) (L ++ tnC noTn)) hrowu hg6 ho6 (fun q hq => by
      rcases hat6 with hh | hh
      · exact Or.inl (hh.symm.trans hq)
      · right
        have hq2 : (Value.slice A7 (N + 1) c7).ownBlock = some q := hq
        rw [hh] at hq2
        have := Option.some.inj hq2
        omega)
    have hvb7 : ∀ q, (Value.slice A7 (N + 1) c7).ownBlock = some q → q ≠ g ∧ ((Value.slice Av N cv).ownBlock = some q ∨ u.heap.size ≤ q) := fun q hq => by
      rcases hat6 with hh | hh
      · have h2 := hh.symm.trans hq
        exact ⟨hvg q h2, Or.inl h2⟩
      · rw [hh] at hq
        have := Option.some.inj hq
        exact ⟨by omega, Or.inr (by omega)⟩
    have own7 := own6.chg (Chg.of_set gS) (fun r hr q hq f => by rw [List.mem_singleton.1 hr] at hq; exact (hvb7 q hq).1 f)
    have ch7 := (Chg.of_grown (F := (fun k => k = g ∨ (Value.slice Av N cv).ownBlock = some k)) hg6 (fun q hq => Or.inr hq)).trans (Chg.of_grown (F := (fun k => k = g ∨ (Value.slice Av N cv).ownBlock = some k)) gS (fun q hq => Or.inl (Option.some.inj hq).symm))
    have s7 := ch7.size
    generalize hw7 : w6.setCell ⟨g, 0, none⟩ (.slice A7 (N + 1) c7) = w7 at *
    have hs76 : w7.heap.size = w6.heap.size := by rw [← hw7]; simp
    have b8 := (Below.refl w7.heap.size w7).alloc (Nat.le_refl _) (.cells #[.slice none 0 0, .slice none 0 0, .bool false, .string ⟨#[]⟩] 94)
    have hP := ownC_new 94 w7 #[.slice none 0 0, .slice none 0 0, .bool false, .string ⟨#[]⟩]
    have lt7 := own7.lt
    have inv : PInv 55 94 3 u (w7.alloc (.cells #[.slice none 0 0, .slice none 0 0, .bool false, .string ⟨#[]⟩] 94)) base BB g w7.heap.size (N + 1) (.slice Av N cv) (.slice A7 (N + 1) c7) (L ++ tnC noTn) ⟨none, 0, [], none, 0, [], false, ⟨#[]⟩⟩ [] := ⟨own_noTn (by simpa [tns, rows] using own7.below b8 (Nat.le_refl _)) false ⟨#[]⟩, (fun r hr q hq => by
        rw [ndRows_cons] at hr
        rcases List.mem_cons.1 hr with rfl | hr
        · cases hq
        · rcases List.mem_cons.1 hr with rfl | hr
          · cases hq
          · cases hr), hB7.below b8 (Nat.le_refl _), hP, fun q hq => ⟨(hvb7 q hq).1, Nat.ne_of_lt (lt7 _ (List.mem_cons_self ..) q hq), (hvb7 q hq).2⟩, ch7.trans (Chg.of_below b8 (Nat.le_refl _) _)⟩
    obtain ⟨PB, hPB⟩ : ∃ PB, PB = w6.heap.size := ⟨_, rfl⟩
    rw [hs76, ← hPB] at inv
    rw [← hPB]
    have hPw : u.heap.size ≤ PB := by omega
    clear hvb7 own7 own6 ch7 s7 hs76 b8 hP lt7 hB6 hB7 gS ho6 hg6 hat6 fB6 cB6 hPB hw7 cB hvu hBu hrowu
    generalize w7.alloc (.cells #[.slice none 0 0, .slice none 0 0, .bool false, .string ⟨#[]⟩] 94) = w8 at *
    have cD8 := hD0.out w8 inv.ch
    have hrr := hrW.out w8 inv.ch
    have il0 : (0 : Int) ≤ (lo : Int) := by omega
    go_cut [44] (fun s W => s = .bool (hasT d (vals (seg l lo hi))) ∧ W = w8)
    case first =>
      by_cases hlt : lo < hi
      · obtain ⟨b, off, rfl, hb, hc1, hc2, hro⟩ := hrr.at (j := lo) (by omega)
        have il1 : (lo : Int) < (l.length : Int) := by omega
        have il2 : (lo : Int) < (hi : Int) := by omega
        have hh := Lib.hid (show hasT d (vals (seg l lo hi)) = decide ((enAt l lo).o.length = d) by rw [seg_cons hlt hhi]; rfl)
        generalize (enAt l lo).o.length = ol at *
        generalize (enAt l lo).A = oA at *
        generalize (enAt l lo).c = oc at *
        go_wp2
        go_meet
        case rel => exact ⟨by rw [hh.out, Value.bool.injEq, Bool.eq_iff_iff]; simp <;> omega, rfl⟩
      · obtain rfl : lo = hi := by omega
        go_wp2
        go_meet
        case rel => exact ⟨by rw [seg_nil]; rfl, rfl⟩
    case rest =>
      obtain ⟨rfl, hw⟩ := hcut
      subst hw
      rename World => w8
      go_upto_if 44 with fail
      go_cut [2] (fun s W => ∃ lo' : Nat, s = .int .i64 lo' ∧ lo ≤ lo' ∧ lo' ≤ hi ∧ vals (seg l lo' hi) = resT d (vals (seg l lo hi)) ∧ PInv 55 94 3 u W base BB g PB (N + 1) (.slice Av N cv) (.slice A7 (N + 1) c7) (L ++ tnC noTn) ⟨none, 0, [], none, 0, [], hasT d (vals (seg l lo hi)), txtT d (vals (seg l lo hi))⟩ [])
      case first =>
        rcases Bool.eq_false_or_eq_true (hasT d (vals (seg l lo hi))) with q | q
        · have hlt : lo < hi := by
            rcases Nat.lt_or_ge lo hi with h9 | h9
            · exact h9
            · obtain rfl : lo = hi := by omega
              rw [seg_nil] at q
              cases q
          obtain ⟨b, off, rfl, hb, hc1, hc2, hro⟩ := hrr.at (j := lo) (by omega)
          have hxd : (enAt l lo).o.length = d := by rw [seg_cons hlt hhi] at q; simpa [hasT, vals, En.v] using q
          have il1 : (lo : Int) < (l.length : Int) := by omega
          have fP2 := inv.p.frozen 2
          have cP2 := inv.p.cell (j := 2) rfl
          obtain ⟨p1, g1⟩ := inv.p.set 2 (.bool true)
          have fP3 := p1.frozen 3
          have cP3 := p1.cell (j := 3) rfl
          have c1 := Chg.of_set g1
          have cD9 := c1.cell cD8 (fun ff => by have f2 : D0 = PB := ff; omega)
          have ct9 := c1.cell hc2 (fun ff => by have f2 : b = PB := ff; omega)
          have hi9 := inv.bt hgu hPw true (enAt l lo).t
          have hE := Lib.hid (show txtT d (vals (seg l lo hi)) = (enAt l lo).t by rw [seg_cons hlt hhi]; simp [txtT, vals, En.v, hxd])
          have hre := Lib.hid (show resT d (vals (seg l lo hi)) = vals (seg l (lo + 1) hi) by rw [seg_cons hlt hhi]; simp [resT, vals, En.v, hxd])
          have hi9 := Lib.hid hi9
          clear p1 g1 c1 hro hxd hrr inv
          rw [q]
          generalize (enAt l lo).t = xt at *
          go_wp2
          go_meet
          case rel => exact ⟨lo + 1, by go_num, by omega, by omega, hre.out.symm, by rw [q, hE.out]; exact hi9.out⟩
        · obtain ⟨q1, q2⟩ := has_f q
          rw [q]
          go_wp2
          go_meet
          case rel => exact ⟨lo, rfl, Nat.le_refl _, hlh, q2.symm, by rw [q, q1]; exact inv⟩
      case rest =>
        clear inv hrr cD8
        rename World => w9
        obtain ⟨lo0, rfl, hlo0, hlo1, hv', inv⟩ := hcut
        have hT2 := hT.res
        rw [← hv'] at hT2
        have hTree := Lib.hid (show tree (f + 1) d N (vals (seg l lo hi)) = (fun Q : KV => (⟨Q.1, Q.2.1, hasT d (vals (seg l lo hi)), txtT d (vals (seg l lo hi))⟩ : TV) :: Q.2.2) (kids (tree f (d + 1)) d (vals (seg l lo hi)).length (N + 1) (vals (seg l lo0 hi))) by rw [hv']; rfl)
        replace hv' := Lib.hid hv'
        generalize hasT d (vals (seg l lo hi)) = ht at *
        generalize txtT d (vals (seg l lo hi)) = tx at *
        obtain ⟨e0, he0⟩ : ∃ e0 : Tn, e0 = ⟨none, 0, [], none, 0, [], ht, tx⟩ := ⟨_, rfl⟩
        rw [← he0] at inv
        have hk0 := Lib.hid (And.intro (show e0.ss = [] by rw [he0]) (And.intro (show e0.cs = [] by rw [he0]) (And.intro (show e0.b = ht by rw [he0]) (show e0.t = tx by rw [he0]))))
        clear he0
        obtain ⟨Q, hQ⟩ : ∃ Q, Q = kids (tree f (d + 1)) d (vals (seg l lo hi)).length (N + 1) (vals (seg l lo0 hi)) := ⟨_, rfl⟩
        rw [← hQ] at hTree
        replace hQ := Lib.hid hQ
        have hgw : g < u.heap.size := hgu
        have hvl : (vals (seg l lo hi)).length = hi - lo := by rw [vals_len, seg_len hhi]
        go_wp2
        go_loopw [2, 13, 14] (fun s2 _ _ W => ∃ (lo' : Nat) (v : Value) (e : Tn) (S : List Tn) (m : Nat), s2 = .int .i64 lo' ∧ lo ≤ lo' ∧ lo' ≤ hi ∧ hi - lo' ≤ m ∧ hi - lo' + e.ss.length ≤ hi - lo ∧ e.cs.length = e.ss.length ∧ S.length + 8 * (hi - lo') ≤ 8 * (hi - lo) ∧ Tri2 d (vals (seg l lo' hi)) ∧ Hid (Q = joinK e.ss e.cs (tvals S) (kids (tree f (d + 1)) d m (N + 1 + S.length) (vals (seg l lo' hi)))) ∧ Hid (e.b = ht ∧ e.t = tx) ∧ PInv 55 94 3 u W base BB g PB (N + 1) (.slice Av N cv) v (L ++ tnC noTn) e S) (fun s2 _ _ _ => hi - (intOf s2).toNat)
        case atStart => exact ⟨lo0, _, e0, [], (vals (seg l lo hi)).length, rfl, hlo0, hlo1, by rw [hvl]; omega, by rw [hk0.out.1]; simp; omega, by rw [hk0.out.1, hk0.out.2.1], by simp; omega, hT2, by rw [hk0.out.1, hk0.out.2.1]; exact hQ.out, hk0.out.2.2, inv⟩
        case round =>
          clear inv hk0 hQ hT2 hv' hlo0 hlo1
          obtain ⟨lo', v, e, S, m, rfl, hl0, hl1, hlm, hls, hcs, hS8, hT2, hQ, hbt, inv⟩ := hrel
          have hrr := hrW.out _ inv.ch
          have cD := hD0.out _ inv.ch
          replace hcs := Nat.le_antisymm_iff.1 hcs
          by_cases hlt : lo' < hi
          · obtain ⟨x, hxe⟩ : ∃ x, x = enAt l lo' := ⟨_, rfl⟩
            have hsg : seg l lo' hi = x :: seg l (lo' + 1) hi := by rw [hxe]; exact seg_cons hlt hhi
            have hx6 := hT2.six x.v (by rw [hsg]; simp [vals])
            have hxd : d < x.o.length := hT2.lt x.v (by rw [hsg]; simp [vals])
            obtain ⟨b, off, b2, off2, rfl, hb, hxA, hc1, hc2⟩ := hrr.st (k := lo') (d := d) (by omega) (by rw [← hxe]; exact hxd)
            rw [← hxe] at hc1 hc2
            obtain ⟨sx, hsx⟩ : ∃ sx, sx = stAt d x.v := ⟨_, rfl⟩
            rw [← hsx] at hc2
            have hc1' := hc1
            have hc2' := hc2
            have hdi : (d : Int) < (x.o.length : Int) := by omega
            have hd0 : (0 : Int) ≤ (d : Int) := by omega
            obtain ⟨run, hrun⟩ : ∃ run, run = runL d sx (vals (seg l lo' hi)) := ⟨_, rfl⟩
            have hrun1 : 1 ≤ run := by rw [hrun, hsx, hsg]; exact runL_pos d x.v (vals (seg l (lo' + 1) hi))
            have hrunl : run ≤ hi - lo' := by rw [hrun]; have := runL_le d sx (vals (seg l lo' hi)); rw [vals_len, seg_len hhi] at this; exact this
            obtain ⟨en, hen, hen2⟩ : ∃ en, en ≤ lo' + run ∧ lo' + run ≤ en := ⟨_, Nat.le_refl _, Nat.le_refl _⟩
            replace hsx := Lib.hid hsx
            replace hrun := Lib.hid hrun
            replace hsg := Lib.hid hsg
            replace hxe := Lib.hid hxe
            clear hc1 hc2 hxA
            have il1 : (lo' : Int) < (l.length : Int) := by omega
            have il0 : (0 : Int) ≤ (lo' : Int) := by omega
            have il2 : (lo' : Int) < (hi : Int) := by omega
            go_wp2
            go_loop [14] (fun i => ∃ j : Nat, i = .int .i64 j ∧ lo' ≤ j ∧ j ≤ en) (fun i => hi - (intOf i).toNat)
            case atStart => exact ⟨lo', rfl, Nat.le_refl _, by omega⟩
            case round =>
              obtain ⟨j, rfl, hj, hje⟩ := hrel
              go_upto_region 11 with fail
              go_cut [83] (fun s W => s = .bool (decide (j < en)) ∧ W = wr)
              case first =>
                by_cases hkl : j < hi
                · have hke : (enAt l j).v ∈ vals (seg l lo' hi) := by
                    rw [← seg_at hj hkl hhi]
                    exact List.mem_map.2 ⟨_, enAt_in _ _ (by rw [seg_len hhi]; omega), rfl⟩
                  have hkd : d < (enAt l j).o.length := hT2.lt _ hke
                  obtain ⟨b', off', b3, off3, hA, _, _, hd1, hd2⟩ := hrr.st (k := j) (d := d) (by omega) hkd
                  cases hA
                  have htest := run_lt (d := d) (s := sx) (l := vals (seg l lo' hi)) (k := j - lo') (by rw [← hrun.out]; omega) (by rw [vals_len, seg_len hhi]; omega)
                  rw [← hrun.out, evAt_vals _ _ (by rw [seg_len hhi]; omega), seg_at hj hkl hhi] at htest
                  have hdk : (d : Int) < ((enAt l j).o.length : Int) := by omega
                  have hk1 : (j : Int) < (hi : Int) := by omega
                  have hk3 : (j : Int) < (l.length : Int) := by omega
                  have hk2 : (0 : Int) ≤ (j : Int) := by omega
                  generalize stAt d (enAt l j).v = sy at htest hd2
                  generalize (enAt l j).o.length = ol at hd1 hdk
                  generalize (enAt l j).c = oc at hd1
                  replace htest := Lib.hid htest
                  clear hke hkd
                  go_wp2
                  go_meet
                  case rel => exact ⟨by rw [htest.out, Value.bool.injEq, decide_eq_decide]; omega, rfl⟩
                · have hk1 : ¬ (j : Int) < (hi : Int) := by omega
                  go_wp2
                  go_meet
                  case rel => exact ⟨by rw [Value.bool.injEq, eq_comm, decide_eq_false_iff_not]; omega, rfl⟩
              case rest =>
                obtain ⟨rfl, hw⟩ := hcut
                subst hw
                rename World => wr
                by_cases hkr : j < en
                · go_wp2
                  go_round
                  case rel => exact ⟨j + 1, by go_num, by omega, by omega⟩
                  case measure => simp [intOf]; omega
                · obtain rfl : en = j := by omega
                  clear hkr
                  have a0 : wr.cell? ⟨PB, 0, none⟩ = some (.slice e.A1 e.ss.length e.c1) := inv.p.cell (j := 0) rfl
                  have hs1 := inv.s1
                  have n1P : (Value.slice e.A1 e.ss.length e.c1).ownBlock ≠ some PB := fun ee => (inv.ge (ndRow1 3 e) (nd_mem 3 (List.mem_cons_self ..)).1 _ ee).2 rfl
                  have hwr := inv.ch.size
                  go_wp2_with (at_builtin; refine wpList_appW #[.int .i64 sx] intT hs1 rfl (by simp [Value.oneCell']) (by omega) (by omega) (by decide) rfl (.tmp 87) (.tmp 89) rfl _ rfl rfl rfl ?_; intro v6 w6 ho6 hg6 hat6; obtain ⟨A7, c7, rfl, _⟩ := own_slice ho6; have hP6 := inv.p.grown hg6 n1P; have fP6 := hP6.frozen 0; have cP6 : w6.cell? ⟨PB, 0, none⟩ = some (.slice e.A1 e.ss.length e.c1) := hP6.cell (j := 0) rfl)
                  have inv6 := inv.up1 hgw hPw (x := sx) hg6 ho6 hat6
                  obtain ⟨e1, he1⟩ : ∃ e1 : Tn, e1 = { e with A1 := A7, c1 := c7, ss := e.ss ++ [sx] } := ⟨_, rfl⟩
                  rw [← he1] at inv6
                  have k1 := Lib.hid (show e1.ss = e.ss ++ [sx] ∧ e1.cs = e.cs ∧ e1.b = e.b ∧ e1.t = e.t from by rw [he1]; exact ⟨rfl, rfl, rfl, rfl⟩)
                  have kl : e1.cs.length ≤ e.cs.length := by rw [k1.out.2.1]; exact Nat.le_refl _
                  clear he1 inv hs1 n1P ho6 hg6 hat6 hP6 fP6 cP6 a0 hrr hc1' hc2' cD
                  generalize w6.setCell ⟨PB, 0, none⟩ (.slice A7 (e.ss.length + 1) c7) = w7 at *
                  obtain ⟨K9, hK9⟩ : ∃ K9, K9 = N + 1 + S.length := ⟨_, rfl⟩
                  have hf1 : 1 ≤ f := by have : x.v.1.length ≤ 6 := hx6; have : d < x.v.1.length := hxd; omega
                  have hT3 : Tri (d + 1) (vals (seg l lo' en)) := by
                    have h9 := hT2.run sx
                    rw [← hrun.out, ← valsE_take, seg_take (by omega), show lo' + run = en by omega] at h9
                    exact h9
                  have hIH : RowKit.Hid (∀ W, PInv 55 94 3 u W base BB g PB (N + 1) (.slice Av N cv) v (L ++ tnC noTn) e1 S → Calls Tryd.prog 71 #[.pointer (some ⟨g, 0, none⟩), .agg #[.slice (some ⟨b, off, none⟩) l.length c], .int .i64 lo', .int .i64 en, .int .i64 ((d : Int) + 1)] W fun e w' => e = .returned (.int .i64 (K9 : Int)) ∧ ∃ (v' : Value) (S' : List Tn), tvals S' = tree f (d + 1) K9 (vals (seg l lo' en)) ∧ OwnAll w' base (nRow 94 v' (N + 1 + S.length + S'.length) (L ++ tnC noTn ++ tns S ++ tns S') :: ndRows 3 S') ∧ (∀ r ∈ ndRows 3 S', ∀ q, r.v.ownBlock = some q → W.heap.size ≤ q) ∧ ownC 55 w' BB g [v'] ∧ (∀ q, v'.ownBlock = some q → q ≠ g ∧ (v.ownBlock = some q ∨ W.heap.size ≤ q)) ∧ Chg W w' (fun k => k = g ∨ v.ownBlock = some k)) := Lib.hid (fun W hW => by
                    rw [hK9]
                    exact ih.out (d + 1) (some ⟨b, off, none⟩) l.length c l lo' en g (N + 1 + S.length) BB B base v (L ++ tnC noTn ++ tns S) W hf1 (by omega) rfl hn40 (by omega) (by omega) hT3 (hrW.out _ hW.ch) hBB hBb (by have := hW.ch.size; omega) hW.row hW.b (fun q hq => (hW.vb q hq).1) (by omega))
                  replace hK9 := Lib.hid hK9
                  go_upto_region 14 with fail
                  go_cut [] (fun W => ∃ (v8 : Value) (S8 : List Tn) (A2 : Option Addr) (c2 : Nat), tvals S8 = tree f (d + 1) K9 (vals (seg l lo' en)) ∧ PInv 55 94 3 u W base BB g PB (N + 1) (.slice Av N cv) v8 (L ++ tnC noTn) { e1 with A2 := A2, c2 := c2, cs := e1.cs ++ [(K9 : Int)] } (S ++ S8))
                  case first =>
                    have hwd : IntKind.i64.wrap ((d : Int) + 1) = (d : Int) + 1 := IntWalk.i64_in _ (by omega)
                    obtain ⟨iI, hj0, hj1, hj2, hj3⟩ := info_parts intT.info
                    have a1 : w7.cell? ⟨PB, 1, none⟩ = some (.slice e1.A2 e1.cs.length e1.c2) := inv6.p.cell (j := 1) rfl
                    have n2P : (Value.slice e1.A2 e1.cs.length e1.c2).ownBlock ≠ some PB := fun ee => (inv6.ge (ndRow2 3 e1) (nd_mem 3 (List.mem_cons_self ..)).2 _ ee).2 rfl
                    have n2D : (Value.slice e1.A2 e1.cs.length e1.c2).ownBlock ≠ some D0 := fun ee => by have := (inv6.ge (ndRow2 3 e1) (nd_mem 3 (List.mem_cons_self ..)).2 _ ee).1; omega
                    have cD := hD0.out _ inv6.ch
                    refine wp_region_held_drew (S := (fun w' => w'.cell? ⟨D0, 0, none⟩ = some (.slice (some ⟨b, off, none⟩) l.length c))) (by kernel_rfl) ?_ (fun hHeld => ?_)
                    · go_keep
                    refine wpAnyH_take (i := 0) (oi := _) (v := ?vr92n1) rfl (by kernel_rfl) (by kernel_rfl) (by kernel_rfl) (fun _ _ _ h => h) (Or.inl ⟨by rfl, ?hyr92n1⟩) (by assumption) ?_
                    case hyr92n1 => (intro w' hSw; (try dsimp only at hSw); go_simp; try (with_reducible rfl))
                    change wpAnyH _ _ _ _ _ _ _ (Act.put _ (some 92) _) _
                    simp only [Act.put, List.setIfInBounds_toArray, List.set_cons_zero, List.set_cons_succ]
                    refine wpAnyH_take (i := 2) (oi := _) (v := ?vr92n2) rfl (by kernel_rfl) (by kernel_rfl) (by kernel_rfl) (fun _ _ _ h => h) (Or.inl ⟨by rfl, ?hyr92n2⟩) (by assumption) ?_
                    case hyr92n2 => (intro w' hSw; (try dsimp only at hSw); go_simp; try (with_reducible rfl))
                    change wpAnyH _ _ _ _ _ _ _ (Act.put _ (some 94) _) _
                    simp only [Act.put, List.setIfInBounds_toArray, List.set_cons_zero, List.set_cons_succ]
                    refine wpAnyH_take (i := 3) (oi := _) (v := ?vr92n3) rfl (by kernel_rfl) (by kernel_rfl) (by kernel_rfl) (fun _ _ _ h => h) (Or.inl ⟨by rfl, ?hyr92n3⟩) (by assumption) ?_
                    case hyr92n3 => (intro w' hSw; (try dsimp only at hSw); go_simp; try (with_reducible rfl))
                    change wpAnyH _ _ _ _ _ _ _ (Act.put _ (some 95) _) _
                    simp only [Act.put, List.setIfInBounds_toArray, List.set_cons_zero, List.set_cons_succ]
                    refine wpAnyH_take (i := 4) (oi := _) (v := ?vr92n4) rfl (by kernel_rfl) (by kernel_rfl) (by kernel_rfl) (fun _ _ _ h => h) (Or.inl ⟨by rfl, ?hyr92n4⟩) (by assumption) ?_
                    case hyr92n4 => (intro w' hSw; (try dsimp only at hSw); go_simp; try (with_reducible rfl))
                    change wpAnyH _ _ _ _ _ _ _ (Act.put _ (some 96) _) _
                    simp only [Act.put, List.setIfInBounds_toArray, List.set_cons_zero, List.set_cons_succ]
                    refine wpAnyH_take (i := 5) (oi := _) (v := ?vr92n5) rfl (by kernel_rfl) (by kernel_rfl) (by kernel_rfl) (fun _ _ _ h => h) (Or.inl ⟨by rfl, ?hyr92n5⟩) (by assumption) ?_
                    case hyr92n5 => (intro w' hSw; (try dsimp only at hSw); go_simp; try (with_reducible rfl))
                    change wpAnyH _ _ _ _ _ _ _ (Act.put _ (some 97) _) _
                    simp only [Act.put, List.setIfInBounds_toArray, List.set_cons_zero, List.set_cons_succ]
                    refine wpAnyH_take (i := 6) (oi := _) (v := ?vr92n6) rfl (by kernel_rfl) (by kernel_rfl) (by kernel_rfl) (fun _ _ _ h => h) (Or.inl ⟨by rfl, ?hyr92n6⟩) (by assumption) ?_
                    case hyr92n6 => (intro w' hSw; (try dsimp only at hSw); go_simp; try (with_reducible rfl))
                    change wpAnyH _ _ _ _ _ _ _ (Act.put _ (some 98) _) _
                    simp only [Act.put, List.setIfInBounds_toArray, List.set_cons_zero, List.set_cons_succ]
                    refine wpAnyH_take (i := 7) (oi := _) (v := ?vr92n7) rfl (by kernel_rfl) (by kernel_rfl) (by kernel_rfl) (fun _ _ _ h => h) (Or.inl ⟨by rfl, ?hyr92n7⟩) (by assumption) ?_
                    case hyr92n7 => (intro w' hSw; (try dsimp only at hSw); go_simp; try (with_reducible rfl))
                    change wpAnyH _ _ _ _ _ _ _ (Act.put _ (some 99) _) _
                    simp only [Act.put, List.setIfInBounds_toArray, List.set_cons_zero, List.set_cons_succ]
                    refine wpAnyH_ready (rs := [1, 8]) (by kernel_rfl) (by simp) ?_
                    refine AllReadyH.cons rfl (fun K hK => ?_) (AllReadyH.cons rfl (fun K hK => ?_) AllReadyH.nil)
                    · go_simp
                      refine hK.out _ _ ?_ (fun hHeld => ?_)
                      · first | go_keep | exact y1 | exact y2 | exact y3
                      clear hK K
                      try simp only [Act.put, List.setIfInBounds_toArray, List.set_cons_zero, List.set_cons_succ]
                      refine wpAnyH_ready (rs := [8]) (by kernel_rfl) (by simp) ?_
                      refine AllReadyH.cons rfl (fun K hK => ?_) AllReadyH.nil
                      go_simp
                      go_at_call 71
                      refine (hIH.out _ (by first | exact inv6 | exact inv6.drew 1)).mono ?_
                      rintro e9 w8 ⟨rfl, v8, S8, hT8, own8, ge8, b8, vb8, ch8⟩
                      have inv8 := (inv6.drew 1).sub hgw hPw own8 ge8 b8 vb8 ch8
                      have m1 : w8.cell? ⟨PB, 1, none⟩ = some (.slice e1.A2 e1.cs.length e1.c2) := inv8.p.cell (j := 1) rfl
                      have mA : (w8.alloc (.cells #[.int .i64 (K9 : Int)] 3)).cell? ⟨PB, 1, none⟩ = some (.slice e1.A2 e1.cs.length e1.c2) := (inv8.p.alloc _).cell (j := 1) rfl
                      have hs8 := inv8.s2
                      have sz8 := inv8.ch.size
                      have y1 := hD0.out w8 inv8.ch
                      clear own8 ge8 b8 vb8 ch8
                      refine hK.out _ _ ?_ (fun hHeld => ?_)
                      · first | go_keep | exact y1 | exact y2 | exact y3
                      clear hK K
                      try simp only [Act.put, List.setIfInBounds_toArray, List.set_cons_zero, List.set_cons_succ]
                      refine wpAnyH_ready (rs := [9]) (by kernel_rfl) (by simp) ?_
                      refine AllReadyH.cons rfl (fun K hK => ?_) AllReadyH.nil
                      go_simp
                      refine hK.out _ _ ?_ (fun hHeld => ?_)
                      · first | go_keep | exact y1 | exact y2 | exact y3
                      clear hK K
                      try simp only [Act.put, List.setIfInBounds_toArray, List.set_cons_zero, List.set_cons_succ]
                      refine wpAnyH_ready (rs := [10]) (by kernel_rfl) (by simp) ?_
                      refine AllReadyH.cons rfl (fun K hK => ?_) AllReadyH.nil
                      refine step_append_lies _ rfl (.tmp 93) (.tmp 101) 22 rfl base 3 iI _ 1 8 Tryd.underlying22 hj0 hj1 hj2 hj3 rfl (by decide) (.slice e1.A2 e1.cs.length e1.c2) e1.cs.length (ints e1.cs) rfl (World.ownsRow.alloc hs8 _) ⟨w8.heap.size, 0, none⟩ 1 1 [.int .i64 (K9 : Int)] rfl rfl (World.news_of_block (cs := #[.int .i64 (K9 : Int)]) (t := 3) (fr := (0, 0)) (heap_alloc_new w8 _)) (by simp [Value.oneCell']) (by omega) (by unfold maxLen; omega) (by omega) (by simp; omega) (w8.heap.size + 1) (by simp) ?_
                      intro gg cap w9 ho9 hg9 hat9 hlt9
                      have hP9 := (inv8.p.alloc (.cells #[.int .i64 (K9 : Int)] 3)).grown hg9 n2P
                      have fP9 := hP9.frozen 1
                      have cP9 : w9.cell? ⟨PB, 1, none⟩ = some (.slice e1.A2 e1.cs.length e1.c2) := hP9.cell (j := 1) rfl
                      have inv9 := inv8.up2 hgw hPw (x := (K9 : Int)) ((World.grownBy_alloc w8 (.cells #[.int .i64 (K9 : Int)] 3) (Value.slice e1.A2 e1.cs.length e1.c2).ownBlock).trans hg9) ho9 (by rcases hat9 with hh | hh; exact .inl hh.symm; exact .inr (by rw [hh]; rfl))
                      have y2 := (Chg.of_grown (F := fun q => (Value.slice e1.A2 e1.cs.length e1.c2).ownBlock = some q) ((World.grownBy_alloc w8 (.cells #[.int .i64 (K9 : Int)] 3) (Value.slice e1.A2 e1.cs.length e1.c2).ownBlock).trans hg9) (fun q hq => hq)).cell y1 (fun ff => n2D ff)
                      have y3 := hD0.out _ inv9.ch
                      replace inv9 := Lib.hid inv9
                      refine hK.out _ _ ?_ (fun hHeld => ?_)
                      · first | go_keep | exact y1 | exact y2 | exact y3
                      clear hK K
                      try simp only [Act.put, List.setIfInBounds_toArray, List.set_cons_zero, List.set_cons_succ]
                      refine wpAnyH_take (i := 11) (oi := _) (v := ?vr92n8) rfl (by kernel_rfl) (by kernel_rfl) (by kernel_rfl) (fun _ _ _ h => h) (Or.inl ⟨by rfl, ?hyr92n8⟩) (by assumption) ?_
                      case hyr92n8 => (intro w' hSw; (try dsimp only at hSw); go_simp; try (with_reducible rfl))
                      change wpAnyH _ _ _ _ _ _ _ (Act.put _ (some 103) _) _
                      simp only [Act.put, List.setIfInBounds_toArray, List.set_cons_zero, List.set_cons_succ]
                      refine wpAnyH_ready (rs := [12]) (by kernel_rfl) (by simp) ?_
                      refine AllReadyH.cons rfl (fun K hK => ?_) AllReadyH.nil
                      go_simp
                      refine hK.out _ _ ?_ (fun hHeld => ?_)
                      · first | go_keep | exact y1 | exact y2 | exact y3
                      clear hK K
                      try simp only [Act.put, List.setIfInBounds_toArray, List.set_cons_zero, List.set_cons_succ]
                      refine wpAnyH_done (by kernel_rfl) ?_ _
                      clear inv8 hP9 hs8 ho9 hg9 hat9 y1 y2 y3
                      go_wp2
                      go_meet
                      case rel => exact ⟨v8, S8, some ⟨gg, 0, none⟩, cap, hT8, inv9.out⟩
                    · go_simp
                      go_at_call 71
                      refine (hIH.out _ (by first | exact inv6 | exact inv6.drew 1)).mono ?_
                      rintro e9 w8 ⟨rfl, v8, S8, hT8, own8, ge8, b8, vb8, ch8⟩
                      have inv8 := (inv6.drew 1).sub hgw hPw own8 ge8 b8 vb8 ch8
                      have m1 : w8.cell? ⟨PB, 1, none⟩ = some (.slice e1.A2 e1.cs.length e1.c2) := inv8.p.cell (j := 1) rfl
                      have mA : (w8.alloc (.cells #[.int .i64 (K9 : Int)] 3)).cell? ⟨PB, 1, none⟩ = some (.slice e1.A2 e1.cs.length e1.c2) := (inv8.p.alloc _).cell (j := 1) rfl
                      have hs8 := inv8.s2
                      have sz8 := inv8.ch.size
                      have y1 := hD0.out w8 inv8.ch
                      clear own8 ge8 b8 vb8 ch8
                      refine hK.out _ _ ?_ (fun hHeld => ?_)
                      · first | go_keep | exact y1 | exact y2 | exact y3
                      clear hK K
                      try simp only [Act.put, List.setIfInBounds_toArray, List.set_cons_zero, List.set_cons_succ]
                      refine wpAnyH_ready (rs := [1, 9]) (by kernel_rfl) (by simp) ?_
                      refine AllReadyH.cons rfl (fun K hK => ?_) (AllReadyH.cons rfl (fun K hK => ?_) AllReadyH.nil)
                      · go_simp
                        refine hK.out _ _ ?_ (fun hHeld => ?_)
                        · first | go_keep | exact y1 | exact y2 | exact y3
                        clear hK K
                        try simp only [Act.put, List.setIfInBounds_toArray, List.set_cons_zero, List.set_cons_succ]
                        refine wpAnyH_ready (rs := [9]) (by kernel_rfl) (by simp) ?_
                        refine AllReadyH.cons rfl (fun K hK => ?_) AllReadyH.nil
                        go_simp
                        refine hK.out _ _ ?_ (fun hHeld => ?_)
                        · first | go_keep | exact y1 | exact y2 | exact y3
                        clear hK K
                        try simp only [Act.put, List.setIfInBounds_toArray, List.set_cons_zero, List.set_cons_succ]
                        refine wpAnyH_ready (rs := [10]) (by kernel_rfl) (by simp) ?_
                        refine AllReadyH.cons rfl (fun K hK => ?_) AllReadyH.nil
                        refine step_append_lies _ rfl (.tmp 93) (.tmp 101) 22 rfl base 3 iI _ 1 8 Tryd.underlying22 hj0 hj1 hj2 hj3 rfl (by decide) (.slice e1.A2 e1.cs.length e1.c2) e1.cs.length (ints e1.cs) rfl (World.ownsRow.alloc hs8 _) ⟨w8.heap.size, 0, none⟩ 1 1 [.int .i64 (K9 : Int)] rfl rfl (World.news_of_block (cs := #[.int .i64 (K9 : Int)]) (t := 3) (fr := (0, 0)) (heap_alloc_new w8 _)) (by simp [Value.oneCell']) (by omega) (by unfold maxLen; omega) (by omega) (by simp; omega) (w8.heap.size + 1) (by simp) ?_
                        intro gg cap w9 ho9 hg9 hat9 hlt9
                        have hP9 := (inv8.p.alloc (.cells #[.int .i64 (K9 : Int)] 3)).grown hg9 n2P
                        have fP9 := hP9.frozen 1
                        have cP9 : w9.cell? ⟨PB, 1, none⟩ = some (.slice e1.A2 e1.cs.length e1.c2) := hP9.cell (j := 1) rfl
                        have inv9 := inv8.up2 hgw hPw (x := (K9 : Int)) ((World.grownBy_alloc w8 (.cells #[.int .i64 (K9 : Int)] 3) (Value.slice e1.A2 e1.cs.length e1.c2).ownBlock).trans hg9) ho9 (by rcases hat9 with hh | hh; exact .inl hh.symm; exact .inr (by rw [hh]; rfl))
                        have y2 := (Chg.of_grown (F := fun q => (Value.slice e1.A2 e1.cs.length e1.c2).ownBlock = some q) ((World.grownBy_alloc w8 (.cells #[.int .i64 (K9 : Int)] 3) (Value.slice e1.A2 e1.cs.length e1.c2).ownBlock).trans hg9) (fun q hq => hq)).cell y1 (fun ff => n2D ff)
                        have y3 := hD0.out _ inv9.ch
                        replace inv9 := Lib.hid inv9
                        refine hK.out _ _ ?_ (fun hHeld => ?_)
                        · first | go_keep | exact y1 | exact y2 | exact y3
                        clear hK K
                        try simp only [Act.put, List.setIfInBounds_toArray, List.set_cons_zero, List.set_cons_succ]
                        refine wpAnyH_take (i := 11) (oi := _) (v := ?vr92n9) rfl (by kernel_rfl) (by kernel_rfl) (by kernel_rfl) (fun _ _ _ h => h) (Or.inl ⟨by rfl, ?hyr92n9⟩) (by assumption) ?_
                        case hyr92n9 => (intro w' hSw; (try dsimp only at hSw); go_simp; try (with_reducible rfl))
                        change wpAnyH _ _ _ _ _ _ _ (Act.put _ (some 103) _) _
                        simp only [Act.put, List.setIfInBounds_toArray, List.set_cons_zero, List.set_cons_succ]
                        refine wpAnyH_ready (rs := [12]) (by kernel_rfl) (by simp) ?_
                        refine AllReadyH.cons rfl (fun K hK => ?_) AllReadyH.nil
                        go_simp
                        refine hK.out _ _ ?_ (fun hHeld => ?_)
                        · first | go_keep | exact y1 | exact y2 | exact y3
                        clear hK K
                        try simp only [Act.put, List.setIfInBounds_toArray, List.set_cons_zero, List.set_cons_succ]
                        refine wpAnyH_done (by kernel_rfl) ?_ _
                        clear inv8 hP9 hs8 ho9 hg9 hat9 y1 y2 y3
                        go_wp2
                        go_meet
                        case rel => exact ⟨v8, S8, some ⟨gg, 0, none⟩, cap, hT8, inv9.out⟩
                      · go_simp
                        refine hK.out _ _ ?_ (fun hHeld => ?_)
                        · first | go_keep | exact y1 | exact y2 | exact y3
                        clear hK K
                        try simp only [Act.put, List.setIfInBounds_toArray, List.set_cons_zero, List.set_cons_succ]
                        refine wpAnyH_ready (rs := [1]) (by kernel_rfl) (by simp) ?_
                        refine AllReadyH.cons rfl (fun K hK => ?_) AllReadyH.nil
                        go_simp
                        refine hK.out _ _ ?_ (fun hHeld => ?_)
                        · first | go_keep | exact y1 | exact y2 | exact y3
                        clear hK K
                        try simp only [Act.put, List.setIfInBounds_toArray, List.set_cons_zero, List.set_cons_succ]
                        refine wpAnyH_ready (rs := [10]) (by kernel_rfl) (by simp) ?_
                        refine AllReadyH.cons rfl (fun K hK => ?_) AllReadyH.nil
                        refine step_append_lies _ rfl (.tmp 93) (.tmp 101) 22 rfl base 3 iI _ 1 8 Tryd.underlying22 hj0 hj1 hj2 hj3 rfl (by decide) (.slice e1.A2 e1.cs.length e1.c2) e1.cs.length (ints e1.cs) rfl (World.ownsRow.alloc hs8 _) ⟨w8.heap.size, 0, none⟩ 1 1 [.int .i64 (K9 : Int)] rfl rfl (World.news_of_block (cs := #[.int .i64 (K9 : Int)]) (t := 3) (fr := (0, 0)) (heap_alloc_new w8 _)) (by simp [Value.oneCell']) (by omega) (by unfold maxLen; omega) (by omega) (by simp; omega) (w8.heap.size + 1) (by simp) ?_
                        intro gg cap w9 ho9 hg9 hat9 hlt9
                        have hP9 := (inv8.p.alloc (.cells #[.int .i64 (K9 : Int)] 3)).grown hg9 n2P
                        have fP9 := hP9.frozen 1
                        have cP9 : w9.cell? ⟨PB, 1, none⟩ = some (.slice e1.A2 e1.cs.length e1.c2) := hP9.cell (j := 1) rfl
                        have inv9 := inv8.up2 hgw hPw (x := (K9 : Int)) ((World.grownBy_alloc w8 (.cells #[.int .i64 (K9 : Int)] 3) (Value.slice e1.A2 e1.cs.length e1.c2).ownBlock).trans hg9) ho9 (by rcases hat9 with hh | hh; exact .inl hh.symm; exact .inr (by rw [hh]; rfl))
                        have y2 := (Chg.of_grown (F := fun q => (Value.slice e1.A2 e1.cs.length e1.c2).ownBlock = some q) ((World.grownBy_alloc w8 (.cells #[.int .i64 (K9 : Int)] 3) (Value.slice e1.A2 e1.cs.length e1.c2).ownBlock).trans hg9) (fun q hq => hq)).cell y1 (fun ff => n2D ff)
                        have y3 := hD0.out _ inv9.ch
                        replace inv9 := Lib.hid inv9
                        refine hK.out _ _ ?_ (fun hHeld => ?_)
                        · first | go_keep | exact y1 | exact y2 | exact y3
                        clear hK K
                        try simp only [Act.put, List.setIfInBounds_toArray, List.set_cons_zero, List.set_cons_succ]
                        refine wpAnyH_take (i := 11) (oi := _) (v := ?vr92n10) rfl (by kernel_rfl) (by kernel_rfl) (by kernel_rfl) (fun _ _ _ h => h) (Or.inl ⟨by rfl, ?hyr92n10⟩) (by assumption) ?_
                        case hyr92n10 => (intro w' hSw; (try dsimp only at hSw); go_simp; try (with_reducible rfl))
                        change wpAnyH _ _ _ _ _ _ _ (Act.put _ (some 103) _) _
                        simp only [Act.put, List.setIfInBounds_toArray, List.set_cons_zero, List.set_cons_succ]
                        refine wpAnyH_ready (rs := [12]) (by kernel_rfl) (by simp) ?_
                        refine AllReadyH.cons rfl (fun K hK => ?_) AllReadyH.nil
                        go_simp
                        refine hK.out _ _ ?_ (fun hHeld => ?_)
                        · first | go_keep | exact y1 | exact y2 | exact y3
                        clear hK K
                        try simp only [Act.put, List.setIfInBounds_toArray, List.set_cons_zero, List.set_cons_succ]
                        refine wpAnyH_done (by kernel_rfl) ?_ _
                        clear inv8 hP9 hs8 ho9 hg9 hat9 y1 y2 y3
                        go_wp2
                        go_meet
                        case rel => exact ⟨v8, S8, some ⟨gg, 0, none⟩, cap, hT8, inv9.out⟩
                  case rest =>
                    obtain ⟨v8, S8, A2, c2, hT8, inv8⟩ := hcut
                    rename World => w8
                    obtain ⟨m2, rfl⟩ : ∃ m2, m = m2 + 1 := ⟨m - 1, by omega⟩
                    have hst := kids_step (rec := tree f (d + 1)) (d := d) (m := m2) (k := N + 1 + S.length) (e := x.v) (r := vals (seg l (lo' + 1) hi)) (ss := e.ss) (cs := e.cs) (ns := tvals S) (n := run) (sub := tvals S8) (by rw [← hsx.out]; rw [hrun.out, hsg.out]; rfl) (by rw [hT8, hK9.out, show (x.v :: vals (seg l (lo' + 1) hi)) = vals (seg l lo' hi) by rw [hsg.out]; rfl, ← valsE_take, seg_take (by omega), show lo' + run = en by omega])
                    have e9 : vals (seg l en hi) = (x.v :: vals (seg l (lo' + 1) hi)).drop run := by
                      rw [show en = lo' + run by omega, show seg l (lo' + run) hi = (seg l lo' hi).drop run from seg_drop.symm, hsg.out, vals_drop]
                      rfl
                    have hQ3 := Lib.hid (show Q = joinK (e.ss ++ [sx]) (e.cs ++ [(K9 : Int)]) (tvals S ++ tvals S8) (kids (tree f (d + 1)) d m2 (N + 1 + S.length + (tvals S8).length) (vals (seg l en hi))) by rw [hQ.out, hsx.out, hK9.out, e9, show vals (seg l lo' hi) = x.v :: vals (seg l (lo' + 1) hi) by rw [hsg.out]; rfl]; exact hst)
                    have h8l : S8.length ≤ 1 + 6 * run := by
                      have h9 := tree_len f (d + 1) K9 (vals (seg l lo' en))
                      rw [← hT8, tvals_len, vals_len, seg_len (by omega)] at h9
                      have h10 : f * (en - lo') ≤ 6 * (en - lo') := Nat.mul_le_mul_right _ (by omega)
                      omega
                    replace hT8 := Lib.hid hT8
                    clear hst e9
                    go_wp2
                    go_roundw
                    case rel =>
                      refine ⟨en, v8, { e1 with A2 := A2, c2 := c2, cs := e1.cs ++ [(K9 : Int)] }, S ++ S8, m2, rfl, by omega, by omega, by omega, ?_, ?_, ?_, ?_, Lib.hid ?_, Lib.hid ⟨k1.out.2.2.1.trans hbt.out.1, k1.out.2.2.2.trans hbt.out.2⟩, inv8⟩
                      · show hi - en + e1.ss.length ≤ hi - lo
                        rw [k1.out.1, List.length_append, List.length_singleton]
                        omega
                      · show (e1.cs ++ [(K9 : Int)]).length = e1.ss.length
                        rw [k1.out.1, k1.out.2.1, List.length_append, List.length_append, List.length_singleton, List.length_singleton]
                        omega
                      · rw [List.length_append]
                        omega
                      · rw [show en = lo' + run by omega, ← seg_drop, vals_drop]
                        exact hT2.sub (List.drop_sublist _ _)
                      · show Q = joinK e1.ss (e1.cs ++ [(K9 : Int)]) (tvals (S ++ S8)) (kids (tree f (d + 1)) d m2 (N + 1 + (S ++ S8).length) (vals (seg l en hi)))
                        rw [k1.out.1, k1.out.2.1, tvals_append, List.length_append, ← Nat.add_assoc, hQ3.out, tvals_len]
                    case measure =>
                      simp [intOf]
                      omega
          · obtain rfl : lo' = hi := by omega
            have il2 : ¬ (lo' : Int) < (lo' : Int) := by omega
            have hQ2 := hQ.out
            rw [seg_nil, show vals [] = [] from rfl, kids_nil] at hQ2
            replace hQ2 := Lib.hid hQ2
            have hvv : wr.ownsRow base 94 4 v (N + 1 + S.length) (L ++ tnC noTn ++ tns S) := inv.own.own (nRow 94 v (N + 1 + S.length) (L ++ tnC noTn ++ tns S)) (List.mem_cons_self ..)
            obtain ⟨G, cap, rfl, hG1, hG2⟩ := hvv.form (by omega)
            have hvG := inv.vb G rfl
            have nGg : G ≠ g := hvG.1
            have nGP : G ≠ PB := hvG.2.1
            have hLl : L.length = N * 4 := hv0.1
            have hlen := hvv.1
            have cB := inv.b.cell (j := 0) rfl
            have a0 : wr.cell? ⟨PB, 0, none⟩ = some (.slice e.A1 e.ss.length e.c1) := inv.p.cell (j := 0) rfl
            have a1 : wr.cell? ⟨PB, 1, none⟩ = some (.slice e.A2 e.cs.length e.c2) := inv.p.cell (j := 1) rfl
            have a2 : wr.cell? ⟨PB, 2, none⟩ = some (.bool e.b) := inv.p.cell (j := 2) rfl
            have a3 : wr.cell? ⟨PB, 3, none⟩ = some (.string e.t) := inv.p.cell (j := 3) rfl
            have f0 := hvv.frozenAt (N * 4)
            have f1 := hvv.frozenAt (N * 4 + 1)
            have f2 := hvv.frozenAt (N * 4 + 2)
            have f3 := hvv.frozenAt (N * 4 + 3)
            obtain ⟨u0, k0⟩ : ∃ u, wr.cell? ⟨G, N * 4, none⟩ = some u := ⟨_, (hvv.cellAt (N * 4) (by omega)).trans (List.getElem?_eq_getElem (by omega))⟩
            obtain ⟨u1, k1⟩ : ∃ u, wr.cell? ⟨G, N * 4 + 1, none⟩ = some u := ⟨_, (hvv.cellAt (N * 4 + 1) (by omega)).trans (List.getElem?_eq_getElem (by omega))⟩
            obtain ⟨u2, k2⟩ : ∃ u, wr.cell? ⟨G, N * 4 + 2, none⟩ = some u := ⟨_, (hvv.cellAt (N * 4 + 2) (by omega)).trans (List.getElem?_eq_getElem (by omega))⟩
            obtain ⟨u3, k3⟩ : ∃ u, wr.cell? ⟨G, N * 4 + 3, none⟩ = some u := ⟨_, (hvv.cellAt (N * 4 + 3) (by omega)).trans (List.getElem?_eq_getElem (by omega))⟩
            obtain ⟨ownF, gF⟩ := own_store4 (x0 := noTn.s1) (x1 := noTn.s2) (x2 := .bool noTn.b) (x3 := .string noTn.t) inv.own hLl e.s1 e.s2 (.bool e.b) (.string e.t)
            have bF := (inv.b.grown gF (fun ee => nGg (Option.some.inj ee))).drewN 1
            have cF := (inv.ch.trans_new (Chg.of_set gF) (fun i hi f => by
              have f9 : i = G := f
              rw [f9] at hi ⊢
              rcases hvG.2.2 with h9 | h9
              · exact Or.inr h9
              · omega)).drew 1
            have X := Lib.hid (And.intro (ownF.drew 1) (And.intro bF (hcu.trans cF)))
            have hvb := Lib.hid inv.vb
            have hge := Lib.hid inv.ge
            clear ownF gF bF cF hvv hlen hLl inv hvG hT2 hQ hrr cD
            have hi1' : (N : Int) < (N : Int) + 1 + (S.length : Int) := by omega
            go_wp2
            go_region_held3 (fun w' => w'.cell? ⟨g, 0, none⟩ = some (.slice (some ⟨G, 0, none⟩) (N + 1 + S.length) cap) ∧ w'.cell? ⟨PB, 0, none⟩ = some (.slice e.A1 e.ss.length e.c1) ∧ w'.cell? ⟨PB, 1, none⟩ = some (.slice e.A2 e.cs.length e.c2) ∧ w'.cell? ⟨PB, 2, none⟩ = some (.bool e.b) ∧ w'.cell? ⟨PB, 3, none⟩ = some (.string e.t)) (go_keep) (fail)
            go_wp2
            go_ret
            exact ⟨rfl, .slice (some ⟨G, 0, none⟩) (N + 1 + S.length) cap, e :: S, by rw [hTree.out, hQ2.out]; simp [tvals, joinK, Tn.v, hbt.out.1, hbt.out.2], by rw [tns_cons, ← List.append_assoc, List.length_cons, show N + (S.length + 1) = N + 1 + S.length by omega]; exact X.out.1, fun r hr q hq => by have := (hge.out r hr q hq).1; omega, X.out.2.1, fun q hq => ⟨(hvb.out q hq).1, by rcases (hvb.out q hq).2.2 with h9 | h9; exact Or.inl h9; exact Or.inr (by omega)⟩, X.out.2.2⟩
end Go.Proofs.YtnpiljkchjdpfaaDoor
