/- The walk of the law FnOutlineOrder. No condition. -/
import Derived.Test.YtnepcipicibmfaaCurOutl
import Derived.Test.YtnepcipicibmfaaPCmp
import Derived.Test.YtnepcipicibmfaaVHelp
namespace Go.Proofs.Ytnepcipicibmfaa
open Go.RowKit

set_option maxHeartbeats 4000000 in
theorem lawOutlineOrder (A : Option Addr) (n c : Nat) (w : World) (hn : n ≤ maxLen) (hnc : n ≤ c) (hcm : c ≤ maxLen) (hno : A = none → c = 0) (hcode : n ≤ 65536 → Code w A n) : Calls Try.prog 8 #[.slice A n c] w fun e w' => e = .returned (.bool true) ∧ Below w.heap.size w w' := by
  by_cases hb : 65536 < n
  · have hd : decide (65536 < n) = true := by simpa using hb
    go_enter Try.func8, Try.ntmps8
    go_wp2_with (go_at_call 23; refine (vBig_any A n c _ hn).mono ?_; rintro e w' ⟨rfl, rfl⟩)
    go_ret
    exact ⟨rfl, Below.refl _ _⟩
  · have hd : decide (65536 < n) = false := by simpa using hb
    have hc := hcode (by omega)
    go_enter Try.func8, Try.ntmps8
    go_wp2_with fail
    refine (vBig_any A n c w hn).mono ?_
    rintro e w' ⟨rfl, rfl⟩
    go_wp2_with fail
    refine (drawCompare_any A n c w hc).mono ?_
    rintro e w1 ⟨A1, n1, c1, A2, n2, c2, a, b, rfl, ha, hb', hn1, hn2, hc1, hc2, ra, rb, b1⟩
    have M1 : n1 ≤ maxLen := by unfold maxLen; omega
    have M2 : n2 ≤ maxLen := by unfold maxLen; omega
    go_wp2_with fail
    refine (implCompareOutlines_any A1 A2 n1 n2 c1 c2 a b w1 ha hb' M1 M2 _ (Nat.le_refl _) ra rb).mono ?_
    rintro e w2 ⟨rfl, hb2⟩
    have b2 := b1.trans (hb2.mono b1.size)
    have ra := ra.below hb2
    have rb := rb.below hb2
    have s2 := hb2.size
    go_wp2_with fail
    refine (specCompareOutlines_any A1 A2 n1 n2 c1 c2 a b w2 ha hb' M1 M2 _ ra rb).mono ?_
    rintro e w3 ⟨rfl, hb3⟩
    have b3 := b2.trans (hb3.mono b2.size)
    have ra := ra.below_le hb3 s2
    have rb := rb.below_le hb3 s2
    have s3 := Nat.le_trans s2 hb3.size
    go_wp2_with fail
    refine (drawHasPrefix_any A n c w3 (hc.below b3)).mono ?_
    rintro e w4 ⟨A3, n3, c3, A4, n4, c4, o, p, rfl, ho, hp, hn3, hn4, hc3, hc4, ro, rp, hb4⟩
    have M3 : n3 ≤ maxLen := by unfold maxLen; omega
    have M4 : n4 ≤ maxLen := by unfold maxLen; omega
    have b4 := b3.trans (hb4.mono b3.size)
    have ra := ra.below_le hb4 s3
    have rb := rb.below_le hb4 s3
    have s4 := Nat.le_trans s3 hb4.size
    go_wp2_with fail
    refine (implHasPrefix_any A3 A4 n3 n4 c3 c4 o p w4 ho hp M3 M4 hc3 _ (Nat.le_refl _) ro rp).mono ?_
    rintro e w5 ⟨rfl, hb5⟩
    have b5 := b4.trans (hb5.mono b4.size)
    have ra := ra.below_le hb5 s4
    have rb := rb.below_le hb5 s4
    have ro := ro.below hb5
    have rp := rp.below hb5
    have s5 := Nat.le_trans s4 hb5.size
    have t5 := hb5.size
    go_wp2_with fail
    refine (specHasPrefix_any A3 A4 n3 n4 c3 c4 o p w5 ho hp M3 M4 hc3 _ ro rp).mono ?_
    rintro e w6 ⟨rfl, hb6⟩
    have b6 := b5.trans (hb6.mono b5.size)
    have ra := ra.below_le hb6 s5
    have rb := rb.below_le hb6 s5
    have ro := ro.below_le hb6 t5
    have rp := rp.below_le hb6 t5
    have s6 := Nat.le_trans s5 hb6.size
    have t6 := Nat.le_trans t5 hb6.size
    rcases Bool.eq_false_or_eq_true (preB o p) with y | y
    · have y2 : bothB o p = true := by rw [preB, Bool.and_eq_true] at y; exact y.1
      have y3 := cmpR_prefix o p y
      simp only [y, y2]
      go_wp2_with fail
      refine (implCompareOutlines_any A4 A3 n4 n3 c4 c3 p o w6 hp ho M4 M3 _ t6 rp ro).mono ?_
      rintro e w7 ⟨rfl, hb7⟩
      have b7 := b6.trans (hb7.mono b6.size)
      have ra := ra.below_le hb7 s6
      have rb := rb.below_le hb7 s6
      have s7 := Nat.le_trans s6 hb7.size
      have y4 : decide (0 < cmpR p o) = false := by simp; omega
      rcases Bool.eq_false_or_eq_true (bothB a b) with k | k
      · simp only [k]
        go_wp2_with fail
        refine (implCompareOutlines_any A2 A1 n2 n1 c2 c1 b a w7 hb' ha M2 M1 _ s7 rb ra).mono ?_
        rintro e v1 ⟨rfl, hv1⟩
        have d1 := b7.trans (hv1.mono b7.size)
        have ra := ra.below_le hv1 s7
        have rb := rb.below_le hv1 s7
        have q1 := Nat.le_trans s7 hv1.size
        go_wp2_with fail
        refine (vCut_any A n c v1 (hc.below d1) (by omega) hnc hcm hno).mono ?_
        rintro e v2 ⟨A5, n5, c5, rfl, hc5, hn5, hv2⟩
        have d2 := d1.trans (hv2.mono d1.size)
        have ra := ra.below_le hv2 q1
        have rb := rb.below_le hv2 q1
        have q2 := Nat.le_trans q1 hv2.size
        go_wp2_with fail
        refine (drawCompare_any A5 n5 c5 v2 hc5).mono ?_
        rintro e v3 ⟨A6, n6, c6, A7, n7, c7, z, z', rfl, hz, hz', hn6, hn7, hc6, hc7, rz, _, hv3⟩
        have M6 : n6 ≤ maxLen := by unfold maxLen; omega
        have d3 := d2.trans (hv3.mono d2.size)
        have ra := ra.below_le hv3 q2
        have rb := rb.below_le hv3 q2
        have q3 := Nat.le_trans q2 hv3.size
        go_wp2_with fail
        refine (implCompareOutlines_any A2 A6 n2 n6 c2 c6 b z v3 hb' hz M2 M6 _ (Nat.le_refl _) (rb.mono q3) rz).mono ?_
        rintro e v4 ⟨rfl, hv4⟩
        have d4 := d3.trans (hv4.mono d3.size)
        have ra := ra.below_le hv4 q3
        have rb := rb.below_le hv4 q3
        have rz := rz.below hv4
        have q4 := Nat.le_trans q3 hv4.size
        go_wp2_with fail
        refine (implCompareOutlines_any A1 A6 n1 n6 c1 c6 a z v4 ha hz M1 M6 _ (Nat.le_refl _) (ra.mono q4) (rz.mono hv4.size)).mono ?_
        rintro e v5 ⟨rfl, hv5⟩
        have d5 := d4.trans (hv5.mono d4.size)
        have ra := ra.below_le hv5 q4
        have rb := rb.below_le hv5 q4
        have q5 := Nat.le_trans q4 hv5.size
        have F := cmpR_trans a b z k
        have Z := cmpR_zero a b k
        have N := cmpR_neg a b
        have D := cmpR_bd a b
        have vi := vInts_any A1 A2 n1 n2 c1 c2 a b v5 ha hb' M1 M2 _ ra rb
        have D6 := d5.size
        clear ra rb rz ro rp
        generalize cmpR a b = x1 at *
        generalize cmpR b a = x2 at *
        generalize cmpR b z = x3 at *
        generalize cmpR a z = x4 at *
        generalize bothB b z = g1 at *
        generalize bothB a z = g2 at *
        generalize (a == b) = g3 at *
        subst N
        rcases D with rfl | rfl | rfl
        · have Z' : g3 = false := by simpa using Z.symm
          subst Z'
          clear Z
          cases g1
          · go_wp2_with fail
            refine vi.mono ?_
            rintro e v6 ⟨rfl, kk, rfl⟩
            go_wp2
            go_ret
            exact ⟨rfl, below_drewN d5 _⟩
          · cases g2
            · go_wp2_with fail
              refine vi.mono ?_
              rintro e v6 ⟨rfl, kk, rfl⟩
              go_wp2
              go_ret
              exact ⟨rfl, below_drewN d5 _⟩
            · by_cases h3 : 0 < x3
              · have h3' : decide (0 < x3) = true := by simpa using h3
                go_wp2_with fail
                refine vi.mono ?_
                rintro e v6 ⟨rfl, kk, rfl⟩
                go_wp2
                go_ret
                exact ⟨rfl, below_drewN d5 _⟩
              · have h3' : decide (0 < x3) = false := by simpa using h3
                have h4 : x4 ≤ 0 := F rfl rfl (by omega) (by omega)
                go_wp2_with fail
                refine vi.mono ?_
                rintro e v6 ⟨rfl, kk, rfl⟩
                go_wp2
                go_ret
                exact ⟨rfl, below_drewN d5 _⟩
        · have Z' : g3 = true := by simpa using Z.symm
          subst Z'
          clear Z
          cases g1
          · go_wp2_with fail
            refine vi.mono ?_
            rintro e v6 ⟨rfl, kk, rfl⟩
            go_wp2
            go_ret
            exact ⟨rfl, below_drewN d5 _⟩
          · cases g2
            · go_wp2_with fail
              refine vi.mono ?_
              rintro e v6 ⟨rfl, kk, rfl⟩
              go_wp2
              go_ret
              exact ⟨rfl, below_drewN d5 _⟩
            · by_cases h3 : 0 < x3
              · have h3' : decide (0 < x3) = true := by simpa using h3
                go_wp2_with fail
                refine vi.mono ?_
                rintro e v6 ⟨rfl, kk, rfl⟩
                go_wp2
                go_ret
                exact ⟨rfl, below_drewN d5 _⟩
              · have h3' : decide (0 < x3) = false := by simpa using h3
                have h4 : x4 ≤ 0 := F rfl rfl (by omega) (by omega)
                go_wp2_with fail
                refine vi.mono ?_
                rintro e v6 ⟨rfl, kk, rfl⟩
                go_wp2
                go_ret
                exact ⟨rfl, below_drewN d5 _⟩
        · have Z' : g3 = false := by simpa using Z.symm
          subst Z'
          clear Z
          cases g1
          · go_wp2_with fail
            refine vi.mono ?_
            rintro e v6 ⟨rfl, kk, rfl⟩
            go_wp2
            go_ret
            exact ⟨rfl, below_drewN d5 _⟩
          · cases g2
            · go_wp2_with fail
              refine vi.mono ?_
              rintro e v6 ⟨rfl, kk, rfl⟩
              go_wp2
              go_ret
              exact ⟨rfl, below_drewN d5 _⟩
            · by_cases h3 : 0 < x3
              · have h3' : decide (0 < x3) = true := by simpa using h3
                go_wp2_with fail
                refine vi.mono ?_
                rintro e v6 ⟨rfl, kk, rfl⟩
                go_wp2
                go_ret
                exact ⟨rfl, below_drewN d5 _⟩
              · have h3' : decide (0 < x3) = false := by simpa using h3
                skip
                go_wp2_with fail
                refine vi.mono ?_
                rintro e v6 ⟨rfl, kk, rfl⟩
                go_wp2
                go_ret
                exact ⟨rfl, below_drewN d5 _⟩
      · have e0 : cmpR a b = 0 := by simp [cmpR, k]
        simp only [k, e0]
        go_wp2
        go_ret
        exact ⟨rfl, b7⟩
    · rcases Bool.eq_false_or_eq_true (bothB o p) with y2 | y2
      · simp only [y, y2]
        rcases Bool.eq_false_or_eq_true (bothB a b) with k | k
        · simp only [k]
          go_wp2_with fail
          refine (implCompareOutlines_any A2 A1 n2 n1 c2 c1 b a w6 hb' ha M2 M1 _ s6 rb ra).mono ?_
          rintro e v1 ⟨rfl, hv1⟩
          have d1 := b6.trans (hv1.mono b6.size)
          have ra := ra.below_le hv1 s6
          have rb := rb.below_le hv1 s6
          have q1 := Nat.le_trans s6 hv1.size
          go_wp2_with fail
          refine (vCut_any A n c v1 (hc.below d1) (by omega) hnc hcm hno).mono ?_
          rintro e v2 ⟨A5, n5, c5, rfl, hc5, hn5, hv2⟩
          have d2 := d1.trans (hv2.mono d1.size)
          have ra := ra.below_le hv2 q1
          have rb := rb.below_le hv2 q1
          have q2 := Nat.le_trans q1 hv2.size
          go_wp2_with fail
          refine (drawCompare_any A5 n5 c5 v2 hc5).mono ?_
          rintro e v3 ⟨A6, n6, c6, A7, n7, c7, z, z', rfl, hz, hz', hn6, hn7, hc6, hc7, rz, _, hv3⟩
          have M6 : n6 ≤ maxLen := by unfold maxLen; omega
          have d3 := d2.trans (hv3.mono d2.size)
          have ra := ra.below_le hv3 q2
          have rb := rb.below_le hv3 q2
          have q3 := Nat.le_trans q2 hv3.size
          go_wp2_with fail
          refine (implCompareOutlines_any A2 A6 n2 n6 c2 c6 b z v3 hb' hz M2 M6 _ (Nat.le_refl _) (rb.mono q3) rz).mono ?_
          rintro e v4 ⟨rfl, hv4⟩
          have d4 := d3.trans (hv4.mono d3.size)
          have ra := ra.below_le hv4 q3
          have rb := rb.below_le hv4 q3
          have rz := rz.below hv4
          have q4 := Nat.le_trans q3 hv4.size
          go_wp2_with fail
          refine (implCompareOutlines_any A1 A6 n1 n6 c1 c6 a z v4 ha hz M1 M6 _ (Nat.le_refl _) (ra.mono q4) (rz.mono hv4.size)).mono ?_
          rintro e v5 ⟨rfl, hv5⟩
          have d5 := d4.trans (hv5.mono d4.size)
          have ra := ra.below_le hv5 q4
          have rb := rb.below_le hv5 q4
          have q5 := Nat.le_trans q4 hv5.size
          have F := cmpR_trans a b z k
          have Z := cmpR_zero a b k
          have N := cmpR_neg a b
          have D := cmpR_bd a b
          have vi := vInts_any A1 A2 n1 n2 c1 c2 a b v5 ha hb' M1 M2 _ ra rb
          have D6 := d5.size
          clear ra rb rz ro rp
          generalize cmpR a b = x1 at *
          generalize cmpR b a = x2 at *
          generalize cmpR b z = x3 at *
          generalize cmpR a z = x4 at *
          generalize bothB b z = g1 at *
          generalize bothB a z = g2 at *
          generalize (a == b) = g3 at *
          subst N
          rcases D with rfl | rfl | rfl
          · have Z' : g3 = false := by simpa using Z.symm
            subst Z'
            clear Z
            cases g1
            · go_wp2_with fail
              refine vi.mono ?_
              rintro e v6 ⟨rfl, kk, rfl⟩
              go_wp2
              go_ret
              exact ⟨rfl, below_drewN d5 _⟩
            · cases g2
              · go_wp2_with fail
                refine vi.mono ?_
                rintro e v6 ⟨rfl, kk, rfl⟩
                go_wp2
                go_ret
                exact ⟨rfl, below_drewN d5 _⟩
              · by_cases h3 : 0 < x3
                · have h3' : decide (0 < x3) = true := by simpa using h3
                  go_wp2_with fail
                  refine vi.mono ?_
                  rintro e v6 ⟨rfl, kk, rfl⟩
                  go_wp2
                  go_ret
                  exact ⟨rfl, below_drewN d5 _⟩
                · have h3' : decide (0 < x3) = false := by simpa using h3
                  have h4 : x4 ≤ 0 := F rfl rfl (by omega) (by omega)
                  go_wp2_with fail
                  refine vi.mono ?_
                  rintro e v6 ⟨rfl, kk, rfl⟩
                  go_wp2
                  go_ret
                  exact ⟨rfl, below_drewN d5 _⟩
          · have Z' : g3 = true := by simpa using Z.symm
            subst Z'
            clear Z
            cases g1
            · go_wp2_with fail
              refine vi.mono ?_
              rintro e v6 ⟨rfl, kk, rfl⟩
              go_wp2
              go_ret
              exact ⟨rfl, below_drewN d5 _⟩
            · cases g2
              · go_wp2_with fail
                refine vi.mono ?_
                rintro e v6 ⟨rfl, kk, rfl⟩
                go_wp2
                go_ret
                exact ⟨rfl, below_drewN d5 _⟩
              · by_cases h3 : 0 < x3
                · have h3' : decide (0 < x3) = true := by simpa using h3
                  go_wp2_with fail
                  refine vi.mono ?_
                  rintro e v6 ⟨rfl, kk, rfl⟩
                  go_wp2
                  go_ret
                  exact ⟨rfl, below_drewN d5 _⟩
                · have h3' : decide (0 < x3) = false := by simpa using h3
                  have h4 : x4 ≤ 0 := F rfl rfl (by omega) (by omega)
                  go_wp2_with fail
                  refine vi.mono ?_
                  rintro e v6 ⟨rfl, kk, rfl⟩
                  go_wp2
                  go_ret
                  exact ⟨rfl, below_drewN d5 _⟩
          · have Z' : g3 = false := by simpa using Z.symm
            subst Z'
            clear Z
            cases g1
            · go_wp2_with fail
              refine vi.mono ?_
              rintro e v6 ⟨rfl, kk, rfl⟩
              go_wp2
              go_ret
              exact ⟨rfl, below_drewN d5 _⟩
            · cases g2
              · go_wp2_with fail
                refine vi.mono ?_
                rintro e v6 ⟨rfl, kk, rfl⟩
                go_wp2
                go_ret
                exact ⟨rfl, below_drewN d5 _⟩
              · by_cases h3 : 0 < x3
                · have h3' : decide (0 < x3) = true := by simpa using h3
                  go_wp2_with fail
                  refine vi.mono ?_
                  rintro e v6 ⟨rfl, kk, rfl⟩
                  go_wp2
                  go_ret
                  exact ⟨rfl, below_drewN d5 _⟩
                · have h3' : decide (0 < x3) = false := by simpa using h3
                  skip
                  go_wp2_with fail
                  refine vi.mono ?_
                  rintro e v6 ⟨rfl, kk, rfl⟩
                  go_wp2
                  go_ret
                  exact ⟨rfl, below_drewN d5 _⟩
        · have e0 : cmpR a b = 0 := by simp [cmpR, k]
          simp only [k, e0]
          go_wp2
          go_ret
          exact ⟨rfl, b6⟩
      · simp only [y, y2]
        rcases Bool.eq_false_or_eq_true (bothB a b) with k | k
        · simp only [k]
          go_wp2_with fail
          refine (implCompareOutlines_any A2 A1 n2 n1 c2 c1 b a w6 hb' ha M2 M1 _ s6 rb ra).mono ?_
          rintro e v1 ⟨rfl, hv1⟩
          have d1 := b6.trans (hv1.mono b6.size)
          have ra := ra.below_le hv1 s6
          have rb := rb.below_le hv1 s6
          have q1 := Nat.le_trans s6 hv1.size
          go_wp2_with fail
          refine (vCut_any A n c v1 (hc.below d1) (by omega) hnc hcm hno).mono ?_
          rintro e v2 ⟨A5, n5, c5, rfl, hc5, hn5, hv2⟩
          have d2 := d1.trans (hv2.mono d1.size)
          have ra := ra.below_le hv2 q1
          have rb := rb.below_le hv2 q1
          have q2 := Nat.le_trans q1 hv2.size
          go_wp2_with fail
          refine (drawCompare_any A5 n5 c5 v2 hc5).mono ?_
          rintro e v3 ⟨A6, n6, c6, A7, n7, c7, z, z', rfl, hz, hz', hn6, hn7, hc6, hc7, rz, _, hv3⟩
          have M6 : n6 ≤ maxLen := by unfold maxLen; omega
          have d3 := d2.trans (hv3.mono d2.size)
          have ra := ra.below_le hv3 q2
          have rb := rb.below_le hv3 q2
          have q3 := Nat.le_trans q2 hv3.size
          go_wp2_with fail
          refine (implCompareOutlines_any A2 A6 n2 n6 c2 c6 b z v3 hb' hz M2 M6 _ (Nat.le_refl _) (rb.mono q3) rz).mono ?_
          rintro e v4 ⟨rfl, hv4⟩
          have d4 := d3.trans (hv4.mono d3.size)
          have ra := ra.below_le hv4 q3
          have rb := rb.below_le hv4 q3
          have rz := rz.below hv4
          have q4 := Nat.le_trans q3 hv4.size
          go_wp2_with fail
          refine (implCompareOutlines_any A1 A6 n1 n6 c1 c6 a z v4 ha hz M1 M6 _ (Nat.le_refl _) (ra.mono q4) (rz.mono hv4.size)).mono ?_
          rintro e v5 ⟨rfl, hv5⟩
          have d5 := d4.trans (hv5.mono d4.size)
          have ra := ra.below_le hv5 q4
          have rb := rb.below_le hv5 q4
          have q5 := Nat.le_trans q4 hv5.size
          have F := cmpR_trans a b z k
          have Z := cmpR_zero a b k
          have N := cmpR_neg a b
          have D := cmpR_bd a b
          have vi := vInts_any A1 A2 n1 n2 c1 c2 a b v5 ha hb' M1 M2 _ ra rb
          have D6 := d5.size
          clear ra rb rz ro rp
          generalize cmpR a b = x1 at *
          generalize cmpR b a = x2 at *
          generalize cmpR b z = x3 at *
          generalize cmpR a z = x4 at *
          generalize bothB b z = g1 at *
          generalize bothB a z = g2 at *
          generalize (a == b) = g3 at *
          subst N
          rcases D with rfl | rfl | rfl
          · have Z' : g3 = false := by simpa using Z.symm
            subst Z'
            clear Z
            cases g1
            · go_wp2_with fail
              refine vi.mono ?_
              rintro e v6 ⟨rfl, kk, rfl⟩
              go_wp2
              go_ret
              exact ⟨rfl, below_drewN d5 _⟩
            · cases g2
              · go_wp2_with fail
                refine vi.mono ?_
                rintro e v6 ⟨rfl, kk, rfl⟩
                go_wp2
                go_ret
                exact ⟨rfl, below_drewN d5 _⟩
              · by_cases h3 : 0 < x3
                · have h3' : decide (0 < x3) = true := by simpa using h3
                  go_wp2_with fail
                  refine vi.mono ?_
                  rintro e v6 ⟨rfl, kk, rfl⟩
                  go_wp2
                  go_ret
                  exact ⟨rfl, below_drewN d5 _⟩
                · have h3' : decide (0 < x3) = false := by simpa using h3
                  have h4 : x4 ≤ 0 := F rfl rfl (by omega) (by omega)
                  go_wp2_with fail
                  refine vi.mono ?_
                  rintro e v6 ⟨rfl, kk, rfl⟩
                  go_wp2
                  go_ret
                  exact ⟨rfl, below_drewN d5 _⟩
          · have Z' : g3 = true := by simpa using Z.symm
            subst Z'
            clear Z
            cases g1
            · go_wp2_with fail
              refine vi.mono ?_
              rintro e v6 ⟨rfl, kk, rfl⟩
              go_wp2
              go_ret
              exact ⟨rfl, below_drewN d5 _⟩
            · cases g2
              · go_wp2_with fail
                refine vi.mono ?_
                rintro e v6 ⟨rfl, kk, rfl⟩
                go_wp2
                go_ret
                exact ⟨rfl, below_drewN d5 _⟩
              · by_cases h3 : 0 < x3
                · have h3' : decide (0 < x3) = true := by simpa using h3
                  go_wp2_with fail
                  refine vi.mono ?_
                  rintro e v6 ⟨rfl, kk, rfl⟩
                  go_wp2
                  go_ret
                  exact ⟨rfl, below_drewN d5 _⟩
                · have h3' : decide (0 < x3) = false := by simpa using h3
                  have h4 : x4 ≤ 0 := F rfl rfl (by omega) (by omega)
                  go_wp2_with fail
                  refine vi.mono ?_
                  rintro e v6 ⟨rfl, kk, rfl⟩
                  go_wp2
                  go_ret
                  exact ⟨rfl, below_drewN d5 _⟩
          · have Z' : g3 = false := by simpa using Z.symm
            subst Z'
            clear Z
            cases g1
            · go_wp2_with fail
              refine vi.mono ?_
              rintro e v6 ⟨rfl, kk, rfl⟩
              go_wp2
              go_ret
              exact ⟨rfl, below_drewN d5 _⟩
            · cases g2
              · go_wp2_with fail
                refine vi.mono ?_
                rintro e v6 ⟨rfl, kk, rfl⟩
                go_wp2
                go_ret
                exact ⟨rfl, below_drewN d5 _⟩
              · by_cases h3 : 0 < x3
                · have h3' : decide (0 < x3) = true := by simpa using h3
                  go_wp2_with fail
                  refine vi.mono ?_
                  rintro e v6 ⟨rfl, kk, rfl⟩
                  go_wp2
                  go_ret
                  exact ⟨rfl, below_drewN d5 _⟩
                · have h3' : decide (0 < x3) = false := by simpa using h3
                  skip
                  go_wp2_with fail
                  refine vi.mono ?_
                  rintro e v6 ⟨rfl, kk, rfl⟩
                  go_wp2
                  go_ret
                  exact ⟨rfl, below_drewN d5 _⟩
        · have e0 : cmpR a b = 0 := by simp [cmpR, k]
          simp only [k, e0]
          go_wp2
          go_ret
          exact ⟨rfl, b6⟩
end Go.Proofs.Ytnepcipicibmfaa
