/- The reference's way of putting an entry into a dictionary. Condition: at most 1000 entries, outlines and texts as drawn. -/
import Derived.Test.YtnpiljkchjdpfaaGreatDoorDictC
import Derived.Deep.DeepCutAuto
import Derived.Deep.RegionHeldLaw
namespace Go.Proofs.YtnpiljkchjdpfaaGreatDoor
open Go.RowKit
set_option linter.unusedSimpArgs false

theorem endCp {P : Program} {fn : Func} {p : Tmp} {T : TypeId} {d : TypeDesc} (hr : fn.results = #[.cell p T]) (Q : Ending → World → Prop) (w' : World) (a : Act) (B H : Nat) (cs : List Value) (ha : a.tmps.getD p undef = .pointer (some ⟨H, 0, none⟩)) (hdf : a.defers = [])
    (hc : ownC T w' B H cs) (hu : P.underlying T = some d) (hd : (match d with | .struct _ | .array _ _ => true | _ => false) = true) (hi : (P.info? T).map (·.size) = some cs.length) (hQ : Q (.returned (.agg cs.toArray)) w') : bodyPost P fn Q .ret a w' :=
  bodyPost_ret (results_cell_row hr _ _ H T cs.toArray (0, 0) _ ha hc.heap hu hd (by simpa using hi)) hdf hQ
set_option maxRecDepth 100000 in
set_option maxHeartbeats 4000000 in
theorem l6Put_any (A : Option Addr) (n c : Nat) (l : List En) (A' : Option Addr) (n' c' : Nat) (o : List Int) (t : ByteArray) (w : World) (hn : l.length = n) (hle : n ≤ 1000) (hP : ∀ e ∈ l, Pe e) (hn' : o.length = n') (hPo : PeV o t) (B : Nat) (hB : B ≤ w.heap.size) (hr : DRow w B A l) (hro : Row w B A' (ints o)) :
    Calls Tryz.prog 51 #[.agg #[.slice A n c], .agg #[.slice A' n' c', .string t]] w fun e w' => ∃ A2 c2 l2, e = .returned (.agg #[.slice A2 l2.length c2]) ∧ 1 ≤ l2.length ∧ l2.length ≤ n + 1 ∧ (∀ e ∈ l2, Pe e) ∧ OwnAll w' w.heap.size (dRows 42 3 (.slice A2 l2.length c2) l2) ∧ Below w.heap.size w w' := by
  subst hn'
  have ho3 := (outB_len hPo.1).2
  obtain ⟨x, hx, hD, hE, hR, hO, bel, hxe⟩ := four_new 24 42 24 24 w #[.slice A n c] #[.slice A' o.length c', .string t] #[.slice none 0 0] #[.slice none 0 0]
  have hC := Lib.hid (fun W (hW : Below w.heap.size w W) => l1Own_any A' o.length c' o W rfl (by omega) B (hro.below_le hW hB) (Nat.le_trans hB hW.size))
  have hxs := Nat.le_of_eq hxe.symm
  clear hxe
  have cE0 := hE.cell (j := 0) rfl
  have cE1 := hE.cell (j := 1) rfl
  have hxl : w.heap.size + 1 < x.heap.size := by omega
  have hneX : (some x.heap.size : Option Nat) ≠ some (w.heap.size + 1) := fun e => by have := Option.some.inj e; omega
  go_enter Tryz.func51, Tryz.ntmps51
  go_wp2
  rw [← hx]
  clear hx
  go_cut [7] (fun s7 W => ∃ (Ao : Option Addr) (co OW : Nat), s7 = .pointer (some ⟨OW, 0, none⟩) ∧ w.heap.size + 4 ≤ OW ∧ OwnAll W (w.heap.size + 4) (dRows 42 3 (.slice none 0 0) [] ++ XR 3 false ⟨Ao, co, o, t⟩) ∧ ownC 42 W OW OW [.slice Ao o.length co, .string t] ∧ ownC 24 W w.heap.size w.heap.size [.slice A n c] ∧ ownC 42 W w.heap.size (w.heap.size + 1) [.slice A' o.length c', .string t] ∧ ownC 24 W w.heap.size (w.heap.size + 2) [.slice none 0 0] ∧ ownC 24 W w.heap.size (w.heap.size + 3) [.slice none 0 0] ∧ Below w.heap.size w W)
  case first =>
    go_region_held3 (fun w' => w'.cell? ⟨w.heap.size + 1, 0, none⟩ = some (.slice A' o.length c') ∧ w'.cell? ⟨w.heap.size + 1, 1, none⟩ = some (.string t)) (first | go_keep | exact ⟨u0, u1⟩)
      (first
        | (go_at_call 73; refine (hC.out _ (by first | exact bel.drew | exact bel | exact (bel.alloc bel.size _).drew | exact bel.drew.alloc bel.drew.size _)).mono ?_; rintro e w2 ⟨Ao, co, rfl, ho2, hb2⟩; have k1 := (bcell hb2 (w.heap.size + 1) 0 (by first | exact hxl | (simp; omega))).trans (by first | exact cE0 | exact (hE.alloc _).cell (j := 0) rfl); have k2 := (bcell hb2 (w.heap.size + 1) 1 (by first | exact hxl | (simp; omega))).trans (by first | exact cE1 | exact (hE.alloc _).cell (j := 1) rfl); have r := ownC_new 42 w2 #[.slice none 0 0, .string ⟨#[]⟩]; have rf0 := r.frozen 0; have rf1 := r.frozen 1; have rc0 := r.cell (j := 0) rfl; have rc1 := r.cell (j := 1) rfl; have rs := (r.set 0 (.slice Ao o.length co)).1; have rt0 := rs.frozen 1; have rt1 := rs.cell (j := 1) rfl; first | (have q := ((ownC_new 42 x #[.slice none 0 0, .string ⟨#[]⟩]).drewN 1).below hb2 (Nat.le_refl _); have qe := (((hE.alloc (.cells #[.slice none 0 0, .string ⟨#[]⟩] 42)).drewN 1).below hb2 (Nat.le_refl _)).grown (q.set 0 (.slice Ao o.length co)).2 hneX; have qg := (q.set 0 (.slice Ao o.length co)).1.set 1 (.string t); have u0 := (qe.grown qg.2 hneX).cell (j := 0) rfl; have u1 := (qe.grown qg.2 hneX).cell (j := 1) rfl; have qf0 := q.frozen 0; have qf1 := q.frozen 1; have qc0 := q.cell (j := 0) rfl; have qc1 := q.cell (j := 1) rfl; have qs := (q.set 0 (.slice Ao o.length co)).1; have qt0 := qs.frozen 1; have qt1 := qs.cell (j := 1) rfl) | (have q := (ownC_new 42 x.drew #[.slice none 0 0, .string ⟨#[]⟩]).below hb2 (Nat.le_refl _); have qf0 := q.frozen 0; have qf1 := q.frozen 1; have qc0 := q.cell (j := 0) rfl; have qc1 := q.cell (j := 1) rfl; have qs := (q.set 0 (.slice Ao o.length co)).1; have qt0 := qs.frozen 1; have qt1 := qs.cell (j := 1) rfl) | skip))
    all_goals
      first
        | (have s2 : x.heap.size ≤ w2.heap.size := hb2.size
           have hOW := ownC_new 42 w2 #[.slice Ao o.length co, .string t]
           have hD := ((hD.drewN 1).below hb2 (Nat.le_refl _)).alloc (.cells #[.slice Ao o.length co, .string t] 42)
           have hE := ((hE.drewN 1).below hb2 (Nat.le_refl _)).alloc (.cells #[.slice Ao o.length co, .string t] 42)
           have hR := ((hR.drewN 1).below hb2 (Nat.le_refl _)).alloc (.cells #[.slice Ao o.length co, .string t] 42)
           have hO := ((hO.drewN 1).below hb2 (Nat.le_refl _)).alloc (.cells #[.slice Ao o.length co, .string t] 42)
           have bel2 := bel.drew.trans (hb2.mono bel.drew.size)
           have bel := bel2.alloc bel2.size (.cells #[.slice Ao o.length co, .string t] 42)
           have own := own_start (te := 42) (e := ⟨Ao, co, o, t⟩) (own_base (World.ownsRow.alloc ho2 (.cells #[.slice Ao o.length co, .string t] 42)) (show w.heap.size + 4 ≤ x.drew.heap.size from hxs))
           have hOWl : w.heap.size + 4 ≤ w2.heap.size := by omega
           clear r rf0 rf1 rc0 rc1 rs rt0 rt1 k1 k2 ho2 hb2 bel2 s2
           go_wp2
           go_meet
           case rel => exact ⟨Ao, co, _, rfl, hOWl, own, hOW, hD, hE, hR, hO, bel⟩)
        | (have hb2s : x.heap.size + 1 ≤ w2.heap.size := by have := hb2.size; simpa using this
           have qA := q.set 0 (.slice Ao o.length co)
           have qB := qA.1.set 1 (.string t)
           have hOW := qB.1
           have nD : (some x.heap.size : Option Nat) ≠ some w.heap.size := fun e => by have := Option.some.inj e; omega
           have nR : (some x.heap.size : Option Nat) ≠ some (w.heap.size + 2) := fun e => by have := Option.some.inj e; omega
           have nO : (some x.heap.size : Option Nat) ≠ some (w.heap.size + 3) := fun e => by have := Option.some.inj e; omega
           have hD := ((((hD.alloc (.cells #[.slice none 0 0, .string ⟨#[]⟩] 42)).drewN 1).below hb2 (Nat.le_refl _)).grown qA.2 nD).grown qB.2 nD
           have hE := ((((hE.alloc (.cells #[.slice none 0 0, .string ⟨#[]⟩] 42)).drewN 1).below hb2 (Nat.le_refl _)).grown qA.2 hneX).grown qB.2 hneX
           have hR := ((((hR.alloc (.cells #[.slice none 0 0, .string ⟨#[]⟩] 42)).drewN 1).below hb2 (Nat.le_refl _)).grown qA.2 nR).grown qB.2 nR
           have hO := ((((hO.alloc (.cells #[.slice none 0 0, .string ⟨#[]⟩] 42)).drewN 1).below hb2 (Nat.le_refl _)).grown qA.2 nO).grown qB.2 nO
           have bel1 := (bel.alloc bel.size (.cells #[.slice none 0 0, .string ⟨#[]⟩] 42)).drew
           have bel2 := bel1.trans (hb2.mono bel1.size)
           have bel3 := bel2.grown qA.2 bel2.size (fun k e => by have := Option.some.inj e; omega)
           have bel := bel3.grown qB.2 bel3.size (fun k e => by have := Option.some.inj e; omega)
           have nA : (Value.slice Ao o.length co).ownBlock ≠ some x.heap.size := fun e => by have h1 := (ho2.lt _ e).1; have h2 : (x.alloc (.cells #[.slice none 0 0, .string ⟨#[]⟩] 42)).heap.size ≤ x.heap.size := h1; have h3 : (x.alloc (.cells #[.slice none 0 0, .string ⟨#[]⟩] 42)).heap.size = x.heap.size + 1 := (by simp); omega
           have own := own_start (te := 42) (e := ⟨Ao, co, o, t⟩) (own_base (World.ownsRow.kept (World.ownsRow.kept ho2 qA.2 (Or.inr nA)) qB.2 (Or.inr nA)) (show w.heap.size + 4 ≤ (x.alloc (.cells #[.slice none 0 0, .string ⟨#[]⟩] 42)).drew.heap.size by show _ ≤ (x.alloc (.cells #[.slice none 0 0, .string ⟨#[]⟩] 42)).heap.size; simp; omega))
           have hOWl : w.heap.size + 4 ≤ x.heap.size := hxs
           clear r rf0 rf1 rc0 rc1 rs rt0 rt1 k1 k2 ho2 hb2 bel1 bel2 bel3 q qf0 qf1 qc0 qc1 qs qt0 qt1 qe qg u0 u1 qA qB nD nR nO nA hb2s
           go_wp2
           go_meet
           case rel => exact ⟨Ao, co, _, rfl, hOWl, own, hOW, hD, hE, hR, hO, bel⟩)
  case rest =>
    clear hC cE0 cE1 hxl hneX hxs hD hE hR hO bel
    obtain ⟨Ao, co, OW, rfl, hOWl, own, hOW, hD, hE, hR, hO, bel⟩ := hcut
    go_wp2
    go_loopw [6, 8, 9] (fun x6 i _ W => ∃ pb : Bool, ∃ k : Nat, ∃ l' : List En, ∃ Av cv, x6 = .bool pb ∧ i = .int .i64 k ∧ k ≤ n ∧ l'.length ≤ k + (if pb then 1 else 0) ∧ (pb = true → 1 ≤ l'.length) ∧ (∀ e ∈ l', Pe e) ∧ (∀ q, (Value.slice Av l'.length cv).ownBlock = some q → q ≠ OW) ∧ OwnAll W (w.heap.size + 4) (dRows 42 3 (.slice Av l'.length cv) l' ++ XR 3 pb ⟨Ao, co, o, t⟩) ∧ ownC 42 W OW OW [.slice Ao o.length co, .string t] ∧ ownC 24 W w.heap.size w.heap.size [.slice A n c] ∧ ownC 42 W w.heap.size (w.heap.size + 1) [.slice A' o.length c', .string t] ∧ ownC 24 W w.heap.size (w.heap.size + 2) [.slice none 0 0] ∧ ownC 24 W w.heap.size (w.heap.size + 3) [.slice Av l'.length cv] ∧ Below w.heap.size w W) (fun _ i _ _ => n - (intOf i).toNat)
    case atStart => exact ⟨false, 0, [], none, 0, rfl, rfl, by omega, by simp, by simp, by simp, by simp [Value.ownBlock], own, hOW, hD, hE, hR, hO, bel⟩
    case round =>
      clear own hOW hD hE hR hO bel
      obtain ⟨pb, k, l', Av, cv, rfl, rfl, hk, hll, hpl, hPl, hnOW, own, hOW, hD, hE, hR, hO, bel⟩ := hrel
      have sz := bel.size
      have cD := hD.cell (j := 0) rfl
      by_cases hlt : k < n
      · obtain ⟨b, off, rfl, hb, hc1, hc2, hrk⟩ := (hr.below_le bel hB).at (j := k) (by omega)
        have cE0 := hE.cell (j := 0) rfl
        have hEk := hP _ (enAt_in l k (by omega))
        have hol := (outB_len hEk.1).2
        have hro2 := hro.below_le bel hB
        have hat := Lib.hid (fun W (hW : Below w.heap.size w W) => show W.cell? ⟨b, off + k * 2, none⟩ = some (.slice (enAt l k).A (enAt l k).o.length (enAt l k).c) ∧ W.cell? ⟨b, off + k * 2 + 1, none⟩ = some (.string (enAt l k).t) ∧ Row W B (enAt l k).A (ints (enAt l k).o) from by obtain ⟨b2, off2, e, _, x1, x2, x3⟩ := (hr.below_le hW hB).at (j := k) (by omega); cases e; exact ⟨x1, x2, x3⟩)
        have hL4 := Lib.hid (fun W (hW : Below wr.heap.size wr W) => l4Compare_any (enAt l k).A A' (enAt l k).o.length o.length (enAt l k).c c' (enAt l k).o o W rfl rfl (by unfold maxLen; omega) (by unfold maxLen; omega) B (hrk.below_le hW (by omega)) (hro2.below_le hW (by omega)))
        have hz := cmpL_bd (enAt l k).o o
        generalize cmpL (enAt l k).o o = z at hL4 hz
        have hEk := Lib.hid (show Pe ⟨(enAt l k).A, (enAt l k).c, (enAt l k).o, (enAt l k).t⟩ from hEk)
        generalize (enAt l k).A = P1 at *
        generalize (enAt l k).c = q1 at *
        generalize (enAt l k).o = ol at *
        generalize (enAt l k).t = tx at *
        have h1 : (0 : Int) ≤ (k : Int) := by omega
        have h2 : (k : Int) < (n : Int) := by omega
        go_wp2
        go_region_held3 (fun w' => w'.cell? ⟨w.heap.size, 0, none⟩ = some (.slice (some ⟨b, off, none⟩) n c) ∧ w'.cell? ⟨b, off + k * 2, none⟩ = some (.slice P1 ol.length q1) ∧ w'.cell? ⟨w.heap.size + 1, 0, none⟩ = some (.slice A' o.length c')) (go_keep)
          (first
            | (go_at_call 36; refine (hL4.out _ (by first | exact Below.refl _ _ | exact (Below.refl _ _).drew)).mono ?_; rintro e w2 ⟨rfl, j, rfl⟩))
        have own : OwnAll (wr.drewN (1 + j)) (w.heap.size + 4) (dRows 42 3 (.slice Av l'.length cv) l' ++ XR 3 pb ⟨Ao, co, o, t⟩) := own.drew _
        have hOW := hOW.drewN (1 + j)
        have hD := hD.drewN (1 + j)
        have hE := hE.drewN (1 + j)
        have hR := hR.drewN (1 + j)
        have hO := hO.drewN (1 + j)
        have bel := below_drewN bel (1 + j)
        have hszW : (wr.drewN (1 + j)).heap.size = wr.heap.size := rfl
        rw [← hszW] at sz
        clear cD cE0 hL4 hro2 hszW hc1 hc2 hrk
        generalize wr.drewN (1 + j) = w2 at *
        have hPow : Pe ⟨Ao, co, o, t⟩ := hPo
        go_upto_region 8 with fail
        go_cut [38] (fun s W => s = .bool (decide (0 ≤ z) && !pb) ∧ W = w2)
        case first =>
          cases pb <;> by_cases h0 : 0 ≤ z <;> (go_wp2; go_meet; case rel => exact ⟨by simp [h0], rfl⟩)
        case rest =>
          obtain ⟨rfl, rfl⟩ := hcut
          rename World => w2
          go_upto_if 38 with fail
          go_cut [6] (fun s6 W => ∃ pb : Bool, ∃ l' : List En, ∃ (Av : Option Addr) (cv : Nat), s6 = .bool pb ∧ l'.length ≤ k + (if pb then 1 else 0) ∧ (pb = true → 1 ≤ l'.length) ∧ (∀ e ∈ l', Pe e) ∧ (∀ q, (Value.slice Av l'.length cv).ownBlock = some q → q ≠ OW) ∧ OwnAll W (w.heap.size + 4) (dRows 42 3 (.slice Av l'.length cv) l' ++ XR 3 pb ⟨Ao, co, o, t⟩) ∧ ownC 42 W OW OW [.slice Ao o.length co, .string t] ∧ ownC 24 W w.heap.size w.heap.size [.slice (some ⟨b, off, none⟩) n c] ∧ ownC 42 W w.heap.size (w.heap.size + 1) [.slice A' o.length c', .string t] ∧ ownC 24 W w.heap.size (w.heap.size + 2) [.slice none 0 0] ∧ ownC 24 W w.heap.size (w.heap.size + 3) [.slice Av l'.length cv] ∧ Below w.heap.size w W)
          case first =>
            rcases Bool.eq_false_or_eq_true (decide (0 ≤ z) && !pb) with q | q
            · obtain rfl : pb = false := by cases pb; rfl; simp at q
              rw [q]
              clear q
              rw [if_neg (by simp)] at hll
              have hvv : w2.ownsRow (w.heap.size + 4) 42 2 (.slice Av l'.length cv) l'.length (ents l') := own.own (eRow 42 (.slice Av l'.length cv) l') (by simp [dRows])
              have n3 : (Value.slice Av l'.length cv).ownBlock ≠ some (w.heap.size + 3) := fun e => by have := (hvv.lt _ e).1; omega
              have n2 : (Value.slice Av l'.length cv).ownBlock ≠ some (w.heap.size + 2) := fun e => by have := (hvv.lt _ e).1; omega
              have n1 : (Value.slice Av l'.length cv).ownBlock ≠ some (w.heap.size + 1) := fun e => by have := (hvv.lt _ e).1; omega
              have n0 : (Value.slice Av l'.length cv).ownBlock ≠ some w.heap.size := fun e => by have := (hvv.lt _ e).1; omega
              have nW : (Value.slice Av l'.length cv).ownBlock ≠ some OW := fun e => hnOW OW e rfl
              have sz2 : w.heap.size + 4 ≤ w2.heap.size := by have := hOW.lt.2; omega
              have cO := hO.cell (j := 0) rfl
              have cW0 := hOW.cell (j := 0) rfl
              have cW1 := hOW.cell (j := 1) rfl
              have hOWw := hOW.lt.2
              go_wp2_with (at_builtin; refine wpList_appN #[.slice Ao o.length co, .string t] entT bel hvv rfl (enC_one ⟨Ao, co, o, t⟩) (by omega) sz2 (by omega) (by decide) rfl (.tmp 40) (.tmp 42) rfl _ rfl rfl rfl ?_; intro v6 w6 ho6 hb6 hg6 hat6; obtain ⟨A7, c7, rfl, _⟩ := own_slice ho6; have hO6 := hO.grown hg6 n3; have fO6 := hO6.frozen 0; have cO6 := hO6.cell (j := 0) rfl)
              have hP6 := dOwn_join (e := ⟨Ao, co, o, t⟩) own ho6 hg6 hat6
              obtain ⟨oO7, g7⟩ := hO6.set 0 (.slice A7 (l'.length + 1) c7)
              have hR7 := (hR.grown hg6 n2).grown g7 (by simp)
              have hE7 := (hE.grown hg6 n1).grown g7 (by simp)
              have hD7 := (hD.grown hg6 n0).grown g7 (by simp)
              have hOW7 := (hOW.grown hg6 nW).grown g7 (fun e => by have := Option.some.inj e; omega)
              have own7 := hP6.chg (Chg.of_grown g7 (F := fun g => g = w.heap.size + 3) (fun g e => (Option.some.inj e).symm)) (fun r hr g hg f => by have h1 := hP6.ge r hr g hg; have h2 : g = w.heap.size + 3 := f; omega)
              have b7 := hb6.grown g7 hb6.size (fun q e => by have := Option.some.inj e; omega)
              have nW7 : ∀ q, (Value.slice A7 (l'.length + 1) c7).ownBlock = some q → q ≠ OW := fun q e => by
                rcases hat6 with hh | hh
                · exact hnOW q (hh.symm.trans e)
                · rw [hh] at e
                  have := Option.some.inj e
                  omega
              go_meet
              case rel => exact ⟨true, l' ++ [⟨Ao, co, o, t⟩], A7, c7, rfl, by simp only [List.length_append, List.length_cons, List.length_nil]; simp; omega, by simp, fun e he => by rcases List.mem_append.1 he with h | h; exact hPl e h; rw [List.mem_singleton.1 h]; exact hPow, by simpa using nW7, by simpa using own7, hOW7, hD7, hE7, hR7, by simpa using oO7, b7⟩
            · rw [q]
              go_wp2
              go_meet
              case rel => exact ⟨pb, l', Av, cv, rfl, hll, hpl, hPl, hnOW, own, hOW, hD, hE, hR, hO, bel⟩
          case rest =>
            clear hll hpl hPl hnOW own hOW hD hE hR hO bel
            rename World => w2
            obtain ⟨pb, l', Av, cv, rfl, hll, hpl, hPl, hnOW, own, hOW, hD, hE, hR, hO, bel⟩ := hcut
            obtain ⟨hc1, hc2, hrk⟩ := hat.out _ bel
            have sz := bel.size
            by_cases hz0 : z = 0
            · subst hz0
              go_wp2
              go_roundw
              case rel => exact ⟨pb, k + 1, l', Av, cv, rfl, by go_num, by omega, by omega, hpl, hPl, hnOW, own, hOW, hD, hE, hR, hO, bel⟩
              case measure => simp [intOf]; omega
            · have hz1 : (z == 0) = false := by simp [hz0]
              have hvv : w2.ownsRow (w.heap.size + 4) 42 2 (.slice Av l'.length cv) l'.length (ents l') := own.own (eRow 42 (.slice Av l'.length cv) l') (by simp [dRows])
              have n3 : (Value.slice Av l'.length cv).ownBlock ≠ some (w.heap.size + 3) := fun e => by have := (hvv.lt _ e).1; omega
              have n2 : (Value.slice Av l'.length cv).ownBlock ≠ some (w.heap.size + 2) := fun e => by have := (hvv.lt _ e).1; omega
              have n1 : (Value.slice Av l'.length cv).ownBlock ≠ some (w.heap.size + 1) := fun e => by have := (hvv.lt _ e).1; omega
              have n0 : (Value.slice Av l'.length cv).ownBlock ≠ some w.heap.size := fun e => by have := (hvv.lt _ e).1; omega
              have nW : (Value.slice Av l'.length cv).ownBlock ≠ some OW := fun e => hnOW OW e rfl
              have hC1 := Lib.hid (fun WW (hW : Below w2.heap.size w2 WW) => l1Own_any P1 ol.length q1 ol WW rfl (by omega) B (hrk.below_le hW (by have := hO.lt.2; omega)) (by have := hW.size; have := hO.lt.2; omega))
              have cO := hO.cell (j := 0) rfl
              have cD := hD.cell (j := 0) rfl
              have l3 : w.heap.size + 3 < w2.heap.size := hO.lt.2
              have l0 : w.heap.size < w2.heap.size := by omega
              have lb : b < w2.heap.size := by omega
              have lW := hOW.lt.2
              have hlb : l'.length ≤ 1002 := by split at hll <;> omega
              obtain ⟨iE, hi0, hi1, hi2, hi3⟩ := info_parts entT.info
              go_wp2
              refine wp_region_held_drew (S := (fun w' => w'.cell? ⟨w.heap.size, 0, none⟩ = some (.slice (some ⟨b, off, none⟩) n c) ∧ w'.cell? ⟨b, off + k * 2, none⟩ = some (.slice P1 ol.length q1) ∧ w'.cell? ⟨b, off + k * 2 + 1, none⟩ = some (.string tx))) (by kernel_rfl) ?_ (fun hHeld => ?_)
              · go_keep
              refine wpAnyH_take (i := 0) (oi := _) (v := ?vc6) rfl (by kernel_rfl) (by kernel_rfl) (by kernel_rfl) (fun _ _ _ h => h) (Or.inl ⟨by rfl, ?hyc6⟩) (by assumption) ?_
              case hyc6 => (intro w' hSw; (try dsimp only at hSw); go_simp; try (with_reducible rfl))
              change wpAnyH _ _ _ _ _ _ _ (Act.put _ (some 47) _) _
              simp only [Act.put, List.setIfInBounds_toArray, List.set_cons_zero, List.set_cons_succ]
              refine wpAnyH_take (i := 2) (oi := _) (v := ?vc7) rfl (by kernel_rfl) (by kernel_rfl) (by kernel_rfl) (fun _ _ _ h => h) (Or.inl ⟨by rfl, ?hyc7⟩) (by assumption) ?_
              case hyc7 => (intro w' hSw; (try dsimp only at hSw); go_simp; try (with_reducible rfl))
              change wpAnyH _ _ _ _ _ _ _ (Act.put _ (some 49) _) _
              simp only [Act.put, List.setIfInBounds_toArray, List.set_cons_zero, List.set_cons_succ]
              refine wpAnyH_take (i := 3) (oi := _) (v := ?vc8) rfl (by kernel_rfl) (by kernel_rfl) (by kernel_rfl) (fun _ _ _ h => h) (Or.inl ⟨by rfl, ?hyc8⟩) (by assumption) ?_
              case hyc8 => (intro w' hSw; (try dsimp only at hSw); go_simp; try (with_reducible rfl))
              change wpAnyH _ _ _ _ _ _ _ (Act.put _ (some 50) _) _
              simp only [Act.put, List.setIfInBounds_toArray, List.set_cons_zero, List.set_cons_succ]
              refine wpAnyH_take (i := 4) (oi := _) (v := ?vc9) rfl (by kernel_rfl) (by kernel_rfl) (by kernel_rfl) (fun _ _ _ h => h) (Or.inl ⟨by rfl, ?hyc9⟩) (by assumption) ?_
              case hyc9 => (intro w' hSw; (try dsimp only at hSw); go_simp; try (with_reducible rfl))
              change wpAnyH _ _ _ _ _ _ _ (Act.put _ (some 51) _) _
              simp only [Act.put, List.setIfInBounds_toArray, List.set_cons_zero, List.set_cons_succ]
              refine wpAnyH_take (i := 5) (oi := _) (v := ?vc10) rfl (by kernel_rfl) (by kernel_rfl) (by kernel_rfl) (fun _ _ _ h => h) (Or.inl ⟨by rfl, ?hyc10⟩) (by assumption) ?_
              case hyc10 => (intro w' hSw; (try dsimp only at hSw); go_simp; try (with_reducible rfl))
              change wpAnyH _ _ _ _ _ _ _ (Act.put _ (some 52) _) _
              simp only [Act.put, List.setIfInBounds_toArray, List.set_cons_zero, List.set_cons_succ]
              refine wpAnyH_take (i := 6) (oi := _) (v := ?vc11) rfl (by kernel_rfl) (by kernel_rfl) (by kernel_rfl) (fun _ _ _ h => h) (Or.inl ⟨by rfl, ?hyc11⟩) (by assumption) ?_
              case hyc11 => (intro w' hSw; (try dsimp only at hSw); go_simp; try (with_reducible rfl))
              change wpAnyH _ _ _ _ _ _ _ (Act.put _ (some 53) _) _
              simp only [Act.put, List.setIfInBounds_toArray, List.set_cons_zero, List.set_cons_succ]
              refine wpAnyH_take (i := 7) (oi := _) (v := ?vc12) rfl (by kernel_rfl) (by kernel_rfl) (by kernel_rfl) (fun _ _ _ h => h) (Or.inl ⟨by rfl, ?hyc12⟩) (by assumption) ?_
              case hyc12 => (intro w' hSw; (try dsimp only at hSw); go_simp; try (with_reducible rfl))
              change wpAnyH _ _ _ _ _ _ _ (Act.put _ (some 54) _) _
              simp only [Act.put, List.setIfInBounds_toArray, List.set_cons_zero, List.set_cons_succ]
              refine wpAnyH_take (i := 9) (oi := _) (v := ?vc13) rfl (by kernel_rfl) (by kernel_rfl) (by kernel_rfl) (fun _ _ _ h => h) (Or.inl ⟨by rfl, ?hyc13⟩) (by assumption) ?_
              case hyc13 => (intro w' hSw; (try dsimp only at hSw); go_simp; try (with_reducible rfl))
              change wpAnyH _ _ _ _ _ _ _ (Act.put _ (some 56) _) _
              simp only [Act.put, List.setIfInBounds_toArray, List.set_cons_zero, List.set_cons_succ]
              refine wpAnyH_take (i := 10) (oi := _) (v := ?vc14) rfl (by kernel_rfl) (by kernel_rfl) (by kernel_rfl) (fun _ _ _ h => h) (Or.inl ⟨by rfl, ?hyc14⟩) (by assumption) ?_
              case hyc14 => (intro w' hSw; (try dsimp only at hSw); go_simp; try (with_reducible rfl))
              change wpAnyH _ _ _ _ _ _ _ (Act.put _ (some 57) _) _
              simp only [Act.put, List.setIfInBounds_toArray, List.set_cons_zero, List.set_cons_succ]
              refine wpAnyH_take (i := 11) (oi := _) (v := ?vc15) rfl (by kernel_rfl) (by kernel_rfl) (by kernel_rfl) (fun _ _ _ h => h) (Or.inl ⟨by rfl, ?hyc15⟩) (by assumption) ?_
              case hyc15 => (intro w' hSw; (try dsimp only at hSw); go_simp; try (with_reducible rfl))
              change wpAnyH _ _ _ _ _ _ _ (Act.put _ (some 58) _) _
              simp only [Act.put, List.setIfInBounds_toArray, List.set_cons_zero, List.set_cons_succ]
              refine wpAnyH_take (i := 12) (oi := _) (v := ?vc16) rfl (by kernel_rfl) (by kernel_rfl) (by kernel_rfl) (fun _ _ _ h => h) (Or.inl ⟨by rfl, ?hyc16⟩) (by assumption) ?_
              case hyc16 => (intro w' hSw; (try dsimp only at hSw); go_simp; try (with_reducible rfl))
              change wpAnyH _ _ _ _ _ _ _ (Act.put _ (some 59) _) _
              simp only [Act.put, List.setIfInBounds_toArray, List.set_cons_zero, List.set_cons_succ]
              refine wpAnyH_take (i := 13) (oi := _) (v := ?vc17) rfl (by kernel_rfl) (by kernel_rfl) (by kernel_rfl) (fun _ _ _ h => h) (Or.inl ⟨by rfl, ?hyc17⟩) (by assumption) ?_
              case hyc17 => (intro w' hSw; (try dsimp only at hSw); go_simp; try (with_reducible rfl))
              change wpAnyH _ _ _ _ _ _ _ (Act.put _ (some 60) _) _
              simp only [Act.put, List.setIfInBounds_toArray, List.set_cons_zero, List.set_cons_succ]
              refine wpAnyH_take (i := 14) (oi := _) (v := ?vc18) rfl (by kernel_rfl) (by kernel_rfl) (by kernel_rfl) (fun _ _ _ h => h) (Or.inl ⟨by rfl, ?hyc18⟩) (by assumption) ?_
              case hyc18 => (intro w' hSw; (try dsimp only at hSw); go_simp; try (with_reducible rfl))
              change wpAnyH _ _ _ _ _ _ _ (Act.put _ (some 61) _) _
              simp only [Act.put, List.setIfInBounds_toArray, List.set_cons_zero, List.set_cons_succ]
              refine wpAnyH_ready (rs := [1, 8]) (by kernel_rfl) (by simp) ?_
              refine AllReadyH.cons rfl (fun K hK => ?_) (AllReadyH.cons rfl (fun K hK => ?_) AllReadyH.nil)
              · go_simp
                refine hK.out _ _ ?_ (fun hHeld => ?_)
                · first | go_keep | exact ⟨y2, y3, y4⟩ | exact ⟨z2, z3, z4⟩
                clear hK K
                try simp only [Act.put, List.setIfInBounds_toArray, List.set_cons_zero, List.set_cons_succ]
                refine wpAnyH_ready (rs := [8]) (by kernel_rfl) (by simp) ?_
                refine AllReadyH.cons rfl (fun K hK => ?_) AllReadyH.nil
                go_simp
                go_at_call 73
                refine (hC1.out _ (by first | exact Below.refl _ _ | exact (Below.refl _ _).drew)).mono ?_
                rintro e w8 ⟨A8, c8, rfl, ho8, hb8⟩
                have m1 := (bcell hb8 (w.heap.size + 3) 0 l3).trans cO
                have m2 := (bcell hb8 w.heap.size 0 l0).trans cD
                have m3 := (bcell hb8 b (off + k * 2) lb).trans hc1
                have m4 := (bcell hb8 b (off + k * 2 + 1) lb).trans hc2
                have hO8 := (hO.drewN 1).below hb8 (Nat.le_refl _)
                have mA := (hO8.alloc (.cells #[.slice A8 ol.length c8, .string tx] 42)).cell (j := 0) rfl
                have hvv8 := own_below (own_drewN hvv 1) hb8 (Nat.le_refl _)
                refine hK.out _ _ ?_ (fun hHeld => ?_)
                · first | go_keep | exact ⟨y2, y3, y4⟩ | exact ⟨z2, z3, z4⟩
                clear hK K
                try simp only [Act.put, List.setIfInBounds_toArray, List.set_cons_zero, List.set_cons_succ]
                refine wpAnyH_take (i := 15) (oi := _) (v := ?vc1) rfl (by kernel_rfl) (by kernel_rfl) (by kernel_rfl) (fun _ _ _ h => h) (Or.inl ⟨by rfl, ?hyc1⟩) (by assumption) ?_
                case hyc1 => (intro w' hSw; (try dsimp only at hSw); go_simp; try (with_reducible rfl))
                change wpAnyH _ _ _ _ _ _ _ (Act.put _ (some 62) _) _
                simp only [Act.put, List.setIfInBounds_toArray, List.set_cons_zero, List.set_cons_succ]
                refine wpAnyH_ready (rs := [16]) (by kernel_rfl) (by simp) ?_
                refine AllReadyH.cons rfl (fun K hK => ?_) AllReadyH.nil
                go_simp
                refine hK.out _ _ ?_ (fun hHeld => ?_)
                · first | go_keep | exact ⟨y2, y3, y4⟩ | exact ⟨z2, z3, z4⟩
                clear hK K
                try simp only [Act.put, List.setIfInBounds_toArray, List.set_cons_zero, List.set_cons_succ]
                refine wpAnyH_ready (rs := [17]) (by kernel_rfl) (by simp) ?_
                refine AllReadyH.cons rfl (fun K hK => ?_) AllReadyH.nil
                refine step_append_lies _ rfl (.tmp 48) (.tmp 63) 22 rfl (w.heap.size + 4) 42 iE _ 2 40 Tryz.underlying22 hi0 hi1 hi2 hi3 rfl (by omega) (.slice Av l'.length cv) l'.length (ents l') rfl (World.ownsRow.alloc hvv8 _) ⟨w8.heap.size, 0, none⟩ 1 1 [.slice A8 ol.length c8, .string tx] rfl rfl (World.news_of_block (cs := #[.slice A8 ol.length c8, .string tx]) (t := 42) (fr := (0, 0)) (heap_alloc_new w8 _)) (by simp [Value.oneCell']) (by decide) (by unfold maxLen; omega) (by omega) (by have h8 := hb8.size; have h9 : w2.drew.heap.size = w2.heap.size := rfl; simp; omega) (w8.heap.size + 1) (by simp) ?_
                intro gg cap w9 ho9 hg9 hat9 hlt9
                have hO9 := (hO8.alloc (.cells #[.slice A8 ol.length c8, .string tx] 42)).grown hg9 n3
                have fO9 := hO9.frozen 0
                have cO9 := hO9.cell (j := 0) rfl
                have c89 := (Chg.alloc w8 (.cells #[.slice A8 ol.length c8, .string tx] 42) (fun g => w.heap.size + 4 ≤ g)).trans (Chg.of_grown hg9 (fun q e => (hvv.lt q e).1))
                have y2 := c89.cell m2 (fun f => by have f2 : w.heap.size + 4 ≤ w.heap.size := f; omega)
                have y3 := c89.cell m3 (fun f => by have f2 : w.heap.size + 4 ≤ b := f; omega)
                have y4 := c89.cell m4 (fun f => by have f2 : w.heap.size + 4 ≤ b := f; omega)
                have c97 := Chg.of_grown (F := fun g => g = w.heap.size + 3) (hO9.set 0 (.slice (some ⟨gg, 0, none⟩) (l'.length + 1) cap)).2 (fun q e => (Option.some.inj e).symm)
                have z2 := c97.cell y2 (fun f => by have f2 : w.heap.size = w.heap.size + 3 := f; omega)
                have z3 := c97.cell y3 (fun f => by have f2 : b = w.heap.size + 3 := f; omega)
                have z4 := c97.cell y4 (fun f => by have f2 : b = w.heap.size + 3 := f; omega)
                refine hK.out _ _ ?_ (fun hHeld => ?_)
                · first | go_keep | exact ⟨y2, y3, y4⟩ | exact ⟨z2, z3, z4⟩
                clear hK K
                try simp only [Act.put, List.setIfInBounds_toArray, List.set_cons_zero, List.set_cons_succ]
                refine wpAnyH_take (i := 18) (oi := _) (v := ?vc2) rfl (by kernel_rfl) (by kernel_rfl) (by kernel_rfl) (fun _ _ _ h => h) (Or.inl ⟨by rfl, ?hyc2⟩) (by assumption) ?_
                case hyc2 => (intro w' hSw; (try dsimp only at hSw); go_simp; try (with_reducible rfl))
                change wpAnyH _ _ _ _ _ _ _ (Act.put _ (some 65) _) _
                simp only [Act.put, List.setIfInBounds_toArray, List.set_cons_zero, List.set_cons_succ]
                refine wpAnyH_ready (rs := [19]) (by kernel_rfl) (by simp) ?_
                refine AllReadyH.cons rfl (fun K hK => ?_) AllReadyH.nil
                go_simp
                refine hK.out _ _ ?_ (fun hHeld => ?_)
                · first | go_keep | exact ⟨y2, y3, y4⟩ | exact ⟨z2, z3, z4⟩
                clear hK K
                try simp only [Act.put, List.setIfInBounds_toArray, List.set_cons_zero, List.set_cons_succ]
                refine wpAnyH_done (by kernel_rfl) ?_ _
                have hb28 := (Below.refl w2.heap.size w2).drew.trans hb8
                have s8 := hb28.size
                have hgE := (World.grownBy_alloc w8 (.cells #[.slice A8 ol.length c8, .string tx] 42) (Value.slice Av l'.length cv).ownBlock).trans hg9
                have hP9 := dOwn_pushX (e := ⟨A8, c8, ol, tx⟩) own hb28 (Nat.le_refl _) (by omega) ho8 ho9 hgE (by rcases hat9 with hh | hh; exact Or.inl hh.symm; exact Or.inr (by rw [hh]; rfl))
                obtain ⟨oO7, g7⟩ := hO9.set 0 (.slice (some ⟨gg, 0, none⟩) (l'.length + 1) cap)
                have hR7 := ((hR.below hb28 (Nat.le_refl _)).grown hgE n2).grown g7 (by simp)
                have hE7 := ((hE.below hb28 (Nat.le_refl _)).grown hgE n1).grown g7 (by simp)
                have hD7 := ((hD.below hb28 (Nat.le_refl _)).grown hgE n0).grown g7 (by simp)
                have hOW7 := ((hOW.below hb28 (Nat.le_refl _)).grown hgE nW).grown g7 (fun e => by have := Option.some.inj e; omega)
                have own7 := hP9.chg (Chg.of_grown g7 (F := fun g => g = w.heap.size + 3) (fun g e => (Option.some.inj e).symm)) (fun r hr g hg f => by have h1 := hP9.ge r hr g hg; have h2 : g = w.heap.size + 3 := f; omega)
                have b6 := (bel.trans (hb28.mono bel.size)).grown hgE (Nat.le_trans bel.size s8) (fun q e => by have := (hvv.lt q e).1; omega)
                have b7 := b6.grown g7 b6.size (fun q e => by have := Option.some.inj e; omega)
                have nW7 : ∀ q, (Value.slice (some ⟨gg, 0, none⟩) (l'.length + 1) cap).ownBlock = some q → q ≠ OW := fun q e => by
                  have e2 : gg = q := Option.some.inj e
                  rcases hat9 with hh | hh
                  · exact hnOW q (by rw [hh, e2])
                  · omega
                go_wp2
                go_roundw
                case rel => exact ⟨pb, k + 1, l' ++ [⟨A8, c8, ol, tx⟩], some ⟨gg, 0, none⟩, cap, rfl, by go_num, by omega, by simp only [List.length_append, List.length_cons, List.length_nil]; split at hll <;> simp_all <;> omega, by simp, fun e he => by rcases List.mem_append.1 he with h | h; exact hPl e h; rw [List.mem_singleton.1 h]; exact hEk.out, by simpa using nW7, by simpa using own7, hOW7, hD7, hE7, hR7, by simpa using oO7, b7⟩
                case measure => simp [intOf]; omega
              · go_simp
                go_at_call 73
                refine (hC1.out _ (by first | exact Below.refl _ _ | exact (Below.refl _ _).drew)).mono ?_
                rintro e w8 ⟨A8, c8, rfl, ho8, hb8⟩
                have m1 := (bcell hb8 (w.heap.size + 3) 0 l3).trans cO
                have m2 := (bcell hb8 w.heap.size 0 l0).trans cD
                have m3 := (bcell hb8 b (off + k * 2) lb).trans hc1
                have m4 := (bcell hb8 b (off + k * 2 + 1) lb).trans hc2
                have hO8 := (hO.drewN 1).below hb8 (Nat.le_refl _)
                have mA := (hO8.alloc (.cells #[.slice A8 ol.length c8, .string tx] 42)).cell (j := 0) rfl
                have hvv8 := own_below (own_drewN hvv 1) hb8 (Nat.le_refl _)
                refine hK.out _ _ ?_ (fun hHeld => ?_)
                · first | go_keep | exact ⟨y2, y3, y4⟩ | exact ⟨z2, z3, z4⟩
                clear hK K
                try simp only [Act.put, List.setIfInBounds_toArray, List.set_cons_zero, List.set_cons_succ]
                refine wpAnyH_take (i := 15) (oi := _) (v := ?vc3) rfl (by kernel_rfl) (by kernel_rfl) (by kernel_rfl) (fun _ _ _ h => h) (Or.inl ⟨by rfl, ?hyc3⟩) (by assumption) ?_
                case hyc3 => (intro w' hSw; (try dsimp only at hSw); go_simp; try (with_reducible rfl))
                change wpAnyH _ _ _ _ _ _ _ (Act.put _ (some 62) _) _
                simp only [Act.put, List.setIfInBounds_toArray, List.set_cons_zero, List.set_cons_succ]
                refine wpAnyH_ready (rs := [1, 16]) (by kernel_rfl) (by simp) ?_
                refine AllReadyH.cons rfl (fun K hK => ?_) (AllReadyH.cons rfl (fun K hK => ?_) AllReadyH.nil)
                · go_simp
                  refine hK.out _ _ ?_ (fun hHeld => ?_)
                  · first | go_keep | exact ⟨y2, y3, y4⟩ | exact ⟨z2, z3, z4⟩
                  clear hK K
                  try simp only [Act.put, List.setIfInBounds_toArray, List.set_cons_zero, List.set_cons_succ]
                  refine wpAnyH_ready (rs := [16]) (by kernel_rfl) (by simp) ?_
                  refine AllReadyH.cons rfl (fun K hK => ?_) AllReadyH.nil
                  go_simp
                  refine hK.out _ _ ?_ (fun hHeld => ?_)
                  · first | go_keep | exact ⟨y2, y3, y4⟩ | exact ⟨z2, z3, z4⟩
                  clear hK K
                  try simp only [Act.put, List.setIfInBounds_toArray, List.set_cons_zero, List.set_cons_succ]
                  refine wpAnyH_ready (rs := [17]) (by kernel_rfl) (by simp) ?_
                  refine AllReadyH.cons rfl (fun K hK => ?_) AllReadyH.nil
                  refine step_append_lies _ rfl (.tmp 48) (.tmp 63) 22 rfl (w.heap.size + 4) 42 iE _ 2 40 Tryz.underlying22 hi0 hi1 hi2 hi3 rfl (by omega) (.slice Av l'.length cv) l'.length (ents l') rfl (World.ownsRow.alloc hvv8 _) ⟨w8.heap.size, 0, none⟩ 1 1 [.slice A8 ol.length c8, .string tx] rfl rfl (World.news_of_block (cs := #[.slice A8 ol.length c8, .string tx]) (t := 42) (fr := (0, 0)) (heap_alloc_new w8 _)) (by simp [Value.oneCell']) (by decide) (by unfold maxLen; omega) (by omega) (by have h8 := hb8.size; have h9 : w2.drew.heap.size = w2.heap.size := rfl; simp; omega) (w8.heap.size + 1) (by simp) ?_
                  intro gg cap w9 ho9 hg9 hat9 hlt9
                  have hO9 := (hO8.alloc (.cells #[.slice A8 ol.length c8, .string tx] 42)).grown hg9 n3
                  have fO9 := hO9.frozen 0
                  have cO9 := hO9.cell (j := 0) rfl
                  have c89 := (Chg.alloc w8 (.cells #[.slice A8 ol.length c8, .string tx] 42) (fun g => w.heap.size + 4 ≤ g)).trans (Chg.of_grown hg9 (fun q e => (hvv.lt q e).1))
                  have y2 := c89.cell m2 (fun f => by have f2 : w.heap.size + 4 ≤ w.heap.size := f; omega)
                  have y3 := c89.cell m3 (fun f => by have f2 : w.heap.size + 4 ≤ b := f; omega)
                  have y4 := c89.cell m4 (fun f => by have f2 : w.heap.size + 4 ≤ b := f; omega)
                  have c97 := Chg.of_grown (F := fun g => g = w.heap.size + 3) (hO9.set 0 (.slice (some ⟨gg, 0, none⟩) (l'.length + 1) cap)).2 (fun q e => (Option.some.inj e).symm)
                  have z2 := c97.cell y2 (fun f => by have f2 : w.heap.size = w.heap.size + 3 := f; omega)
                  have z3 := c97.cell y3 (fun f => by have f2 : b = w.heap.size + 3 := f; omega)
                  have z4 := c97.cell y4 (fun f => by have f2 : b = w.heap.size + 3 := f; omega)
                  refine hK.out _ _ ?_ (fun hHeld => ?_)
                  · first | go_keep | exact ⟨y2, y3, y4⟩ | exact ⟨z2, z3, z4⟩
                  clear hK K
                  try simp only [Act.put, List.setIfInBounds_toArray, List.set_cons_zero, List.set_cons_succ]
                  refine wpAnyH_take (i := 18) (oi := _) (v := ?vc4) rfl (by kernel_rfl) (by kernel_rfl) (by kernel_rfl) (fun _ _ _ h => h) (Or.inl ⟨by rfl, ?hyc4⟩) (by assumption) ?_
                  case hyc4 => (intro w' hSw; (try dsimp only at hSw); go_simp; try (with_reducible rfl))
                  change wpAnyH _ _ _ _ _ _ _ (Act.put _ (some 65) _) _
                  simp only [Act.put, List.setIfInBounds_toArray, List.set_cons_zero, List.set_cons_succ]
                  refine wpAnyH_ready (rs := [19]) (by kernel_rfl) (by simp) ?_
                  refine AllReadyH.cons rfl (fun K hK => ?_) AllReadyH.nil
                  go_simp
                  refine hK.out _ _ ?_ (fun hHeld => ?_)
                  · first | go_keep | exact ⟨y2, y3, y4⟩ | exact ⟨z2, z3, z4⟩
                  clear hK K
                  try simp only [Act.put, List.setIfInBounds_toArray, List.set_cons_zero, List.set_cons_succ]
                  refine wpAnyH_done (by kernel_rfl) ?_ _
                  have hb28 := (Below.refl w2.heap.size w2).drew.trans hb8
                  have s8 := hb28.size
                  have hgE := (World.grownBy_alloc w8 (.cells #[.slice A8 ol.length c8, .string tx] 42) (Value.slice Av l'.length cv).ownBlock).trans hg9
                  have hP9 := dOwn_pushX (e := ⟨A8, c8, ol, tx⟩) own hb28 (Nat.le_refl _) (by omega) ho8 ho9 hgE (by rcases hat9 with hh | hh; exact Or.inl hh.symm; exact Or.inr (by rw [hh]; rfl))
                  obtain ⟨oO7, g7⟩ := hO9.set 0 (.slice (some ⟨gg, 0, none⟩) (l'.length + 1) cap)
                  have hR7 := ((hR.below hb28 (Nat.le_refl _)).grown hgE n2).grown g7 (by simp)
                  have hE7 := ((hE.below hb28 (Nat.le_refl _)).grown hgE n1).grown g7 (by simp)
                  have hD7 := ((hD.below hb28 (Nat.le_refl _)).grown hgE n0).grown g7 (by simp)
                  have hOW7 := ((hOW.below hb28 (Nat.le_refl _)).grown hgE nW).grown g7 (fun e => by have := Option.some.inj e; omega)
                  have own7 := hP9.chg (Chg.of_grown g7 (F := fun g => g = w.heap.size + 3) (fun g e => (Option.some.inj e).symm)) (fun r hr g hg f => by have h1 := hP9.ge r hr g hg; have h2 : g = w.heap.size + 3 := f; omega)
                  have b6 := (bel.trans (hb28.mono bel.size)).grown hgE (Nat.le_trans bel.size s8) (fun q e => by have := (hvv.lt q e).1; omega)
                  have b7 := b6.grown g7 b6.size (fun q e => by have := Option.some.inj e; omega)
                  have nW7 : ∀ q, (Value.slice (some ⟨gg, 0, none⟩) (l'.length + 1) cap).ownBlock = some q → q ≠ OW := fun q e => by
                    have e2 : gg = q := Option.some.inj e
                    rcases hat9 with hh | hh
                    · exact hnOW q (by rw [hh, e2])
                    · omega
                  go_wp2
                  go_roundw
                  case rel => exact ⟨pb, k + 1, l' ++ [⟨A8, c8, ol, tx⟩], some ⟨gg, 0, none⟩, cap, rfl, by go_num, by omega, by simp only [List.length_append, List.length_cons, List.length_nil]; split at hll <;> simp_all <;> omega, by simp, fun e he => by rcases List.mem_append.1 he with h | h; exact hPl e h; rw [List.mem_singleton.1 h]; exact hEk.out, by simpa using nW7, by simpa using own7, hOW7, hD7, hE7, hR7, by simpa using oO7, b7⟩
                  case measure => simp [intOf]; omega
                · go_simp
                  refine hK.out _ _ ?_ (fun hHeld => ?_)
                  · first | go_keep | exact ⟨y2, y3, y4⟩ | exact ⟨z2, z3, z4⟩
                  clear hK K
                  try simp only [Act.put, List.setIfInBounds_toArray, List.set_cons_zero, List.set_cons_succ]
                  refine wpAnyH_ready (rs := [1]) (by kernel_rfl) (by simp) ?_
                  refine AllReadyH.cons rfl (fun K hK => ?_) AllReadyH.nil
                  go_simp
                  refine hK.out _ _ ?_ (fun hHeld => ?_)
                  · first | go_keep | exact ⟨y2, y3, y4⟩ | exact ⟨z2, z3, z4⟩
                  clear hK K
                  try simp only [Act.put, List.setIfInBounds_toArray, List.set_cons_zero, List.set_cons_succ]
                  refine wpAnyH_ready (rs := [17]) (by kernel_rfl) (by simp) ?_
                  refine AllReadyH.cons rfl (fun K hK => ?_) AllReadyH.nil
                  refine step_append_lies _ rfl (.tmp 48) (.tmp 63) 22 rfl (w.heap.size + 4) 42 iE _ 2 40 Tryz.underlying22 hi0 hi1 hi2 hi3 rfl (by omega) (.slice Av l'.length cv) l'.length (ents l') rfl (World.ownsRow.alloc hvv8 _) ⟨w8.heap.size, 0, none⟩ 1 1 [.slice A8 ol.length c8, .string tx] rfl rfl (World.news_of_block (cs := #[.slice A8 ol.length c8, .string tx]) (t := 42) (fr := (0, 0)) (heap_alloc_new w8 _)) (by simp [Value.oneCell']) (by decide) (by unfold maxLen; omega) (by omega) (by have h8 := hb8.size; have h9 : w2.drew.heap.size = w2.heap.size := rfl; simp; omega) (w8.heap.size + 1) (by simp) ?_
                  intro gg cap w9 ho9 hg9 hat9 hlt9
                  have hO9 := (hO8.alloc (.cells #[.slice A8 ol.length c8, .string tx] 42)).grown hg9 n3
                  have fO9 := hO9.frozen 0
                  have cO9 := hO9.cell (j := 0) rfl
                  have c89 := (Chg.alloc w8 (.cells #[.slice A8 ol.length c8, .string tx] 42) (fun g => w.heap.size + 4 ≤ g)).trans (Chg.of_grown hg9 (fun q e => (hvv.lt q e).1))
                  have y2 := c89.cell m2 (fun f => by have f2 : w.heap.size + 4 ≤ w.heap.size := f; omega)
                  have y3 := c89.cell m3 (fun f => by have f2 : w.heap.size + 4 ≤ b := f; omega)
                  have y4 := c89.cell m4 (fun f => by have f2 : w.heap.size + 4 ≤ b := f; omega)
                  have c97 := Chg.of_grown (F := fun g => g = w.heap.size + 3) (hO9.set 0 (.slice (some ⟨gg, 0, none⟩) (l'.length + 1) cap)).2 (fun q e => (Option.some.inj e).symm)
                  have z2 := c97.cell y2 (fun f => by have f2 : w.heap.size = w.heap.size + 3 := f; omega)
                  have z3 := c97.cell y3 (fun f => by have f2 : b = w.heap.size + 3 := f; omega)
                  have z4 := c97.cell y4 (fun f => by have f2 : b = w.heap.size + 3 := f; omega)
                  refine hK.out _ _ ?_ (fun hHeld => ?_)
                  · first | go_keep | exact ⟨y2, y3, y4⟩ | exact ⟨z2, z3, z4⟩
                  clear hK K
                  try simp only [Act.put, List.setIfInBounds_toArray, List.set_cons_zero, List.set_cons_succ]
                  refine wpAnyH_take (i := 18) (oi := _) (v := ?vc5) rfl (by kernel_rfl) (by kernel_rfl) (by kernel_rfl) (fun _ _ _ h => h) (Or.inl ⟨by rfl, ?hyc5⟩) (by assumption) ?_
                  case hyc5 => (intro w' hSw; (try dsimp only at hSw); go_simp; try (with_reducible rfl))
                  change wpAnyH _ _ _ _ _ _ _ (Act.put _ (some 65) _) _
                  simp only [Act.put, List.setIfInBounds_toArray, List.set_cons_zero, List.set_cons_succ]
                  refine wpAnyH_ready (rs := [19]) (by kernel_rfl) (by simp) ?_
                  refine AllReadyH.cons rfl (fun K hK => ?_) AllReadyH.nil
                  go_simp
                  refine hK.out _ _ ?_ (fun hHeld => ?_)
                  · first | go_keep | exact ⟨y2, y3, y4⟩ | exact ⟨z2, z3, z4⟩
                  clear hK K
                  try simp only [Act.put, List.setIfInBounds_toArray, List.set_cons_zero, List.set_cons_succ]
                  refine wpAnyH_done (by kernel_rfl) ?_ _
                  have hb28 := (Below.refl w2.heap.size w2).drew.trans hb8
                  have s8 := hb28.size
                  have hgE := (World.grownBy_alloc w8 (.cells #[.slice A8 ol.length c8, .string tx] 42) (Value.slice Av l'.length cv).ownBlock).trans hg9
                  have hP9 := dOwn_pushX (e := ⟨A8, c8, ol, tx⟩) own hb28 (Nat.le_refl _) (by omega) ho8 ho9 hgE (by rcases hat9 with hh | hh; exact Or.inl hh.symm; exact Or.inr (by rw [hh]; rfl))
                  obtain ⟨oO7, g7⟩ := hO9.set 0 (.slice (some ⟨gg, 0, none⟩) (l'.length + 1) cap)
                  have hR7 := ((hR.below hb28 (Nat.le_refl _)).grown hgE n2).grown g7 (by simp)
                  have hE7 := ((hE.below hb28 (Nat.le_refl _)).grown hgE n1).grown g7 (by simp)
                  have hD7 := ((hD.below hb28 (Nat.le_refl _)).grown hgE n0).grown g7 (by simp)
                  have hOW7 := ((hOW.below hb28 (Nat.le_refl _)).grown hgE nW).grown g7 (fun e => by have := Option.some.inj e; omega)
                  have own7 := hP9.chg (Chg.of_grown g7 (F := fun g => g = w.heap.size + 3) (fun g e => (Option.some.inj e).symm)) (fun r hr g hg f => by have h1 := hP9.ge r hr g hg; have h2 : g = w.heap.size + 3 := f; omega)
                  have b6 := (bel.trans (hb28.mono bel.size)).grown hgE (Nat.le_trans bel.size s8) (fun q e => by have := (hvv.lt q e).1; omega)
                  have b7 := b6.grown g7 b6.size (fun q e => by have := Option.some.inj e; omega)
                  have nW7 : ∀ q, (Value.slice (some ⟨gg, 0, none⟩) (l'.length + 1) cap).ownBlock = some q → q ≠ OW := fun q e => by
                    have e2 : gg = q := Option.some.inj e
                    rcases hat9 with hh | hh
                    · exact hnOW q (by rw [hh, e2])
                    · omega
                  go_wp2
                  go_roundw
                  case rel => exact ⟨pb, k + 1, l' ++ [⟨A8, c8, ol, tx⟩], some ⟨gg, 0, none⟩, cap, rfl, by go_num, by omega, by simp only [List.length_append, List.length_cons, List.length_nil]; split at hll <;> simp_all <;> omega, by simp, fun e he => by rcases List.mem_append.1 he with h | h; exact hPl e h; rw [List.mem_singleton.1 h]; exact hEk.out, by simpa using nW7, by simpa using own7, hOW7, hD7, hE7, hR7, by simpa using oO7, b7⟩
                  case measure => simp [intOf]; omega
      · obtain rfl : k = n := by omega
        cases pb
        · rw [if_neg (by simp)] at hll
          have hvv : wr.ownsRow (w.heap.size + 4) 42 2 (.slice Av l'.length cv) l'.length (ents l') := own.own (eRow 42 (.slice Av l'.length cv) l') (by simp [dRows])
          have n3 : (Value.slice Av l'.length cv).ownBlock ≠ some (w.heap.size + 3) := fun e => by have := (hvv.lt _ e).1; omega
          have n2 : (Value.slice Av l'.length cv).ownBlock ≠ some (w.heap.size + 2) := fun e => by have := (hvv.lt _ e).1; omega
          have n1 : (Value.slice Av l'.length cv).ownBlock ≠ some (w.heap.size + 1) := fun e => by have := (hvv.lt _ e).1; omega
          have n0 : (Value.slice Av l'.length cv).ownBlock ≠ some w.heap.size := fun e => by have := (hvv.lt _ e).1; omega
          have nW : (Value.slice Av l'.length cv).ownBlock ≠ some OW := fun e => hnOW OW e rfl
          have sz2 : w.heap.size + 4 ≤ wr.heap.size := by have := hOW.lt.2; omega
          have cO := hO.cell (j := 0) rfl
          have cW0 := hOW.cell (j := 0) rfl
          have cW1 := hOW.cell (j := 1) rfl
          have hOWw := hOW.lt.2
          go_wp2_with (at_builtin; refine wpList_appN #[.slice Ao o.length co, .string t] entT bel hvv rfl (enC_one ⟨Ao, co, o, t⟩) (by omega) sz2 (by omega) (by decide) rfl (.tmp 69) (.tmp 71) rfl _ rfl rfl rfl ?_; intro v6 w6 ho6 hb6 hg6 hat6; obtain ⟨A7, c7, rfl, _⟩ := own_slice ho6; have hO6 := hO.grown hg6 n3; have fO6 := hO6.frozen 0; have cO6 := hO6.cell (j := 0) rfl; have oO7 := (hO6.set 0 (.slice A7 (l'.length + 1) c7)).1; have cO7 := oO7.cell (j := 0) rfl; have g7 := (hO6.set 0 (.slice A7 (l'.length + 1) c7)).2; have hR7 := (hR.grown hg6 n2).grown g7 (by simp); have fR7 := hR7.frozen 0; have cR7 := hR7.cell (j := 0) rfl)
          have hP6 := dOwn_join (e := ⟨Ao, co, o, t⟩) own ho6 hg6 hat6
          obtain ⟨oO7, g7⟩ := hO6.set 0 (.slice A7 (l'.length + 1) c7)
          have hR7 := (hR.grown hg6 n2).grown g7 (by simp)
          have hE7 := (hE.grown hg6 n1).grown g7 (by simp)
          have hD7 := (hD.grown hg6 n0).grown g7 (by simp)
          have hOW7 := (hOW.grown hg6 nW).grown g7 (fun e => by have := Option.some.inj e; omega)
          have own7 := hP6.chg (Chg.of_grown g7 (F := fun g => g = w.heap.size + 3) (fun g e => (Option.some.inj e).symm)) (fun r hr g hg f => by have h1 := hP6.ge r hr g hg; have h2 : g = w.heap.size + 3 := f; omega)
          have b7 := hb6.grown g7 hb6.size (fun q e => by have := Option.some.inj e; omega)
          have nW7 : ∀ q, (Value.slice A7 (l'.length + 1) c7).ownBlock = some q → q ≠ OW := fun q e => by
            rcases hat6 with hh | hh
            · exact hnOW q (hh.symm.trans e)
            · rw [hh] at e
              have := Option.some.inj e
              omega
          obtain ⟨oR8, gR⟩ := hR7.set 0 (.slice A7 (l'.length + 1) c7)
          have b8 := b7.grown gR b7.size (fun q e => by have := Option.some.inj e; omega)
          have own8 := (own7.chg (Chg.of_grown gR (F := fun g => g = w.heap.size + 2) (fun g e => (Option.some.inj e).symm)) (fun r hr g hg f => by have h1 := own7.ge r hr g hg; have h2 : g = w.heap.size + 2 := f; omega)).base_le (show w.heap.size ≤ w.heap.size + 4 by omega)
          exact endCp rfl _ _ _ w.heap.size (w.heap.size + 2) _ rfl rfl oR8 Tryz.underlying24 rfl (by kernel_rfl) ⟨A7, c7, l' ++ [⟨Ao, co, o, t⟩], by rw [List.length_append]; rfl, by simp, by simp only [List.length_append, List.length_cons, List.length_nil]; omega, fun e he => by rcases List.mem_append.1 he with h | h; exact hPl e h; rw [List.mem_singleton.1 h]; exact hPo, by simpa [XR] using own8, b8⟩
        · have cO := hO.cell (j := 0) rfl
          have fR := hR.frozen 0
          have cR := hR.cell (j := 0) rfl
          obtain ⟨oR8, gR⟩ := hR.set 0 (.slice Av l'.length cv)
          have b8 := bel.grown gR bel.size (fun q e => by have := Option.some.inj e; omega)
          have own8 := (own.chg (Chg.of_grown gR (F := fun g => g = w.heap.size + 2) (fun g e => (Option.some.inj e).symm)) (fun r hr g hg f => by have h1 := own.ge r hr g hg; have h2 : g = w.heap.size + 2 := f; omega)).base_le (show w.heap.size ≤ w.heap.size + 4 by omega)
          have E := Lib.hid oR8
          have b8 := Lib.hid b8
          have own8 := Lib.hid own8
          rw [if_pos rfl] at hll
          clear hR oR8 gR
          go_wp2
          exact endCp rfl _ _ _ w.heap.size (w.heap.size + 2) _ rfl rfl E.out Tryz.underlying24 rfl (by kernel_rfl) ⟨Av, cv, l', rfl, hpl (by simp), hll, hPl, by simpa [XR] using own8.out, b8.out⟩
end Go.Proofs.YtnpiljkchjdpfaaGreatDoor
