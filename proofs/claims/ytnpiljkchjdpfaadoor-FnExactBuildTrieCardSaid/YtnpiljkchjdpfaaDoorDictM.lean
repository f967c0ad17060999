/- Contracts on the marks over entries and over lists of lists of integers. Condition: sizes of at most 2^20. -/
import Derived.Test.YtnpiljkchjdpfaaDoorGA
import Derived.Test.YtnpiljkchjdpfaaDoorStrS
import Derived.Deep.QuietTactic
import Derived.Deep.RegionHeld3
namespace Go.Proofs.YtnpiljkchjdpfaaDoor
open Go.RowKit

/-! Lists of lists of integers in memory (an En without its text). -/
def lns (l : List En) : List Value := l.map En.sl
def outsL (l : List En) : List (List Int) := l.map En.o
theorem lns_len (l : List En) : (lns l).length = l.length := by simp [lns]
theorem lns_append (a b : List En) : lns (a ++ b) = lns a ++ lns b := by simp [lns]
theorem outsL_len (l : List En) : (outsL l).length = l.length := by simp [outsL]
theorem lns_mid (p q : List En) (e : En) (j : Nat) (hj : p.length = j) : (lns (p ++ e :: q))[j]? = some (.slice e.A e.o.length e.c) := by
  rw [lns, List.map_append, List.getElem?_append_right (by simp [hj])]
  simp [hj, En.sl]
structure SRow (w : World) (B : Nat) (A : Option Addr) (l : List En) : Prop where
  row : Row w B A (lns l)
  outs : ∀ e ∈ l, Row w B e.A (ints e.o)
section
variable {w w' : World} {B B' : Nat} {A : Option Addr} {l : List En}
theorem SRow.mono (h : SRow w B A l) (hB : B ≤ B') : SRow w B' A l := ⟨h.row.mono hB, fun e he => (h.outs e he).mono hB⟩
theorem SRow.below_le (h : SRow w B A l) (hb : Below B' w w') (hB : B ≤ B') : SRow w' B A l := ⟨h.row.below_le hb hB, fun e he => (h.outs e he).below_le hb hB⟩
theorem SRow.chg {F : Nat → Prop} (h : SRow w B A l) (hc : Chg w w' F) (hB : B ≤ w.heap.size) (hF : ∀ k, k < B → ¬ F k) : SRow w' B A l := ⟨hc.row h.row hB hF, fun e he => hc.row (h.outs e he) hB hF⟩
theorem SRow.at (h : SRow w B A l) {j : Nat} (hj : j < l.length) :
    ∃ b off, A = some ⟨b, off, none⟩ ∧ b < B ∧ w.cell? ⟨b, off + j, none⟩ = some (.slice (enAt l j).A (enAt l j).o.length (enAt l j).c) ∧ Row w B (enAt l j).A (ints (enAt l j).o) := by
  obtain ⟨b, off, e, hb, hc⟩ := h.row (fun e => by have := lns_len l; rw [e] at this; simp at this; omega)
  refine ⟨b, off, e, hb, hc j _ ?_, h.outs _ (enAt_in l j hj)⟩
  rw [enAt_at l j hj]
  simp [lns, En.sl, hj]
end
def sRow (te : TypeId) (v : Value) (l : List En) : RowD := ⟨v, te, 1, l.length, lns l⟩
def sRows (te ti : TypeId) (v : Value) (l : List En) : List RowD := sRow te v l :: l.map (oRow ti)
theorem SRow.of_own {w : World} {base : Nat} {te ti : TypeId} {A : Option Addr} {n c : Nat} {l : List En} (hn : l.length = n) (h : OwnAll w base (sRows te ti (.slice A n c) l)) : SRow w w.heap.size A l := by
  subst hn
  refine ⟨Row.of_own (h.own (sRow te (.slice A l.length c) l) (List.mem_cons_self ..)), fun e he => ?_⟩
  have := h.own (oRow ti e) (List.mem_cons_of_mem _ (List.mem_map.2 ⟨e, he, rfl⟩))
  exact Row.of_own (A := e.A) (c := e.c) this
theorem sOwn_e {w : World} {base : Nat} {te ti : TypeId} {A : Option Addr} {n c : Nat} {l : List En} (h : OwnAll w base (sRows te ti (.slice A n c) l)) (hn : l.length = n) : w.ownsRow base te 1 (.slice A n c) n (lns l) := by
  have := h.own (sRow te (.slice A n c) l) (List.mem_cons_self ..)
  subst hn
  exact this
theorem sOwn_o {w : World} {base : Nat} {te ti : TypeId} {v : Value} {l : List En} (h : OwnAll w base (sRows te ti v l)) {e : En} (he : e ∈ l) : w.ownsRow base ti 1 (.slice e.A e.o.length e.c) e.o.length (ints e.o) :=
  h.own (oRow ti e) (List.mem_cons_of_mem _ (List.mem_map.2 ⟨e, he, rfl⟩))
theorem sLt_o {hi : Nat} {te ti : TypeId} {v : Value} {l : List En} (h : AllLt hi (sRows te ti v l)) {e : En} (he : e ∈ l) : ∀ g, (Value.slice e.A e.o.length e.c).ownBlock = some g → g < hi :=
  h (oRow ti e) (List.mem_cons_of_mem _ (List.mem_map.2 ⟨e, he, rfl⟩))
theorem sLt_mid {hi : Nat} {te ti : TypeId} {v : Value} {p q : List En} {e e' : En} (h : AllLt hi (sRows te ti v (p ++ e :: q))) (he : ∀ g, e'.sl.ownBlock = some g → g < hi) : AllLt hi (sRows te ti v (p ++ e' :: q)) := fun r hr => by
  rcases List.mem_cons.1 hr with rfl | hr
  · exact h (sRow te v (p ++ e :: q)) (List.mem_cons_self ..)
  · obtain ⟨x, hx, rfl⟩ := List.mem_map.1 hr
    rcases List.mem_append.1 hx with hx | hx
    · exact h (oRow ti x) (List.mem_cons_of_mem _ (List.mem_map.2 ⟨x, by simp [hx], rfl⟩))
    · rcases List.mem_cons.1 hx with rfl | hx
      · exact he
      · exact h (oRow ti x) (List.mem_cons_of_mem _ (List.mem_map.2 ⟨x, by simp [hx], rfl⟩))
theorem sRows_mid (te ti : TypeId) (v : Value) (p : List En) (e : En) (q : List En) : sRows te ti v (p ++ e :: q) = (sRow te v (p ++ e :: q) :: p.map (oRow ti)) ++ oRow ti e :: q.map (oRow ti) := by simp [sRows]
theorem lns_out (p q : List En) (e : En) (o' : List Int) (h : o'.length = e.o.length) : lns (p ++ { e with o := o' } :: q) = lns (p ++ e :: q) := by
  simp [lns, En.sl, h]
theorem sOwn_out {w w' : World} {base : Nat} {te ti : TypeId} {v : Value} {p q : List En} {e : En} {o' : List Int} (h : OwnAll w base (sRows te ti v (p ++ e :: q))) (hl : o'.length = e.o.length) (hg : w.grownBy w' e.sl.ownBlock) (ho : w'.ownsRow base ti 1 e.sl o'.length (ints o')) : OwnAll w' base (sRows te ti v (p ++ { e with o := o' } :: q)) := by
  rw [sRows_mid] at h ⊢
  have hs : (oRow ti { e with o := o' }).v = e.sl := by simp [oRow, En.sl, hl]
  have h2 := h.upd (r' := oRow ti { e with o := o' }) hg (by show World.ownsRow _ _ _ _ _ _ _; rw [hs]; exact ho) (fun g e2 => Or.inl (by rw [hs] at e2; exact e2))
  have : sRow te v (p ++ { e with o := o' } :: q) = sRow te v (p ++ e :: q) := by simp only [sRow, lns_out p q e o' hl]; simp
  rw [this]
  exact h2
/-- A new list behind the others. -/
theorem sOwn_push {w w2 w3 : World} {base B : Nat} {te ti : TypeId} {v v' : Value} {l : List En} {e : En} (h : OwnAll w base (sRows te ti v l)) (hb : Below B w w2) (hB : w.heap.size ≤ B) (hbase : base ≤ w.heap.size)
    (ho : w2.ownsRow w.heap.size ti 1 e.sl e.o.length (ints e.o)) (ho3 : w3.ownsRow base te 1 v' (l.length + 1) (lns l ++ [e.sl])) (hg : w2.grownBy w3 v.ownBlock) (hat : v'.ownBlock = v.ownBlock ∨ v'.ownBlock = some (w2.heap.size + 1)) : OwnAll w3 base (sRows te ti v' (l ++ [e])) := by
  have h2 := h.push (r := oRow ti e) hb hB ho hbase
  have h3 : OwnAll w2 base ([] ++ sRow te v l :: (l.map (oRow ti) ++ [oRow ti e])) := h2
  have h4 := h3.upd (r' := sRow te v' (l ++ [e])) hg (by
    show World.ownsRow _ _ _ _ _ _ _
    simp only [sRow, List.length_append, List.length_cons, List.length_nil, lns_append]
    exact ho3) (fun g e2 => by
    rcases hat with hq | hq
    · exact Or.inl (hq.symm.trans e2)
    · right
      have e2' : v'.ownBlock = some g := e2
      rw [hq] at e2'
      injection e2' with e3
      omega)
  have e5 : sRows te ti v' (l ++ [e]) = [] ++ sRow te v' (l ++ [e]) :: (l.map (oRow ti) ++ [oRow ti e]) := by simp [sRows]
  rw [e5]
  exact h4
theorem sOwn_nil {w : World} {base : Nat} {te ti : TypeId} {v : Value} (h : w.ownsRow base te 1 v 0 []) : OwnAll w base (sRows te ti v []) :=
  ⟨fun r hr => by rw [List.mem_singleton.1 hr]; exact h, List.pairwise_singleton _ _⟩
/-! The marks. -/
def markS : Int → List En → List En
  | _, [] => []
  | k, e :: l => { e with o := marks k e.o.length } :: markS (k + (e.o.length : Int)) l
def cntS (l : List En) : Int := (l.map fun e => (e.o.length : Int)).sum
theorem markS_append (a b : List En) : ∀ k, markS k (a ++ b) = markS k a ++ markS (k + cntS a) b := by
  induction a with
  | nil => intro k; simp [markS, cntS]
  | cons e a ih =>
    intro k
    rw [List.cons_append, markS, markS, ih, List.cons_append]
    congr 2
    simp only [cntS, List.map_cons, List.sum_cons]
    congr 1
    omega
theorem cntS_append (a b : List En) : cntS (a ++ b) = cntS a + cntS b := by simp [cntS]
theorem cntS_nn (l : List En) : 0 ≤ cntS l := by
  induction l with
  | nil => simp [cntS]
  | cons e l ih => simp only [cntS, List.map_cons, List.sum_cons] at ih ⊢; omega
theorem cntS_take_le (l : List En) (k : Nat) : cntS (l.take k) ≤ cntS l := by
  have h := cntS_append (l.take k) (l.drop k)
  rw [List.take_append_drop] at h
  have := cntS_nn (l.drop k)
  omega
theorem cntS_succ (l : List En) (k : Nat) (h : k < l.length) : cntS (l.take (k + 1)) = cntS (l.take k) + ((enAt l k).o.length : Int) := by
  rw [enAt_take l k h, cntS_append]
  simp [cntS]
theorem cntS_le (l : List En) (N : Nat) (h : ∀ e ∈ l, e.o.length ≤ N) : cntS l ≤ (N : Int) * (l.length : Int) := by
  induction l with
  | nil => simp [cntS]
  | cons e l ih =>
    have h1 := h e (by simp)
    have h2 := ih (fun x hx => h x (by simp [hx]))
    simp only [cntS, List.map_cons, List.sum_cons, List.length_cons] at h2 ⊢
    rw [show (N : Int) * ((l.length + 1 : Nat) : Int) = (N : Int) * (l.length : Int) + N by rw [Int.natCast_add, Int.mul_add]; simp]
    omega
theorem markS_len (l : List En) : ∀ k, (markS k l).length = l.length := by
  induction l with
  | nil => intro k; rfl
  | cons e l ih => intro k; rw [markS, List.length_cons, List.length_cons, ih]
theorem markS_succ (k : Int) (l : List En) (j : Nat) (h : j < l.length) : markS k (l.take (j + 1)) = markS k (l.take j) ++ [{ enAt l j with o := marks (k + cntS (l.take j)) (enAt l j).o.length }] := by
  rw [enAt_take l j h, markS_append]
  rfl
theorem markS_at (k : Int) (l : List En) (j : Nat) (h : j < l.length) : enAt (markS k l) j = { enAt l j with o := marks (k + cntS (l.take j)) (enAt l j).o.length } := by
  have e : markS k l = markS k (l.take j) ++ { enAt l j with o := marks (k + cntS (l.take j)) (enAt l j).o.length } :: markS (k + cntS (l.take j) + ((enAt l j).o.length : Int)) (l.drop (j + 1)) := by
    conv => lhs; rw [← List.take_append_drop j l, markS_append, drop_en l j h]
    rfl
  rw [e, enAt_mid _ _ _ j (by rw [markS_len, List.length_take]; omega)]

set_option maxHeartbeats 1000000 in
theorem markIntSS_any (A : Option Addr) (n c : Nat) (l : List En) (k : Int) (base hi : Nat) (w : World) (hn : l.length = n) (hle : n ≤ 1048576) (hs : ∀ e ∈ l, e.o.length ≤ 1048576) (hk0 : 0 ≤ k) (hk1 : k + cntS l ≤ 1099511627776)
    (h : OwnAll w base (sRows 22 3 (.slice A n c) l)) (hlt : AllLt hi (sRows 22 3 (.slice A n c) l)) :
    Calls Tryd.prog 25 #[.slice A n c, .int .i64 k] w fun e w' => e = .returned (.int .i64 (k + cntS l)) ∧ OwnAll w' base (sRows 22 3 (.slice A n c) (markS k l)) ∧ Chg w w' (fun g => base ≤ g ∧ g < hi) := by
  go_enter Tryd.func25, Tryd.ntmps25
  go_wp2
  go_loopw [1, 5] (fun q i wr => ∃ j : Nat, j ≤ n ∧ i = .int .i64 j ∧ q = .int .i64 (k + cntS (l.take j)) ∧ OwnAll wr base (sRows 22 3 (.slice A n c) (markS k (l.take j) ++ l.drop j)) ∧ AllLt hi (sRows 22 3 (.slice A n c) (markS k (l.take j) ++ l.drop j)) ∧ Chg w wr (fun g => base ≤ g ∧ g < hi)) (fun _ i _ => n - (intOf i).toNat)
  case atStart => exact ⟨0, by omega, rfl, by simp [cntS], by simpa [markS] using h, by simpa [markS] using hlt, Chg.refl _ _⟩
  case round =>
    obtain ⟨j, hj, rfl, rfl, hown, hal, hch⟩ := hrel
    have hcn := cntS_nn (l.take j)
    have hct := cntS_take_le l j
    by_cases hjn : j < n
    · rw [drop_en l j (by omega)] at hown hal
      have hpl : (markS k (l.take j)).length = j := by rw [markS_len, List.length_take]; omega
      have hL : (markS k (l.take j) ++ enAt l j :: l.drop (j + 1)).length = n := by simp [hpl]; omega
      have hrow := sOwn_e hown hL
      obtain ⟨g, cap, hv, hbase, hgl⟩ := hrow.form (by omega)
      injection hv with hv1 hv2 hv3
      subst hv1 hv3
      have hcell : wr.cell? ⟨g, j, none⟩ = some (.slice (enAt l j).A (enAt l j).o.length (enAt l j).c) := (hrow.cellAt j (by omega)).trans (lns_mid _ _ _ j hpl)
      have hin : enAt l j ∈ markS k (l.take j) ++ enAt l j :: l.drop (j + 1) := by simp
      have hc := Lib.hid (markIntS_any (enAt l j).A (enAt l j).o.length (enAt l j).c (enAt l j).o (k + cntS (l.take j)) base wr rfl (hs _ (enAt_in l j (by omega))) (by omega) (by omega) (sOwn_o hown hin))
      have hst := Lib.hid (cntS_succ l j (by omega))
      have hms := Lib.hid (markS_succ k l j (by omega))
      have hown := Lib.hid hown
      have hal := Lib.hid hal
      have hlen := hs _ (enAt_in l j (by omega))
      clear hrow hcn hct
      go_wp2_with fail
      refine hc.out.mono ?_
      rintro e w2 ⟨rfl, ho2, hg2⟩
      have o2 := Lib.hid (sOwn_out hown.out (marks_len _ _) hg2 (by rw [marks_len]; exact ho2))
      have l2 := Lib.hid (sLt_mid (e' := { enAt l j with o := marks (k + cntS (l.take j)) (enAt l j).o.length }) hal.out (fun q e => sLt_o hal.out hin q (by simpa [En.sl, marks_len] using e)))
      have c2 := Lib.hid (hch.trans (Chg.of_grown hg2 (fun q e => ⟨hown.out.ge (oRow 3 (enAt l j)) (List.mem_cons_of_mem _ (List.mem_map.2 ⟨_, hin, rfl⟩)) q e, sLt_o hal.out hin q e⟩)))
      clear ho2 hg2 hc
      go_wp2
      go_roundw
      case rel => exact ⟨j + 1, by omega, by go_num, by rw [hst.out]; go_num, by rw [hms.out, List.append_assoc]; exact o2.out, by rw [hms.out, List.append_assoc]; exact l2.out, c2.out⟩
      case measure => simp [intOf]; omega
    · obtain rfl : j = n := by omega
      have hall : l.take j = l := List.take_of_length_le (by omega)
      have hdr : l.drop j = [] := List.drop_of_length_le (by omega)
      rw [hall, hdr, List.append_nil] at hown
      rw [hall]
      go_wp2
      go_ret
      exact ⟨rfl, hown, hch⟩

set_option maxHeartbeats 1000000 in
theorem heldIntSS_any (A : Option Addr) (n c : Nat) (l : List En) (k : Int) (w : World) (hn : l.length = n) (hle : n ≤ 1048576) (hs : ∀ e ∈ l, e.o.length ≤ 1048576) (hk0 : 0 ≤ k) (hk1 : k + cntS l ≤ 1099511627776) (B : Nat)
    (hr : SRow w B A (markS k l)) :
    Calls Tryd.prog 26 #[.slice A n c, .int .i64 k] w fun e w' => e = .returned (.int .i64 (k + cntS l)) ∧ w = w' := by
  go_enter Tryd.func26, Tryd.ntmps26
  go_wp2
  go_loop [1, 5] (fun q i => ∃ j : Nat, j ≤ n ∧ i = .int .i64 j ∧ q = .int .i64 (k + cntS (l.take j))) (fun _ i => n - (intOf i).toNat)
  case atStart => exact ⟨0, by omega, rfl, by simp [cntS]⟩
  case round =>
    obtain ⟨j, hj, rfl, rfl⟩ := hrel
    have hcn := cntS_nn (l.take j)
    have hct := cntS_take_le l j
    by_cases hjn : j < n
    · obtain ⟨b, off, rfl, hb, hc1, hro⟩ := hr.at (j := j) (by rw [markS_len]; omega)
      rw [markS_at k l j (by omega)] at hc1 hro
      simp only [marks_len] at hc1 hro
      have hlen := hs _ (enAt_in l j (by omega))
      have hc := Lib.hid (heldIntS_any (enAt l j).A (enAt l j).o.length (enAt l j).c (k + cntS (l.take j)) B w hlen (by omega) (by omega) hro)
      have hst := Lib.hid (cntS_succ l j (by omega))
      have hnn : decide (k + cntS (l.take j) + ((enAt l j).o.length : Int) < 0) = false := by simp; omega
      clear hro
      go_wp2_with fail
      refine hc.out.mono ?_
      rintro e w2 ⟨rfl, rfl⟩
      go_wp2
      go_round
      case rel => exact ⟨j + 1, by omega, by go_num, by rw [hst.out]; go_num⟩
      case measure => simp [intOf]; omega
    · obtain rfl : j = n := by omega
      have hall : l.take j = l := List.take_of_length_le (by omega)
      rw [hall]
      go_wp2
      go_ret
      exact ⟨rfl, rfl⟩

theorem outsL_at {l l' : List En} (h : outsL l = outsL l') (k : Nat) (hk : k < l.length) : k < l'.length ∧ (enAt l k).o = (enAt l' k).o := by
  have hl : l.length = l'.length := by have := congrArg List.length h; rwa [outsL_len, outsL_len] at this
  have e := congrArg (fun d => d[k]?) h
  simp only [outsL, List.getElem?_map, List.getElem?_eq_getElem hk, List.getElem?_eq_getElem (show k < l'.length by omega), Option.map_some, Option.some.injEq] at e
  rw [enAt_at l k hk, enAt_at l' k (by omega)]
  exact ⟨by omega, e⟩
set_option maxHeartbeats 2000000 in
theorem eqIntSS_same (A A' : Option Addr) (n c c' : Nat) (l l' : List En) (w : World) (hn : l.length = n) (hv : outsL l = outsL l') (hle : n ≤ 1048576) (hs : ∀ e ∈ l, e.o.length ≤ 1048576) (B : Nat) (hB : B ≤ w.heap.size) (hr : SRow w B A l) (hr' : SRow w B A' l') :
    Calls Tryd.prog 23 #[.slice A n c, .slice A' n c'] w fun e w' => e = .returned (.bool true) ∧ Below w.heap.size w w' := by
  have hv := Lib.hid hv
  go_enter Tryd.func23, Tryd.ntmps23
  go_wp2
  go_loopw [5] (fun i wr => ∃ k : Nat, k ≤ n ∧ i = .int .i64 k ∧ Below w.heap.size w wr) (fun i _ => n - (intOf i).toNat)
  case atStart => exact ⟨0, by omega, rfl, Below.refl _ _⟩
  case round =>
    obtain ⟨k, hk, rfl, hbel⟩ := hrel
    by_cases hlt : k < n
    · obtain ⟨hk', e1⟩ := outsL_at hv.out k (by omega)
      obtain ⟨b, off, rfl, hb, hc1, hro⟩ := (hr.below_le hbel hB).at (j := k) (by omega)
      obtain ⟨b', off', rfl, hb', hd1, hro'⟩ := (hr'.below_le hbel hB).at (j := k) hk'
      have hin := hs _ (enAt_in l k (by omega))
      have hs := hbel.size
      rw [← e1] at hro' hd1
      have hE := Lib.hid (fun (W : World) (hW : Below wr.heap.size wr W) => eqIntS_same (enAt l k).A (enAt l' k).A (enAt l k).o.length (enAt l k).c (enAt l' k).c (enAt l k).o W rfl hin B (hro.below_le hW (by omega)) (hro'.below_le hW (by omega)))
      clear hro hro' e1 hk'
      generalize (enAt l k).A = P1 at hc1 hE
      generalize (enAt l' k).A = P2 at hd1 hE
      generalize (enAt l k).c = q1 at hc1 hE
      generalize (enAt l' k).c = q2 at hd1 hE
      generalize (enAt l k).o.length = ln at hc1 hd1 hE
      have h1 : (0 : Int) ≤ (k : Int) := by omega
      have h2 : (k : Int) < (n : Int) := by omega
      have hbs : b < wr.heap.size := by omega
      have hbs' : b' < wr.heap.size := by omega
      clear hr hr'
      go_wp2
      go_region_held3 (fun w' => w'.cell? ⟨b, off + k, none⟩ = some (.slice P1 ln q1) ∧ w'.cell? ⟨b', off' + k, none⟩ = some (.slice P2 ln q2)) (go_keep)
        (first
          | (go_at_call 39; refine (hE.out _ (by first | exact Below.refl _ _ | exact (Below.refl _ _).drew)).mono ?_; rintro e w2 ⟨rfl, hb2⟩; have k1 := (bcell hb2 b (off + k) hbs).trans hc1; have k4 := (bcell hb2 b' (off' + k) hbs').trans hd1))
      clear k1 k4
      go_wp2
      go_roundw
      case rel => exact ⟨k + 1, by omega, by go_num, hbel.drew.trans (hb2.mono hs)⟩
      case measure => simp [intOf]; omega
    · obtain rfl : k = n := by omega
      go_wp2
      go_ret
      exact ⟨rfl, hbel⟩

/-! The marks over entries. -/
theorem ents_mid (p q : List En) (e : En) (j : Nat) (hj : p.length = j) : (ents (p ++ e :: q))[j * 2]? = some (.slice e.A e.o.length e.c) ∧ (ents (p ++ e :: q))[j * 2 + 1]? = some (.string e.t) := by
  have h := ents_get (p ++ e :: q) j (by simp; omega)
  rw [enAt_mid p q e j hj] at h
  exact h
set_option maxHeartbeats 2000000 in
theorem markEntryS_any (A : Option Addr) (n c : Nat) (l : List En) (k : Int) (base hi : Nat) (w : World) (hn : l.length = n) (hle : n ≤ 1048576) (hs : ∀ e ∈ l, e.o.length ≤ 1048576) (hk0 : 0 ≤ k) (hk1 : k + cntE l ≤ 1099511627776)
    (h : OwnAll w base (dRows 27 3 (.slice A n c) l)) (hlt : AllLt hi (dRows 27 3 (.slice A n c) l)) :
    Calls Tryd.prog 48 #[.slice A n c, .int .i64 k] w fun e w' => e = .returned (.int .i64 (k + cntE l)) ∧ OwnAll w' base (dRows 27 3 (.slice A n c) (markE k l)) ∧ AllLt hi (dRows 27 3 (.slice A n c) (markE k l)) ∧ Chg w w' (fun g => base ≤ g ∧ g < hi) := by
  go_enter Tryd.func48, Tryd.ntmps48
  go_wp2
  go_loopw [1, 5] (fun q i wr => ∃ j : Nat, j ≤ n ∧ i = .int .i64 j ∧ q = .int .i64 (k + cntE (l.take j)) ∧ OwnAll wr base (dRows 27 3 (.slice A n c) (markE k (l.take j) ++ l.drop j)) ∧ AllLt hi (dRows 27 3 (.slice A n c) (markE k (l.take j) ++ l.drop j)) ∧ Chg w wr (fun g => base ≤ g ∧ g < hi)) (fun _ i _ => n - (intOf i).toNat)
  case atStart => exact ⟨0, by omega, rfl, by simp [cntE], by simpa [markE] using h, by simpa [markE] using hlt, Chg.refl _ _⟩
  case round =>
    obtain ⟨j, hj, rfl, rfl, hown, hal, hch⟩ := hrel
    have hcn := cntE_nn (l.take j)
    have hct := cntE_take_le l j
    by_cases hjn : j < n
    · have hst := cntE_succ l j (by omega)
      have hct2 := cntE_take_le l (j + 1)
      have hst := Lib.hid hst
      have hkk : k + cntE (l.take j) + ((enAt l j).o.length : Int) ≤ 1099511627776 := by have := hst.out; omega
      rw [drop_en l j (by omega)] at hown hal
      have hpl : (markE k (l.take j)).length = j := by rw [markE_len, List.length_take]; omega
      have hL : (markE k (l.take j) ++ enAt l j :: l.drop (j + 1)).length = n := by simp [hpl]; omega
      have hrow := dOwn_e hown hL
      obtain ⟨g, cap, hv, hbase, hgl⟩ := hrow.form (by omega)
      injection hv with hv1 hv2 hv3
      subst hv1 hv3
      have hcell : wr.cell? ⟨g, j * 2, none⟩ = some (.slice (enAt l j).A (enAt l j).o.length (enAt l j).c) := (hrow.cellAt (j * 2) (by omega)).trans (ents_mid _ _ _ j hpl).1
      have hin : enAt l j ∈ markE k (l.take j) ++ enAt l j :: l.drop (j + 1) := by simp
      have hgb : base ≤ g ∧ g < hi := ⟨hown.ge (eRow 27 (.slice (some ⟨g, 0, none⟩) n c) _) (List.mem_cons_self ..) g rfl, hal (eRow 27 (.slice (some ⟨g, 0, none⟩) n c) _) (List.mem_cons_self ..) g rfl⟩
      have hc := Lib.hid (markIntS_any (enAt l j).A (enAt l j).o.length (enAt l j).c (enAt l j).o (k + cntE (l.take j)) base wr rfl (hs _ (enAt_in l j (by omega))) (by omega) (by omega) (dOwn_o hown hin))
      have hms := Lib.hid (markE_succ k l j (by omega))
      have hown := Lib.hid hown
      have hal := Lib.hid hal
      have hlen := hs _ (enAt_in l j (by omega))
      clear hrow hct hct2
      go_wp2_with fail
      refine hc.out.mono ?_
      rintro e w2 ⟨rfl, ho2, hg2⟩
      have o2 := Lib.hid (dOwn_out hown.out (marks_len _ _) hg2 (by rw [marks_len]; exact ho2))
      have l2 := Lib.hid (dLt_mid (e' := { enAt l j with o := marks (k + cntE (l.take j)) (enAt l j).o.length }) hal.out (fun q e => dLt_o hal.out hin q (by simpa [En.sl, marks_len] using e)))
      have c2 := Lib.hid (hch.trans (Chg.of_grown hg2 (fun q e => ⟨hown.out.ge (oRow 3 (enAt l j)) (List.mem_cons_of_mem _ (List.mem_map.2 ⟨_, hin, rfl⟩)) q e, dLt_o hal.out hin q e⟩)))
      clear ho2 hg2 hc hch hcell
      go_wp2_with fail
      refine (markText_any (k + cntE (l.take j) + ((enAt l j).o.length : Int)) w2 (by omega) (by omega)).mono ?_
      rintro e w3 ⟨rfl, hb3⟩
      have o3 := o2.out.below hb3 (Nat.le_refl _)
      have hL3 : (markE k (l.take j) ++ { enAt l j with o := marks (k + cntE (l.take j)) (enAt l j).o.length } :: l.drop (j + 1)).length = n := by simp [hpl]; omega
      have row3 := dOwn_e o3 hL3
      have hfr := row3.frozenAt (j * 2 + 1)
      obtain ⟨u, hcg⟩ : ∃ u, w3.cell? ⟨g, j * 2 + 1, none⟩ = some u := ⟨_, (row3.cellAt (j * 2 + 1) (by omega)).trans (List.getElem?_eq_getElem (by have := row3.1; omega))⟩
      obtain ⟨o4, g4⟩ := dOwn_text o3 hL3 hpl (mkT (k + cntE (l.take j) + ((enAt l j).o.length : Int)))
      have o4 := Lib.hid o4
      have l4 := Lib.hid (dLt_mid (e' := { enAt l j with o := marks (k + cntE (l.take j)) (enAt l j).o.length, t := mkT (k + cntE (l.take j) + ((enAt l j).o.length : Int)) }) l2.out (fun q e => dLt_o hal.out hin q (by simpa [En.sl, marks_len] using e)))
      have c4 := Lib.hid ((c2.out.trans (Chg.of_below hb3 (Nat.le_refl _) _)).trans (Chg.of_grown (F := fun g => base ≤ g ∧ g < hi) g4 (fun q e => by injection e with e; rw [← e]; exact hgb)))
      clear o3 row3 g4 hL3 hL
      go_wp2
      go_roundw
      case rel => exact ⟨j + 1, by omega, by go_num, by rw [hst.out]; go_num, by rw [hms.out, List.append_assoc]; exact o4.out, by rw [hms.out, List.append_assoc]; exact l4.out, c4.out⟩
      case measure => simp [intOf]; omega
    · obtain rfl : j = n := by omega
      have hall : l.take j = l := List.take_of_length_le (by omega)
      have hdr : l.drop j = [] := List.drop_of_length_le (by omega)
      rw [hall, hdr, List.append_nil] at hown hal
      rw [hall]
      go_wp2
      go_ret
      exact ⟨rfl, hown, hal, hch⟩
theorem markDict_any (A : Option Addr) (n c : Nat) (l : List En) (k : Int) (base hi : Nat) (w : World) (hn : l.length = n) (hle : n ≤ 1048576) (hs : ∀ e ∈ l, e.o.length ≤ 1048576) (hk0 : 0 ≤ k) (hk1 : k + cntE l ≤ 1099511627776)
    (h : OwnAll w base (dRows 27 3 (.slice A n c) l)) (hlt : AllLt hi (dRows 27 3 (.slice A n c) l)) :
    Calls Tryd.prog 24 #[.agg #[.slice A n c], .int .i64 k] w fun e w' => e = .returned (.int .i64 (k + cntE l)) ∧ OwnAll w' base (dRows 27 3 (.slice A n c) (markE k l)) ∧ Chg w w' (fun g => base ≤ g ∧ g < hi) := by
  have c0 := Chg.alloc w (.cells #[.slice A n c] 38) (fun g => base ≤ g ∧ g < hi)
  have h0 := h.chg (Chg.alloc w (.cells #[.slice A n c] 38) (fun _ => False)) (fun _ _ _ _ f => f)
  have hM := Lib.hid (markEntryS_any A n c l k base hi _ hn hle hs hk0 hk1 h0 hlt)
  clear h h0
  have hcn := cntE_nn l
  generalize k + cntE l = r at hM hk1 ⊢
  go_enter Tryd.func24, Tryd.ntmps24
  go_wp2_with fail
  refine hM.out.mono ?_
  rintro e w2 ⟨rfl, ho2, _, hc2⟩
  go_wp2
  go_ret
  exact ⟨rfl, ho2, c0.trans hc2⟩
end Go.Proofs.YtnpiljkchjdpfaaDoor
