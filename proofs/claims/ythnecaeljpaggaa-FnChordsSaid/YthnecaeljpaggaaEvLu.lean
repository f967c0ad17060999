/- Contracts of last-up mode. Condition: the list has a slice's length. -/
import Derived.Test.YthnecaeljpaggaaEvFu
import Derived.Deep.RegionHeldLaw
namespace Go.Proofs.Ythnecaeljpaggaa
open Go.RowKit

/-- What last-up mode returns: strokes and their times. -/
def luR (l : List Ev) : List Int := if evOk l then (luRun l).out else []
def luT (l : List Ev) : List Int := if evOk l then (luRun l).times else []
theorem lu_lens (l : List Ev) : (luRun l).out.length ≤ l.length ∧ (luRun l).times.length = (luRun l).out.length := by
  refine snoc_ind (P := fun l => (luRun l).out.length ≤ l.length ∧ (luRun l).times.length = (luRun l).out.length) (by simp [luRun]) ?_ l
  intro l e ⟨i1, i2⟩
  rw [luRun_snoc, luStep]
  split <;> simp <;> omega
theorem luR_len (l : List Ev) : (luR l).length ≤ 200 := by
  unfold luR
  split
  · rename_i h
    have := (lu_lens l).1
    have := ev_lt h
    omega
  · simp
theorem luT_len (l : List Ev) : (luT l).length ≤ 200 := by
  unfold luT
  split
  · rename_i h
    have := lu_lens l
    have := ev_lt h
    omega
  · simp
/-- What a round of last-up mode meets. -/
theorem lu_round {l : List Ev} {j : Nat} {s : LU} (hv : evOk l = true) (hj : j < l.length) (h : luRun (l.take j) = s) :
    s.down < 8388608 ∧ s.chord < 8388608 ∧ 0 ≤ (evt l j).k ∧ (evt l j).k ≤ 22 ∧ 0 ≤ (evt l j).t ∧ (evt l j).t ≤ 999999 ∧ (evt l j).d ≠ s.down.testBit (evt l j).k.toNat ∧ luRun (l.take (j + 1)) = luStep s (evt l j) ∧
    s.chord ||| (s.down ^^^ 2 ^ (evt l j).k.toNat) = (if (evt l j).d then s.chord ||| 2 ^ (evt l j).k.toNat else s.chord) ∧ s.out.length ≤ j ∧ s.times.length = s.out.length ∧ s.down ^^^ 2 ^ (evt l j).k.toNat < 8388608 := by
  obtain ⟨h1, h2⟩ := ev_valid hv
  obtain ⟨d, t, e1, e2, e3, e4, e5, e6, e7⟩ := h2 j hj
  have hd : s.down = d := by have := lu_down _ _ _ e1; rw [h] at this; exact this
  have hb := ev_in _ e1
  have hb' := ev_in _ e7
  have hall : ∀ e ∈ l.take j, e.k ≤ 22 := fun e he => by
    obtain ⟨i, hi⟩ := List.getElem?_of_mem he
    have hlt := (List.getElem?_eq_some_iff.1 hi).1
    rw [List.length_take] at hlt
    obtain ⟨_, _, _, _, _, _, q, _⟩ := h2 i (by omega)
    rw [List.getElem?_take, if_pos (by omega)] at hi
    have : evt l i = e := by rw [evt, List.getD_eq_getElem?_getD, hi]; rfl
    rwa [this] at q
  have hbd := lu_bd (l.take j) hall
  rw [h] at hbd
  have hsub := lu_sub (l.take j)
  rw [h] at hsub
  have hlen : (l.take j).length ≤ j := List.length_take_le _ _
  rw [← hd] at e6 hb'
  exact ⟨by omega, by omega, e4, e5, by omega, e3, e6, by rw [evt_take l j hj, luRun_snoc, h], chord_eq hsub e6, by omega, hbd.2.2.2, by omega⟩
theorem lu_step_add {dn ch : Nat} {xs ts : List Int} {e : Ev} (h : dn ^^^ 2 ^ e.k.toNat = 0) : luStep ⟨dn, ch, xs, ts⟩ e = ⟨0, 0, xs ++ [((ch ||| (dn ^^^ 2 ^ e.k.toNat) : Nat) : Int)], ts ++ [e.t]⟩ := by
  rw [luStep, if_pos h]
theorem lu_step_no {dn ch : Nat} {xs ts : List Int} {e : Ev} (h : ¬ dn ^^^ 2 ^ e.k.toNat = 0) : luStep ⟨dn, ch, xs, ts⟩ e = ⟨dn ^^^ 2 ^ e.k.toNat, ch ||| (dn ^^^ 2 ^ e.k.toNat), xs, ts⟩ := by
  rw [luStep, if_neg h]
/-- Two rows of the call's own lie apart. -/
def Apart (v v' : Value) : Prop := v.ownBlock = none ∨ v.ownBlock ≠ v'.ownBlock
theorem apart_symm {v v' : Value} (h : Apart v v') : Apart v' v := by
  unfold Apart at *
  cases hv : v'.ownBlock with
  | none => exact Or.inl rfl
  | some k =>
    right
    rcases h with h | h
    · rw [h]; simp
    · rw [hv] at h; exact fun e => h e.symm
theorem apart_new {w : World} {base : Nat} {e : TypeId} {size n : Nat} {v v1 v' : Value} {xs : List Value} {H : Nat} (ho : w.ownsRow base e size v n xs) (h : Apart v v') (hH : w.heap.size ≤ H) (h1 : v1.ownBlock = v'.ownBlock ∨ v1.ownBlock = some H) : Apart v v1 := by
  unfold Apart at *
  rcases h with h | h
  · exact Or.inl h
  · rcases h1 with h1 | h1
    · exact Or.inr (by rw [h1]; exact h)
    · right
      intro e
      have := (ho.lt H (e.trans h1)).2
      omega
theorem own_other {w w' : World} {base : Nat} {e : TypeId} {size n : Nat} {v v' : Value} {xs : List Value} (ho : w.ownsRow base e size v n xs) (h : Apart v v') (hg : w.grownBy w' v'.ownBlock) : w'.ownsRow base e size v n xs := ho.kept hg h

theorem made_two (w : World) (e : TypeId) : ((w.alloc (.cells #[] e)).alloc (.cells #[] e)).ownsRow w.heap.size e 1 (.slice (some ⟨w.heap.size + 1, 0, none⟩) 0 0) 0 [] := by
  have h := World.ownsRow_made (w.alloc (.cells #[] e)) (#[] : Array Value) 0 (base := w.heap.size) (e := e) (size := 1) (by show w.heap.size ≤ _; simp) (by unfold maxLen; omega) (by simp)
  simpa using h

set_option maxRecDepth 100000 in
set_option maxHeartbeats 2000000 in
theorem l3Last_any (A : Option Addr) (n c : Nat) (l : List Ev) (w : World) (hn : l.length = n) (hle : n ≤ maxLen) (hv : Hid (evOk l = true)) (hr : Row w w.heap.size A (evs l)) :
    Calls Try.prog 47 #[.slice A n c] w fun e w' => ∃ A1 c1 A2 c2, e = .returned (.tuple #[.slice A1 (luRun l).out.length c1, .slice A2 (luRun l).times.length c2]) ∧ w'.ownsRow w.heap.size 3 1 (.slice A1 (luRun l).out.length c1) (luRun l).out.length (ints (luRun l).out) ∧ w'.ownsRow w.heap.size 3 1 (.slice A2 (luRun l).times.length c2) (luRun l).times.length (ints (luRun l).times) ∧ Below w.heap.size w w' := by
  have hlen := ev_lt hv.out
  unfold maxLen at hle
  go_enter Try.func47, Try.ntmps47
  go_wp2
  go_loopw [4, 5, 6, 7, 8] (fun v1 v2 d ch i wr => ∃ j dn cn : Nat, ∃ xs ts : List Int, j ≤ n ∧ i = .int .i64 j ∧ d = .int .i64 dn ∧ ch = .int .i64 cn ∧ Hid (luRun (l.take j) = ⟨dn, cn, xs, ts⟩) ∧ wr.ownsRow w.heap.size 3 1 v1 xs.length (ints xs) ∧ wr.ownsRow w.heap.size 3 1 v2 ts.length (ints ts) ∧ Apart v1 v2 ∧ Below w.heap.size w wr) (fun _ _ _ _ i _ => n - (intOf i).toNat)
  case atStart => exact ⟨0, 0, 0, [], [], by omega, rfl, rfl, rfl, rfl, (World.ownsRow_made _ _ _ (Nat.le_refl _) (by unfold maxLen; omega) (by simp)).alloc _, made_two w 3, Or.inr (by simp [Value.ownBlock]), below2 _ _ _⟩
  case round =>
    obtain ⟨j, dn, cn, xs, ts, hj, rfl, rfl, rfl, hst, hown1, hown2, hap, hbel⟩ := hrel
    have hs := hbel.size
    by_cases hlt : j < n
    · obtain ⟨q1, q2, q3, q4, q5, q6, q7, q8, q9, q10, q11, q12⟩ := lu_round hv.out (show j < l.length by omega) hst.out
      simp only at q1 q2 q7 q9 q10 q11 q12
      obtain ⟨b, off, rfl, hb, hc1, hc2, hc3⟩ := (hr.below hbel).ev (j := j) (by omega)
      obtain ⟨a1, a2⟩ := aft_of q3 q4 q5 q6 q7
      have ha := Lib.hid a2
      have hs7 := Lib.hid q8
      have ho := Lib.hid (or_nat cn (dn ^^^ 2 ^ (evt l j).k.toNat) (by omega) (by omega))
      clear q7 q8 q9 a2 a1
      have call := Lib.hid (l3After_any dn (evt l j) wr q1)
      obtain ⟨dv, hdv⟩ : ∃ dv : Nat, aftVal dn (evt l j) = dv := ⟨_, rfl⟩
      rw [hdv] at call
      have hdv' : dv = dn ^^^ 2 ^ (evt l j).k.toNat := by rw [← hdv, ha.out]
      rw [← hdv'] at q12 ho
      have Hd := Lib.hid hdv'
      clear hdv hdv' ha
      have key : ∀ w1 : World, Below w.heap.size w w1 → w1.cell? ⟨b, off + j * 3, none⟩ = wr.cell? ⟨b, off + j * 3, none⟩ := fun w1 h1 =>
        (h1.cell (p := ⟨b, off + j * 3, none⟩) hb).trans (hbel.cell (p := ⟨b, off + j * 3, none⟩) hb).symm
      have Key := Lib.hid key
      clear key
      by_cases h0 : dv = 0
      · have hf := Lib.hid (hs7.out.trans (lu_step_add (by rw [← Hd.out, h0])))
        rw [h0] at call ho
        have Hd0 := Lib.hid (Hd.out.symm.trans h0)
        clear h0 Hd hs7
        go_wp2_with fail
        refine call.out.mono ?_
        rintro e w2 ⟨rfl, hb2⟩
        have o1 := own_below hown1 hb2 (Nat.le_refl _)
        have o2 := own_below hown2 hb2 (Nat.le_refl _)
        have bel2 := hbel.trans (hb2.mono hs)
        have k2 := (Key.out w2 bel2).trans hc1
        have s2 := bel2.size
        go_wp2_with (first
          | (at_builtin; refine wpList_app1 (.int .i64 (bits .or .i64 (cn : Int) 0)) intT bel2 o1 rfl (Nat.le_refl _) s2 (by omega) (by decide) rfl (.tmp 31) (.tmp 33) rfl rfl rfl ?_; intro v3 w3 o3 b3 g3 at3; have k3 := (Key.out w3 b3).trans hc1; have o4 := own_other o2 (apart_symm hap) g3; have a3 := apart_new o2 (apart_symm hap) (Nat.le_succ _) at3; have s3 := b3.size)
          | (at_builtin; refine wpList_app1 (.int .i64 (evt l j).t) intT b3 o4 rfl (Nat.le_refl _) s3 (by omega) (by decide) rfl (.tmp 35) (.tmp 41) rfl rfl rfl ?_; intro v5 w5 o5 b5 g5 at5; have o6 := own_other o3 (apart_symm a3) g5; have a5 := apart_new o3 (apart_symm a3) (Nat.le_succ _) at5))
        go_roundw
        case rel => exact ⟨j + 1, 0, 0, _, _, by omega, by go_num, rfl, rfl, hf.out, by rw [List.length_append, ints_snoc, Hd0.out, ← ho.out]; exact o6, by rw [List.length_append, ints_snoc]; exact o5, a5, b5⟩
        case measure => simp [intOf]; omega
      · have hf := Lib.hid (hs7.out.trans (lu_step_no (by rw [← Hd.out]; exact h0)))
        have hne : ((dv : Int) == 0) = false := by simpa using h0
        clear h0 hs7
        go_wp2_with fail
        refine call.out.mono ?_
        rintro e w2 ⟨rfl, hb2⟩
        have o1 := own_below hown1 hb2 (Nat.le_refl _)
        have o2 := own_below hown2 hb2 (Nat.le_refl _)
        have bel2 := hbel.trans (hb2.mono hs)
        go_wp2
        go_roundw
        case rel => exact ⟨j + 1, _, _, xs, ts, by omega, by go_num, rfl, by rw [ho.out, Hd.out], by rw [Hd.out]; exact hf.out, o1, o2, hap, bel2⟩
        case measure => simp [intOf]; omega
    · obtain rfl : j = n := by omega
      have hst' := Lib.hid (show luRun l = ⟨dn, cn, xs, ts⟩ by rw [← hst.out, ← hn, List.take_length])
      obtain ⟨A1, c1, rfl, _⟩ := own_slice hown1
      obtain ⟨A2, c2, rfl, _⟩ := own_slice hown2
      go_wp2
      go_ret2
      rw [hst'.out]
      exact ⟨A1, c1, A2, c2, rfl, hown1, hown2, hbel⟩

/-- Two rows of the call's own, one apart from the other. -/
structure Pair (w0 : World) (B : Nat) (e : TypeId) (w : World) (v1 : Value) (n1 : Nat) (xs1 : List Value) (v2 : Value) (n2 : Nat) (xs2 : List Value) : Prop where
  bel : Below B w0 w
  sz : B ≤ w.heap.size
  one : w.ownsRow B e 1 v1 n1 xs1
  two : w.ownsRow B e 1 v2 n2 xs2
  apart : Apart v1 v2
theorem Pair.alloc {w0 w : World} {B n1 n2 : Nat} {e : TypeId} {v1 v2 : Value} {xs1 xs2 : List Value} (h : Pair w0 B e w v1 n1 xs1 v2 n2 xs2) (o : Obj) : Pair w0 B e (w.alloc o) v1 n1 xs1 v2 n2 xs2 :=
  ⟨h.bel.alloc h.sz o, by have := h.sz; simp; omega, h.one.alloc o, h.two.alloc o, h.apart⟩
theorem Pair.alloc2 {w0 w : World} {B n1 n2 : Nat} {e : TypeId} {v1 v2 : Value} {xs1 xs2 : List Value} (h : Pair w0 B e w v1 n1 xs1 v2 n2 xs2) (o o' : Obj) : Pair w0 B e ((w.alloc o).alloc o') v1 n1 xs1 v2 n2 xs2 := (h.alloc o).alloc o'
theorem Pair.drew {w0 w : World} {B n1 n2 : Nat} {e : TypeId} {v1 v2 : Value} {xs1 xs2 : List Value} (h : Pair w0 B e w v1 n1 xs1 v2 n2 xs2) : Pair w0 B e w.drew v1 n1 xs1 v2 n2 xs2 :=
  ⟨h.bel.drew, h.sz, h.one, h.two, h.apart⟩
theorem Pair.symm {w0 w : World} {B n1 n2 : Nat} {e : TypeId} {v1 v2 : Value} {xs1 xs2 : List Value} (h : Pair w0 B e w v1 n1 xs1 v2 n2 xs2) : Pair w0 B e w v2 n2 xs2 v1 n1 xs1 := ⟨h.bel, h.sz, h.two, h.one, apart_symm h.apart⟩
theorem ne_own {w : World} {base : Nat} {e : TypeId} {size n g : Nat} {v : Value} {xs : List Value} (h : w.ownsRow base e size v n xs) (hg : w.heap.size ≤ g) : some g ≠ v.ownBlock := fun e => by
  have := (h.lt g e.symm).2
  omega
theorem cell_new_at (w : World) (x : Value) (e : TypeId) (b : Nat) (h : w.heap.size = b) : (w.alloc (.cells #[x] e)).cell? ⟨b, 0, none⟩ = some x := by
  subst h
  rw [cell_of_row _ w.heap.size 0 #[x] e (0, 0) (heap_alloc_new w _)]
  rfl
theorem cell_old_at (w : World) (x : Value) (o : Obj) (b : Nat) (h : b < w.heap.size) (hc : w.cell? ⟨b, 0, none⟩ = some x) : (w.alloc o).cell? ⟨b, 0, none⟩ = some x :=
  (World.cell?_alloc_lt w o ⟨b, 0, none⟩ h).trans hc
theorem cell_drew {w : World} {p : Addr} {x : Option Value} (h : w.cell? p = x) : w.drew.cell? p = x := h
section
variable {P : Program}
theorem run_app1 {t e : TypeId} {z : Value} {bytes : Nat} (hT : ElemT P t e z 1 bytes) {w0 w : World} {B n1 n2 : Nat} {v1 v2 : Value} {xs1 xs2 : List Value} (hp : Pair w0 B e w v1 n1 xs1 v2 n2 xs2) (x : Value) (hone : x.oneCell' = true) (h63 : n1 < 1099511627776) (hbytes : bytes ≤ 64)
    (b c : Nat) (hc : w.cell? ⟨b, 0, none⟩ = some x) (ty : TypeId) :
    ∃ v' w', (Builtin.append_ #[t, t] ty #[v1, .slice (some ⟨b, 0, none⟩) 1 c]).run P w = .ok v' w' ∧ Pair w0 B e w' v' (n1 + 1) (xs1 ++ [x]) v2 n2 xs2 ∧ w.grownBy w' v1.ownBlock := by
  obtain ⟨i, hi, hz, hsz, hby⟩ := info_parts hT.info
  have hbm : (n1 + 1) * bytes ≤ (n1 + 1) * 64 := Nat.mul_le_mul_left _ hbytes
  obtain ⟨v', w', hr, h2, h3, _, h5⟩ := run_append_own_at (P := P) w B t ty e i z 1 bytes hT.under hi hz hsz hby hT.cells (by omega) v1 n1 xs1 hp.one ⟨b, 0, none⟩ 1 c [x] (by simp) (fun j u hu => by
      cases j with
      | zero => simp at hu; subst hu; simpa [Addr.add] using hc
      | succ j => simp at hu) (fun u hu => by simp at hu; subst hu; exact hone) (by unfold maxLen; omega) (by omega) hp.sz
  refine ⟨v', w', hr, ⟨hp.bel.grown h3 hp.sz (fun k hk => by have := (hp.one.lt k hk).1; omega), Nat.le_trans hp.sz h3.size, h2, own_other hp.two (apart_symm hp.apart) h3, apart_symm (apart_new hp.two (apart_symm hp.apart) (Nat.le_refl _) h5)⟩, h3⟩
theorem step_one {ops : Array Oper} {o : Oper} {a : Act} {K : Act → World → Prop} {Q : Exit → Act → World → Prop} {E : Prop} {t e : TypeId} {z : Value} {bytes : Nat} (hT : ElemT P t e z 1 bytes) {w0 w : World} {B n1 n2 : Nat} {v1 v2 : Value} {xs1 xs2 : List Value}
    (hp : Pair w0 B e w v1 n1 xs1 v2 n2 xs2) (x : Value) (hone : x.oneCell' = true) (h63 : n1 < 1099511627776) (hbytes : bytes ≤ 64) (hgd : o.guard = none) (s y : Operand) (ho : o.op = .call { callee := .builtin .append, args := #[s, y], argTypes := #[t, t] })
    (hs : a.eval s = v1) (b c : Nat) (hx : a.eval y = .slice (some ⟨b, 0, none⟩) 1 c) (hc : w.cell? ⟨b, 0, none⟩ = some x)
    (h : ∀ v' w', Pair w0 B e w' v' (n1 + 1) (xs1 ++ [x]) v2 n2 xs2 → w.grownBy w' v1.ownBlock → K (a.put o.dst v') w') :
    if Region.wanted o (yielded ops a.tmps) = true then Oper.wp P o a w K Q else E := by
  have hw : Region.wanted o (yielded ops a.tmps) = true := by simp [Region.wanted, hgd]
  rw [if_pos hw]
  obtain ⟨v', w', hr, h2, h3⟩ := run_app1 hT hp x hone h63 hbytes b c hc o.type
  unfold Oper.wp execOp
  simp only [ho, resolve, invoke, builtin, Sem.run_bind, Sem.run_pure, Result.andThen_ok, List.map_toArray, List.map_cons, List.map_nil, hs, hx, hr]
  exact h v' w' h2 h3
theorem step_two {ops : Array Oper} {o : Oper} {a : Act} {K : Act → World → Prop} {Q : Exit → Act → World → Prop} {E : Prop} {t e : TypeId} {z : Value} {bytes : Nat} (hT : ElemT P t e z 1 bytes) {w0 w : World} {B n1 n2 : Nat} {v1 v2 : Value} {xs1 xs2 : List Value}
    (hp : Pair w0 B e w v1 n1 xs1 v2 n2 xs2) (x : Value) (hone : x.oneCell' = true) (h63 : n2 < 1099511627776) (hbytes : bytes ≤ 64) (hgd : o.guard = none) (s y : Operand) (ho : o.op = .call { callee := .builtin .append, args := #[s, y], argTypes := #[t, t] })
    (hs : a.eval s = v2) (b c : Nat) (hx : a.eval y = .slice (some ⟨b, 0, none⟩) 1 c) (hc : w.cell? ⟨b, 0, none⟩ = some x)
    (h : ∀ v' w', Pair w0 B e w' v1 n1 xs1 v' (n2 + 1) (xs2 ++ [x]) → w.grownBy w' v2.ownBlock → K (a.put o.dst v') w') :
    if Region.wanted o (yielded ops a.tmps) = true then Oper.wp P o a w K Q else E :=
  step_one hT hp.symm x hone h63 hbytes hgd s y ho hs b c hx hc fun v' w' h1 h2 => h v' w' h1.symm h2
end

set_option maxRecDepth 100000 in
set_option maxHeartbeats 4000000 in
theorem implLast_core (A : Option Addr) (n c : Nat) (l : List Ev) (w : World) (hn : l.length = n) (hle : n ≤ maxLen) (hv : Hid (evOk l = true)) (hr : Row w w.heap.size A (evs l)) :
    Calls Try.prog 48 #[.slice A n c] w fun e w' => ∃ A1 c1 A2 c2, e = .returned (.tuple #[.slice A1 (luRun l).out.length c1, .slice A2 (luRun l).times.length c2]) ∧ w'.ownsRow w.heap.size 3 1 (.slice A1 (luRun l).out.length c1) (luRun l).out.length (ints (luRun l).out) ∧ w'.ownsRow w.heap.size 3 1 (.slice A2 (luRun l).times.length c2) (luRun l).times.length (ints (luRun l).times) ∧ Below w.heap.size w w' := by
  have hlen := ev_lt hv.out
  unfold maxLen at hle
  go_enter Try.func48, Try.ntmps48
  go_wp2
  go_loopw [4, 5, 6, 7, 14] (fun v1 v2 d ch i wr => ∃ j dn cn : Nat, ∃ xs ts : List Int, j ≤ n ∧ i = .int .i64 j ∧ d = .int .i64 dn ∧ ch = .int .i64 cn ∧ Hid (luRun (l.take j) = ⟨dn, cn, xs, ts⟩) ∧ Pair w w.heap.size 3 wr v1 xs.length (ints xs) v2 ts.length (ints ts)) (fun _ _ _ _ i _ => n - (intOf i).toNat)
  case atStart => exact ⟨0, 0, 0, [], [], by omega, rfl, rfl, rfl, rfl, below2 _ _ _, (by simp; omega), (World.ownsRow_made _ _ _ (Nat.le_refl _) (by unfold maxLen; omega) (by simp)).alloc _, made_two w 3, Or.inr (by simp [Value.ownBlock])⟩
  case round =>
    obtain ⟨j, dn, cn, xs, ts, hj, rfl, rfl, rfl, hst, hp⟩ := hrel
    have hbel := hp.bel
    have hs := hbel.size
    by_cases hlt : j < n
    · obtain ⟨q1, q2, q3, q4, q5, q6, q7, q8, q9, q10, q11, q12⟩ := lu_round hv.out (show j < l.length by omega) hst.out
      simp only at q1 q2 q7 q9 q10 q11 q12
      obtain ⟨b, off, rfl, hb, hc1, hc2, hc3⟩ := (hr.below hbel).ev (j := j) (by omega)
      have hx := xor_bit dn (evt l j).k.toNat (by omega) (by omega)
      have ho := or_bit cn (evt l j).k.toNat (by omega) (by omega)
      have hs7 := Lib.hid q8
      have N1 := Lib.hid (fun g h => ne_own hp.one (g := g) h)
      have N2 := Lib.hid (fun g h => ne_own hp.two (g := g) h)
      obtain ⟨dv, hdv⟩ : ∃ dv : Nat, dn ^^^ 2 ^ (evt l j).k.toNat = dv := ⟨_, rfl⟩
      obtain ⟨cv, hcv⟩ : ∃ cv : Nat, cn ||| (dn ^^^ 2 ^ (evt l j).k.toNat) = cv := ⟨_, rfl⟩
      have hcv' := hcv.symm.trans q9
      rw [hdv] at hx q12
      have Hd := Lib.hid hdv
      have Hc := Lib.hid hcv
      clear q7 q8 q9 hcv hdv
      have HP := fun bd => Lib.hid (hp.alloc (.cells #[.int .i64 (evt l j).t, .int .i64 (evt l j).k, .bool bd] 44))
      have hz : wr.heap.size < wr.heap.size + 1 := by omega
      clear hp
      by_cases h0 : dv = 0
      · have hf := Lib.hid (hs7.out.trans (lu_step_add (by rw [Hd.out, h0])))
        rw [h0] at hx
        have Hd0 := Lib.hid (Hd.out.trans h0)
        clear h0 Hd hs7
        rcases Bool.eq_false_or_eq_true (evt l j).d with hd | hd
        · rw [hd, if_pos rfl] at hcv'
          rw [← hcv'] at ho
          clear hcv'
          have hp := (HP true).out
          go_wp2
          go_region_held_law (fun w' => w'.cell? ⟨wr.heap.size, 0, none⟩ = some (.int .i64 (evt l j).t)) (go_keep)
            (first
              | ((refine step_one (n1 := xs.length) intT (by first | exact (hp.alloc _).drew | exact (hp.alloc2 _ _).drew | exact hp | exact hp.alloc _ | exact hp.alloc2 _ _) (.int .i64 (cv : Int)) rfl (by omega) (by decide) (by rfl) (.tmp 32) (.tmp 34) (by rfl) (by rfl) _ _ (by rfl) (by first | exact cell_new_at _ _ _ _ (by simp) | exact cell_drew (cell_new_at _ _ _ _ (by simp)) | exact cell_drew (cell_old_at _ _ _ _ (by simp) (cell_new_at _ _ _ _ (by simp))) | exact hg9.cell (cell_drew (cell_new_at _ _ _ _ (by simp))) (by first | exact N1.out _ (by first | exact Nat.le_refl _ | exact Nat.le_succ _ | (simp; done) | (simp; omega)) | exact N2.out _ (by first | exact Nat.le_refl _ | exact Nat.le_succ _ | (simp; done) | (simp; omega))) | exact hg9.cell (cell_drew (cell_old_at _ _ _ _ (by simp) (cell_new_at _ _ _ _ (by simp)))) (by first | exact N1.out _ (by first | exact Nat.le_refl _ | exact Nat.le_succ _ | (simp; done) | (simp; omega)) | exact N2.out _ (by first | exact Nat.le_refl _ | exact Nat.le_succ _ | (simp; done) | (simp; omega)))) ?_; intro v3 w3 hp hg9; have k9 : w3.cell? ⟨wr.heap.size, 0, none⟩ = some (.int .i64 (evt l j).t) := hg9.cell (by assumption) (by first | exact N1.out _ (by first | exact Nat.le_refl _ | exact Nat.le_succ _ | (simp; done) | (simp; omega)) | exact N2.out _ (by first | exact Nat.le_refl _ | exact Nat.le_succ _ | (simp; done) | (simp; omega)))))
              | ((refine step_two (n2 := ts.length) intT (by first | exact (hp.alloc _).drew | exact (hp.alloc2 _ _).drew | exact hp | exact hp.alloc _ | exact hp.alloc2 _ _) (.int .i64 (evt l j).t) rfl (by omega) (by decide) (by rfl) (.tmp 36) (.tmp 39) (by rfl) (by rfl) _ _ (by rfl) (by first | exact cell_new_at _ _ _ _ (by simp) | exact cell_drew (cell_new_at _ _ _ _ (by simp)) | exact cell_drew (cell_old_at _ _ _ _ (by simp) (cell_new_at _ _ _ _ (by simp))) | exact hg9.cell (cell_drew (cell_new_at _ _ _ _ (by simp))) (by first | exact N1.out _ (by first | exact Nat.le_refl _ | exact Nat.le_succ _ | (simp; done) | (simp; omega)) | exact N2.out _ (by first | exact Nat.le_refl _ | exact Nat.le_succ _ | (simp; done) | (simp; omega))) | exact hg9.cell (cell_drew (cell_old_at _ _ _ _ (by simp) (cell_new_at _ _ _ _ (by simp)))) (by first | exact N1.out _ (by first | exact Nat.le_refl _ | exact Nat.le_succ _ | (simp; done) | (simp; omega)) | exact N2.out _ (by first | exact Nat.le_refl _ | exact Nat.le_succ _ | (simp; done) | (simp; omega)))) ?_; intro v3 w3 hp hg9; have k9 : w3.cell? ⟨wr.heap.size, 0, none⟩ = some (.int .i64 (evt l j).t) := hg9.cell (by assumption) (by first | exact N1.out _ (by first | exact Nat.le_refl _ | exact Nat.le_succ _ | (simp; done) | (simp; omega)) | exact N2.out _ (by first | exact Nat.le_refl _ | exact Nat.le_succ _ | (simp; done) | (simp; omega))))))
          all_goals
            go_wp2
            go_roundw
            case rel => exact ⟨j + 1, 0, 0, _, _, by omega, by go_num, rfl, rfl, hf.out, by rw [List.length_append, List.length_append, ints_snoc, ints_snoc, Hc.out]; exact hp⟩
            case measure => simp [intOf]; omega
        · rw [hd, if_neg (by simp)] at hcv'
          subst hcv'
          clear ho
          have hp := (HP false).out
          go_wp2
          go_region_held_law (fun w' => w'.cell? ⟨wr.heap.size, 0, none⟩ = some (.int .i64 (evt l j).t)) (go_keep)
            (first
              | ((refine step_one (n1 := xs.length) intT (by first | exact (hp.alloc _).drew | exact (hp.alloc2 _ _).drew | exact hp | exact hp.alloc _ | exact hp.alloc2 _ _) (.int .i64 (cv : Int)) rfl (by omega) (by decide) (by rfl) (.tmp 32) (.tmp 34) (by rfl) (by rfl) _ _ (by rfl) (by first | exact cell_new_at _ _ _ _ (by simp) | exact cell_drew (cell_new_at _ _ _ _ (by simp)) | exact cell_drew (cell_old_at _ _ _ _ (by simp) (cell_new_at _ _ _ _ (by simp))) | exact hg9.cell (cell_drew (cell_new_at _ _ _ _ (by simp))) (by first | exact N1.out _ (by first | exact Nat.le_refl _ | exact Nat.le_succ _ | (simp; done) | (simp; omega)) | exact N2.out _ (by first | exact Nat.le_refl _ | exact Nat.le_succ _ | (simp; done) | (simp; omega))) | exact hg9.cell (cell_drew (cell_old_at _ _ _ _ (by simp) (cell_new_at _ _ _ _ (by simp)))) (by first | exact N1.out _ (by first | exact Nat.le_refl _ | exact Nat.le_succ _ | (simp; done) | (simp; omega)) | exact N2.out _ (by first | exact Nat.le_refl _ | exact Nat.le_succ _ | (simp; done) | (simp; omega)))) ?_; intro v3 w3 hp hg9; have k9 : w3.cell? ⟨wr.heap.size, 0, none⟩ = some (.int .i64 (evt l j).t) := hg9.cell (by assumption) (by first | exact N1.out _ (by first | exact Nat.le_refl _ | exact Nat.le_succ _ | (simp; done) | (simp; omega)) | exact N2.out _ (by first | exact Nat.le_refl _ | exact Nat.le_succ _ | (simp; done) | (simp; omega)))))
              | ((refine step_two (n2 := ts.length) intT (by first | exact (hp.alloc _).drew | exact (hp.alloc2 _ _).drew | exact hp | exact hp.alloc _ | exact hp.alloc2 _ _) (.int .i64 (evt l j).t) rfl (by omega) (by decide) (by rfl) (.tmp 36) (.tmp 39) (by rfl) (by rfl) _ _ (by rfl) (by first | exact cell_new_at _ _ _ _ (by simp) | exact cell_drew (cell_new_at _ _ _ _ (by simp)) | exact cell_drew (cell_old_at _ _ _ _ (by simp) (cell_new_at _ _ _ _ (by simp))) | exact hg9.cell (cell_drew (cell_new_at _ _ _ _ (by simp))) (by first | exact N1.out _ (by first | exact Nat.le_refl _ | exact Nat.le_succ _ | (simp; done) | (simp; omega)) | exact N2.out _ (by first | exact Nat.le_refl _ | exact Nat.le_succ _ | (simp; done) | (simp; omega))) | exact hg9.cell (cell_drew (cell_old_at _ _ _ _ (by simp) (cell_new_at _ _ _ _ (by simp)))) (by first | exact N1.out _ (by first | exact Nat.le_refl _ | exact Nat.le_succ _ | (simp; done) | (simp; omega)) | exact N2.out _ (by first | exact Nat.le_refl _ | exact Nat.le_succ _ | (simp; done) | (simp; omega)))) ?_; intro v3 w3 hp hg9; have k9 : w3.cell? ⟨wr.heap.size, 0, none⟩ = some (.int .i64 (evt l j).t) := hg9.cell (by assumption) (by first | exact N1.out _ (by first | exact Nat.le_refl _ | exact Nat.le_succ _ | (simp; done) | (simp; omega)) | exact N2.out _ (by first | exact Nat.le_refl _ | exact Nat.le_succ _ | (simp; done) | (simp; omega))))))
          all_goals
            go_wp2
            go_roundw
            case rel => exact ⟨j + 1, 0, 0, _, _, by omega, by go_num, rfl, rfl, hf.out, by rw [List.length_append, List.length_append, ints_snoc, ints_snoc, Hc.out]; exact hp⟩
            case measure => simp [intOf]; omega
      · have hf := Lib.hid (hs7.out.trans (lu_step_no (by rw [Hd.out]; exact h0)))
        have hne : ((dv : Int) == 0) = false := by simpa using h0
        clear h0 hs7
        rcases Bool.eq_false_or_eq_true (evt l j).d with hd | hd
        · rw [hd, if_pos rfl] at hcv'
          rw [← hcv'] at ho
          clear hcv'
          have hp := Lib.hid (HP true).out
          go_wp2
          go_roundw
          case rel => exact ⟨j + 1, _, _, xs, ts, by omega, by go_num, rfl, rfl, by rw [← Hd.out, ← Hc.out]; exact hf.out, hp.out⟩
          case measure => simp [intOf]; omega
        · rw [hd, if_neg (by simp)] at hcv'
          subst hcv'
          clear ho
          have hp := Lib.hid (HP false).out
          go_wp2
          go_roundw
          case rel => exact ⟨j + 1, _, _, xs, ts, by omega, by go_num, rfl, rfl, by have h := hf.out; rw [Hc.out, Hd.out] at h; exact h, hp.out⟩
          case measure => simp [intOf]; omega
    · obtain rfl : j = n := by omega
      have hst' := Lib.hid (show luRun l = ⟨dn, cn, xs, ts⟩ by rw [← hst.out, ← hn, List.take_length])
      obtain ⟨A1, c1, rfl, _⟩ := own_slice hp.one
      obtain ⟨A2, c2, rfl, _⟩ := own_slice hp.two
      go_wp2
      go_ret2
      rw [hst'.out]
      exact ⟨A1, c1, A2, c2, rfl, hp.one, hp.two, hbel⟩

/-- A contract of two slices gives each of the four. -/
theorem implLast_any (A : Option Addr) (n c : Nat) (l : List Ev) (w : World) (hn : l.length = n) (hle : n ≤ maxLen) (hr : Row w w.heap.size A (evs l)) :
    Calls Try.prog 29 #[.slice A n c] w fun e w' => ∃ A' c', e = .returned (.tuple #[.slice A' (luR l).length c', .bool (evOk l)]) ∧ w'.ownsRow w.heap.size 3 1 (.slice A' (luR l).length c') (luR l).length (ints (luR l)) ∧ Below w.heap.size w w' := by
  rcases Bool.eq_false_or_eq_true (evOk l) with hv | hv
  · have HV := Lib.hid hv
    have hR := Lib.hid (show luR l = (luRun l).out by rw [luR, if_pos hv])
    go_enter Try.func29, Try.ntmps29
    go_wp2_with fail
    refine (implValidEv_any A n c l w hn hle w.heap.size (Nat.le_refl _) hr).mono ?_
    rintro e w0 ⟨rfl, hb0⟩
    go_wp2_with fail
    refine (implLast_core A n c l w0 hn hle HV ((hr.below hb0).mono hb0.size)).mono ?_
    rintro e w1 ⟨A1, c1, A2, c2, rfl, ho1, ho2, hb1⟩
    go_wp2
    go_ret2
    rw [hR.out]
    exact ⟨A1, c1, ret_vb HV.out, own_base ho1 hb0.size, hb0.trans (hb1.mono hb0.size)⟩
  · have hR := Lib.hid (show luR l = [] by rw [luR, hv]; rfl)
    go_enter Try.func29, Try.ntmps29
    go_wp2_with fail
    refine (implValidEv_any A n c l w hn hle w.heap.size (Nat.le_refl _) hr).mono ?_
    rintro e w0 ⟨rfl, hb0⟩
    go_wp2
    go_ret2
    rw [hR.out]
    exact ⟨none, 0, ret_vb hv, World.ownsRow_nil _ _ _ _, hb0⟩
theorem specLast_any (A : Option Addr) (n c : Nat) (l : List Ev) (w : World) (hn : l.length = n) (hle : n ≤ maxLen) (hr : Row w w.heap.size A (evs l)) :
    Calls Try.prog 28 #[.slice A n c] w fun e w' => ∃ A' c', e = .returned (.tuple #[.slice A' (luR l).length c', .bool (evOk l)]) ∧ w'.ownsRow w.heap.size 3 1 (.slice A' (luR l).length c') (luR l).length (ints (luR l)) ∧ Below w.heap.size w w' := by
  rcases Bool.eq_false_or_eq_true (evOk l) with hv | hv
  · have HV := Lib.hid hv
    have hR := Lib.hid (show luR l = (luRun l).out by rw [luR, if_pos hv])
    go_enter Try.func28, Try.ntmps28
    go_wp2_with fail
    refine (l3Good_any A n c l w hn hle w.heap.size (Nat.le_refl _) hr).mono ?_
    rintro e w0 ⟨rfl, hb0⟩
    go_wp2_with fail
    refine (l3Last_any A n c l w0 hn hle HV ((hr.below hb0).mono hb0.size)).mono ?_
    rintro e w1 ⟨A1, c1, A2, c2, rfl, ho1, ho2, hb1⟩
    go_wp2
    go_ret2
    rw [hR.out]
    exact ⟨A1, c1, ret_vb HV.out, own_base ho1 hb0.size, hb0.trans (hb1.mono hb0.size)⟩
  · have hR := Lib.hid (show luR l = [] by rw [luR, hv]; rfl)
    go_enter Try.func28, Try.ntmps28
    go_wp2_with fail
    refine (l3Good_any A n c l w hn hle w.heap.size (Nat.le_refl _) hr).mono ?_
    rintro e w0 ⟨rfl, hb0⟩
    go_wp2
    go_ret2
    rw [hR.out]
    exact ⟨_, 0, ret_vb hv, World.ownsRow_made _ _ _ hb0.size (by unfold maxLen; omega) (by simp), hb0.alloc hb0.size _⟩
theorem implTimes_any (A : Option Addr) (n c : Nat) (l : List Ev) (w : World) (hn : l.length = n) (hle : n ≤ maxLen) (hr : Row w w.heap.size A (evs l)) :
    Calls Try.prog 31 #[.slice A n c] w fun e w' => ∃ A' c', e = .returned (.tuple #[.slice A' (luT l).length c', .bool (evOk l)]) ∧ w'.ownsRow w.heap.size 3 1 (.slice A' (luT l).length c') (luT l).length (ints (luT l)) ∧ Below w.heap.size w w' := by
  rcases Bool.eq_false_or_eq_true (evOk l) with hv | hv
  · have HV := Lib.hid hv
    have hR := Lib.hid (show luT l = (luRun l).times by rw [luT, if_pos hv])
    go_enter Try.func31, Try.ntmps31
    go_wp2_with fail
    refine (implValidEv_any A n c l w hn hle w.heap.size (Nat.le_refl _) hr).mono ?_
    rintro e w0 ⟨rfl, hb0⟩
    go_wp2_with fail
    refine (implLast_core A n c l w0 hn hle HV ((hr.below hb0).mono hb0.size)).mono ?_
    rintro e w1 ⟨A1, c1, A2, c2, rfl, ho1, ho2, hb1⟩
    go_wp2
    go_ret2
    rw [hR.out]
    exact ⟨A2, c2, ret_vb HV.out, own_base ho2 hb0.size, hb0.trans (hb1.mono hb0.size)⟩
  · have hR := Lib.hid (show luT l = [] by rw [luT, hv]; rfl)
    go_enter Try.func31, Try.ntmps31
    go_wp2_with fail
    refine (implValidEv_any A n c l w hn hle w.heap.size (Nat.le_refl _) hr).mono ?_
    rintro e w0 ⟨rfl, hb0⟩
    go_wp2
    go_ret2
    rw [hR.out]
    exact ⟨none, 0, ret_vb hv, World.ownsRow_nil _ _ _ _, hb0⟩
theorem specTimes_any (A : Option Addr) (n c : Nat) (l : List Ev) (w : World) (hn : l.length = n) (hle : n ≤ maxLen) (hr : Row w w.heap.size A (evs l)) :
    Calls Try.prog 30 #[.slice A n c] w fun e w' => ∃ A' c', e = .returned (.tuple #[.slice A' (luT l).length c', .bool (evOk l)]) ∧ w'.ownsRow w.heap.size 3 1 (.slice A' (luT l).length c') (luT l).length (ints (luT l)) ∧ Below w.heap.size w w' := by
  rcases Bool.eq_false_or_eq_true (evOk l) with hv | hv
  · have HV := Lib.hid hv
    have hR := Lib.hid (show luT l = (luRun l).times by rw [luT, if_pos hv])
    go_enter Try.func30, Try.ntmps30
    go_wp2_with fail
    refine (l3Good_any A n c l w hn hle w.heap.size (Nat.le_refl _) hr).mono ?_
    rintro e w0 ⟨rfl, hb0⟩
    go_wp2_with fail
    refine (l3Last_any A n c l w0 hn hle HV ((hr.below hb0).mono hb0.size)).mono ?_
    rintro e w1 ⟨A1, c1, A2, c2, rfl, ho1, ho2, hb1⟩
    go_wp2
    go_ret2
    rw [hR.out]
    exact ⟨A2, c2, ret_vb HV.out, own_base ho2 hb0.size, hb0.trans (hb1.mono hb0.size)⟩
  · have hR := Lib.hid (show luT l = [] by rw [luT, hv]; rfl)
    go_enter Try.func30, Try.ntmps30
    go_wp2_with fail
    refine (l3Good_any A n c l w hn hle w.heap.size (Nat.le_refl _) hr).mono ?_
    rintro e w0 ⟨rfl, hb0⟩
    go_wp2
    go_ret2
    rw [hR.out]
    exact ⟨_, 0, ret_vb hv, World.ownsRow_made _ _ _ hb0.size (by unfold maxLen; omega) (by simp), hb0.alloc hb0.size _⟩
end Go.Proofs.Ythnecaeljpaggaa
