/- Contracts on reading dictionaries. Condition: the cell of internal/bytealg.MaxLen is an int; texts of at most 2^20 bytes. -/
import Derived.Test.YtnpiljkchjdpfaaGreatDoorDictM
import Derived.Test.YtnpiljkchjdpfaaGreatDoorDictF
import Derived.Test.YtnpiljkchjdpfaaGreatDoorPoW2
import Derived.Test.YtnpiljkchjdpfaaGreatDoorGS
import Derived.Test.YtnpiljkchjdpfaaGreatDoorMem3
import Derived.Shelf.Strings.Cut
import Derived.Deep.RegionLaw
import Derived.Deep.AppendLies
namespace Go.Proofs.YtnpiljkchjdpfaaGreatDoor
open Go.RowKit Go.Shelf

def Tryz.lCutD_ren : Go.Shelf.Ren := ⟨fun | 145 => 20 | 220 => 38 | 219 => 58 | 217 => 79 | 225 => 80 | 224 => 81 | 267 => 82 | 266 => 99 | 314 => 100 | n => n, fun | 9 => 9 | 4 => 4 | 59 => 45 | 3 => 3 | 5 => 5 | 46 => 81 | 146 => 108 | 51 => 107 | n => n, fun | 1 => 0 | n => n⟩
theorem Tryz.lCutD : Go.Proofs.Lays.n145 Tryz.prog Tryz.lCutD_ren := {
  mixed := by kernel_rfl
  f145 := Tryz.func20.trans (congrArg some (by kernel_rfl))
  f217 := Tryz.func79.trans (congrArg some (by kernel_rfl))
  f219 := Tryz.func58.trans (congrArg some (by kernel_rfl))
  f220 := Tryz.func38.trans (congrArg some (by kernel_rfl))
  f224 := Tryz.func81.trans (congrArg some (by kernel_rfl))
  f225 := Tryz.func80.trans (congrArg some (by kernel_rfl))
  f266 := Tryz.func99.trans (congrArg some (by kernel_rfl))
  f267 := Tryz.func82.trans (congrArg some (by kernel_rfl))
  f314 := Tryz.func100.trans (congrArg some (by kernel_rfl))
  t3 := Tryz.underlying3
  a3 := Tryz.isAgg3
  z3 := Tryz.sizeOf3
  v3 := Tryz.zeroValue3
  t4 := Tryz.underlying4
  a4 := Tryz.isAgg4
  z4 := Tryz.sizeOf4
  v4 := Tryz.zeroValue4
  t5 := Tryz.underlying5
  a5 := Tryz.isAgg5
  z5 := Tryz.sizeOf5
  v5 := Tryz.zeroValue5
  t9 := Tryz.underlying9
  a9 := Tryz.isAgg9
  z9 := Tryz.sizeOf9
  v9 := Tryz.zeroValue9
  t46 := Tryz.underlying81
  a46 := Tryz.isAgg81
  z46 := Tryz.sizeOf81
  v46 := Tryz.zeroValue81
  t51 := Tryz.underlying107
  a51 := Tryz.isAgg107
  z51 := Tryz.sizeOf107
  v51 := Tryz.zeroValue107
  t59 := Tryz.underlying45
  a59 := Tryz.isAgg45
  z59 := Tryz.sizeOf45
  v59 := Tryz.zeroValue45
  t146 := Tryz.underlying108
  a146 := Tryz.isAgg108
  z146 := Tryz.sizeOf108
  v146 := Tryz.zeroValue108
  g1 := by kernel_rfl }
theorem cutAt_any (s : ByteArray) (b : UInt8) (w : World) (m : Int) (hmax : w.cell? ⟨0, 0, none⟩ = some (.int .i64 m)) (hs : s.size ≤ 1048576) :
    Calls Tryz.prog 20 #[.string s, .string ⟨#[b]⟩] w fun e w' => ∃ bb : Bool, e = .returned (.tuple #[.string (bs (cutH b s.data.toList)), .string (bs (cutT b s.data.toList)), .bool bb]) ∧ Below w.heap.size w w' :=
  (Any.strings_Cut (P := Tryz.prog) (ρ := Tryz.lCutD_ren) { Tryz.lCutD with } s ⟨#[b]⟩ m w (by omega) hmax).mono fun e w' ⟨he, n, hw⟩ => ⟨(Lib.cut s.data.toList [b]).2.2, he.trans (by rw [← (cut_two b s.data.toList).1, ← (cut_two b s.data.toList).2]; rfl), by rw [hw]; exact below_drewN (Below.refl _ _) n⟩

theorem markE_at (k : Int) (l : List En) (j : Nat) (h : j < l.length) : enAt (markE k l) j = { enAt l j with o := marks (k + cntE (l.take j)) (enAt l j).o.length, t := mkT (k + cntE (l.take j) + ((enAt l j).o.length : Int)) } := by
  have e : markE k l = markE k (l.take j) ++ { enAt l j with o := marks (k + cntE (l.take j)) (enAt l j).o.length, t := mkT (k + cntE (l.take j) + ((enAt l j).o.length : Int)) } :: markE (k + cntE (l.take j) + ((enAt l j).o.length : Int) + 1) (l.drop (j + 1)) := by
    conv => lhs; rw [← List.take_append_drop j l, markE_append, drop_en l j h]
    rfl
  rw [e, enAt_mid _ _ _ j (by rw [markE_len, List.length_take]; omega)]
set_option maxHeartbeats 1000000 in
theorem heldEntryS_any (A : Option Addr) (n c : Nat) (l : List En) (k : Int) (w : World) (hn : l.length = n) (hle : n ≤ 1048576) (hs : ∀ e ∈ l, e.o.length ≤ 1048576) (hk0 : 0 ≤ k) (hk1 : k + cntE l ≤ 1099511627776) (B : Nat) (hB : B ≤ w.heap.size)
    (hr : DRow w B A (markE k l)) :
    Calls Tryz.prog 24 #[.slice A n c, .int .i64 k] w fun e w' => e = .returned (.int .i64 (k + cntE l)) ∧ Below w.heap.size w w' := by
  go_enter Tryz.func24, Tryz.ntmps24
  go_wp2
  go_loopw [1, 5] (fun q i wr => ∃ j : Nat, j ≤ n ∧ i = .int .i64 j ∧ q = .int .i64 (k + cntE (l.take j)) ∧ Below w.heap.size w wr) (fun _ i _ => n - (intOf i).toNat)
  case atStart => exact ⟨0, by omega, rfl, by simp [cntE], Below.refl _ _⟩
  case round =>
    obtain ⟨j, hj, rfl, rfl, hbel⟩ := hrel
    have hsz := hbel.size
    have hcn := cntE_nn (l.take j)
    by_cases hjn : j < n
    · have hst := cntE_succ l j (by omega)
      have hct := cntE_take_le l (j + 1)
      obtain ⟨b, off, rfl, hb, hc1, hc2, hro⟩ := (hr.below_le hbel hB).at (j := j) (by rw [markE_len]; omega)
      rw [markE_at k l j (by omega)] at hc1 hc2 hro
      simp only [marks_len] at hc1 hc2 hro
      have hlen := hs _ (enAt_in l j (by omega))
      have hc := Lib.hid (heldIntS_any (enAt l j).A (enAt l j).o.length (enAt l j).c (k + cntE (l.take j)) B wr hlen (by omega) (by omega) hro)
      have hnn : decide (k + cntE (l.take j) + ((enAt l j).o.length : Int) < 0) = false := by simp; omega
      have hT := Lib.hid (fun W => markText_any (k + cntE (l.take j) + ((enAt l j).o.length : Int)) W (by omega) (by omega))
      have hbs : b < wr.heap.size := by omega
      have hsm := seq_same (mkT (k + cntE (l.take j) + ((enAt l j).o.length : Int)))
      have h1 : (0 : Int) ≤ (j : Int) := by omega
      have h2 : (j : Int) < (n : Int) := by omega
      have hkk : k + cntE (l.take j) + ((enAt l j).o.length : Int) ≤ 1099511627776 := by omega
      have hst := Lib.hid hst
      clear hro hct
      go_wp2_with fail
      refine hc.out.mono ?_
      rintro e w2 ⟨rfl, rfl⟩
      go_wp2
      go_region_held3 (fun w' => w'.cell? ⟨b, off + j * 2 + 1, none⟩ = some (.string (mkT (k + cntE (l.take j) + ((enAt l j).o.length : Int))))) (go_keep)
        (first | (go_at_call 43; refine (hT.out _).mono ?_; rintro e w2 ⟨rfl, hb2⟩; have k1 := below_mark hb2 hbs hc2))
      clear k1
      go_wp2
      go_roundw
      case rel => exact ⟨j + 1, by omega, by go_num, by rw [hst.out]; go_num, hbel.drew.trans (hb2.mono hsz)⟩
      case measure => simp [intOf]; omega
    · obtain rfl : j = n := by omega
      have hall : l.take j = l := List.take_of_length_le (by omega)
      rw [hall]
      go_wp2
      go_ret
      exact ⟨rfl, hbel⟩
theorem heldDict_any (A : Option Addr) (n c : Nat) (l : List En) (k : Int) (w : World) (hn : l.length = n) (hle : n ≤ 1048576) (hs : ∀ e ∈ l, e.o.length ≤ 1048576) (hk0 : 0 ≤ k) (hk1 : k + cntE l ≤ 1099511627776) (B : Nat) (hB : B ≤ w.heap.size)
    (hr : DRow w B A (markE k l)) :
    Calls Tryz.prog 9 #[.agg #[.slice A n c], .int .i64 k] w fun e w' => e = .returned (.int .i64 (k + cntE l)) ∧ Below w.heap.size w w' := by
  have b0 := (Below.refl w.heap.size w).alloc (Nat.le_refl _) (.cells #[.slice A n c] 24)
  have hM := Lib.hid (heldEntryS_any A n c l k _ hn hle hs hk0 hk1 B (Nat.le_trans hB b0.size) (hr.below_le b0 hB))
  have hcn := cntE_nn l
  have hnn : decide (k + cntE l < 0) = false := by simp; omega
  generalize k + cntE l = r at hM hk1 hnn ⊢
  go_enter Tryz.func9, Tryz.ntmps9
  go_wp2_with fail
  refine hM.out.mono ?_
  rintro e w2 ⟨rfl, hb2⟩
  go_wp2
  go_ret
  exact ⟨rfl, b0.trans (hb2.mono b0.size)⟩
/-- A new entry behind the others. -/
theorem dOwn_push {w w2 w3 : World} {base B : Nat} {te ti : TypeId} {v v' : Value} {l : List En} {e : En} (h : OwnAll w base (dRows te ti v l)) (hb : Below B w w2) (hB : w.heap.size ≤ B) (hbase : base ≤ w.heap.size)
    (ho : w2.ownsRow w.heap.size ti 1 e.sl e.o.length (ints e.o)) (ho3 : w3.ownsRow base te 2 v' (l.length + 1) (ents l ++ enC e)) (hg : w2.grownBy w3 v.ownBlock) (hat : v'.ownBlock = v.ownBlock ∨ v'.ownBlock = some (w2.heap.size + 1)) : OwnAll w3 base (dRows te ti v' (l ++ [e])) := by
  have h2 := h.push (r := oRow ti e) hb hB ho hbase
  have h3 : OwnAll w2 base ([] ++ eRow te v l :: (l.map (oRow ti) ++ [oRow ti e])) := h2
  have h4 := h3.upd (r' := eRow te v' (l ++ [e])) hg (by
    show World.ownsRow _ _ _ _ _ _ _
    simp only [eRow, List.length_append, List.length_cons, List.length_nil, ents_snoc]
    exact ho3) (fun g e2 => by
    rcases hat with hq | hq
    · exact Or.inl (hq.symm.trans e2)
    · right
      have e2' : v'.ownBlock = some g := e2
      rw [hq] at e2'
      injection e2' with e3
      omega)
  have e5 : dRows te ti v' (l ++ [e]) = [] ++ eRow te v' (l ++ [e]) :: (l.map (oRow ti) ++ [oRow ti e]) := by simp [dRows]
  rw [e5]
  exact h4
theorem dOwn_nil {w : World} {base : Nat} {te ti : TypeId} {v : Value} (h : w.ownsRow base te 2 v 0 []) : OwnAll w base (dRows te ti v []) :=
  ⟨fun r hr => by rw [List.mem_singleton.1 hr]; exact h, List.pairwise_singleton _ _⟩
theorem dOwn_v {w : World} {base : Nat} {te ti : TypeId} {v : Value} {l : List En} (h : OwnAll w base (dRows te ti v l)) : w.ownsRow base te 2 v l.length (ents l) := h.own (eRow te v l) (List.mem_cons_self ..)
theorem enC_one (e : En) : ∀ u ∈ enC e, u.oneCell' = true := by
  intro u hu
  simp only [enC, En.sl, List.mem_cons, List.not_mem_nil, or_false] at hu
  rcases hu with rfl | rfl <;> rfl
theorem strD_f {a b : ByteArray} (h : ¬ a = b) : (a.toList == b.toList) = false := by
  have e := beq_lit a b.data.toList
  rw [bs_self] at e
  rw [e, decide_eq_false_iff_not]
  exact fun e => h (ByteArray.ext (Array.toList_inj.1 e))
def strLen : Value → Nat
  | .string b => b.size
  | _ => 0
theorem bs_eq_nil {r : ByteArray} (h : r.data.toList = []) : r.size = 0 := by rw [bs_size', h]; rfl
theorem pdI_step {s : List UInt8} {l : List En} {r : List UInt8} {e : En} (h : pdI s = vals l ++ pdI r) (hr : ¬ r = []) (ho : e.o = poR (cutH 32 (cutH 10 r))) (ht : e.t = bs (cutT 32 (cutH 10 r))) : pdI s = vals (l ++ [e]) ++ pdI (cutT 10 r) := by
  rw [h, pdI_cons hr, vals_snoc, List.append_assoc]
  have : e.v = lineE (cutH 10 r) := by rw [En.v, lineE, ho, ht]
  rw [this]
  rfl
set_option maxHeartbeats 4000000 in
theorem implParseDict_any (s : ByteArray) (w : World) (m : Int) (hmax : w.cell? ⟨0, 0, none⟩ = some (.int .i64 m)) :
    Calls Tryz.prog 6 #[.string s] w fun e w' => ∃ A' c' l', e = .returned (.tuple #[.agg #[.slice A' (pdR s.data.toList).length c'], .bool (pdOk s.data.toList)]) ∧ vals l' = pdR s.data.toList ∧ OwnAll w' w.heap.size (dRows 42 3 (.slice A' (pdR s.data.toList).length c') l') ∧ Below w.heap.size w w' := by
  have hlt0 : 0 < w.heap.size := World.block_lt_of_cell? w _ hmax
  have HM := Lib.hid (fun wx (h : Below w.heap.size w wx) => (h.cell (p := ⟨0, 0, none⟩) hlt0).trans hmax)
  clear hmax
  have hZ : pdOk s.data.toList = false → pdR s.data.toList = [] := pdR_no
  have hZ := Lib.hid hZ
  by_cases hbig : 4000 < s.size
  · have hd : decide ((4000 : Int) < (s.size : Int)) = true := by simp; omega
    have hno := Lib.hid (pdOk_long (s := s.data.toList) (by rw [← bs_size']; exact hbig))
    have oR := ownC_new 24 w #[.slice none 0 0]
    have b0 := (Below.refl w.heap.size w).alloc (Nat.le_refl _) (.cells #[.slice none 0 0] 24)
    have E := Lib.hid oR
    have bE := Lib.hid b0
    clear oR b0
    go_enter Tryz.func6, Tryz.ntmps6
    go_wp2
    first
      | exact endCb rfl _ _ _ w.heap.size w.heap.size _ _ rfl rfl rfl E.out Tryz.underlying24 rfl (by kernel_rfl) ⟨none, 0, by rw [hno.out, hZ.out hno.out]; rfl, [], by rw [hZ.out hno.out]; rfl, by rw [hZ.out hno.out]; exact dOwn_nil ⟨rfl, Or.inl ⟨rfl, rfl⟩⟩, bE.out⟩
      | exact endCb rfl _ _ _ w.heap.size w.heap.size _ _ rfl rfl rfl E.out Tryz.underlying24 rfl (by kernel_rfl) ⟨none, 0, [], by rw [hno.out, hZ.out hno.out]; rfl, by rw [hZ.out hno.out]; rfl, by rw [hZ.out hno.out]; exact dOwn_nil ⟨rfl, Or.inl ⟨rfl, rfl⟩⟩, bE.out⟩
  have hd : decide ((4000 : Int) < (s.size : Int)) = false := by simp; omega
  have hokI := Lib.hid (pdOk_impl (s := s.data.toList) (by rw [← bs_size']; omega))
  have hyes := Lib.hid (fun h : pdOk s.data.toList = true => pdR_yes h)
  obtain ⟨oR, oO, b2⟩ := two_new 24 24 w #[.slice none 0 0] #[.slice none 0 0]
  have s2 : w.heap.size + 2 ≤ ((w.alloc (.cells #[.slice none 0 0] 24)).alloc (.cells #[.slice none 0 0] 24)).heap.size := by simp
  have h0 : OwnAll ((w.alloc (.cells #[.slice none 0 0] 24)).alloc (.cells #[.slice none 0 0] 24)) (w.heap.size + 2) (dRows 42 3 (.slice none 0 0) []) := dOwn_nil ⟨rfl, Or.inl ⟨rfl, rfl⟩⟩
  go_enter Tryz.func6, Tryz.ntmps6
  go_wp2
  go_loopw [5, 6, 7, 8, 9, 10, 11, 12, 13] (fun x5 _ _ _ _ _ _ _ _ wr => ∃ r : ByteArray, ∃ l' : List En, ∃ v : Value, x5 = .string r ∧ l'.length + r.size ≤ s.size ∧ Hid (pdI s.data.toList = vals l' ++ pdI r.data.toList) ∧ (∀ e ∈ l', e.o.length ≤ 6 ∧ e.t.size ≤ 4000) ∧ w.heap.size + 2 ≤ wr.heap.size ∧ OwnAll wr (w.heap.size + 2) (dRows 42 3 v l') ∧ ownC 24 wr w.heap.size w.heap.size [.slice none 0 0] ∧ ownC 24 wr w.heap.size (w.heap.size + 1) [v] ∧ Below w.heap.size w wr) (fun x5 _ _ _ _ _ _ _ _ _ => strLen x5)
  case atStart => exact ⟨s, [], .slice none 0 0, rfl, by simp, by show _ = _; simp [vals], by simp, s2, h0, oR, oO, b2⟩
  case round =>
    obtain ⟨r, l', v, rfl, hlr, hpd, hsm, hsz, hown, hR, hO, hbel⟩ := hrel
    clear h0 oR oO b2 s2
    by_cases hne : r.data.toList = []
    · obtain rfl : r = ⟨#[]⟩ := ByteArray.ext (Array.toList_inj.1 hne)
      rw [hne, pdI_nil, List.append_nil] at hpd
      obtain ⟨A', c', rfl, _⟩ := own_slice (dOwn_v hown)
      have hF := implFmtDict_any A' l'.length c' l' wr m (HM.out wr hbel) rfl (by omega) (fun e he => by have := hsm e he; omega) wr.heap.size (Nat.le_refl _) (DRow.of_own rfl hown)
      rw [← hpd.out] at hF
      have hlen := Lib.hid (show l'.length = (pdI s.data.toList).length by rw [hpd.out, vals_len])
      have cO := hO.cell (j := 0) rfl
      clear hne hsm
      rcases Bool.eq_false_or_eq_true (dfOk (pdI s.data.toList)) with q | q
      · by_cases he : dfR (pdI s.data.toList) = s.data.toList
        · have hyy := Lib.hid (show pdOk s.data.toList = true by rw [hokI.out, q, he]; simp)
          have hrr := Lib.hid (hyes.out hyy.out)
          have hq : (s.toList == s.toList) = true := seq_same s
          have hF := Lib.hid hF
          rw [he, bs_self, q] at hF
          clear q he
          go_wp2_with fail
          refine hF.out.mono ?_
          rintro e w2 ⟨rfl, hb2⟩
          have hR2 := hR.below hb2 (Nat.le_refl _)
          have cO := (hO.below hb2 (Nat.le_refl _)).cell (j := 0) rfl
          have fR := hR2.frozen 0
          have cR := hR2.cell (j := 0) rfl
          obtain ⟨oR2, gR⟩ := hR2.set 0 (.slice A' l'.length c')
          have E := Lib.hid oR2
          have b2 := hbel.trans (hb2.mono hbel.size)
          have bE := Lib.hid (b2.grown gR b2.size (fun k e => by injection e with e; omega))
          have own2 := hown.below hb2 (Nat.le_refl _)
          have oE := Lib.hid ((own2.chg (Chg.of_grown gR (F := fun g => g = w.heap.size) (fun g e => by injection e with e; exact e.symm)) (fun r hr g hg f => by have h1 := own2.ge r hr g hg; have h2 : g = w.heap.size := f; omega)).base_le (show w.heap.size ≤ w.heap.size + 2 by omega))
          clear hR2 oR2 gR b2 own2
          go_wp2
          first
            | exact endCb rfl _ _ _ w.heap.size w.heap.size _ _ rfl rfl rfl E.out Tryz.underlying24 rfl (by kernel_rfl) ⟨A', c', by rw [hyy.out, hrr.out, ← hlen.out]; rfl, l', by rw [hrr.out]; exact hpd.out.symm, by rw [hrr.out, ← hlen.out]; exact oE.out, bE.out⟩
            | exact endCb rfl _ _ _ w.heap.size w.heap.size _ _ rfl rfl rfl E.out Tryz.underlying24 rfl (by kernel_rfl) ⟨A', c', l', by rw [hyy.out, hrr.out, ← hlen.out]; rfl, by rw [hrr.out]; exact hpd.out.symm, by rw [hrr.out, ← hlen.out]; exact oE.out, bE.out⟩
        · have hno := Lib.hid (show pdOk s.data.toList = false by rw [hokI.out, q]; simp [he])
          have hq := strD_f (a := bs (dfR (pdI s.data.toList))) (b := s) (fun e => he (by rw [← bs_toList (dfR (pdI s.data.toList)), e]))
          have hF := Lib.hid hF
          rw [q] at hF
          clear q he
          generalize bs (dfR (pdI s.data.toList)) = tx at hF hq
          go_wp2_with fail
          refine hF.out.mono ?_
          rintro e w2 ⟨rfl, hb2⟩
          have hR2 := hR.below hb2 (Nat.le_refl _)
          have fR := hR2.frozen 0
          have cR := hR2.cell (j := 0) rfl
          obtain ⟨oR2, gR⟩ := hR2.set 0 (.slice none 0 0)
          have E := Lib.hid oR2
          have b2 := hbel.trans (hb2.mono hbel.size)
          have bE := Lib.hid (b2.grown gR b2.size (fun k e => by injection e with e; omega))
          clear hR2 oR2 gR b2
          go_wp2
          first
            | exact endCb rfl _ _ _ w.heap.size w.heap.size _ _ rfl rfl rfl E.out Tryz.underlying24 rfl (by kernel_rfl) ⟨none, 0, by rw [hno.out, hZ.out hno.out]; rfl, [], by rw [hZ.out hno.out]; rfl, by rw [hZ.out hno.out]; exact dOwn_nil ⟨rfl, Or.inl ⟨rfl, rfl⟩⟩, bE.out⟩
            | exact endCb rfl _ _ _ w.heap.size w.heap.size _ _ rfl rfl rfl E.out Tryz.underlying24 rfl (by kernel_rfl) ⟨none, 0, [], by rw [hno.out, hZ.out hno.out]; rfl, by rw [hZ.out hno.out]; rfl, by rw [hZ.out hno.out]; exact dOwn_nil ⟨rfl, Or.inl ⟨rfl, rfl⟩⟩, bE.out⟩
      · have hno := Lib.hid (show pdOk s.data.toList = false by rw [hokI.out, q]; rfl)
        have hF := Lib.hid hF
        rw [q] at hF
        clear q
        generalize bs (dfR (pdI s.data.toList)) = tx at hF
        go_wp2_with fail
        refine hF.out.mono ?_
        rintro e w2 ⟨rfl, hb2⟩
        have hR2 := hR.below hb2 (Nat.le_refl _)
        have fR := hR2.frozen 0
        have cR := hR2.cell (j := 0) rfl
        obtain ⟨oR2, gR⟩ := hR2.set 0 (.slice none 0 0)
        have E := Lib.hid oR2
        have b2 := hbel.trans (hb2.mono hbel.size)
        have bE := Lib.hid (b2.grown gR b2.size (fun k e => by injection e with e; omega))
        clear hR2 oR2 gR b2
        go_wp2
        first
          | exact endCb rfl _ _ _ w.heap.size w.heap.size _ _ rfl rfl rfl E.out Tryz.underlying24 rfl (by kernel_rfl) ⟨none, 0, by rw [hno.out, hZ.out hno.out]; rfl, [], by rw [hZ.out hno.out]; rfl, by rw [hZ.out hno.out]; exact dOwn_nil ⟨rfl, Or.inl ⟨rfl, rfl⟩⟩, bE.out⟩
          | exact endCb rfl _ _ _ w.heap.size w.heap.size _ _ rfl rfl rfl E.out Tryz.underlying24 rfl (by kernel_rfl) ⟨none, 0, [], by rw [hno.out, hZ.out hno.out]; rfl, by rw [hZ.out hno.out]; rfl, by rw [hZ.out hno.out]; exact dOwn_nil ⟨rfl, Or.inl ⟨rfl, rfl⟩⟩, bE.out⟩
    · have ft : (r.toList == (⟨#[]⟩ : ByteArray).toList) = false := (lit_f (l := []) hne).1
      have ft2 : (r.toList == []) = false := (lit_f (l := []) hne).2
      have ft3 : r.toList.isEmpty = false := by rw [← ft2]; cases r.toList <;> rfl
      have ft4 : ¬ r.toList = [] := by intro e; rw [e] at ft3; cases ft3
      obtain ⟨A', c', rfl, _⟩ := own_slice (dOwn_v hown)
      have hrz := bs_size' r
      have y1 := cutH_le 10 r.data.toList
      have y2 := cutH_le 32 (cutH 10 r.data.toList)
      have y3 := cutT_le 32 (cutH 10 r.data.toList)
      have y4 := cutT_lt 10 r.data.toList hne
      have z1 : (bs (cutH 10 r.data.toList)).size ≤ 4000 := by rw [bs_len]; omega
      have z2 : (bs (cutH 32 (cutH 10 r.data.toList))).size ≤ 4000 := by rw [bs_len]; omega
      have z3 : (bs (cutT 32 (cutH 10 r.data.toList))).size ≤ 4000 := by rw [bs_len]; omega
      have z4 : (bs (cutT 10 r.data.toList)).size < r.size := by rw [bs_len]; omega
      have hC1 := Lib.hid (cutAt_any r 10 wr m (HM.out wr hbel) (by omega))
      have hC2 := fun W (hW : Below w.heap.size w W) => cutAt_any (bs (cutH 10 r.data.toList)) 32 W m (HM.out W hW) (by omega)
      have hPO := fun W (hW : Below w.heap.size w W) => implParseOutline_any (bs (cutH 32 (cutH 10 r.data.toList))) W m (HM.out W hW) (by omega)
      simp only [bs_toList] at hC2 hPO
      have hC2 := Lib.hid hC2
      have hPO := Lib.hid hPO
      have ho6 := poR_len (cutH 32 (cutH 10 r.data.toList))
      have hstep := Lib.hid (fun A c => pdI_step (e := ⟨A, c, poR (cutH 32 (cutH 10 r.data.toList)), bs (cutT 32 (cutH 10 r.data.toList))⟩) hpd.out hne rfl rfl)
      clear hrz y1 y2 y3 y4 hne
      generalize cutH 32 (cutH 10 r.data.toList) = H at *
      generalize poR H = o at *
      generalize poOk H = ok at *
      generalize bs H = H' at *
      generalize bs (cutT 32 (cutH 10 r.data.toList)) = T at *
      go_wp2_with fail
      refine hC1.out.mono ?_
      rintro e w2 ⟨bb1, rfl, hb2⟩
      have b2 := hbel.trans (hb2.mono hbel.size)
      go_wp2_with fail
      refine (hC2.out w2 b2).mono ?_
      rintro e w3 ⟨bb2, rfl, hb3⟩
      have b3 := b2.trans (hb3.mono b2.size)
      go_wp2_with fail
      refine (hPO.out w3 b3).mono ?_
      rintro e w4 ⟨A4, c4, rfl, ho4, hb4⟩
      have b4 := b3.trans (hb4.mono b3.size)
      have own3 := (hown.below hb2 (Nat.le_refl _)).below hb3 (Nat.le_refl _)
      have own4 := Lib.hid (own3.below hb4 (Nat.le_refl _))
      have hR4 := ((hR.below hb2 (Nat.le_refl _)).below hb3 (Nat.le_refl _)).below hb4 (Nat.le_refl _)
      have hO4 := ((hO.below hb2 (Nat.le_refl _)).below hb3 (Nat.le_refl _)).below hb4 (Nat.le_refl _)
      have cO4 := hO4.cell (j := 0) rfl
      have hvv := dOwn_v own4.out
      have s3 : w.heap.size + 2 ≤ w3.heap.size := by have := hb2.size; have := hb3.size; omega
      have s4 : w.heap.size + 2 ≤ w4.heap.size := by have := hb4.size; omega
      have hne1 : (Value.slice A' l'.length c').ownBlock ≠ some (w.heap.size + 1) := fun e => by have := (hvv.lt _ e).1; omega
      have hne0 : (Value.slice A' l'.length c').ownBlock ≠ some w.heap.size := fun e => by have := (hvv.lt _ e).1; omega
      clear hC1 hC2 hPO hown hR hO b2 b3
      go_wp2_with (at_builtin; refine wpList_appN #[.slice A4 o.length c4, .string T] entT b4 hvv rfl (enC_one ⟨A4, c4, o, T⟩) (by omega) s4 (by omega) (by decide) rfl (.tmp 42) (.tmp 46) rfl _ rfl rfl rfl ?_; intro v6 w6 ho6 hb6 hg6 hat6; obtain ⟨A7, c7, rfl, _⟩ := own_slice ho6; have hO6 := hO4.grown hg6 hne1; have fO6 := hO6.frozen 0; have cO6 := hO6.cell (j := 0) rfl)
      have hP6 := dOwn_push (e := ⟨A4, c4, o, T⟩) own3 hb4 (Nat.le_refl _) s3 ho4 ho6 hg6 hat6
      obtain ⟨oO7, g7⟩ := hO6.set 0 (.slice A7 (l'.length + 1) c7)
      have hR7 := (hR4.grown hg6 hne0).grown g7 (by simp)
      have own7 := hP6.chg (Chg.of_grown g7 (F := fun g => g = w.heap.size + 1) (fun g e => by injection e with e; exact e.symm)) (fun r hr g hg f => by have h1 := hP6.ge r hr g hg; have h2 : g = w.heap.size + 1 := f; omega)
      have b7 := hb6.grown g7 hb6.size (fun k e => by injection e with e; omega)
      have s7 := g7.size
      have s6 := hg6.size
      go_roundw
      case rel => exact ⟨_, l' ++ [⟨A4, c4, o, T⟩], .slice A7 (l'.length + 1) c7, rfl, by simp only [List.length_append, List.length_cons, List.length_nil]; omega, Lib.hid (hstep.out A4 c4), fun e he => by rcases List.mem_append.1 he with h | h; exact hsm e h; rw [List.mem_singleton.1 h]; exact ⟨by assumption, z3⟩, by omega, own7, hR7, oO7, b7⟩
      case measure => simp [strLen]; omega
/-! The reference's reading. -/
set_option maxHeartbeats 4000000 in
theorem specParseDict_any (s : ByteArray) (w : World) :
    Calls Tryz.prog 5 #[.string s] w fun e w' => ∃ A' c' l', e = .returned (.tuple #[.agg #[.slice A' (pdR s.data.toList).length c'], .bool (pdOk s.data.toList)]) ∧ vals l' = pdR s.data.toList ∧ OwnAll w' w.heap.size (dRows 42 3 (.slice A' (pdR s.data.toList).length c') l') ∧ Below w.heap.size w w' := by
  have hZ := Lib.hid (pdR_no (s := s.data.toList))
  by_cases hbig : 4000 < s.size
  · have hd : decide ((4000 : Int) < (s.size : Int)) = true := by simp; omega
    have hno := Lib.hid (pdOk_long (s := s.data.toList) (by rw [← bs_size']; exact hbig))
    have oR := ownC_new 24 w #[.slice none 0 0]
    have b0 := (Below.refl w.heap.size w).alloc (Nat.le_refl _) (.cells #[.slice none 0 0] 24)
    have E := Lib.hid oR
    have bE := Lib.hid b0
    clear oR b0
    go_enter Tryz.func5, Tryz.ntmps5
    go_wp2
    first
      | exact endCb rfl _ _ _ w.heap.size w.heap.size _ _ rfl rfl rfl E.out Tryz.underlying24 rfl (by kernel_rfl) ⟨none, 0, by rw [hno.out, hZ.out hno.out]; rfl, [], by rw [hZ.out hno.out]; rfl, by rw [hZ.out hno.out]; exact dOwn_nil ⟨rfl, Or.inl ⟨rfl, rfl⟩⟩, bE.out⟩
      | exact endCb rfl _ _ _ w.heap.size w.heap.size _ _ rfl rfl rfl E.out Tryz.underlying24 rfl (by kernel_rfl) ⟨none, 0, [], by rw [hno.out, hZ.out hno.out]; rfl, by rw [hZ.out hno.out]; rfl, by rw [hZ.out hno.out]; exact dOwn_nil ⟨rfl, Or.inl ⟨rfl, rfl⟩⟩, bE.out⟩
  have hd : decide ((4000 : Int) < (s.size : Int)) = false := by simp; omega
  have hyes := Lib.hid (fun h : pdOk s.data.toList = true => pdR_yes h)
  have hspec := Lib.hid (fun k hk => pd_spec (s := s.data.toList) (by rw [← bs_size']; omega) (k := k) hk)
  have hbad := Lib.hid (fun k hk h => pd_badline (s := s.data.toList) (k := k) hk h)
  have hsucc := Lib.hid (fun k hk => pdS_succ s.data.toList k hk)
  have hpl := Lib.hid (fun k => pdS_len s.data.toList k)
  have hP := Lib.hid (fun p (h : p ∈ splits 10 s.data.toList) => (part_len h : p.length ≤ _))
  have hN2 := splits_len 10 s.data.toList
  have ht := bs_size' s
  rw [← ht] at hP hN2
  have hN0 : 0 < (splits 10 s.data.toList).length := by
    have := splits_ne 10 s.data.toList
    cases e : splits 10 s.data.toList with
    | nil => exact absurd e this
    | cons a b => simp
  obtain ⟨oR, oO, b2⟩ := two_new 24 24 w #[.slice none 0 0] #[.slice none 0 0]
  have s2 : w.heap.size + 2 ≤ ((w.alloc (.cells #[.slice none 0 0] 24)).alloc (.cells #[.slice none 0 0] 24)).heap.size := by simp
  have hSP := Lib.hid (l1Split_any s 10 ((w.alloc (.cells #[.slice none 0 0] 24)).alloc (.cells #[.slice none 0 0] 24)) (by omega))
  clear ht
  generalize splits 10 s.data.toList = ps at *
  go_enter Tryz.func5, Tryz.ntmps5
  go_wp2_with fail
  refine hSP.out.mono ?_
  rintro e w3 ⟨A5, c5, rfl, ho3, hb3⟩
  have oR3 := oR.below hb3 (Nat.le_refl _)
  have oO3 := oO.below hb3 (Nat.le_refl _)
  have b3 := b2.trans (hb3.mono b2.size)
  have s3 : w.heap.size + 2 ≤ w3.heap.size := Nat.le_trans s2 hb3.size
  have r3 := own_base ho3 s2
  have hL := fun g (e : (Value.slice A5 ps.length c5).ownBlock = some g) => (ho3.lt g e).2
  have h0 : OwnAll w3 w3.heap.size (dRows 42 3 (.slice none 0 0) []) := dOwn_nil ⟨rfl, Or.inl ⟨rfl, rfl⟩⟩
  clear oR oO b2 s2 hSP ho3 hb3
  go_wp2
  go_loopw [6, 7, 8, 9] (fun i _ _ _ wr => ∃ k : Nat, ∃ l' : List En, ∃ v : Value, i = .int .i64 k ∧ k + 1 ≤ ps.length ∧ k ≤ 41 ∧ Hid (vals l' = pdS s.data.toList k) ∧ (∀ e ∈ l', e.o.length ≤ 6 ∧ e.t.size ≤ 4000) ∧ w3.heap.size ≤ wr.heap.size ∧ OwnAll wr w3.heap.size (dRows 42 3 v l') ∧ ownC 24 wr w.heap.size w.heap.size [.slice none 0 0] ∧ ownC 24 wr w.heap.size (w.heap.size + 1) [v] ∧ wr.ownsRow (w.heap.size + 2) 9 1 (.slice A5 ps.length c5) ps.length (partsV ps) ∧ Below w.heap.size w wr) (fun i _ _ _ _ => ps.length - (intOf i).toNat)
  case atStart => exact ⟨0, [], .slice none 0 0, rfl, by omega, by omega, by show _ = _; simp [vals, pdS], by simp, Nat.le_refl _, h0, oR3, oO3, r3, b3⟩
  case round =>
    obtain ⟨k, l', v, rfl, hk1, hk41, hv, hsm, hsz, hown, hR, hO, hrow, hbel⟩ := hrel
    clear h0 oR3 oO3 r3 b3
    obtain ⟨A', c', rfl, _⟩ := own_slice (dOwn_v hown)
    have hl' : l'.length ≤ k := by have h1 := congrArg List.length hv.out; have h2 := hpl.out k; rw [vals_len] at h1; omega
    have hcO := hO.cell (j := 0) rfl
    by_cases hlt : k + 1 < ps.length
    · by_cases h40 : k ≤ 40
      · have htn : decide ((k : Int) + 1 < (ps.length : Int)) = true := by simp; omega
        have ht4 : decide ((k : Int) ≤ 40) = true := by simp; omega
        obtain ⟨b, off, rfl, hb, hc⟩ := (Row.of_own hrow).part (k := k) (by omega)
        have hz := hP.out _ (prt_in ps k (by omega))
        obtain ⟨rr, hrr⟩ := splits_cutH 32 (prt ps k)
        have y2 := cutH_le 32 (prt ps k)
        have y3 := cutT_le 32 (prt ps k)
        have z0 : (bs (prt ps k)).size ≤ 4000 := by rw [bs_len]; omega
        have z2 : (bs (cutH 32 (prt ps k))).size ≤ 4000 := by rw [bs_len]; omega
        have z3 : (bs (cutT 32 (prt ps k))).size ≤ 4000 := by rw [bs_len]; omega
        have hS2 := l1Split_any (bs (prt ps k)) 32 wr (by omega)
        have hPO := fun W => specParseOutline_any (bs (cutH 32 (prt ps k))) W (by omega)
        simp only [bs_toList] at hS2 hPO
        rw [hrr] at hS2
        have hS2 := Lib.hid hS2
        have hPO := Lib.hid hPO
        have hb1 := Lib.hid (fun h => hbad.out k hlt (Or.inl h))
        have hb2 := Lib.hid (fun h => hbad.out k hlt (Or.inr h))
        have hcd := Lib.hid (cutT_drop 32 (prt ps k))
        have hsu := Lib.hid (hsucc.out k (by omega))
        have hpos : (0 : Int) < ((cutH 32 (prt ps k) :: rr).length : Int) := by simp
        have ho6 := poR_len (cutH 32 (prt ps k))
        clear hrr y2 y3
        go_wp2_with fail
        refine hS2.out.mono ?_
        rintro e w4 ⟨A4, c4, rfl, ho4, hb4⟩
        obtain ⟨g4, cap4, hv4, _, _⟩ := ho4.form (by simp)
        injection hv4 with e1 e2 e3
        subst e1 e3
        have c40 : w4.cell? ⟨g4, 0, none⟩ = some (.string (bs (cutH 32 (prt ps k)))) := (ho4.cellAt 0 (by simp)).trans (by simp [partsV])
        have b4 := hbel.trans (hb4.mono hbel.size)
        clear hS2 ho4
        go_wp2_with fail
        refine (hPO.out w4).mono ?_
        rintro e w5 ⟨A6, c6, rfl, ho5, hb5⟩
        have b5 := b4.trans (hb5.mono b4.size)
        have hb45 := hb4.trans (hb5.mono hb4.size)
        have hc5 := (bcell hb45 b (off + k) (by omega)).trans hc
        have own4 := hown.below hb4 (Nat.le_refl _)
        have own5 := own4.below hb5 (Nat.le_refl _)
        have hR5 := hR.below hb45 (Nat.le_refl _)
        have hO5 := hO.below hb45 (Nat.le_refl _)
        have s4 : w3.heap.size ≤ w4.heap.size := Nat.le_trans hsz hb4.size
        have s5 : w3.heap.size ≤ w5.heap.size := Nat.le_trans s4 hb5.size
        have row5 := own_below hrow hb45 (Nat.le_refl _)
        clear hPO c40 hcO hc
        rcases Bool.eq_false_or_eq_true (poOk (cutH 32 (prt ps k))) with q | q
        · by_cases hlen : (cutH 32 (prt ps k)).length = (prt ps k).length
          · have hno := Lib.hid (hb2.out hlen)
            have hq1 : ((bs (cutH 32 (prt ps k))).size : Int) = ((bs (prt ps k)).size : Int) := by rw [bs_len, bs_len, hlen]
            have hq2 : (((bs (cutH 32 (prt ps k))).size : Int) == ((bs (prt ps k)).size : Int)) = true := by rw [hq1]; simp
            rw [q]
            generalize bs (cutH 32 (prt ps k)) = H' at *
            generalize bs (prt ps k) = L' at *
            clear q hlen hq1
            have fR := hR5.frozen 0
            have cR := hR5.cell (j := 0) rfl
            obtain ⟨oRz, gR⟩ := hR5.set 0 (.slice none 0 0)
            have E := Lib.hid oRz
            have bE := Lib.hid (b5.grown gR b5.size (fun k e => by injection e with e; omega))
            clear oRz gR
            go_wp2
            first
              | exact endCb rfl _ _ _ w.heap.size w.heap.size _ _ rfl rfl rfl E.out Tryz.underlying24 rfl (by kernel_rfl) ⟨none, 0, by rw [hno.out, hZ.out hno.out]; rfl, [], by rw [hZ.out hno.out]; rfl, by rw [hZ.out hno.out]; exact dOwn_nil ⟨rfl, Or.inl ⟨rfl, rfl⟩⟩, bE.out⟩
              | exact endCb rfl _ _ _ w.heap.size w.heap.size _ _ rfl rfl rfl E.out Tryz.underlying24 rfl (by kernel_rfl) ⟨none, 0, [], by rw [hno.out, hZ.out hno.out]; rfl, by rw [hZ.out hno.out]; rfl, by rw [hZ.out hno.out]; exact dOwn_nil ⟨rfl, Or.inl ⟨rfl, rfl⟩⟩, bE.out⟩
          · have hxx : (bs (prt ps k)).extract ((bs (cutH 32 (prt ps k))).size + 1) (bs (prt ps k)).size = bs (cutT 32 (prt ps k)) := by
              rw [extract_bs, hcd.out hlen, bs_toList, bs_len, bs_len, List.take_of_length_le (by rw [List.length_drop]; omega)]
            have hH2 := cutH_le 32 (prt ps k)
            have hq0 : (bs (cutH 32 (prt ps k))).size + 1 ≤ (bs (prt ps k)).size := by rw [bs_len, bs_len]; omega
            have hev := fun A c => Lib.hid (show vals (l' ++ [⟨A, c, poR (cutH 32 (prt ps k)), bs (cutT 32 (prt ps k))⟩]) = pdS s.data.toList (k + 1) by rw [vals_snoc, hv.out, hsu.out]; rfl)
            rw [q]
            generalize bs (cutH 32 (prt ps k)) = H' at *
            generalize bs (prt ps k) = L' at *
            generalize poR (cutH 32 (prt ps k)) = o at *
            generalize bs (cutT 32 (prt ps k)) = T at *
            have hq2 : ((H'.size : Int) == (L'.size : Int)) = false := by simp; omega
            have hq3 : ¬ H'.size = L'.size := by omega
            have h1 : (0 : Int) ≤ (k : Int) := by omega
            have h2 : (k : Int) < (ps.length : Int) := by omega
            have h3 : IntKind.i64.wrap ((H'.size : Int) + 1) = (H'.size : Int) + 1 := by rw [IntKind.wrap_i64]; omega
            have h4 : (0 : Int) ≤ (H'.size : Int) + 1 := by omega
            have h5 : (H'.size : Int) + 1 ≤ (L'.size : Int) := by omega
            have h6 : ((H'.size : Int) + 1).toNat = H'.size + 1 := by omega
            have hcO5 := hO5.cell (j := 0) rfl
            have hvv := dOwn_v own5
            have hne1 : (Value.slice A' l'.length c').ownBlock ≠ some (w.heap.size + 1) := fun e => by have := (hvv.lt _ e).1; omega
            have hne0 : (Value.slice A' l'.length c').ownBlock ≠ some w.heap.size := fun e => by have := (hvv.lt _ e).1; omega
            have hneL : (Value.slice (some ⟨b, off, none⟩) ps.length c5).ownBlock ≠ (Value.slice A' l'.length c').ownBlock := by
              intro e
              cases hq : (Value.slice A' l'.length c').ownBlock with
              | none => rw [hq] at e; cases e
              | some g =>
                have e1 := (hvv.lt g hq).1
                have e2 := hL g (e.trans hq)
                omega
            have hneM : (Value.slice (some ⟨b, off, none⟩) ps.length c5).ownBlock ≠ some (w.heap.size + 1) := fun e => by have := (row5.lt _ e).1; omega
            obtain ⟨iE, hi0, hi1, hi2, hi3⟩ := info_parts entT.info
            clear q hlen hb1 hb2 hcd hsu hH2
            go_wp2
            have hcA := (hO5.alloc (.cells #[.slice A6 o.length c6, .string T] 42)).cell (j := 0) rfl
            go_region_law (refine step_append_lies _ rfl (.tmp 54) (.tmp 65) 22 rfl w3.heap.size 42 iE _ 2 40 Tryz.underlying22 hi0 hi1 hi2 hi3 rfl (by omega) (.slice A' l'.length c') l'.length (ents l') rfl (own_drewN (hvv.alloc _) 1) ⟨w5.heap.size, 0, none⟩ 1 1 [.slice A6 o.length c6, .string T] rfl rfl (World.news_of_block (cs := #[.slice A6 o.length c6, .string T]) (t := 42) (fr := (0, 0)) (heap_alloc_new w5 _)) (by simp [Value.oneCell']) (by omega) (by unfold maxLen; omega) (by omega) (by simp; omega) (w5.heap.size + 1) (by simp) ?_; intro gg cap w6 ho7 hg7 hat7 hlt7; have hO6 := ((hO5.alloc (.cells #[.slice A6 o.length c6, .string T] 42)).drewN 1).grown hg7 hne1; have fO6 := hO6.frozen 0; have cO6 := hO6.cell (j := 0) rfl)
            all_goals
              have hgE := (World.grownBy_alloc w5 (.cells #[.slice A6 o.length c6, .string T] 42) (Value.slice A' l'.length c').ownBlock).trans ((only_drewN' _ 1).trans hg7)
              have hP6 := dOwn_push (e := ⟨A6, c6, o, T⟩) own4 hb5 (Nat.le_refl _) s4 ho5 ho7 hgE (by rcases hat7 with h | h; exact Or.inl h.symm; exact Or.inr (by rw [h]; rfl))
              obtain ⟨oO7, g7⟩ := hO6.set 0 (.slice (some ⟨gg, 0, none⟩) (l'.length + 1) cap)
              have hR7 := (((hR5.alloc (.cells #[.slice A6 o.length c6, .string T] 42)).drewN 1).grown hg7 hne0).grown g7 (by simp)
              have own7 := hP6.chg (Chg.of_grown g7 (F := fun g => g = w.heap.size + 1) (fun g e => (Option.some.inj e).symm)) (fun r hr g hg f => by have h1 := hP6.ge r hr g hg; have h2 : g = w.heap.size + 1 := f; omega)
              have row6 := World.ownsRow.kept row5 hgE (Or.inr hneL)
              have row7 := World.ownsRow.kept row6 g7 (Or.inr hneM)
              have b6 := b5.grown hgE b5.size (fun q e => by have := (hvv.lt q e).1; omega)
              have b7 := b6.grown g7 b6.size (fun q e => by have := Option.some.inj e; omega)
              have s6 := hgE.size
              have s7 := g7.size
              go_wp2
              go_roundw
              case rel => exact ⟨k + 1, l' ++ [⟨A6, c6, o, T⟩], .slice (some ⟨gg, 0, none⟩) (l'.length + 1) cap, by go_num, by omega, by omega, hev A6 c6, fun e he => by rcases List.mem_append.1 he with h | h; exact hsm e h; rw [List.mem_singleton.1 h]; exact ⟨by assumption, z3⟩, by omega, own7, hR7, oO7, row7, b7⟩
              case measure => simp [intOf]; omega
        · have hno := Lib.hid (hb1.out q)
          rw [q]
          clear q
          have fR := hR5.frozen 0
          have cR := hR5.cell (j := 0) rfl
          obtain ⟨oRz, gR⟩ := hR5.set 0 (.slice none 0 0)
          have E := Lib.hid oRz
          have bE := Lib.hid (b5.grown gR b5.size (fun k e => by injection e with e; omega))
          clear oRz gR
          go_wp2
          first
            | exact endCb rfl _ _ _ w.heap.size w.heap.size _ _ rfl rfl rfl E.out Tryz.underlying24 rfl (by kernel_rfl) ⟨none, 0, by rw [hno.out, hZ.out hno.out]; rfl, [], by rw [hZ.out hno.out]; rfl, by rw [hZ.out hno.out]; exact dOwn_nil ⟨rfl, Or.inl ⟨rfl, rfl⟩⟩, bE.out⟩
            | exact endCb rfl _ _ _ w.heap.size w.heap.size _ _ rfl rfl rfl E.out Tryz.underlying24 rfl (by kernel_rfl) ⟨none, 0, [], by rw [hno.out, hZ.out hno.out]; rfl, by rw [hZ.out hno.out]; rfl, by rw [hZ.out hno.out]; exact dOwn_nil ⟨rfl, Or.inl ⟨rfl, rfl⟩⟩, bE.out⟩
      · have htn : decide ((k : Int) + 1 < (ps.length : Int)) = true := by simp; omega
        have ht4 : decide ((k : Int) ≤ 40) = false := by simp; omega
        have hk : k + 1 = ps.length ∨ (k = 41 ∧ 41 < ps.length) := by omega
        have hok := Lib.hid (hspec.out k hk)
        have hF := l6Good_any A' l'.length c' l' wr rfl (by omega) (fun e he => by have := hsm e he; omega) wr.heap.size (Nat.le_refl _) (DRow.of_own rfl hown)
        have hval := hv.out
        rcases Bool.eq_false_or_eq_true (dictB (vals l')) with q | q
        · have h40 : l'.length ≤ 40 := by have := (dictB_iff q).1; rw [vals_len] at this; exact this
          have hTx := Lib.hid (fun W (hW : Below wr.heap.size wr W) => l6Text_any A' l'.length c' l' W rfl h40 q wr.heap.size hW.size ((DRow.of_own rfl hown).below_le hW (Nat.le_refl _)))
          rw [q] at hF
          have hF := Lib.hid hF
          by_cases he : dictL (vals l') = s.data.toList
          · have hyy := Lib.hid (show pdOk s.data.toList = true by rw [hok.out.1, ← hval, q, he]; simp)
            have hrr := Lib.hid (show pdR s.data.toList = vals l' by rw [hyes.out hyy.out, hok.out.2 hyy.out, hval])
            have hlen := Lib.hid (show l'.length = (pdR s.data.toList).length by rw [hrr.out, vals_len])
            have hq : (s.toList == s.toList) = true := seq_same s
            rw [he, bs_self] at hTx
            clear q he hval
            go_wp2_with fail
            refine hF.out.mono ?_
            rintro e wa ⟨rfl, hba⟩
            have cO := (hO.below hba (Nat.le_refl _)).cell (j := 0) rfl
            go_wp2_with fail
            refine (hTx.out wa hba).mono ?_
            rintro e wb ⟨rfl, hbb⟩
            have hbab := hba.trans (hbb.mono hba.size)
            have cO := (hO.below hbab (Nat.le_refl _)).cell (j := 0) rfl
            have hR2 := hR.below hbab (Nat.le_refl _)
            have fR := hR2.frozen 0
            have cR := hR2.cell (j := 0) rfl
            obtain ⟨oR2, gR⟩ := hR2.set 0 (.slice A' l'.length c')
            have E := Lib.hid oR2
            have bz := hbel.trans (hbab.mono hbel.size)
            have bE := Lib.hid (bz.grown gR bz.size (fun k e => by injection e with e; omega))
            have own2 := hown.below hbab (Nat.le_refl _)
            have oE := Lib.hid ((own2.chg (Chg.of_grown gR (F := fun g => g = w.heap.size) (fun g e => by injection e with e; exact e.symm)) (fun r hr g hg f => by have h1 := own2.ge r hr g hg; have h2 : g = w.heap.size := f; omega)).base_le (show w.heap.size ≤ w3.heap.size by omega))
            clear hR2 oR2 gR bz own2
            go_wp2
            first
              | exact endCb rfl _ _ _ w.heap.size w.heap.size _ _ rfl rfl rfl E.out Tryz.underlying24 rfl (by kernel_rfl) ⟨A', c', by rw [hyy.out, ← hlen.out]; rfl, l', hrr.out.symm, by rw [← hlen.out]; exact oE.out, bE.out⟩
              | exact endCb rfl _ _ _ w.heap.size w.heap.size _ _ rfl rfl rfl E.out Tryz.underlying24 rfl (by kernel_rfl) ⟨A', c', l', by rw [hyy.out, ← hlen.out]; rfl, hrr.out.symm, by rw [← hlen.out]; exact oE.out, bE.out⟩
          · have hno := Lib.hid (show pdOk s.data.toList = false by rw [hok.out.1, ← hval]; simp [he])
            have hq := strD_f (a := bs (dictL (vals l'))) (b := s) (fun e => he (by rw [← bs_toList (dictL (vals l')), e]))
            generalize bs (dictL (vals l')) = tx at hTx hq
            clear q he hval
            go_wp2_with fail
            refine hF.out.mono ?_
            rintro e wa ⟨rfl, hba⟩
            have cO := (hO.below hba (Nat.le_refl _)).cell (j := 0) rfl
            go_wp2_with fail
            refine (hTx.out wa hba).mono ?_
            rintro e wb ⟨rfl, hbb⟩
            have hbab := hba.trans (hbb.mono hba.size)
            have hR2 := hR.below hbab (Nat.le_refl _)
            have bz := hbel.trans (hbab.mono hbel.size)
            have fR := hR2.frozen 0
            have cR := hR2.cell (j := 0) rfl
            obtain ⟨oRz, gR⟩ := hR2.set 0 (.slice none 0 0)
            have E := Lib.hid oRz
            have bE := Lib.hid (bz.grown gR bz.size (fun k e => by injection e with e; omega))
            clear oRz gR
            go_wp2
            first
              | exact endCb rfl _ _ _ w.heap.size w.heap.size _ _ rfl rfl rfl E.out Tryz.underlying24 rfl (by kernel_rfl) ⟨none, 0, by rw [hno.out, hZ.out hno.out]; rfl, [], by rw [hZ.out hno.out]; rfl, by rw [hZ.out hno.out]; exact dOwn_nil ⟨rfl, Or.inl ⟨rfl, rfl⟩⟩, bE.out⟩
              | exact endCb rfl _ _ _ w.heap.size w.heap.size _ _ rfl rfl rfl E.out Tryz.underlying24 rfl (by kernel_rfl) ⟨none, 0, [], by rw [hno.out, hZ.out hno.out]; rfl, by rw [hZ.out hno.out]; rfl, by rw [hZ.out hno.out]; exact dOwn_nil ⟨rfl, Or.inl ⟨rfl, rfl⟩⟩, bE.out⟩
        · have hno := Lib.hid (show pdOk s.data.toList = false by rw [hok.out.1, ← hval, q]; rfl)
          rw [q] at hF
          have hF := Lib.hid hF
          clear q hval
          go_wp2_with fail
          refine hF.out.mono ?_
          rintro e wa ⟨rfl, hba⟩
          have hR2 := hR.below hba (Nat.le_refl _)
          have bz := hbel.trans (hba.mono hbel.size)
          have fR := hR2.frozen 0
          have cR := hR2.cell (j := 0) rfl
          obtain ⟨oRz, gR⟩ := hR2.set 0 (.slice none 0 0)
          have E := Lib.hid oRz
          have bE := Lib.hid (bz.grown gR bz.size (fun k e => by injection e with e; omega))
          clear oRz gR
          go_wp2
          first
            | exact endCb rfl _ _ _ w.heap.size w.heap.size _ _ rfl rfl rfl E.out Tryz.underlying24 rfl (by kernel_rfl) ⟨none, 0, by rw [hno.out, hZ.out hno.out]; rfl, [], by rw [hZ.out hno.out]; rfl, by rw [hZ.out hno.out]; exact dOwn_nil ⟨rfl, Or.inl ⟨rfl, rfl⟩⟩, bE.out⟩
            | exact endCb rfl _ _ _ w.heap.size w.heap.size _ _ rfl rfl rfl E.out Tryz.underlying24 rfl (by kernel_rfl) ⟨none, 0, [], by rw [hno.out, hZ.out hno.out]; rfl, by rw [hZ.out hno.out]; rfl, by rw [hZ.out hno.out]; exact dOwn_nil ⟨rfl, Or.inl ⟨rfl, rfl⟩⟩, bE.out⟩
    · have htn : decide ((k : Int) + 1 < (ps.length : Int)) = false := by simp; omega
      have hk : k + 1 = ps.length ∨ (k = 41 ∧ 41 < ps.length) := by omega
      have hok := Lib.hid (hspec.out k hk)
      have hF := l6Good_any A' l'.length c' l' wr rfl (by omega) (fun e he => by have := hsm e he; omega) wr.heap.size (Nat.le_refl _) (DRow.of_own rfl hown)
      have hval := hv.out
      rcases Bool.eq_false_or_eq_true (dictB (vals l')) with q | q
      · have h40 : l'.length ≤ 40 := by have := (dictB_iff q).1; rw [vals_len] at this; exact this
        have hTx := Lib.hid (fun W (hW : Below wr.heap.size wr W) => l6Text_any A' l'.length c' l' W rfl h40 q wr.heap.size hW.size ((DRow.of_own rfl hown).below_le hW (Nat.le_refl _)))
        rw [q] at hF
        have hF := Lib.hid hF
        by_cases he : dictL (vals l') = s.data.toList
        · have hyy := Lib.hid (show pdOk s.data.toList = true by rw [hok.out.1, ← hval, q, he]; simp)
          have hrr := Lib.hid (show pdR s.data.toList = vals l' by rw [hyes.out hyy.out, hok.out.2 hyy.out, hval])
          have hlen := Lib.hid (show l'.length = (pdR s.data.toList).length by rw [hrr.out, vals_len])
          have hq : (s.toList == s.toList) = true := seq_same s
          rw [he, bs_self] at hTx
          clear q he hval
          go_wp2_with fail
          refine hF.out.mono ?_
          rintro e wa ⟨rfl, hba⟩
          have cO := (hO.below hba (Nat.le_refl _)).cell (j := 0) rfl
          go_wp2_with fail
          refine (hTx.out wa hba).mono ?_
          rintro e wb ⟨rfl, hbb⟩
          have hbab := hba.trans (hbb.mono hba.size)
          have cO := (hO.below hbab (Nat.le_refl _)).cell (j := 0) rfl
          have hR2 := hR.below hbab (Nat.le_refl _)
          have fR := hR2.frozen 0
          have cR := hR2.cell (j := 0) rfl
          obtain ⟨oR2, gR⟩ := hR2.set 0 (.slice A' l'.length c')
          have E := Lib.hid oR2
          have bz := hbel.trans (hbab.mono hbel.size)
          have bE := Lib.hid (bz.grown gR bz.size (fun k e => by injection e with e; omega))
          have own2 := hown.below hbab (Nat.le_refl _)
          have oE := Lib.hid ((own2.chg (Chg.of_grown gR (F := fun g => g = w.heap.size) (fun g e => by injection e with e; exact e.symm)) (fun r hr g hg f => by have h1 := own2.ge r hr g hg; have h2 : g = w.heap.size := f; omega)).base_le (show w.heap.size ≤ w3.heap.size by omega))
          clear hR2 oR2 gR bz own2
          go_wp2
          first
            | exact endCb rfl _ _ _ w.heap.size w.heap.size _ _ rfl rfl rfl E.out Tryz.underlying24 rfl (by kernel_rfl) ⟨A', c', by rw [hyy.out, ← hlen.out]; rfl, l', hrr.out.symm, by rw [← hlen.out]; exact oE.out, bE.out⟩
            | exact endCb rfl _ _ _ w.heap.size w.heap.size _ _ rfl rfl rfl E.out Tryz.underlying24 rfl (by kernel_rfl) ⟨A', c', l', by rw [hyy.out, ← hlen.out]; rfl, hrr.out.symm, by rw [← hlen.out]; exact oE.out, bE.out⟩
        · have hno := Lib.hid (show pdOk s.data.toList = false by rw [hok.out.1, ← hval]; simp [he])
          have hq := strD_f (a := bs (dictL (vals l'))) (b := s) (fun e => he (by rw [← bs_toList (dictL (vals l')), e]))
          generalize bs (dictL (vals l')) = tx at hTx hq
          clear q he hval
          go_wp2_with fail
          refine hF.out.mono ?_
          rintro e wa ⟨rfl, hba⟩
          have cO := (hO.below hba (Nat.le_refl _)).cell (j := 0) rfl
          go_wp2_with fail
          refine (hTx.out wa hba).mono ?_
          rintro e wb ⟨rfl, hbb⟩
          have hbab := hba.trans (hbb.mono hba.size)
          have hR2 := hR.below hbab (Nat.le_refl _)
          have bz := hbel.trans (hbab.mono hbel.size)
          have fR := hR2.frozen 0
          have cR := hR2.cell (j := 0) rfl
          obtain ⟨oRz, gR⟩ := hR2.set 0 (.slice none 0 0)
          have E := Lib.hid oRz
          have bE := Lib.hid (bz.grown gR bz.size (fun k e => by injection e with e; omega))
          clear oRz gR
          go_wp2
          first
            | exact endCb rfl _ _ _ w.heap.size w.heap.size _ _ rfl rfl rfl E.out Tryz.underlying24 rfl (by kernel_rfl) ⟨none, 0, by rw [hno.out, hZ.out hno.out]; rfl, [], by rw [hZ.out hno.out]; rfl, by rw [hZ.out hno.out]; exact dOwn_nil ⟨rfl, Or.inl ⟨rfl, rfl⟩⟩, bE.out⟩
            | exact endCb rfl _ _ _ w.heap.size w.heap.size _ _ rfl rfl rfl E.out Tryz.underlying24 rfl (by kernel_rfl) ⟨none, 0, [], by rw [hno.out, hZ.out hno.out]; rfl, by rw [hZ.out hno.out]; rfl, by rw [hZ.out hno.out]; exact dOwn_nil ⟨rfl, Or.inl ⟨rfl, rfl⟩⟩, bE.out⟩
      · have hno := Lib.hid (show pdOk s.data.toList = false by rw [hok.out.1, ← hval, q]; rfl)
        rw [q] at hF
        have hF := Lib.hid hF
        clear q hval
        go_wp2_with fail
        refine hF.out.mono ?_
        rintro e wa ⟨rfl, hba⟩
        have hR2 := hR.below hba (Nat.le_refl _)
        have bz := hbel.trans (hba.mono hbel.size)
        have fR := hR2.frozen 0
        have cR := hR2.cell (j := 0) rfl
        obtain ⟨oRz, gR⟩ := hR2.set 0 (.slice none 0 0)
        have E := Lib.hid oRz
        have bE := Lib.hid (bz.grown gR bz.size (fun k e => by injection e with e; omega))
        clear oRz gR
        go_wp2
        first
          | exact endCb rfl _ _ _ w.heap.size w.heap.size _ _ rfl rfl rfl E.out Tryz.underlying24 rfl (by kernel_rfl) ⟨none, 0, by rw [hno.out, hZ.out hno.out]; rfl, [], by rw [hZ.out hno.out]; rfl, by rw [hZ.out hno.out]; exact dOwn_nil ⟨rfl, Or.inl ⟨rfl, rfl⟩⟩, bE.out⟩
          | exact endCb rfl _ _ _ w.heap.size w.heap.size _ _ rfl rfl rfl E.out Tryz.underlying24 rfl (by kernel_rfl) ⟨none, 0, [], by rw [hno.out, hZ.out hno.out]; rfl, by rw [hZ.out hno.out]; rfl, by rw [hZ.out hno.out]; exact dOwn_nil ⟨rfl, Or.inl ⟨rfl, rfl⟩⟩, bE.out⟩
end Go.Proofs.YtnpiljkchjdpfaaGreatDoor
