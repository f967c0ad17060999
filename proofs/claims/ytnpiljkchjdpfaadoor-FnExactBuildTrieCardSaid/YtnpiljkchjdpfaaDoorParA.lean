/- Contracts of both readers of an atom's notation. Condition: the text is at most 2^20 bytes. -/
import Derived.Test.YtnpiljkchjdpfaaDoorKindC
import Derived.Test.YtnpiljkchjdpfaaDoorPTrim
import Derived.Laws.ResultCell
import Derived.Shelf.Lay
import Derived.Shelf.Strings.SlTrimAscii
namespace Go.Proofs.YtnpiljkchjdpfaaDoor
open Go.RowKit Go.Shelf
def Tryd.lTrim_ren : Go.Shelf.Ren := ⟨fun | 160 => 94 | 232 => 104 | 231 => 103 | 227 => 105 | 234 => 107 | 233 => 106 | 236 => 109 | 235 => 108 | 228 => 118 | 271 => 120 | 151 => 119 | 197 => 115 | 120 => 129 | 152 => 128 | 260 => 123 | 137 => 130 | 119 => 133 | 224 => 126 | 225 => 125 | 217 => 124 | 266 => 131 | n => n, fun | 9 => 9 | 4 => 4 | 3 => 3 | 5 => 5 | 117 => 127 | 116 => 126 | 0 => 0 | 124 => 130 | 21 => 21 | 105 => 135 | 46 => 103 | 119 => 143 | 139 => 146 | 138 => 145 | n => n, fun | 3 => 1 | 4 => 2 | n => n⟩
theorem Tryd.lTrim : Go.Proofs.Lays.n160 Tryd.prog Tryd.lTrim_ren := {
  mixed := by kernel_rfl
  f119 := Tryd.func133.trans (congrArg some (by kernel_rfl))
  f120 := Tryd.func129.trans (congrArg some (by kernel_rfl))
  f137 := Tryd.func130.trans (congrArg some (by kernel_rfl))
  f151 := Tryd.func119.trans (congrArg some (by kernel_rfl))
  f152 := Tryd.func128.trans (congrArg some (by kernel_rfl))
  f160 := Tryd.func94.trans (congrArg some (by kernel_rfl))
  f197 := Tryd.func115.trans (congrArg some (by kernel_rfl))
  f217 := Tryd.func124.trans (congrArg some (by kernel_rfl))
  f224 := Tryd.func126.trans (congrArg some (by kernel_rfl))
  f225 := Tryd.func125.trans (congrArg some (by kernel_rfl))
  f227 := Tryd.func105.trans (congrArg some (by kernel_rfl))
  f228 := Tryd.func118.trans (congrArg some (by kernel_rfl))
  f231 := Tryd.func103.trans (congrArg some (by kernel_rfl))
  f232 := Tryd.func104.trans (congrArg some (by kernel_rfl))
  f233 := Tryd.func106.trans (congrArg some (by kernel_rfl))
  f234 := Tryd.func107.trans (congrArg some (by kernel_rfl))
  f235 := Tryd.func108.trans (congrArg some (by kernel_rfl))
  f236 := Tryd.func109.trans (congrArg some (by kernel_rfl))
  f260 := Tryd.func123.trans (congrArg some (by kernel_rfl))
  f266 := Tryd.func131.trans (congrArg some (by kernel_rfl))
  f271 := Tryd.func120.trans (congrArg some (by kernel_rfl))
  t0 := Tryd.underlying0
  a0 := Tryd.isAgg0
  z0 := Tryd.sizeOf0
  v0 := Tryd.zeroValue0
  t3 := Tryd.underlying3
  a3 := Tryd.isAgg3
  z3 := Tryd.sizeOf3
  v3 := Tryd.zeroValue3
  t4 := Tryd.underlying4
  a4 := Tryd.isAgg4
  z4 := Tryd.sizeOf4
  v4 := Tryd.zeroValue4
  t5 := Tryd.underlying5
  a5 := Tryd.isAgg5
  z5 := Tryd.sizeOf5
  v5 := Tryd.zeroValue5
  t9 := Tryd.underlying9
  a9 := Tryd.isAgg9
  z9 := Tryd.sizeOf9
  v9 := Tryd.zeroValue9
  t21 := Tryd.underlying21
  a21 := Tryd.isAgg21
  z21 := Tryd.sizeOf21
  v21 := Tryd.zeroValue21
  t46 := Tryd.underlying103
  a46 := Tryd.isAgg103
  z46 := Tryd.sizeOf103
  v46 := Tryd.zeroValue103
  t105 := Tryd.underlying135
  a105 := Tryd.isAgg135
  z105 := Tryd.sizeOf135
  v105 := Tryd.zeroValue135
  t116 := Tryd.underlying126
  a116 := Tryd.isAgg126
  z116 := Tryd.sizeOf126
  t117 := Tryd.underlying127
  a117 := Tryd.isAgg127
  z117 := Tryd.sizeOf127
  v117 := Tryd.zeroValue127
  t119 := Tryd.underlying143
  a119 := Tryd.isAgg143
  z119 := Tryd.sizeOf143
  t124 := Tryd.underlying130
  a124 := Tryd.isAgg130
  z124 := Tryd.sizeOf130
  v124 := Tryd.zeroValue130
  t138 := Tryd.underlying145
  a138 := Tryd.isAgg145
  z138 := Tryd.sizeOf145
  v138 := Tryd.zeroValue145
  t139 := Tryd.underlying146
  a139 := Tryd.isAgg146
  z139 := Tryd.sizeOf146
  v139 := Tryd.zeroValue146
  g3 := by kernel_rfl
  g4 := by kernel_rfl }

theorem trim_any (s : ByteArray) (w : World) (hs : s.size ≤ 1048576) : Calls Tryd.prog 94 #[.string s, .string ⟨#[123, 125, 94, 38]⟩] w fun e w' => e = .returned (.string (bs (trA s.data.toList))) ∧ Below w.heap.size w w' :=
  Any.strings_Trim_laid Tryd.lTrim (by kernel_rfl) s ⟨#[123, 125, 94, 38]⟩ w (by omega) (by decide) (ascii_of_all (by decide))
theorem results_cell_row_tmp {P : Program} {fn : Func} {p u : Tmp} {ty : TypeId} (h : fn.results = #[.cell p ty, .tmp u]) (tmps : Array Value) (w : World) (g : Nat) (t : TypeId) (cs : Array Value) (fr : Nat × Nat) (d : TypeDesc)
    (hp : tmps.getD p undef = .pointer (some ⟨g, 0, none⟩)) (hg : w.heap[g]? = some (.cells cs t fr))
    (hu : P.underlying ty = some d) (hd : (match d with | .struct _ | .array _ _ => true | _ => false) = true) (hi : (P.info? ty).map (·.size) = some cs.size) :
    (results fn tmps).run P w = .ok (.tuple #[.agg cs, tmps.getD u undef]) w := by
  rw [results_cell_tmp h, hp]
  simp [asAddr, run_loadVar_row w g t ty cs fr d hg hu hd hi, Result.andThen]
/-- The end of a function with an atom and a bool. -/
theorem endp {fn : Func} (hr : fn.results = #[.cell 2 97, .tmp 3]) (Q : Ending → World → Prop) (w' : World) (a : Act) (H : Nat) (fr : Nat × Nat) (k : Int) (s : ByteArray) (b : Bool) (ha : a.tmps.getD 2 undef = .pointer (some ⟨H, 0, none⟩)) (hb : a.tmps.getD 3 undef = .bool b) (hd : a.defers = [])
    (hc : w'.heap[H]? = some (.cells #[.int .i64 k, .string s] 97 fr)) (hQ : Q (.returned (.tuple #[.agg #[.int .i64 k, .string s], .bool b])) w') : bodyPost Tryd.prog fn Q .ret a w' := by
  refine bodyPost_ret (results_cell_row_tmp hr _ _ H 97 #[.int .i64 k, .string s] fr _ ha hc Tryd.underlying97 rfl (by kernel_rfl)) hd ?_
  rw [hb]
  exact hQ
theorem beq_bs (l : List UInt8) (t : ByteArray) : ((bs l).toList == t.toList) = decide (l = t.data.toList) := by
  rw [bs_beq, Bool.eq_iff_iff]; simp
theorem bne_bs (l : List UInt8) (t : ByteArray) : ((bs l).toList != t.toList) = !decide (l = t.data.toList) := by rw [bne, beq_bs]

/-- A struct of two cells that lies in a block of its own, as a row of one element. -/
def ownP (w : World) (B : Nat) (H : Nat) (a b : Value) : Prop := w.ownsRow B 97 2 (.slice (some ⟨H, 0, none⟩) 1 1) 1 [a, b]
theorem ownP_new (w : World) (a b : Value) : ownP (w.alloc (.cells #[a, b] 97)) w.heap.size w.heap.size a b := World.ownsRow_lit w #[a, b] 1 (Nat.le_refl _) (by unfold maxLen; omega) rfl
theorem ownP.heap {w : World} {B H : Nat} {a b : Value} (h : ownP w B H a b) : w.heap[H]? = some (.cells #[a, b] 97 (0, 0)) := by
  rcases h.2 with ⟨h', _⟩ | ⟨g, cap, cur, h', _, hg, _, _, hs, ht⟩
  · simp at h'
  · simp only [Value.slice.injEq, Option.some.injEq, Addr.mk.injEq, and_true, true_and] at h'
    obtain ⟨rfl, rfl⟩ := h'
    have e : cur = #[a, b] := by
      apply Array.toList_inj.1
      rw [← ht, List.take_of_length_le (by rw [Array.length_toList, hs]; exact Nat.le_refl _)]
    rw [hg, e]
theorem ownP.below {w w' : World} {B H C : Nat} {a b : Value} (h : ownP w B H a b) (hb : Below C w w') (hC : w.heap.size ≤ C) : ownP w' B H a b := own_below h hb hC
theorem ownP.alloc {w : World} {B H : Nat} {a b : Value} (h : ownP w B H a b) (o : Obj) : ownP (w.alloc o) B H a b := World.ownsRow.alloc h o
theorem ownP.put {w : World} {B H : Nat} {a b : Value} (h : ownP w B H a b) (x y : Value) : ownP ((w.setCell ⟨H, 0, none⟩ x).setCell ⟨H, 1, none⟩ y) B H x y ∧ w.grownBy ((w.setCell ⟨H, 0, none⟩ x).setCell ⟨H, 1, none⟩ y) (some H) := by
  obtain ⟨h1, g1⟩ := World.ownsRow.stored h 0 x
  obtain ⟨h2, g2⟩ := World.ownsRow.stored h1 1 y
  exact ⟨h2, g1.trans g2⟩
theorem ownP.facts {w : World} {B H : Nat} {a b : Value} (h : ownP w B H a b) : w.cell? ⟨H, 0, none⟩ = some a ∧ w.cell? ⟨H, 1, none⟩ = some b ∧ w.frozen? ⟨H, 0, none⟩ = false ∧ w.frozen? ⟨H, 1, none⟩ = false ∧ B ≤ H ∧ H < w.heap.size :=
  ⟨World.ownsRow.cellAt h 0 (by omega), World.ownsRow.cellAt h 1 (by omega), World.ownsRow.frozenAt h 0, World.ownsRow.frozenAt h 1, World.ownsRow.lt h H rfl⟩

set_option maxHeartbeats 1000000 in
theorem specParseAtom_any (s : ByteArray) (w : World) (hm : s.size ≤ 1048576) :
    Calls Tryd.prog 75 #[.string s] w fun e w' => e = .returned (.tuple #[.agg #[.int .i64 (paK s.data.toList), .string (bs (paT s.data.toList))], .bool (paOk s.data.toList)]) ∧ Below w.heap.size w w' := by
  have hl : s.data.toList.length = s.size := (bs_size' s).symm
  have b0 := (Below.refl w.heap.size w).alloc (Nat.le_refl _) (.cells #[.int .i64 0, .string ⟨#[]⟩] 97)
  have o0 := ownP_new w (.int .i64 0) (.string ⟨#[]⟩)
  have hK := Lib.hid (fun W => l5Kind_any s W hm)
  have hU : (bs (kindA s.data.toList).2).size ≤ 1048576 := by
    rw [bs_len]
    have : (kindA s.data.toList).2.length ≤ s.data.toList.length := kindA_len _
    omega
  have hP := Lib.hid (show paOk s.data.toList = (goodA (kindA s.data.toList).1 (kindA s.data.toList).2 && decide (fmtA (kindA s.data.toList).1 (kindA s.data.toList).2 = s.data.toList)) from rfl)
  have hY := Lib.hid (show paOk s.data.toList = true → paK s.data.toList = (kindA s.data.toList).1 ∧ paT s.data.toList = (kindA s.data.toList).2 from fun h => ⟨by rw [paK, h]; rfl, by rw [paT, h]; rfl⟩)
  generalize (kindA s.data.toList).1 = k at hK hP hY
  generalize (kindA s.data.toList).2 = u at hK hP hY hU
  have hG := Lib.hid (fun W => l5Good_any k (bs u) W (by unfold maxLen; omega))
  have hF := Lib.hid (fun W => l5Format_any k (bs u) W hU)
  rw [bs_toList] at hG hF
  rcases Bool.eq_false_or_eq_true (goodA k u) with g | g
  · have hq := beq_bs (fmtA k u) s
    by_cases e : fmtA k u = s.data.toList
    · have ok := Lib.hid (show paOk s.data.toList = true by rw [hP.out, g]; simpa using e)
      have hY2 := Lib.hid (hY.out ok.out)
      rw [show decide (fmtA k u = s.data.toList) = true by simpa using e] at hq
      rw [g] at hG
      clear g e hP hY
      go_enter Tryd.func75, Tryd.ntmps75
      go_wp2_with fail
      refine (hK.out _).mono ?_
      rintro e w1 ⟨rfl, hb1⟩
      have b1 := b0.trans (hb1.mono (by simp))
      have o1 := o0.below hb1 (Nat.le_refl _)
      have hlt := o1.facts.2.2.2.2.2
      have b1a := b1.alloc b1.size (.cells #[.int .i64 k, .string (bs u)] 97)
      have oA := ownP_new w1 (.int .i64 k) (.string (bs u))
      go_wp2_with fail
      refine (hG.out _).mono ?_
      rintro e w2 ⟨rfl, hb2⟩
      have b2 := b1a.trans (hb2.mono b1a.size)
      have o2 := (o1.alloc _).below hb2 (Nat.le_refl _)
      have oA2 := oA.below hb2 (Nat.le_refl _)
      obtain ⟨a0, a1, a2, a3, a4, a5⟩ := oA2.facts
      go_wp2_with fail
      refine (hF.out _).mono ?_
      rintro e w3 ⟨rfl, hb3⟩
      have b3 := b2.trans (hb3.mono b2.size)
      have o3 := o2.below hb3 (Nat.le_refl _)
      have oA3 := oA2.below hb3 (Nat.le_refl _)
      clear a0 a1 a2 a3 a4 a5 o0 o1 o2 oA oA2
      obtain ⟨a0, a1, a2, a3, a4, a5⟩ := oA3.facts
      obtain ⟨oE, gE⟩ := o3.put (.int .i64 k) (.string (bs u))
      have oE := Lib.hid oE
      have gE := Lib.hid gE
      obtain ⟨d0, d1, d2, d3, d4, d5⟩ := o3.facts
      go_wp2
      refine endp rfl _ _ _ w.heap.size (0, 0) k (bs u) true rfl rfl rfl oE.out.heap ⟨by rw [hY2.out.1, hY2.out.2, ok.out], b3.grown gE.out b3.size (fun q e => by injection e with e; omega)⟩
    · have ok := Lib.hid (show paOk s.data.toList = false by rw [hP.out, g]; simpa using e)
      have hY2 := Lib.hid (pa_no ok.out)
      rw [show decide (fmtA k u = s.data.toList) = false by simpa using e] at hq
      rw [g] at hG
      clear g e hP hY
      go_enter Tryd.func75, Tryd.ntmps75
      go_wp2_with fail
      refine (hK.out _).mono ?_
      rintro e w1 ⟨rfl, hb1⟩
      have b1 := b0.trans (hb1.mono (by simp))
      have o1 := o0.below hb1 (Nat.le_refl _)
      have hlt := o1.facts.2.2.2.2.2
      have b1a := b1.alloc b1.size (.cells #[.int .i64 k, .string (bs u)] 97)
      have oA := ownP_new w1 (.int .i64 k) (.string (bs u))
      go_wp2_with fail
      refine (hG.out _).mono ?_
      rintro e w2 ⟨rfl, hb2⟩
      have b2 := b1a.trans (hb2.mono b1a.size)
      have o2 := (o1.alloc _).below hb2 (Nat.le_refl _)
      have oA2 := oA.below hb2 (Nat.le_refl _)
      obtain ⟨a0, a1, a2, a3, a4, a5⟩ := oA2.facts
      go_wp2_with fail
      refine (hF.out _).mono ?_
      rintro e w3 ⟨rfl, hb3⟩
      have b3 := b2.trans (hb3.mono b2.size)
      have o3 := o2.below hb3 (Nat.le_refl _)
      have oA3 := oA2.below hb3 (Nat.le_refl _)
      clear a0 a1 a2 a3 a4 a5 o0 o1 o2 oA oA2
      obtain ⟨a0, a1, a2, a3, a4, a5⟩ := oA3.facts
      obtain ⟨oE, gE⟩ := o3.put (.int .i64 0) (.string ⟨#[]⟩)
      have oE := Lib.hid oE
      have gE := Lib.hid gE
      obtain ⟨d0, d1, d2, d3, d4, d5⟩ := o3.facts
      go_wp2
      refine endp rfl _ _ _ w.heap.size (0, 0) 0 ⟨#[]⟩ false rfl rfl rfl oE.out.heap ⟨by rw [hY2.out.1, hY2.out.2, ok.out]; rfl, b3.grown gE.out b3.size (fun q e => by injection e with e; omega)⟩
  · have ok := Lib.hid (show paOk s.data.toList = false by rw [hP.out, g]; rfl)
    have hY2 := Lib.hid (pa_no ok.out)
    rw [g] at hG
    clear g hP hY
    go_enter Tryd.func75, Tryd.ntmps75
    go_wp2_with fail
    refine (hK.out _).mono ?_
    rintro e w1 ⟨rfl, hb1⟩
    have b1 := b0.trans (hb1.mono (by simp))
    have o1 := o0.below hb1 (Nat.le_refl _)
    have b1a := b1.alloc b1.size (.cells #[.int .i64 k, .string (bs u)] 97)
    go_wp2_with fail
    refine (hG.out _).mono ?_
    rintro e w2 ⟨rfl, hb2⟩
    have b2 := b1a.trans (hb2.mono b1a.size)
    have o2 := (o1.alloc _).below hb2 (Nat.le_refl _)
    obtain ⟨oE, gE⟩ := o2.put (.int .i64 0) (.string ⟨#[]⟩)
    have oE := Lib.hid oE
    have gE := Lib.hid gE
    obtain ⟨d0, d1, d2, d3, d4, d5⟩ := o2.facts
    go_wp2
    refine endp rfl _ _ _ w.heap.size (0, 0) 0 ⟨#[]⟩ false rfl rfl rfl oE.out.heap ⟨by rw [hY2.out.1, hY2.out.2, ok.out]; rfl, b2.grown gE.out b2.size (fun q e => by injection e with e; omega)⟩

/-- The two candidates of a kind: their text. -/
def candT (s : List UInt8) (j : Nat) : List UInt8 := if j = 0 then trA s else []
set_option maxHeartbeats 2000000 in
theorem implParseAtom_any (s : ByteArray) (w : World) (hm : s.size ≤ 1048576) :
    Calls Tryd.prog 82 #[.string s] w fun e w' => e = .returned (.tuple #[.agg #[.int .i64 (paK s.data.toList), .string (bs (paT s.data.toList))], .bool (paOk s.data.toList)]) ∧ Below w.heap.size w w' := by
  have hl : s.data.toList.length = s.size := (bs_size' s).symm
  have b0 := (Below.refl w.heap.size w).alloc (Nat.le_refl _) (.cells #[.int .i64 0, .string ⟨#[]⟩] 97)
  have o0 := ownP_new w (.int .i64 0) (.string ⟨#[]⟩)
  have hT := Lib.hid (trim_any s (w.alloc (.cells #[.int .i64 0, .string ⟨#[]⟩] 97)) hm)
  by_cases h24 : 24 < s.size
  · have ok := Lib.hid (pa_long (s := s.data.toList) (by omega))
    have hY2 := Lib.hid (pa_no ok.out)
    go_enter Tryd.func82, Tryd.ntmps82
    go_wp2_with fail
    refine hT.out.mono ?_
    rintro e w1 ⟨rfl, hb1⟩
    have b1 := b0.trans (hb1.mono (by simp))
    have o1 := o0.below hb1 (Nat.le_refl _)
    obtain ⟨oE, gE⟩ := o1.put (.int .i64 0) (.string ⟨#[]⟩)
    have oE := Lib.hid oE
    have gE := Lib.hid gE
    obtain ⟨d0, d1, d2, d3, d4, d5⟩ := o1.facts
    go_wp2
    refine endp rfl _ _ _ w.heap.size (0, 0) 0 ⟨#[]⟩ false rfl rfl rfl oE.out.heap ⟨by rw [hY2.out.1, hY2.out.2, ok.out]; rfl, b1.grown gE.out b1.size (fun q e => by injection e with e; omega)⟩
  · have hTl : (bs (trA s.data.toList)).size ≤ 1048576 := by rw [bs_len]; have := trA_len s.data.toList; omega
    have hF0 := Lib.hid (fun (k : Int) (W : World) => implFormatAtom_any k (bs (trA s.data.toList)) W hTl)
    have hF1 := Lib.hid (fun (k : Int) (W : World) => implFormatAtom_any k (bs []) W (by rw [bs_len]; simp))
    rw [bs_toList] at hF0 hF1
    have hEnd := Lib.hid (fun h => cand_none (s := s.data.toList) h)
    go_enter Tryd.func82, Tryd.ntmps82
    go_wp2_with fail
    refine hT.out.mono ?_
    rintro e w1 ⟨rfl, hb1⟩
    have b1 := b0.trans (hb1.mono (by simp))
    have o1 := o0.below hb1 (Nat.le_refl _)
    have hlt := o1.facts.2.2.2.2.2
    go_wp2
    go_loopw [5, 7, 8, 9] (fun x _ _ _ wr => ∃ k : Nat, 1 ≤ k ∧ k ≤ 11 ∧ x = .int .i64 k ∧ Hid (candNo s.data.toList k) ∧ ownP wr w.heap.size w.heap.size (.int .i64 0) (.string ⟨#[]⟩) ∧ Below w.heap.size w wr) (fun x _ _ _ _ => 11 - (intOf x).toNat)
    case atStart => exact ⟨1, by omega, by omega, rfl, candNo_one _, o1, b1⟩
    case round =>
      obtain ⟨k, hk1, hk2, rfl, hno, hown, hbel⟩ := hrel
      by_cases hk : k < 11
      · have oc := World.ownsRow_lit wr #[.int .i64 k, .string (bs (trA s.data.toList)), .int .i64 k, .string (bs [])] 2 (e := 97) (size := 2) (Nat.le_refl _) (by unfold maxLen; omega) rfl
        have oc := Lib.hid oc
        have hsz := hbel.size
        have hbA := hbel.alloc hsz (.cells #[.int .i64 k, .string (bs (trA s.data.toList)), .int .i64 k, .string (bs [])] 97)
        have hoA := hown.alloc (.cells #[.int .i64 k, .string (bs (trA s.data.toList)), .int .i64 k, .string (bs [])] 97)
        rename World => wo
        go_wp2
        go_loopw [27, 7, 8, 9] (fun x _ _ _ wr => ∃ j : Nat, j ≤ 2 ∧ x = .int .i64 j ∧ Hid (∀ i, i < j → candB s.data.toList k (candT s.data.toList i) = false) ∧ Hid (wr.ownsRow wo.heap.size 97 2 (.slice (some ⟨wo.heap.size, 0, none⟩) 2 2) 2 [.int .i64 k, .string (bs (trA s.data.toList)), .int .i64 k, .string (bs [])]) ∧ ownP wr w.heap.size w.heap.size (.int .i64 0) (.string ⟨#[]⟩) ∧ Below w.heap.size w wr) (fun x _ _ _ _ => 2 - (intOf x).toNat)
        case atStart => exact ⟨0, by omega, rfl, fun i hi => by omega, oc, hoA, hbA⟩
        case round =>
          obtain ⟨j, hj, rfl, hnj, hoc, hown2, hbel2⟩ := hrel
          have hsz2 := hbel2.size
          by_cases hj2 : j < 2
          · have hcf : wr.cell? ⟨wo.heap.size, j * 2, none⟩ = some (.int .i64 k) ∧ wr.cell? ⟨wo.heap.size, j * 2 + 1, none⟩ = some (.string (bs (candT s.data.toList j))) ∧ wo.heap.size < wr.heap.size := by
              have h1 := hoc.out.cellAt (j * 2) (by omega)
              have h2 := hoc.out.cellAt (j * 2 + 1) (by omega)
              refine ⟨h1.trans ?_, h2.trans ?_, (hoc.out.lt _ rfl).2⟩
              · match j, hj2 with
                | 0, _ => rfl
                | 1, _ => rfl
              · match j, hj2 with
                | 0, _ => rfl
                | 1, _ => rfl
            obtain ⟨hc1, hc2, hlc⟩ := hcf
            have hF : Hid (∀ W : World, Calls Tryd.prog 95 #[.agg #[.int .i64 k, .string (bs (candT s.data.toList j))]] W fun e w' => e = .returned (.tuple #[.string (bs (faR k (candT s.data.toList j))), .bool (goodA k (candT s.data.toList j))]) ∧ Below W.heap.size W w') := by
              match j, hj2 with
              | 0, _ => exact Lib.hid (hF0.out k)
              | 1, _ => exact Lib.hid (hF1.out k)
            have hstep : candB s.data.toList k (candT s.data.toList j) = false → Hid (∀ i, i < j + 1 → candB s.data.toList k (candT s.data.toList i) = false) := fun h i hi => by
              by_cases e : i = j
              · subst e; exact h
              · exact hnj.out i (by omega)
            generalize candT s.data.toList j = T at hc2 hF hstep
            have hq := beq_bs (faR k T) s
            have hC := Lib.hid (show candB s.data.toList k T = (goodA k T && decide (fmtA k T = s.data.toList)) from rfl)
            have oA := ownP_new wr (.int .i64 k) (.string (bs T))
            have hbelA := hbel2.alloc hsz2 (.cells #[.int .i64 k, .string (bs T)] 97)
            have hownA := hown2.alloc (.cells #[.int .i64 k, .string (bs T)] 97)
            have hocA := Lib.hid (hoc.out.alloc (.cells #[.int .i64 k, .string (bs T)] 97))
            have hHlt := hown2.facts.2.2.2.2.2
            rcases Bool.eq_false_or_eq_true (goodA k T) with g | g
            · have hR := Lib.hid (faR_yes g)
              have hC2 := Lib.hid (hC.out.trans (by rw [g, Bool.true_and]))
              have hs2 := Lib.hid hstep
              clear hstep hC
              rw [g] at hF
              clear g
              rcases Bool.eq_false_or_eq_true (decide (faR k T = s.data.toList)) with d | d
              · have hh := Lib.hid (cand_hit (hC2.out.trans (by rw [← hR.out]; exact d)))
                rw [d] at hq
                clear d hs2 hC2
                go_wp2_with fail
                refine (hF.out _).mono ?_
                rintro e w4 ⟨rfl, hb4⟩
                have b4 := hbelA.trans (hb4.mono hbelA.size)
                have o4 := hownA.below hb4 (Nat.le_refl _)
                have oA4 := oA.below hb4 (Nat.le_refl _)
                obtain ⟨oE, gE⟩ := o4.put (.int .i64 k) (.string (bs T))
                have oE := Lib.hid oE
                have gE := Lib.hid gE
                obtain ⟨a0, a1, a2, a3, a4, a5⟩ := oA4.facts
                obtain ⟨d0, d1, d2, d3, d4, d5⟩ := o4.facts
                go_wp2
                refine endp rfl _ _ _ w.heap.size (0, 0) k (bs T) true rfl rfl rfl oE.out.heap ⟨by rw [hh.out.1, hh.out.2.1, hh.out.2.2], b4.grown gE.out b4.size (fun q e => by injection e with e; omega)⟩
              · have hn := hs2.out (hC2.out.trans (by rw [← hR.out]; exact d))
                rw [d] at hq
                clear d hs2 hC2
                go_wp2_with fail
                refine (hF.out _).mono ?_
                rintro e w4 ⟨rfl, hb4⟩
                have b4 := hbelA.trans (hb4.mono hbelA.size)
                have o4 := hownA.below hb4 (Nat.le_refl _)
                have oc4 := Lib.hid (own_below hocA.out hb4 (Nat.le_refl _))
                go_wp2
                go_roundw
                case rel => exact ⟨j + 1, by omega, by go_num, hn, oc4, o4, b4⟩
                case measure => simp [intOf]; omega
            · have hn := hstep (hC.out.trans (by rw [g]; rfl))
              clear hstep hC
              rw [g] at hF
              clear g
              go_wp2_with fail
              refine (hF.out _).mono ?_
              rintro e w4 ⟨rfl, hb4⟩
              have b4 := hbelA.trans (hb4.mono hbelA.size)
              have o4 := hownA.below hb4 (Nat.le_refl _)
              have oc4 := Lib.hid (own_below hocA.out hb4 (Nat.le_refl _))
              go_wp2
              go_roundw
              case rel => exact ⟨j + 1, by omega, by go_num, hn, oc4, o4, b4⟩
              case measure => simp [intOf]; omega
          · obtain rfl : j = 2 := by omega
            have hn := Lib.hid (candNo_succ hno.out (hnj.out 0 (by omega)) (hnj.out 1 (by omega)))
            go_wp2
            go_roundw
            case rel => exact ⟨k + 1, by omega, by omega, by go_num, hn, hown2, hbel2⟩
            case measure => simp [intOf]; omega
      · obtain rfl : k = 11 := by omega
        have ok := Lib.hid (hEnd.out (fun j h1 h2 => hno.out j h1 h2))
        have hY2 := Lib.hid (pa_no ok.out)
        obtain ⟨oE, gE⟩ := hown.put (.int .i64 0) (.string ⟨#[]⟩)
        have oE := Lib.hid oE
        have gE := Lib.hid gE
        obtain ⟨d0, d1, d2, d3, d4, d5⟩ := hown.facts
        have bsz := hbel.size
        go_wp2
        refine endp rfl _ _ _ w.heap.size (0, 0) 0 ⟨#[]⟩ false rfl rfl rfl oE.out.heap ⟨by rw [hY2.out.1, hY2.out.2, ok.out]; rfl, hbel.grown gE.out hbel.size (fun q e => by injection e with e; omega)⟩
end Go.Proofs.YtnpiljkchjdpfaaDoor
