/- Words for memory, with no program in sight: the cells of a slice that is read; a slice of the call's own. No condition. -/
import Derived.WalkKit
import Derived.Below
import Derived.Laws.OwnMore
import Derived.Deep.AppendLies
import Derived.Deep.Draws
namespace Go.Proofs.YtnpiljkchjdpfaaDoor
open Go.RowKit

/-- The cells cs lie at the address A, in a block below B. -/
def Row (w : World) (B : Nat) (A : Option Addr) (cs : List Value) : Prop :=
  cs ≠ [] → ∃ b off, A = some ⟨b, off, none⟩ ∧ b < B ∧ ∀ j u, cs[j]? = some u → w.cell? ⟨b, off + j, none⟩ = some u

section
variable {w w' : World} {B B' : Nat} {A : Option Addr} {cs : List Value}
theorem Row.nil : Row w B A [] := fun h => absurd rfl h
theorem Row.keep (h : Row w B A cs) (hk : ∀ p : Addr, p.block < B → w'.cell? p = w.cell? p) : Row w' B A cs := fun hne => by
  obtain ⟨b, off, e, hb, hc⟩ := h hne
  exact ⟨b, off, e, hb, fun j u hu => (hk _ hb).trans (hc j u hu)⟩
theorem Row.mono (h : Row w B A cs) (hB : B ≤ B') : Row w B' A cs := fun hne => by
  obtain ⟨b, off, e, hb, hc⟩ := h hne
  exact ⟨b, off, e, by omega, hc⟩
theorem Row.below (h : Row w B A cs) (hb : Below B w w') : Row w' B A cs := h.keep fun _ hp => hb.cell hp
theorem Row.below_le (h : Row w B A cs) (hb : Below B' w w') (hB : B ≤ B') : Row w' B A cs := h.keep fun _ hp => hb.cell (by omega)
theorem Row.grown (h : Row w B A cs) {row : Option Nat} (hg : w.grownBy w' row) (hB : B ≤ w.heap.size) (hr : ∀ g, row = some g → B ≤ g) : Row w' B A cs :=
  h.keep fun p hp => World.cell?_of_block (hg.block p.block (by omega) (fun e => by have := hr _ e.symm; omega))
theorem Row.drop (h : Row w B A cs) (k : Nat) : Row w B (A.map fun a => a.add k) (cs.drop k) := fun hne => by
  have hne' : cs ≠ [] := fun e => hne (by rw [e]; simp)
  obtain ⟨b, off, rfl, hb, hc⟩ := h hne'
  refine ⟨b, off + k, ?_, hb, fun j u hu => ?_⟩
  · simp [Addr.add]
  · rw [Nat.add_assoc]; exact hc _ u (by rw [← hu, List.getElem?_drop])
theorem Row.take (h : Row w B A cs) (k : Nat) : Row w B A (cs.take k) := fun hne => by
  have hne' : cs ≠ [] := fun e => hne (by rw [e]; simp)
  obtain ⟨b, off, rfl, hb, hc⟩ := h hne'
  refine ⟨b, off, rfl, hb, fun j u hu => hc j u ?_⟩
  rw [List.getElem?_take] at hu
  split at hu
  · exact hu
  · cases hu
/-- An owned row is read. -/
theorem Row.of_own {base : Nat} {e : TypeId} {size n c : Nat} (h : w.ownsRow base e size (.slice A n c) n cs) : Row w w.heap.size A cs := fun hne => by
  rcases h.2 with ⟨e1, e2⟩ | ⟨g, cap, cur, e1, hb, hg, hnc, hcm, hcs, htake⟩
  · have := h.1
    subst e2
    exact absurd (List.eq_nil_of_length_eq_zero (by omega)) hne
  · injection e1 with e1
    subst e1
    refine ⟨g, 0, rfl, ?_, fun j u hu => ?_⟩
    · rcases Nat.lt_or_ge g w.heap.size with hlt | hge
      · exact hlt
      · rw [Array.getElem?_eq_none hge] at hg; cases hg
    · rw [cell_of_row w g _ cur e (0, 0) hg]
      rw [← htake, List.getElem?_take] at hu
      split at hu
      · simpa using hu
      · cases hu
end

/-- A slice value of the call's own (its block at least 'base'): n elements of 'size' cells each, of type e, the cells cs. -/
def Owns (w : World) (base : Nat) (e : TypeId) (size : Nat) (v : Value) (n : Nat) (cs : List Value) : Prop := w.ownsRow base e size v n cs

theorem below_drewN {B : Nat} {a w : World} (h : Below B a w) (n : Nat) : Below B a (w.drewN n) := ⟨h.os, h.tape, h.output, h.size, h.block⟩
theorem only_drewN' (w : World) {row : Option Nat} (n : Nat) : w.grownBy (w.drewN n) row := ⟨rfl, rfl, rfl, Nat.le_refl _, fun _ _ _ => rfl⟩
theorem own_drewN {w : World} {base : Nat} {e : TypeId} {size : Nat} {v : Value} {n : Nat} {cs : List Value} (h : w.ownsRow base e size v n cs) (k : Nat) : (w.drewN k).ownsRow base e size v n cs := h
theorem own_slice {w : World} {base : Nat} {e : TypeId} {size : Nat} {v : Value} {n : Nat} {cs : List Value} (h : w.ownsRow base e size v n cs) : ∃ A c, v = .slice A n c ∧ n ≤ c := by
  rcases h.2 with ⟨e1, e2⟩ | ⟨g, cap, cur, e1, hb, hg, hnc, hcm, hcs, htake⟩
  · exact ⟨none, 0, by rw [e1, e2], by omega⟩
  · exact ⟨_, _, e1, hnc⟩
theorem own_below {w w' : World} {B base : Nat} {e : TypeId} {size : Nat} {v : Value} {n : Nat} {cs : List Value} (h : w.ownsRow base e size v n cs) (hb : Below B w w') (hB : w.heap.size ≤ B) : w'.ownsRow base e size v n cs := by
  refine ⟨h.1, ?_⟩
  rcases h.2 with hn | ⟨g, cap, cur, rfl, hbb, hgg, rest⟩
  · exact .inl hn
  · refine .inr ⟨g, cap, cur, rfl, hbb, ?_, rest⟩
    rw [hb.block g (Nat.lt_of_lt_of_le (Array.getElem?_eq_some_iff.1 hgg).1 hB)]
    exact hgg
theorem own_base {w : World} {base base' : Nat} {e : TypeId} {size : Nat} {v : Value} {n : Nat} {cs : List Value} (h : w.ownsRow base e size v n cs) (hB : base' ≤ base) : w.ownsRow base' e size v n cs := by
  refine ⟨h.1, ?_⟩
  rcases h.2 with hn | ⟨g, cap, cur, rfl, hbb, hgg, rest⟩
  · exact .inl hn
  · exact .inr ⟨g, cap, cur, rfl, by omega, hgg, rest⟩

theorem bcell {W w1 : World} (hb : Below W.heap.size W w1) : ∀ b o, b < W.heap.size → w1.cell? ⟨b, o, none⟩ = W.cell? ⟨b, o, none⟩ := fun b o h => hb.cell (p := ⟨b, o, none⟩) h
/-- What is read below B stays, when a row of the call's own from 'base' on is written. -/
theorem Row.marked {w w' : World} {B base : Nat} {A : Option Addr} {cs xs : List Value} {e : TypeId} {size n : Nat} {v : Value} (h : Row w B A cs) (ho : w.ownsRow base e size v n xs) (hg : w.grownBy w' v.ownBlock) (hB : B ≤ base) (hw : B ≤ w.heap.size) : Row w' B A cs :=
  h.grown hg hw fun g e => by have := (ho.lt g e).1; omega
theorem below_marked {w0 w w' : World} {B base : Nat} {xs : List Value} {e : TypeId} {size n : Nat} {v : Value} (h : Below B w0 w) (ho : w.ownsRow base e size v n xs) (hg : w.grownBy w' v.ownBlock) (hB : B ≤ base) (hw : B ≤ w.heap.size) : Below B w0 w' :=
  h.grown hg hw fun g e => by have := (ho.lt g e).1; omega

/-- A local struct's cell, behind an append onto a row that was there before it. -/
theorem cell_var {w w' : World} {cs : Array Value} {e : TypeId} {base : Nat} {e' : TypeId} {size n : Nat} {v : Value} {xs : List Value} (ho : w.ownsRow base e' size v n xs) (hg : (w.alloc (.cells cs e)).grownBy w' v.ownBlock) (j : Nat) {u : Value} (hu : cs[j]? = some u) : w'.cell? ⟨w.heap.size, j, none⟩ = some u := by
  refine hg.cell ?_ ?_
  · rw [cell_of_row _ w.heap.size j cs e (0, 0) (heap_alloc_new w _)]
    exact hu
  · intro h
    have := (ho.lt w.heap.size h.symm).2
    omega

/-- A slice type and its element's row of the table. -/
structure ElemT (P : Program) (t e : TypeId) (z : Value) (size bytes : Nat) : Prop where
  under : P.underlying t = some (.slice e)
  info : (P.info? e).map (fun i => (i.zero, i.size, i.bytes)) = some (some z, size, bytes)
  cells : z.cells.size = size
  pos : 0 < size

section
variable {P : Program}
/-- 'append(s, x)' at elements of one cell, onto a row of the call's own. -/
theorem wpList_app1 {ops : Array Oper} {rest : List Oper} {o : Oper} {a : Act} {Q : Exit → Act → World → Prop} {w0 w : World} {B base : Nat} {t e : TypeId} {z : Value} {bytes : Nat} {v : Value} {n : Nat} {xs : List Value} (x : Value)
    (hT : ElemT P t e z 1 bytes) (hbel : Below B w0 w) (hown : w.ownsRow base e 1 v n xs) (hone : x.oneCell' = true) (hB : B ≤ base) (hw : base ≤ w.heap.size) (h63 : n < 1099511627776) (hbytes : bytes ≤ 64)
    (hgd : o.guard = none) (s y : Operand) (ho : o.op = .call { callee := .builtin .append, args := #[s, y], argTypes := #[t, t] })
    (hs : a.eval s = v) (hx : a.eval y = .slice (some ⟨w.heap.size, 0, none⟩) 1 1)
    (h : ∀ v' w', w'.ownsRow base e 1 v' (n + 1) (xs ++ [x]) → Below B w0 w' → w.grownBy w' v.ownBlock → (v'.ownBlock = v.ownBlock ∨ v'.ownBlock = some (w.heap.size + 1)) → wpList P ops Q rest (a.put o.dst v') w') :
    wpList P ops Q (o :: rest) a (w.alloc (.cells #[x] e)) := by
  obtain ⟨i, hi, hz, hsz, hby⟩ := info_parts hT.info
  have hbm : (n + 1) * bytes ≤ (n + 1) * 64 := Nat.mul_le_mul_left _ hbytes
  refine wpList_append_own_at _ hgd s y t ho base e i z 1 bytes hT.under hi hz hsz hby hT.cells (by omega) v n xs hs (hown.alloc _) ⟨w.heap.size, 0, none⟩ 1 1 [x] hx (by simp) (cell_one_new _ _ _) ?_ (by unfold maxLen; omega) (by omega) (by simp; omega) ?_
  · intro u hu
    simp at hu
    subst hu
    exact hone
  · intro v' w' hown' hg _ hat
    refine h v' w' hown' ?_ ?_ (by simpa using hat)
    · exact (hbel.alloc (by omega) _).grown hg (by simp; omega) (fun k hk => by have := (hown.lt k hk).1; omega)
    · exact (World.grownBy_alloc w _ _).trans hg
/-- The same, the number of the new element's block as the walk has written it. -/
theorem wpList_app1H {ops : Array Oper} {rest : List Oper} {o : Oper} {a : Act} {Q : Exit → Act → World → Prop} {w0 w : World} {B base : Nat} {t e : TypeId} {z : Value} {bytes : Nat} {v : Value} {n : Nat} {xs : List Value} (x : Value)
    (hT : ElemT P t e z 1 bytes) (hbel : Below B w0 w) (hown : w.ownsRow base e 1 v n xs) (hone : x.oneCell' = true) (hB : B ≤ base) (hw : base ≤ w.heap.size) (h63 : n < 1099511627776) (hbytes : bytes ≤ 64)
    (hgd : o.guard = none) (s y : Operand) (ho : o.op = .call { callee := .builtin .append, args := #[s, y], argTypes := #[t, t] })
    (H : Nat) (hH : w.heap.size = H) (hs : a.eval s = v) (hx : a.eval y = .slice (some ⟨H, 0, none⟩) 1 1)
    (h : ∀ v' w', w'.ownsRow base e 1 v' (n + 1) (xs ++ [x]) → Below B w0 w' → w.grownBy w' v.ownBlock → (v'.ownBlock = v.ownBlock ∨ v'.ownBlock = some (H + 1)) → wpList P ops Q rest (a.put o.dst v') w') :
    wpList P ops Q (o :: rest) a (w.alloc (.cells #[x] e)) := by
  subst hH
  exact wpList_app1 x hT hbel hown hone hB hw h63 hbytes hgd s y ho hs hx h
end

section
variable {P : Program}
/-- 'make([]T, n)'. -/
theorem run_make_len {t e : TypeId} {z : Value} {size bytes : Nat} (hT : ElemT P t e z size bytes) (n : Nat) (hn : n ≤ 1099511627776) (hb : bytes ≤ 64) (w : World) :
    (Instr.makeSlice t (.int .i64 (n : Int)) (.int .i64 (n : Int))).run P w = .ok (.slice (some ⟨w.heap.size, 0, none⟩) n n) (w.alloc (.cells (madeCells z.cells (n * size)) e)) := by
  obtain ⟨i, hi, hz, hsz, hby⟩ := info_parts hT.info
  subst hsz
  have hbm : i.bytes * n ≤ 64 * n := Nat.mul_le_mul_right _ (by omega)
  have h : ((i.bytes * n : Nat) : Int) ≤ 281474976710656 := by omega
  have hr := run_make (P := P) w t e i z hT.under hi hz .i64 .i64 n n (by omega) (by omega) (by rwa [Int.natCast_mul] at h) (by omega)
  simp only [Int.toNat_natCast] at hr
  exact hr
theorem own_made (w : World) (e : TypeId) (z : Value) (n : Nat) (hn : n ≤ 1099511627776) : (w.alloc (.cells (madeCells #[z] n) e)).ownsRow w.heap.size e 1 (.slice (some ⟨w.heap.size, 0, none⟩) n n) n (List.replicate n z) := by
  have h := World.ownsRow_lit (base := w.heap.size) (e := e) (size := 1) w (madeCells #[z] n) n (Nat.le_refl _) (by unfold maxLen; omega) (by rw [size_madeCells]; omega)
  rw [toList_madeCells_one] at h
  exact h
end

/-- The element k (kept whole from the walk's simp). -/
def elt (xs : List Int) (k : Nat) : Int := xs.getD k 0
/-- A row that was made behind another one stays, when that one is written. -/
theorem own_apart {w w' w0 : World} {base' : Nat} {e e' : TypeId} {size size' : Nat} {v v' : Value} {n n' : Nat} {xs xs' : List Value} (h : w.ownsRow w0.heap.size e size v n xs)
    (ho : w0.ownsRow base' e' size' v' n' xs') (hg : w.grownBy w' v'.ownBlock) : w'.ownsRow w0.heap.size e size v n xs :=
  h.kept hg (by
    cases hv : v.ownBlock with
    | none => exact Or.inl rfl
    | some k =>
      right
      intro e
      have h1 := (h.lt k hv).1
      have h2 := (ho.lt k e.symm).2
      omega)

/-- The cells of a list of integers. -/
def ints (xs : List Int) : List Value := xs.map (Value.int .i64)
theorem elt_in (xs : List Int) (k : Nat) (h : k < xs.length) : elt xs k ∈ xs := by simp [elt, h]
theorem ints_length (xs : List Int) : (ints xs).length = xs.length := by simp [ints]
theorem ints_get (xs : List Int) (k : Nat) (h : k < xs.length) : (ints xs)[k]? = some (.int .i64 (elt xs k)) := by
  simp [ints, elt, h]
theorem ints_snoc (xs : List Int) (x : Int) : ints (xs ++ [x]) = ints xs ++ [.int .i64 x] := by simp [ints]
theorem take_int (xs : List Int) (k : Nat) (h : k < xs.length) : xs.take (k + 1) = xs.take k ++ [elt xs k] := by
  rw [List.take_succ_eq_append_getElem h]; simp [elt, h]
theorem ints_set_rep (xs : List Int) (k : Nat) (hk : k < xs.length) (z : Value) : (ints (xs.take k) ++ List.replicate (xs.length - k) z).set k (.int .i64 (elt xs k)) = ints (xs.take (k + 1)) ++ List.replicate (xs.length - (k + 1)) z := by
  have h1 : (ints (xs.take k)).length = k := by simp [ints]; omega
  rw [List.set_append_right _ _ (by omega), h1, Nat.sub_self, show xs.length - k = (xs.length - (k + 1)) + 1 by omega, List.replicate_succ, List.set_cons_zero, take_int xs k hk, ints_snoc]
  simp
theorem Row.int {w : World} {B : Nat} {A : Option Addr} {xs : List Int} (h : Row w B A (ints xs)) {k : Nat} (hk : k < xs.length) :
    ∃ b off, A = some ⟨b, off, none⟩ ∧ b < B ∧ w.cell? ⟨b, off + k, none⟩ = some (.int .i64 (elt xs k)) := by
  obtain ⟨b, off, e, hb, hc⟩ := h (fun e => by have := ints_length xs; rw [e] at this; simp at this; omega)
  exact ⟨b, off, e, hb, hc k _ (ints_get xs k hk)⟩
/-- What a slice of integers that came in gives. -/
theorem row_of_in {k : IntKind} {w : World} {a : Option Addr} {len cap : Nat} {zs : List Int}
    (h : (a = none ∧ len = 0 ∧ cap = 0 ∧ zs = []) ∨ ∃ x, a = some x ∧ len ≤ cap ∧ cap ≤ maxLen ∧ zs.length = cap ∧ (∀ i, i < zs.length → w.cell? (x.add i) = some (.int k (zs.getD i 0))) ∧ ∀ n ∈ zs, (Lit.int k n).wf = true) :
    Row w w.heap.size a ((zs.take len).map (Value.int k)) ∧ (zs.take len).length = len ∧ len ≤ maxLen ∧ ∀ n ∈ zs.take len, (Lit.int k n).wf = true := by
  rcases h with ⟨rfl, rfl, rfl, rfl⟩ | ⟨x, rfl, h1, h2, h3, h4, h5⟩
  · exact ⟨by simpa using Row.nil, rfl, by omega, by simp⟩
  · refine ⟨fun hne => ?_, by simp; omega, by omega, fun n hn => h5 n (List.mem_of_mem_take hn)⟩
    have hl : 0 < len := by
      rcases Nat.eq_zero_or_pos len with h0 | h0
      · subst h0; simp at hne
      · exact h0
    have hc0 := h4 0 (by omega)
    obtain ⟨b, off, s⟩ := x
    have hs : s = none := by
      cases s with
      | none => rfl
      | some u =>
        simp [Addr.add, World.cell?] at hc0
        split at hc0 <;> cases hc0
    subst hs
    have hadd : ∀ i, (⟨b, off, none⟩ : Addr).add i = ⟨b, off + i, none⟩ := fun i => by unfold Addr.add; split <;> simp_all
    refine ⟨b, off, rfl, ?_, fun j u hu => ?_⟩
    · rw [hadd] at hc0
      exact World.block_lt_of_cell? w _ hc0
    · rw [List.getElem?_map, List.getElem?_take] at hu
      split at hu
      · rename_i hj
        rw [← hadd, h4 j (by omega)]
        simp only [Option.map_eq_some_iff] at hu
        obtain ⟨z, hz, rfl⟩ := hu
        simp [List.getD, hz]
      · simp at hu

theorem app_set {α : Type} (a b : List α) (k i : Nat) (v : α) (h : a.length = k) : (a ++ b).set (k + i) v = a ++ b.set i v := by
  rw [List.set_append_right _ _ (by omega), show k + i - a.length = i by omega]
theorem app_set0 {α : Type} (a b : List α) (k : Nat) (v : α) (h : a.length = k) : (a ++ b).set k v = a ++ b.set 0 v := app_set a b k 0 v h

/-! Elements of several cells. -/
section
variable {α : Type} (f : α → List Value) (s : Nat)
def rows (l : List α) : List Value := l.flatMap f
theorem rows_length (hf : ∀ a, (f a).length = s) (l : List α) : (rows f l).length = l.length * s := by
  induction l with
  | nil => simp [rows]
  | cons a l ih =>
    have e : rows f (a :: l) = f a ++ rows f l := rfl
    rw [e, List.length_append, hf, ih, List.length_cons, Nat.add_mul]
    omega
theorem rows_snoc (l : List α) (a : α) : rows f (l ++ [a]) = rows f l ++ f a := by simp [rows]
theorem rows_append (l r : List α) : rows f (l ++ r) = rows f l ++ rows f r := by simp [rows]
theorem rows_get (hf : ∀ a, (f a).length = s) (l : List α) (j i : Nat) (a : α) (ha : l[j]? = some a) (hi : i < s) : (rows f l)[j * s + i]? = (f a)[i]? := by
  induction l generalizing j with
  | nil => simp at ha
  | cons b l ih =>
    have e : rows f (b :: l) = f b ++ rows f l := rfl
    cases j with
    | zero =>
      simp at ha
      subst ha
      rw [e, Nat.zero_mul, Nat.zero_add, List.getElem?_append_left (by rw [hf]; exact hi)]
    | succ j =>
      rw [e, List.getElem?_append_right (by rw [hf, Nat.succ_mul]; omega), hf, show (j + 1) * s + i - s = j * s + i by rw [Nat.succ_mul]; omega]
      exact ih j (by simpa using ha)
theorem made_rows (hf : ∀ a, (f a).length = s) (z : Array Value) (a : α) (hz : z.toList = f a) (n : Nat) : (madeCells z (n * s)).toList = rows f (List.replicate n a) := by
  have hzs : z.size = s := by rw [← Array.length_toList, hz, hf]
  apply List.ext_getElem?
  intro j
  by_cases hj : j < n * s
  · have hs : 0 < s := by
      rcases Nat.eq_zero_or_pos s with h | h
      · subst h; simp at hj
      · exact h
    have hd : j = (j / s) * s + j % s := by rw [Nat.mul_comm]; exact (Nat.div_add_mod j s).symm
    have hq : j / s < n := (Nat.div_lt_iff_lt_mul hs).2 hj
    have hr : j % s < s := Nat.mod_lt _ hs
    have e := rows_get f s hf (List.replicate n a) (j / s) (j % s) a (by simp [hq]) hr
    rw [← hd] at e
    rw [e, ← hz]
    have hzi : j % s < z.size := by omega
    simp [madeCells, hj, hzs]
    rw [getElem!_pos z _ hzi, Array.getElem?_eq_getElem hzi]
  · have hl := rows_length f s hf (List.replicate n a)
    rw [List.length_replicate] at hl
    rw [List.getElem?_eq_none (by rw [Array.length_toList, size_madeCells]; omega), List.getElem?_eq_none (by omega)]
end
end Go.Proofs.YtnpiljkchjdpfaaDoor
