/- Plain laws on the trie of a dictionary, with no program in sight. No condition. | Tries in memory, with no program in sight: the cells of nodes, their lists. No condition. | Marks on the nodes of a trie, with no program in sight. No condition. -/
import Derived.Test.YtnpiljkchjdpfaaDoorGA
import Derived.Test.YtnpiljkchjdpfaaDoorMem3
import Derived.Test.YtnpiljkchjdpfaaDoorStrS
namespace Go.Proofs.YtnpiljkchjdpfaaDoor
open Go.RowKit

/-- A node's value: the strokes, the children, is there a text, the text. -/
structure TV where
  ss : List Int
  cs : List Int
  b : Bool
  t : ByteArray
/-- The stroke of an outline at a depth. -/
def stAt (d : Nat) (e : EV) : Int := e.1.getD d 0
def hasT (d : Nat) : List EV → Bool
  | [] => false
  | e :: _ => decide (e.1.length = d)
def txtT (d : Nat) : List EV → ByteArray
  | [] => ⟨#[]⟩
  | e :: _ => if e.1.length = d then e.2 else ⟨#[]⟩
def resT (d : Nat) : List EV → List EV
  | [] => []
  | e :: r => if e.1.length = d then r else e :: r
/-- How many of the first entries have the stroke s at the depth d. -/
def runL (d : Nat) (s : Int) (l : List EV) : Nat := (l.takeWhile fun e => stAt d e == s).length
abbrev KV : Type := List Int × List Int × List TV
/-- The children of a node: their strokes, their numbers, their nodes. -/
def kids (rec : Nat → List EV → List TV) (d : Nat) : Nat → Nat → List EV → KV
  | 0, _, _ => ([], [], [])
  | _ + 1, _, [] => ([], [], [])
  | m + 1, k, e :: r =>
    let n := runL d (stAt d e) (e :: r)
    let sub := rec k ((e :: r).take n)
    let q := kids rec d m (k + sub.length) ((e :: r).drop n)
    (stAt d e :: q.1, (k : Int) :: q.2.1, sub ++ q.2.2)
/-- The nodes of the subtree of entries that share their first d strokes, the first one having the number k. -/
def tree : Nat → Nat → Nat → List EV → List TV
  | 0, _, _, _ => []
  | f + 1, d, k, l =>
    let q := kids (tree f (d + 1)) d l.length (k + 1) (resT d l)
    ⟨q.1, q.2.1, hasT d l, txtT d l⟩ :: q.2.2
def joinK (ss cs : List Int) (ns : List TV) (q : KV) : KV := (ss ++ q.1, cs ++ q.2.1, ns ++ q.2.2)
theorem kids_nil (rec : Nat → List EV → List TV) (d m k : Nat) : kids rec d m k [] = ([], [], []) := by cases m <;> rfl
theorem joinK_nil (q : KV) : joinK [] [] [] q = q := rfl
theorem kids_step {rec : Nat → List EV → List TV} {d m k : Nat} {e : EV} {r : List EV} {ss cs : List Int} {ns : List TV} {n : Nat} {sub : List TV} (hn : runL d (stAt d e) (e :: r) = n) (hs : sub = rec k ((e :: r).take n)) :
    joinK ss cs ns (kids rec d (m + 1) k (e :: r)) = joinK (ss ++ [stAt d e]) (cs ++ [(k : Int)]) (ns ++ sub) (kids rec d m (k + sub.length) ((e :: r).drop n)) := by
  subst hn hs
  simp [kids, joinK]
theorem runL_le (d : Nat) (s : Int) (l : List EV) : runL d s l ≤ l.length := (List.takeWhile_prefix _).length_le
theorem runL_pos (d : Nat) (e : EV) (r : List EV) : 1 ≤ runL d (stAt d e) (e :: r) := by simp [runL]
theorem run_lt {d : Nat} {s : Int} : ∀ {l : List EV} {k : Nat}, k ≤ runL d s l → k < l.length → (stAt d (evAt l k) == s) = decide (k < runL d s l) := by
  intro l
  induction l with
  | nil => intro k _ h; simp at h
  | cons x r ih =>
    intro k hk hl
    by_cases hx : (stAt d x == s) = true
    · have hr : runL d s (x :: r) = runL d s r + 1 := by simp only [runL, List.takeWhile_cons, hx, if_true, List.length_cons]
      cases k with
      | zero => rw [hr]; simpa [evAt] using hx
      | succ k =>
        rw [hr] at hk ⊢
        have := ih (k := k) (by omega) (by simpa using hl)
        rw [show evAt (x :: r) (k + 1) = evAt r k by simp [evAt], this]
        simp
    · have hr : runL d s (x :: r) = 0 := by simp only [runL, List.takeWhile_cons, hx]; rfl
      rw [hr] at hk ⊢
      obtain rfl : k = 0 := by omega
      have : (stAt d x == s) = false := by simpa using hx
      simpa [evAt] using this
theorem take_run (d : Nat) (s : Int) (l : List EV) : l.take (runL d s l) = l.takeWhile fun e => stAt d e == s := (List.prefix_iff_eq_take.1 (List.takeWhile_prefix _)).symm

/-! What holds of the entries of a subtree. -/
structure Tri (d : Nat) (l : List EV) : Prop where
  pre : ∃ p : List Int, p.length = d ∧ ∀ e ∈ l, p <+: e.1
  pw : l.Pairwise fun a b => ¬ b.1 <+: a.1
  six : ∀ e ∈ l, e.1.length ≤ 6
structure Tri2 (d : Nat) (l : List EV) : Prop extends Tri d l where
  lt : ∀ e ∈ l, d < e.1.length
theorem Tri.le {d : Nat} {l : List EV} (h : Tri d l) : ∀ e ∈ l, d ≤ e.1.length := fun e he => by
  obtain ⟨p, hp, h1⟩ := h.pre
  have := (h1 e he).length_le
  omega
theorem Tri.sub {d : Nat} {l l' : List EV} (h : Tri d l) (hs : l'.Sublist l) : Tri d l' := by
  obtain ⟨p, hp, h1⟩ := h.pre
  exact ⟨⟨p, hp, fun e he => h1 e (hs.subset he)⟩, h.pw.sublist hs, fun e he => h.six e (hs.subset he)⟩
theorem Tri2.sub {d : Nat} {l l' : List EV} (h : Tri2 d l) (hs : l'.Sublist l) : Tri2 d l' := ⟨h.toTri.sub hs, fun e he => h.lt e (hs.subset he)⟩
theorem res_sub (d : Nat) (l : List EV) : (resT d l).Sublist l := by
  cases l with
  | nil => exact List.Sublist.refl _
  | cons e r =>
    rw [resT]
    split
    · exact List.sublist_cons_self _ _
    · exact List.Sublist.refl _
theorem Tri.res {d : Nat} {l : List EV} (h : Tri d l) : Tri2 d (resT d l) := by
  refine ⟨h.sub (res_sub d l), ?_⟩
  cases l with
  | nil => intro e he; cases he
  | cons e r =>
    obtain ⟨p, hp, h1⟩ := h.pre
    have hr : ∀ x ∈ r, d < x.1.length := fun x hx => by
      have h2 := (List.pairwise_cons.1 h.pw).1 x hx
      have h3 := h.le x (List.mem_cons_of_mem _ hx)
      rcases Nat.lt_or_ge d x.1.length with h4 | h4
      · exact h4
      · have h5 : p = x.1 := (h1 x (List.mem_cons_of_mem _ hx)).eq_of_length (by omega)
        exact absurd (h5 ▸ h1 e (List.mem_cons_self ..)) h2
    intro x hx
    rw [resT] at hx
    split at hx
    · exact hr x hx
    · rename_i hne
      rcases List.mem_cons.1 hx with rfl | hx
      · have := h.le x (List.mem_cons_self ..)
        omega
      · exact hr x hx
theorem Tri2.run {d : Nat} {l : List EV} (h : Tri2 d l) (s : Int) : Tri (d + 1) (l.take (runL d s l)) := by
  obtain ⟨p, hp, h1⟩ := h.pre
  refine ⟨⟨p ++ [s], by simp [hp], fun e he => ?_⟩, h.pw.sublist (List.take_sublist _ _), fun e he => h.six e (List.mem_of_mem_take he)⟩
  rw [take_run] at he
  have hm := (List.takeWhile_sublist _).subset he
  have hst : stAt d e = s := by
    have := List.all_takeWhile (p := fun e => stAt d e == s) (l := l)
    have := List.all_eq_true.1 this e he
    simpa using this
  have hlt := h.lt e hm
  obtain ⟨t, ht⟩ := h1 e hm
  have e0 : e.1 = p ++ t := ht.symm
  have htl : 0 < t.length := by rw [e0, List.length_append, hp] at hlt; omega
  cases t with
  | nil => simp at htl
  | cons x t =>
    have hx : x = s := by
      rw [← hst, stAt, e0, ← hp]
      simp [List.getD_eq_getElem?_getD]
    rw [e0, hx]
    exact ⟨t, by simp⟩
theorem dict_le {d : List EV} (h : dictB d = true) (i j : Nat) (hij : i ≤ j) (hj : j < d.length) : cmpL (evAt d i).1 (evAt d j).1 ≤ 0 := by
  induction j with
  | zero =>
    obtain rfl : i = 0 := by omega
    rw [(cmpL_zero _ _).2 rfl]
    exact Int.le_refl 0
  | succ j ih =>
    by_cases e : i = j + 1
    · subst e
      rw [(cmpL_zero _ _).2 rfl]
      exact Int.le_refl 0
    · have h1 := ih (by omega) (by omega)
      have h2 := (dictB_iff h).2 (j + 1) hj
      rw [okAt_pos _ _ (by omega), Bool.and_eq_true, decide_eq_true_eq] at h2
      exact cmpL_trans _ _ _ h1 (Int.le_of_lt h2.2)
theorem prefix_le {p o : List Int} (h : p <+: o) : cmpL p o ≤ 0 := by
  refine cmpL_prefix o p ?_
  rw [startsB, Bool.and_eq_true, decide_eq_true_eq, beq_iff_eq]
  exact ⟨h.length_le, (List.prefix_iff_eq_take.1 h).symm⟩
theorem dict_tri {d : List EV} (h : dictB d = true) : Tri 0 d := by
  refine ⟨⟨[], rfl, fun e _ => List.nil_prefix⟩, ?_, fun e he => (outB_len (entB_iff (dictB_ent h e he)).1).2⟩
  rw [List.pairwise_iff_getElem]
  intro i j hi hj hij hp
  rw [← evAt_at d i hi, ← evAt_at d j hj] at hp
  have h1 := prefix_le hp
  have h2 := (dictB_iff h).2 (i + 1) (by omega)
  rw [okAt_pos _ _ (by omega), Bool.and_eq_true, decide_eq_true_eq, Nat.add_sub_cancel] at h2
  have h3 := cmpL_trans _ _ _ (dict_le h (i + 1) j (by omega) hj) h1
  rw [cmpL_neg] at h3
  omega

/-! Sizes. -/
theorem kids_len {rec : Nat → List EV → List TV} {f d : Nat} (hr : ∀ k l, (rec k l).length ≤ 1 + f * l.length) : ∀ (m k : Nat) (l : List EV), (kids rec d m k l).1.length ≤ l.length ∧ (kids rec d m k l).2.1.length ≤ l.length ∧ (kids rec d m k l).2.2.length ≤ (f + 1) * l.length := by
  intro m
  induction m with
  | zero => intro k l; exact ⟨Nat.zero_le _, Nat.zero_le _, Nat.zero_le _⟩
  | succ m ih =>
    intro k l
    cases l with
    | nil => exact ⟨Nat.zero_le _, Nat.zero_le _, Nat.zero_le _⟩
    | cons e r =>
      have h1 := runL_pos d e r
      have h2 := runL_le d (stAt d e) (e :: r)
      have h0 : kids rec d (m + 1) k (e :: r) = joinK [] [] [] (kids rec d (m + 1) k (e :: r)) := rfl
      rw [h0, kids_step rfl rfl]
      generalize runL d (stAt d e) (e :: r) = n at h1 h2
      obtain ⟨i1, i2, i3⟩ := ih (k + (rec k ((e :: r).take n)).length) ((e :: r).drop n)
      have i4 := hr k ((e :: r).take n)
      rw [List.length_take, Nat.min_eq_left h2] at i4
      rw [List.length_drop] at i1 i2 i3
      generalize (e :: r).length = L at *
      simp only [joinK, List.nil_append, List.length_append, List.length_cons, List.length_nil]
      refine ⟨by omega, by omega, ?_⟩
      have e1 : (f + 1) * L = (f + 1) * n + (f + 1) * (L - n) := by rw [← Nat.mul_add]; congr 1; omega
      have e2 : (f + 1) * n = f * n + n := by rw [Nat.add_mul, Nat.one_mul]
      omega
theorem tree_len : ∀ (f d k : Nat) (l : List EV), (tree f d k l).length ≤ 1 + f * l.length := by
  intro f
  induction f with
  | zero => intro d k l; exact Nat.zero_le _
  | succ f ih =>
    intro d k l
    have h := (kids_len (rec := tree f (d + 1)) (d := d) (fun k l => ih (d + 1) k l) l.length (k + 1) (resT d l)).2.2
    have h2 := (res_sub d l).length_le
    have h3 : (f + 1) * (resT d l).length ≤ (f + 1) * l.length := Nat.mul_le_mul_left _ h2
    rw [tree, List.length_cons]
    omega
/-- Every node has at most as many strokes and children as there are entries. -/
theorem kids_wide {rec : Nat → List EV → List TV} {d N : Nat} (hr : ∀ k l, l.length ≤ N → ∀ x ∈ rec k l, x.ss.length ≤ N ∧ x.cs.length ≤ N) : ∀ (m k : Nat) (l : List EV), l.length ≤ N → ∀ x ∈ (kids rec d m k l).2.2, x.ss.length ≤ N ∧ x.cs.length ≤ N := by
  intro m
  induction m with
  | zero => intro k l _ x hx; cases hx
  | succ m ih =>
    intro k l hl x hx
    cases l with
    | nil => cases hx
    | cons e r =>
      rcases List.mem_append.1 hx with hx | hx
      · exact hr _ _ (by rw [List.length_take]; omega) x hx
      · exact ih _ _ (by rw [List.length_drop]; omega) x hx
theorem tree_wide : ∀ (f d k N : Nat) (l : List EV), l.length ≤ N → ∀ x ∈ tree f d k l, x.ss.length ≤ N ∧ x.cs.length ≤ N := by
  intro f
  induction f with
  | zero => intro d k N l _ x hx; cases hx
  | succ f ih =>
    intro d k N l hl x hx
    have h2 := (res_sub d l).length_le
    rcases List.mem_cons.1 hx with rfl | hx
    · have h := kids_len (rec := tree f (d + 1)) (d := d) (fun k l => tree_len f (d + 1) k l) l.length (k + 1) (resT d l)
      exact ⟨by have := h.1; simp only; omega, by have := h.2.1; simp only; omega⟩
    · exact kids_wide (fun k l hl => ih (d + 1) k N l hl) _ _ _ (by omega) x hx
/-- The trie of a dictionary. -/
def trieL (d : List EV) : List TV := tree 7 0 0 d
def btOk (d : List EV) : Bool := dictB d
def btR (d : List EV) : List TV := if dictB d then trieL d else []
theorem btR_yes {d : List EV} (h : dictB d = true) : btR d = trieL d := by rw [btR, h]; rfl
theorem btR_no {d : List EV} (h : dictB d = false) : btR d = [] := by rw [btR, h]; rfl
theorem btR_bd (d : List EV) : (btR d).length ≤ 281 ∧ ∀ x ∈ btR d, x.ss.length ≤ 40 ∧ x.cs.length ≤ 40 := by
  rcases Bool.eq_false_or_eq_true (dictB d) with h | h
  · have h4 := (dictB_iff h).1
    rw [btR_yes h]
    refine ⟨?_, tree_wide 7 0 0 40 d h4⟩
    have := tree_len 7 0 0 d
    rw [trieL]
    omega
  · rw [btR_no h]
    exact ⟨by simp, fun x hx => by cases hx⟩
end Go.Proofs.YtnpiljkchjdpfaaDoor

namespace Go.Proofs.YtnpiljkchjdpfaaDoor
open Go.RowKit

/-- A node as it lies. -/
structure Tn where
  A1 : Option Addr
  c1 : Nat
  ss : List Int
  A2 : Option Addr
  c2 : Nat
  cs : List Int
  b : Bool
  t : ByteArray
def noTn : Tn := ⟨none, 0, [], none, 0, [], false, ⟨#[]⟩⟩
instance : Inhabited Tn := ⟨noTn⟩
def Tn.v (e : Tn) : TV := ⟨e.ss, e.cs, e.b, e.t⟩
def Tn.s1 (e : Tn) : Value := .slice e.A1 e.ss.length e.c1
def Tn.s2 (e : Tn) : Value := .slice e.A2 e.cs.length e.c2
def tnC (e : Tn) : List Value := [e.s1, e.s2, .bool e.b, .string e.t]
def tns (l : List Tn) : List Value := rows tnC l
def tvals (l : List Tn) : List TV := l.map Tn.v
theorem tnC_len (e : Tn) : (tnC e).length = 4 := rfl
theorem tns_length (l : List Tn) : (tns l).length = l.length * 4 := rows_length tnC 4 tnC_len l
theorem tns_append (l r : List Tn) : tns (l ++ r) = tns l ++ tns r := rows_append tnC l r
theorem tns_cons (e : Tn) (l : List Tn) : tns (e :: l) = tnC e ++ tns l := rfl
theorem tvals_len (l : List Tn) : (tvals l).length = l.length := by simp [tvals]
theorem tvals_append (l r : List Tn) : tvals (l ++ r) = tvals l ++ tvals r := by simp [tvals]
/-- The element j (kept whole from the walk's simp). -/
def tnAt (l : List Tn) (j : Nat) : Tn := l.getD j noTn
theorem tnAt_at (l : List Tn) (j : Nat) (h : j < l.length) : tnAt l j = l[j] := by simp [tnAt, h]
theorem tnAt_in (l : List Tn) (j : Nat) (h : j < l.length) : tnAt l j ∈ l := by simp [tnAt, h]
theorem tns_get (l : List Tn) (j : Nat) (h : j < l.length) : (tns l)[j * 4]? = some (tnAt l j).s1 ∧ (tns l)[j * 4 + 1]? = some (tnAt l j).s2 ∧ (tns l)[j * 4 + 2]? = some (.bool (tnAt l j).b) ∧ (tns l)[j * 4 + 3]? = some (.string (tnAt l j).t) := by
  have ha : l[j]? = some (tnAt l j) := by rw [tnAt_at l j h]; exact List.getElem?_eq_getElem h
  refine ⟨?_, rows_get tnC 4 tnC_len l j 1 _ ha (by omega), rows_get tnC 4 tnC_len l j 2 _ ha (by omega), rows_get tnC 4 tnC_len l j 3 _ ha (by omega)⟩
  have := rows_get tnC 4 tnC_len l j 0 _ ha (by omega)
  rw [Nat.add_zero] at this
  exact this
theorem tvals_at {l l' : List Tn} (h : tvals l = tvals l') (k : Nat) (hk : k < l.length) : k < l'.length ∧ (tnAt l k).v = (tnAt l' k).v := by
  have hl : l.length = l'.length := by have := congrArg List.length h; rwa [tvals_len, tvals_len] at this
  have hk' : k < l'.length := by omega
  refine ⟨hk', ?_⟩
  have e := congrArg (fun d => d[k]?) h
  simp only [tvals, List.getElem?_map, List.getElem?_eq_getElem hk, List.getElem?_eq_getElem hk', Option.map_some, Option.some.injEq] at e
  rw [tnAt_at l k hk, tnAt_at l' k hk']
  exact e
/-- The rows of a node: its strokes, its children. -/
def ndRow1 (ti : TypeId) (e : Tn) : RowD := ⟨e.s1, ti, 1, e.ss.length, ints e.ss⟩
def ndRow2 (ti : TypeId) (e : Tn) : RowD := ⟨e.s2, ti, 1, e.cs.length, ints e.cs⟩
def ndRows (ti : TypeId) (S : List Tn) : List RowD := S.flatMap fun e => [ndRow1 ti e, ndRow2 ti e]
def nRow (tn : TypeId) (v : Value) (N : Nat) (L : List Value) : RowD := ⟨v, tn, 4, N, L⟩
def tRows (tn ti : TypeId) (v : Value) (S : List Tn) : List RowD := nRow tn v S.length (tns S) :: ndRows ti S
theorem ndRows_cons (ti : TypeId) (e : Tn) (S : List Tn) : ndRows ti (e :: S) = ndRow1 ti e :: ndRow2 ti e :: ndRows ti S := by simp [ndRows]
theorem ndRows_append (ti : TypeId) (S S' : List Tn) : ndRows ti (S ++ S') = ndRows ti S ++ ndRows ti S' := by simp [ndRows]
theorem nd_mem (ti : TypeId) {S : List Tn} {e : Tn} (h : e ∈ S) : ndRow1 ti e ∈ ndRows ti S ∧ ndRow2 ti e ∈ ndRows ti S :=
  ⟨List.mem_flatMap.2 ⟨e, h, by simp⟩, List.mem_flatMap.2 ⟨e, h, by simp⟩⟩
/-- The nodes l lie at the address A, in blocks below B. -/
structure TRow (w : World) (B : Nat) (A : Option Addr) (l : List Tn) : Prop where
  row : Row w B A (tns l)
  r1 : ∀ e ∈ l, Row w B e.A1 (ints e.ss)
  r2 : ∀ e ∈ l, Row w B e.A2 (ints e.cs)
section
variable {w w' : World} {B B' : Nat} {A : Option Addr} {l : List Tn}
theorem TRow.mono (h : TRow w B A l) (hB : B ≤ B') : TRow w B' A l := ⟨h.row.mono hB, fun e he => (h.r1 e he).mono hB, fun e he => (h.r2 e he).mono hB⟩
theorem TRow.below (h : TRow w B A l) (hb : Below B w w') : TRow w' B A l := ⟨h.row.below hb, fun e he => (h.r1 e he).below hb, fun e he => (h.r2 e he).below hb⟩
theorem TRow.below_le (h : TRow w B A l) (hb : Below B' w w') (hB : B ≤ B') : TRow w' B A l := ⟨h.row.below_le hb hB, fun e he => (h.r1 e he).below_le hb hB, fun e he => (h.r2 e he).below_le hb hB⟩
theorem TRow.chg {F : Nat → Prop} (h : TRow w B A l) (hc : Chg w w' F) (hB : B ≤ w.heap.size) (hF : ∀ k, k < B → ¬ F k) : TRow w' B A l := ⟨hc.row h.row hB hF, fun e he => hc.row (h.r1 e he) hB hF, fun e he => hc.row (h.r2 e he) hB hF⟩
theorem TRow.at (h : TRow w B A l) {j : Nat} (hj : j < l.length) :
    ∃ b off, A = some ⟨b, off, none⟩ ∧ b < B ∧ w.cell? ⟨b, off + j * 4, none⟩ = some (.slice (tnAt l j).A1 (tnAt l j).ss.length (tnAt l j).c1) ∧ w.cell? ⟨b, off + j * 4 + 1, none⟩ = some (.slice (tnAt l j).A2 (tnAt l j).cs.length (tnAt l j).c2) ∧ w.cell? ⟨b, off + j * 4 + 2, none⟩ = some (.bool (tnAt l j).b) ∧ w.cell? ⟨b, off + j * 4 + 3, none⟩ = some (.string (tnAt l j).t) ∧
      Row w B (tnAt l j).A1 (ints (tnAt l j).ss) ∧ Row w B (tnAt l j).A2 (ints (tnAt l j).cs) := by
  obtain ⟨b, off, e, hb, hc⟩ := h.row (fun e => by have := tns_length l; rw [e] at this; simp at this; omega)
  obtain ⟨e1, e2, e3, e4⟩ := tns_get l j hj
  exact ⟨b, off, e, hb, hc _ _ e1, by rw [Nat.add_assoc]; exact hc _ _ e2, by rw [Nat.add_assoc]; exact hc _ _ e3, by rw [Nat.add_assoc]; exact hc _ _ e4, h.r1 _ (tnAt_in l j hj), h.r2 _ (tnAt_in l j hj)⟩
theorem TRow.of_own {base : Nat} {tn ti : TypeId} {n c : Nat} (hn : l.length = n) (h : OwnAll w base (tRows tn ti (.slice A n c) l)) : TRow w w.heap.size A l := by
  subst hn
  exact ⟨Row.of_own (h.own (nRow tn (.slice A l.length c) l.length (tns l)) (List.mem_cons_self ..)), fun e he => Row.of_own (A := e.A1) (c := e.c1) (h.own (ndRow1 ti e) (List.mem_cons_of_mem _ (nd_mem ti he).1)), fun e he => Row.of_own (A := e.A2) (c := e.c2) (h.own (ndRow2 ti e) (List.mem_cons_of_mem _ (nd_mem ti he).2))⟩
end
/-- A call has grown the first row and made new rows; the others are as they were. -/
theorem own_rec {W W' : World} {base g : Nat} {r r' : RowD} {X Y : List RowD} (h : OwnAll W base (r :: X)) (h' : OwnAll W' base (r' :: Y)) (hc : Chg W W' fun k => k = g ∨ r.v.ownBlock = some k) (hX : ∀ x ∈ X, ∀ q, x.v.ownBlock = some q → q ≠ g)
    (hY : ∀ y ∈ Y, ∀ q, y.v.ownBlock = some q → W.heap.size ≤ q) (hv : ∀ q, r'.v.ownBlock = some q → r.v.ownBlock = some q ∨ W.heap.size ≤ q) : OwnAll W' base (r' :: (X ++ Y)) := by
  have hp := List.pairwise_cons.1 h.apart
  have hp' := List.pairwise_cons.1 h'.apart
  have hlt := h.lt
  refine ⟨fun x hx => ?_, List.pairwise_cons.2 ⟨fun x hx => ?_, List.pairwise_append.2 ⟨hp.2, hp'.2, fun x hx y hy q hq e => ?_⟩⟩⟩
  · rcases List.mem_cons.1 hx with rfl | hx
    · exact h'.own _ (List.mem_cons_self ..)
    · rcases List.mem_append.1 hx with hx | hx
      · exact hc.own (h.own x (List.mem_cons_of_mem _ hx)) (fun q hq f => by
          rcases f with f | f
          · exact hX x hx q hq f
          · exact hp.1 x hx q f hq)
      · exact h'.own _ (List.mem_cons_of_mem _ hx)
  · rcases List.mem_append.1 hx with hx | hx
    · intro q hq e
      rcases hv q hq with h1 | h1
      · exact hp.1 x hx q h1 e
      · have := hlt x (List.mem_cons_of_mem _ hx) q e
        omega
    · exact hp'.1 x hx
  · have h1 := hlt x (List.mem_cons_of_mem _ hx) q hq
    have h2 := hY y hy q e
    omega
/-- The first, the second, the third row is written, or grown into a new block. -/
theorem own_up1 {w w' : World} {base : Nat} {q : List RowD} {r r' : RowD} (h : OwnAll w base (r :: q)) (hg : w.grownBy w' r.v.ownBlock) (ho : r'.own w' base) (hv : ∀ g, r'.v.ownBlock = some g → r.v.ownBlock = some g ∨ w.heap.size ≤ g) : OwnAll w' base (r' :: q) := OwnAll.upd (p := []) h hg ho hv
theorem own_up2 {w w' : World} {base : Nat} {a : RowD} {q : List RowD} {r r' : RowD} (h : OwnAll w base (a :: r :: q)) (hg : w.grownBy w' r.v.ownBlock) (ho : r'.own w' base) (hv : ∀ g, r'.v.ownBlock = some g → r.v.ownBlock = some g ∨ w.heap.size ≤ g) : OwnAll w' base (a :: r' :: q) := OwnAll.upd (p := [a]) h hg ho hv
theorem own_up3 {w w' : World} {base : Nat} {a b : RowD} {q : List RowD} {r r' : RowD} (h : OwnAll w base (a :: b :: r :: q)) (hg : w.grownBy w' r.v.ownBlock) (ho : r'.own w' base) (hv : ∀ g, r'.v.ownBlock = some g → r.v.ownBlock = some g ∨ w.heap.size ≤ g) : OwnAll w' base (a :: b :: r' :: q) := OwnAll.upd (p := [a, b]) h hg ho hv
/-- Four cells of a row of nodes are stored. -/
theorem own_store4 {w : World} {base : Nat} {tn : TypeId} {G n c : Nat} {P Q : List Value} {x0 x1 x2 x3 : Value} {q : List RowD} (h : OwnAll w base (nRow tn (.slice (some ⟨G, 0, none⟩) n c) n (P ++ [x0, x1, x2, x3] ++ Q) :: q)) {k : Nat} (hP : P.length = k * 4) (y0 y1 y2 y3 : Value) :
    OwnAll ((((w.setCell ⟨G, k * 4, none⟩ y0).setCell ⟨G, k * 4 + 1, none⟩ y1).setCell ⟨G, k * 4 + 2, none⟩ y2).setCell ⟨G, k * 4 + 3, none⟩ y3) base (nRow tn (.slice (some ⟨G, 0, none⟩) n c) n (P ++ [y0, y1, y2, y3] ++ Q) :: q) ∧
      w.grownBy ((((w.setCell ⟨G, k * 4, none⟩ y0).setCell ⟨G, k * 4 + 1, none⟩ y1).setCell ⟨G, k * 4 + 2, none⟩ y2).setCell ⟨G, k * 4 + 3, none⟩ y3) (some G) := by
  obtain ⟨o1, g1⟩ := World.ownsRow.stored (h.own (nRow tn (.slice (some ⟨G, 0, none⟩) n c) n (P ++ [x0, x1, x2, x3] ++ Q)) (List.mem_cons_self ..)) (k * 4) y0
  obtain ⟨o2, g2⟩ := World.ownsRow.stored o1 (k * 4 + 1) y1
  obtain ⟨o3, g3⟩ := World.ownsRow.stored o2 (k * 4 + 2) y2
  obtain ⟨o4, g4⟩ := World.ownsRow.stored o3 (k * 4 + 3) y3
  have gg := ((g1.trans g2).trans g3).trans g4
  refine ⟨own_up1 h gg ?_ (fun k hk => Or.inl hk), gg⟩
  show World.ownsRow _ _ _ _ _ _ _
  have e : (((((P ++ [x0, x1, x2, x3] ++ Q).set (k * 4) y0).set (k * 4 + 1) y1).set (k * 4 + 2) y2).set (k * 4 + 3) y3) = P ++ [y0, y1, y2, y3] ++ Q := by
    rw [← hP]
    simp
  simp only [nRow] at o4 ⊢
  rw [e] at o4
  exact o4
/-! What holds while a node is being built. -/
theorem Chg.trans_new {a b c : World} {F G : Nat → Prop} (h : Chg a b F) (k : Chg b c G) (hG : ∀ i, i < a.heap.size → G i → F i) : Chg a c F :=
  ⟨k.os.trans h.os, k.tape.trans h.tape, k.output.trans h.output, Nat.le_trans h.size k.size, fun i hi hf => (k.block i (Nat.lt_of_lt_of_le hi h.size) fun g => hf (hG i hi g)).trans (h.block i hi hf)⟩
theorem Chg.of_set {w w' : World} {P : Nat} (h : w.grownBy w' (some P)) : Chg w w' fun k => k = P := Chg.of_grown h fun _ e => (Option.some.inj e).symm
theorem Chg.ownC {T : TypeId} {w w' : World} {B H : Nat} {cs : List Value} {F : Nat → Prop} (hc : Chg w w' F) (h : ownC T w B H cs) (hF : ¬ F H) : ownC T w' B H cs := hc.own h fun g e => by rw [← Option.some.inj e]; exact hF
structure PInv (BT TN TI : TypeId) (w W : World) (base BB g PB N : Nat) (v0 v : Value) (L : List Value) (e : Tn) (S : List Tn) : Prop where
  own : OwnAll W base (nRow TN v (N + S.length) (L ++ tns S) :: ndRows TI (e :: S))
  ge : ∀ r ∈ ndRows TI (e :: S), ∀ q, r.v.ownBlock = some q → w.heap.size ≤ q ∧ q ≠ PB
  b : ownC BT W BB g [v]
  p : ownC TN W PB PB (tnC e)
  vb : ∀ q, v.ownBlock = some q → q ≠ g ∧ q ≠ PB ∧ (v0.ownBlock = some q ∨ w.heap.size ≤ q)
  ch : Chg w W (fun k => k = g ∨ v0.ownBlock = some k)
section
variable {BT TN TI : TypeId} {w W W1 : World} {base BB g PB N : Nat} {v0 v : Value} {L : List Value} {e : Tn} {S : List Tn}
theorem PInv.drew (h : PInv BT TN TI w W base BB g PB N v0 v L e S) (n : Nat) : PInv BT TN TI w (W.drewN n) base BB g PB N v0 v L e S := ⟨h.own.drew n, h.ge, h.b, h.p, h.vb, h.ch.drew n⟩
theorem PInv.pl (h : PInv BT TN TI w W base BB g PB N v0 v L e S) : PB < W.heap.size := h.p.lt.2
theorem PInv.row (h : PInv BT TN TI w W base BB g PB N v0 v L e S) : OwnAll W base [nRow TN v (N + S.length) (L ++ tns S)] := h.own.sub (List.Sublist.cons_cons _ (List.nil_sublist _))
theorem PInv.s1 (h : PInv BT TN TI w W base BB g PB N v0 v L e S) : W.ownsRow base TI 1 (.slice e.A1 e.ss.length e.c1) e.ss.length (ints e.ss) := h.own.own (ndRow1 TI e) (List.mem_cons_of_mem _ (nd_mem TI (List.mem_cons_self ..)).1)
theorem PInv.s2 (h : PInv BT TN TI w W base BB g PB N v0 v L e S) : W.ownsRow base TI 1 (.slice e.A2 e.cs.length e.c2) e.cs.length (ints e.cs) := h.own.own (ndRow2 TI e) (List.mem_cons_of_mem _ (nd_mem TI (List.mem_cons_self ..)).2)
/-- The strokes have grown. -/
theorem PInv.up1 (h : PInv BT TN TI w W base BB g PB N v0 v L e S) (hgw : g < w.heap.size) (hPw : w.heap.size ≤ PB) {A : Option Addr} {c : Nat} {x : Int} (hg : W.grownBy W1 (Value.slice e.A1 e.ss.length e.c1).ownBlock) (ho : W1.ownsRow base TI 1 (.slice A (e.ss.length + 1) c) (e.ss.length + 1) (ints e.ss ++ [.int .i64 x])) (hat : (Value.slice A (e.ss.length + 1) c).ownBlock = (Value.slice e.A1 e.ss.length e.c1).ownBlock ∨ (Value.slice A (e.ss.length + 1) c).ownBlock = some (W.heap.size + 1)) :
    PInv BT TN TI w (W1.setCell ⟨PB, 0, none⟩ (.slice A (e.ss.length + 1) c)) base BB g PB N v0 v L { e with A1 := A, c1 := c, ss := e.ss ++ [x] } S := by
  have hsz := h.ch.size
  have hpl := h.pl
  have e1 : ∀ q, (Value.slice e.A1 e.ss.length e.c1).ownBlock = some q → w.heap.size ≤ q ∧ q ≠ PB := h.ge (ndRow1 TI e) (nd_mem TI (List.mem_cons_self ..)).1
  have e2 : ∀ q, (Value.slice A (e.ss.length + 1) c).ownBlock = some q → w.heap.size ≤ q ∧ q ≠ PB := fun q hq => by
    rcases hat with hh | hh
    · exact e1 q (hh.symm.trans hq)
    · rw [hh] at hq
      have := Option.some.inj hq
      omega
  have hlen : (e.ss ++ [x]).length = e.ss.length + 1 := by simp
  have hs1 : Tn.s1 { e with A1 := A, c1 := c, ss := e.ss ++ [x] } = .slice A (e.ss.length + 1) c := by simp [Tn.s1]
  have hrow : ndRow1 TI { e with A1 := A, c1 := c, ss := e.ss ++ [x] } = ⟨.slice A (e.ss.length + 1) c, TI, 1, e.ss.length + 1, ints e.ss ++ [.int .i64 x]⟩ := by simp [ndRow1, hs1, ints]
  have hge : ∀ r ∈ ndRows TI ({ e with A1 := A, c1 := c, ss := e.ss ++ [x] } :: S), ∀ q, r.v.ownBlock = some q → w.heap.size ≤ q ∧ q ≠ PB := fun r hr q hq => by
    rw [ndRows_cons, hrow] at hr
    rcases List.mem_cons.1 hr with rfl | hr
    · exact e2 q hq
    · exact h.ge r (by rw [ndRows_cons]; exact List.mem_cons_of_mem _ hr) q hq
  have hown := h.own
  rw [ndRows_cons] at hown
  have o1 := own_up2 (r' := ndRow1 TI { e with A1 := A, c1 := c, ss := e.ss ++ [x] }) hown hg (by rw [hrow]; exact ho) (fun q hq => by
    rw [hrow] at hq
    rcases hat with hh | hh
    · exact Or.inl (hh.symm.trans hq)
    · right
      have hq2 : (Value.slice A (e.ss.length + 1) c).ownBlock = some q := hq
      rw [hh] at hq2
      have := Option.some.inj hq2
      omega)
  have hp1 := h.p.grown hg (fun ee => (e1 _ ee).2 rfl)
  obtain ⟨hp2, gp⟩ := hp1.set 0 (.slice A (e.ss.length + 1) c)
  have cP := Chg.of_set gp
  refine ⟨?_, hge, (h.b.grown hg (fun ee => by have := (e1 _ ee).1; omega)).grown gp (fun ee => by have := Option.some.inj ee; omega), ?_, h.vb, (h.ch.trans_new (Chg.of_grown (F := fun q => w.heap.size ≤ q) hg (fun q hq => (e1 q hq).1)) (fun i hi f => by have f2 : w.heap.size ≤ i := f; omega)).trans_new cP (fun i hi f => by have f2 : i = PB := f; omega)⟩
  · have o2 := o1.chg cP (fun r hr q hq f => by
      have f2 : q = PB := f
      rcases List.mem_cons.1 hr with rfl | hr
      · exact (h.vb q hq).2.1 f2
      · exact (hge r (by rw [ndRows_cons]; exact hr) q hq).2 f2)
    rw [ndRows_cons]
    exact o2
  · have : tnC { e with A1 := A, c1 := c, ss := e.ss ++ [x] } = (tnC e).set 0 (.slice A (e.ss.length + 1) c) := by simp [tnC, Tn.s1, Tn.s2]
    rw [this]
    exact hp2
/-- The children have grown. -/
theorem PInv.up2 (h : PInv BT TN TI w W base BB g PB N v0 v L e S) (hgw : g < w.heap.size) (hPw : w.heap.size ≤ PB) {A : Option Addr} {c : Nat} {x : Int} (hg : W.grownBy W1 (Value.slice e.A2 e.cs.length e.c2).ownBlock) (ho : W1.ownsRow base TI 1 (.slice A (e.cs.length + 1) c) (e.cs.length + 1) (ints e.cs ++ [.int .i64 x])) (hat : (Value.slice A (e.cs.length + 1) c).ownBlock = (Value.slice e.A2 e.cs.length e.c2).ownBlock ∨ (Value.slice A (e.cs.length + 1) c).ownBlock = some (W.heap.size + 1)) :
    PInv BT TN TI w (W1.setCell ⟨PB, 1, none⟩ (.slice A (e.cs.length + 1) c)) base BB g PB N v0 v L { e with A2 := A, c2 := c, cs := e.cs ++ [x] } S := by
  have hsz := h.ch.size
  have hpl := h.pl
  have e1 : ∀ q, (Value.slice e.A2 e.cs.length e.c2).ownBlock = some q → w.heap.size ≤ q ∧ q ≠ PB := h.ge (ndRow2 TI e) (nd_mem TI (List.mem_cons_self ..)).2
  have e2 : ∀ q, (Value.slice A (e.cs.length + 1) c).ownBlock = some q → w.heap.size ≤ q ∧ q ≠ PB := fun q hq => by
    rcases hat with hh | hh
    · exact e1 q (hh.symm.trans hq)
    · rw [hh] at hq
      have := Option.some.inj hq
      omega
  have hs1 : Tn.s2 { e with A2 := A, c2 := c, cs := e.cs ++ [x] } = .slice A (e.cs.length + 1) c := by simp [Tn.s2]
  have hrow : ndRow2 TI { e with A2 := A, c2 := c, cs := e.cs ++ [x] } = ⟨.slice A (e.cs.length + 1) c, TI, 1, e.cs.length + 1, ints e.cs ++ [.int .i64 x]⟩ := by simp [ndRow2, hs1, ints]
  have hge : ∀ r ∈ ndRows TI ({ e with A2 := A, c2 := c, cs := e.cs ++ [x] } :: S), ∀ q, r.v.ownBlock = some q → w.heap.size ≤ q ∧ q ≠ PB := fun r hr q hq => by
    rw [ndRows_cons, hrow] at hr
    rcases List.mem_cons.1 hr with rfl | hr
    · exact h.ge (ndRow1 TI e) (by rw [ndRows_cons]; exact List.mem_cons_self ..) q hq
    · rcases List.mem_cons.1 hr with rfl | hr
      · exact e2 q hq
      · exact h.ge r (by rw [ndRows_cons]; exact List.mem_cons_of_mem _ (List.mem_cons_of_mem _ hr)) q hq
  have hown := h.own
  rw [ndRows_cons] at hown
  have o1 := own_up3 (r' := ndRow2 TI { e with A2 := A, c2 := c, cs := e.cs ++ [x] }) hown hg (by rw [hrow]; exact ho) (fun q hq => by
    rw [hrow] at hq
    rcases hat with hh | hh
    · exact Or.inl (hh.symm.trans hq)
    · right
      have hq2 : (Value.slice A (e.cs.length + 1) c).ownBlock = some q := hq
      rw [hh] at hq2
      have := Option.some.inj hq2
      omega)
  have hp1 := h.p.grown hg (fun ee => (e1 _ ee).2 rfl)
  obtain ⟨hp2, gp⟩ := hp1.set 1 (.slice A (e.cs.length + 1) c)
  have cP := Chg.of_set gp
  refine ⟨?_, hge, (h.b.grown hg (fun ee => by have := (e1 _ ee).1; omega)).grown gp (fun ee => by have := Option.some.inj ee; omega), ?_, h.vb, (h.ch.trans_new (Chg.of_grown (F := fun q => w.heap.size ≤ q) hg (fun q hq => (e1 q hq).1)) (fun i hi f => by have f2 : w.heap.size ≤ i := f; omega)).trans_new cP (fun i hi f => by have f2 : i = PB := f; omega)⟩
  · have o2 := o1.chg cP (fun r hr q hq f => by
      have f2 : q = PB := f
      rcases List.mem_cons.1 hr with rfl | hr
      · exact (h.vb q hq).2.1 f2
      · exact (hge r (by rw [ndRows_cons]; exact hr) q hq).2 f2)
    rw [ndRows_cons]
    exact o2
  · have : tnC { e with A2 := A, c2 := c, cs := e.cs ++ [x] } = (tnC e).set 1 (.slice A (e.cs.length + 1) c) := by simp [tnC, Tn.s1, Tn.s2]
    rw [this]
    exact hp2
/-- A child's subtree has been built. -/
theorem PInv.sub (h : PInv BT TN TI w W base BB g PB N v0 v L e S) (hgw : g < w.heap.size) (hPw : w.heap.size ≤ PB) {v' : Value} {S' : List Tn} (own1 : OwnAll W1 base (nRow TN v' (N + S.length + S'.length) (L ++ tns S ++ tns S') :: ndRows TI S')) (ge1 : ∀ r ∈ ndRows TI S', ∀ q, r.v.ownBlock = some q → W.heap.size ≤ q) (b1 : ownC BT W1 BB g [v']) (vb1 : ∀ q, v'.ownBlock = some q → q ≠ g ∧ (v.ownBlock = some q ∨ W.heap.size ≤ q)) (ch1 : Chg W W1 fun k => k = g ∨ v.ownBlock = some k) :
    PInv BT TN TI w W1 base BB g PB N v0 v' L e (S ++ S') := by
  have hsz := h.ch.size
  have hpl := h.pl
  have o := own_rec h.own own1 ch1 (fun x hx q hq => by have := (h.ge x hx q hq).1; omega) ge1 (fun q hq => (vb1 q hq).2)
  refine ⟨?_, fun r hr q hq => ?_, b1, ch1.ownC h.p (fun f => ?_), fun q hq => ?_, h.ch.trans_new ch1 (fun i hi f => ?_)⟩
  · rw [List.length_append, tns_append, ← List.append_assoc, ← Nat.add_assoc, show e :: (S ++ S') = (e :: S) ++ S' from rfl, ndRows_append]
    exact o
  · rw [show e :: (S ++ S') = (e :: S) ++ S' from rfl, ndRows_append] at hr
    rcases List.mem_append.1 hr with hr | hr
    · exact h.ge r hr q hq
    · have := ge1 r hr q hq
      omega
  · rcases f with f | f
    · omega
    · exact (h.vb _ f).2.1 rfl
  · obtain ⟨h1, h2⟩ := vb1 q hq
    rcases h2 with h2 | h2
    · exact ⟨h1, (h.vb q h2).2⟩
    · exact ⟨h1, by omega, Or.inr (by omega)⟩
  · rcases f with f | f
    · exact Or.inl f
    · rcases (h.vb i f).2.2 with h2 | h2
      · exact Or.inr h2
      · omega
/-- The text is set. -/
theorem PInv.bt (h : PInv BT TN TI w W base BB g PB N v0 v L e S) (hgw : g < w.heap.size) (hPw : w.heap.size ≤ PB) (b : Bool) (t : ByteArray) : PInv BT TN TI w ((W.setCell ⟨PB, 2, none⟩ (.bool b)).setCell ⟨PB, 3, none⟩ (.string t)) base BB g PB N v0 v L { e with b := b, t := t } S := by
  obtain ⟨h1, g1⟩ := h.p.set 2 (.bool b)
  obtain ⟨h2, g2⟩ := h1.set 3 (.string t)
  have cP := Chg.of_set (g1.trans g2)
  have hge : ∀ r ∈ ndRows TI ({ e with b := b, t := t } :: S), ∀ q, r.v.ownBlock = some q → w.heap.size ≤ q ∧ q ≠ PB := h.ge
  refine ⟨?_, hge, h.b.grown (g1.trans g2) (fun ee => by have := Option.some.inj ee; omega), h2, h.vb, h.ch.trans_new cP (fun i hi f => by have f2 : i = PB := f; omega)⟩
  exact h.own.chg cP (fun r hr q hq f => by
    have f2 : q = PB := f
    rcases List.mem_cons.1 hr with rfl | hr
    · exact (h.vb q hq).2.1 f2
    · exact (hge r hr q hq).2 f2)
end
/-- A node with nothing in it has no rows. -/
theorem own_noTn {W : World} {base : Nat} {ti : TypeId} {r : RowD} (h : OwnAll W base [r]) (b : Bool) (t : ByteArray) : OwnAll W base (r :: ndRows ti [(⟨none, 0, [], none, 0, [], b, t⟩ : Tn)]) := by
  have hm : ∀ x ∈ ndRows ti [(⟨none, 0, [], none, 0, [], b, t⟩ : Tn)], x = ⟨.slice none 0 0, ti, 1, 0, []⟩ := fun x hx => by
    rw [ndRows_cons] at hx
    rcases List.mem_cons.1 hx with rfl | hx
    · rfl
    · rcases List.mem_cons.1 hx with rfl | hx
      · rfl
      · cases hx
  refine ⟨fun x hx => ?_, List.pairwise_cons.2 ⟨fun x hx q _ e => ?_, List.pairwise_of_forall_mem_list fun x hx y hy q e => ?_⟩⟩
  · rcases List.mem_cons.1 hx with rfl | hx
    · exact h.own _ (List.mem_cons_self ..)
    · rw [hm x hx]
      exact ⟨rfl, Or.inl ⟨rfl, rfl⟩⟩
  · rw [hm x hx] at e
    cases e
  · rw [hm x hx] at e
    cases e
/-- A part of a list. -/
def seg (l : List En) (lo hi : Nat) : List En := (l.drop lo).take (hi - lo)
theorem seg_len {l : List En} {lo hi : Nat} (h : hi ≤ l.length) : (seg l lo hi).length = hi - lo := by rw [seg, List.length_take, List.length_drop]; omega
theorem seg_nil (l : List En) (hi : Nat) : seg l hi hi = [] := by simp [seg]
theorem seg_cons {l : List En} {lo hi : Nat} (h : lo < hi) (h2 : hi ≤ l.length) : seg l lo hi = enAt l lo :: seg l (lo + 1) hi := by
  rw [seg, drop_en l lo (by omega), show hi - lo = (hi - (lo + 1)) + 1 by omega, List.take_succ_cons]
  rfl
theorem seg_at {l : List En} {lo hi j : Nat} (h : lo ≤ j) (h2 : j < hi) (h3 : hi ≤ l.length) : enAt (seg l lo hi) (j - lo) = enAt l j := by
  rw [enAt_at _ _ (by rw [seg_len h3]; omega), enAt_at _ _ (by omega)]
  simp only [seg, List.getElem_take, List.getElem_drop]
  congr 1
  omega
theorem seg_take {l : List En} {lo hi k : Nat} (h : lo + k ≤ hi) : (seg l lo hi).take k = seg l lo (lo + k) := by
  rw [seg, seg, List.take_take, Nat.min_eq_left (by omega), Nat.add_sub_cancel_left]
theorem seg_drop {l : List En} {lo hi k : Nat} : (seg l lo hi).drop k = seg l (lo + k) hi := by
  rw [seg, seg, List.drop_take, List.drop_drop, Nat.sub_sub]
theorem seg_all (l : List En) : seg l 0 l.length = l := by simp [seg]
theorem vals_drop (l : List En) (k : Nat) : vals (l.drop k) = (vals l).drop k := by simp [vals]
section
variable {P : Program}
/-- An append of one element of at most 128 bytes (Mem3's wpList_appN, wider). -/
theorem wpList_appW {ops : Array Oper} {rest : List Oper} {o : Oper} {a : Act} {Q : Exit → Act → World → Prop} {w : World} {base : Nat} {t e : TypeId} {z : Value} {size bytes : Nat} {v : Value} {n : Nat} {xs : List Value} (cs : Array Value)
    (hT : ElemT P t e z size bytes) (hown : w.ownsRow base e size v n xs) (hcs : cs.size = size) (hone : ∀ u ∈ cs.toList, u.oneCell' = true) (hw : base ≤ w.heap.size) (h63 : n < 1000000) (hbytes : bytes ≤ 128)
    (hgd : o.guard = none) (s y : Operand) (ho : o.op = .call { callee := .builtin .append, args := #[s, y], argTypes := #[t, t] })
    (H : Nat) (hH : w.heap.size = H) (hs : a.eval s = v) (hx : a.eval y = .slice (some ⟨H, 0, none⟩) 1 1)
    (h : ∀ v' w', w'.ownsRow base e size v' (n + 1) (xs ++ cs.toList) → w.grownBy w' v.ownBlock → (v'.ownBlock = v.ownBlock ∨ v'.ownBlock = some (H + 1)) → wpList P ops Q rest (a.put o.dst v') w') :
    wpList P ops Q (o :: rest) a (w.alloc (.cells cs e)) := by
  subst hH
  obtain ⟨i, hi, hz, hsz, hby⟩ := info_parts hT.info
  have hbm : (n + 1) * bytes ≤ (n + 1) * 128 := Nat.mul_le_mul_left _ hbytes
  refine wpList_append_own_at _ hgd s y t ho base e i z size bytes hT.under hi hz hsz hby hT.cells hT.pos v n xs hs (hown.alloc _) ⟨w.heap.size, 0, none⟩ 1 1 cs.toList hx (by rw [Array.length_toList, hcs, Nat.one_mul]) (World.news_of_block (heap_alloc_new w _)) hone (by unfold maxLen; omega) (by omega) (by simp; omega) ?_
  intro v' w' hown' hg _ hat
  exact h v' w' hown' ((World.grownBy_alloc w _ _).trans hg) (by simpa using hat)
end
end Go.Proofs.YtnpiljkchjdpfaaDoor

namespace Go.Proofs.YtnpiljkchjdpfaaDoor
open Go.RowKit

def m3 (k : Int) : Bool := k % 3 == 0
/-- The marks. -/
def markT : Int → List Tn → List Tn
  | _, [] => []
  | k, e :: l => { e with ss := marks k e.ss.length, cs := marks (k + (e.ss.length : Int)) e.cs.length, b := m3 (k + (e.ss.length : Int) + (e.cs.length : Int)), t := mkT (k + (e.ss.length : Int) + (e.cs.length : Int) + 1) } :: markT (k + (e.ss.length : Int) + (e.cs.length : Int) + 2) l
def cntT (l : List Tn) : Int := (l.map fun e => (e.ss.length : Int) + (e.cs.length : Int) + 2).sum
theorem tnAt_take (l : List Tn) (j : Nat) (h : j < l.length) : l.take (j + 1) = l.take j ++ [tnAt l j] := by
  rw [List.take_succ_eq_append_getElem h]; simp [tnAt, h]
theorem drop_tn (l : List Tn) (k : Nat) (h : k < l.length) : l.drop k = tnAt l k :: l.drop (k + 1) := by
  rw [List.drop_eq_getElem_cons h]; simp [tnAt, h]
theorem tnAt_mid (p q : List Tn) (e : Tn) (j : Nat) (hj : p.length = j) : tnAt (p ++ e :: q) j = e := by
  rw [tnAt, List.getD_eq_getElem?_getD, List.getElem?_append_right (by omega)]
  simp [hj]
theorem cntT_append (a b : List Tn) : cntT (a ++ b) = cntT a + cntT b := by simp [cntT]
theorem cntT_nn (l : List Tn) : 0 ≤ cntT l := by
  induction l with
  | nil => simp [cntT]
  | cons e l ih => simp only [cntT, List.map_cons, List.sum_cons] at ih ⊢; omega
theorem cntT_take_le (l : List Tn) (k : Nat) : cntT (l.take k) ≤ cntT l := by
  have h := cntT_append (l.take k) (l.drop k)
  rw [List.take_append_drop] at h
  have := cntT_nn (l.drop k)
  omega
theorem cntT_succ (l : List Tn) (k : Nat) (h : k < l.length) : cntT (l.take (k + 1)) = cntT (l.take k) + ((tnAt l k).ss.length : Int) + ((tnAt l k).cs.length : Int) + 2 := by
  rw [tnAt_take l k h, cntT_append]
  simp [cntT]
  omega
theorem markT_append (a b : List Tn) : ∀ k, markT k (a ++ b) = markT k a ++ markT (k + cntT a) b := by
  induction a with
  | nil => intro k; simp [markT, cntT]
  | cons e a ih =>
    intro k
    rw [List.cons_append, markT, markT, ih, List.cons_append]
    congr 2
    simp only [cntT, List.map_cons, List.sum_cons]
    congr 1
    omega
theorem markT_len (l : List Tn) : ∀ k, (markT k l).length = l.length := by
  induction l with
  | nil => intro k; rfl
  | cons e l ih => intro k; rw [markT, List.length_cons, List.length_cons, ih]
/-- The node e, marked from k on. -/
def mkTn (k : Int) (e : Tn) : Tn := { e with ss := marks k e.ss.length, cs := marks (k + (e.ss.length : Int)) e.cs.length, b := m3 (k + (e.ss.length : Int) + (e.cs.length : Int)), t := mkT (k + (e.ss.length : Int) + (e.cs.length : Int) + 1) }
theorem markT_succ (k : Int) (l : List Tn) (j : Nat) (h : j < l.length) : markT k (l.take (j + 1)) = markT k (l.take j) ++ [mkTn (k + cntT (l.take j)) (tnAt l j)] := by
  rw [tnAt_take l j h, markT_append]
  rfl
theorem markT_at (k : Int) (l : List Tn) (j : Nat) (h : j < l.length) : tnAt (markT k l) j = mkTn (k + cntT (l.take j)) (tnAt l j) := by
  have e : markT k l = markT k (l.take j) ++ mkTn (k + cntT (l.take j)) (tnAt l j) :: markT (k + cntT (l.take j) + ((tnAt l j).ss.length : Int) + ((tnAt l j).cs.length : Int) + 2) (l.drop (j + 1)) := by
    conv => lhs; rw [← List.take_append_drop j l, markT_append, drop_tn l j h]
    rfl
  rw [e, tnAt_mid _ _ _ j (by rw [markT_len, List.length_take]; omega)]
/-- Where a node's lists lie. -/
def sh (e : Tn) : Value × Value := (e.s1, e.s2)
theorem sh_mk (k : Int) (e : Tn) : sh (mkTn k e) = sh e := by simp [sh, mkTn, Tn.s1, Tn.s2, marks_len]
theorem sh_mark (l : List Tn) : ∀ k, (markT k l).map sh = l.map sh := by
  induction l with
  | nil => intro k; rfl
  | cons e l ih =>
    intro k
    show sh (mkTn k e) :: (markT _ l).map sh = sh e :: l.map sh
    rw [sh_mk, ih]
theorem allLt_sh {hi : Nat} {tn ti : TypeId} {v : Value} {l l' : List Tn} (h : AllLt hi (tRows tn ti v l)) (hs : l'.map sh = l.map sh) : AllLt hi (tRows tn ti v l') := fun r hr => by
  rcases List.mem_cons.1 hr with rfl | hr
  · exact h (nRow tn v l.length (tns l)) (List.mem_cons_self ..)
  · obtain ⟨x, hx, hr⟩ := List.mem_flatMap.1 hr
    have hm : sh x ∈ l.map sh := by rw [← hs]; exact List.mem_map.2 ⟨x, hx, rfl⟩
    obtain ⟨y, hy, e⟩ := List.mem_map.1 hm
    have e1 : y.s1 = x.s1 := congrArg Prod.fst e
    have e2 : y.s2 = x.s2 := congrArg Prod.snd e
    simp only [List.mem_cons, List.not_mem_nil, or_false] at hr
    rcases hr with rfl | rfl
    · show ∀ g, x.s1.ownBlock = some g → g < hi
      rw [← e1]
      exact h (ndRow1 ti y) (List.mem_cons_of_mem _ (nd_mem ti hy).1)
    · show ∀ g, x.s2.ownBlock = some g → g < hi
      rw [← e2]
      exact h (ndRow2 ti y) (List.mem_cons_of_mem _ (nd_mem ti hy).2)
theorem tOwn_n {w : World} {base : Nat} {tn ti : TypeId} {A : Option Addr} {n c : Nat} {l : List Tn} (h : OwnAll w base (tRows tn ti (.slice A n c) l)) (hn : l.length = n) : w.ownsRow base tn 4 (.slice A n c) n (tns l) := by
  have := h.own (nRow tn (.slice A n c) l.length (tns l)) (List.mem_cons_self ..)
  subst hn
  exact this
theorem tOwn_1 {w : World} {base : Nat} {tn ti : TypeId} {v : Value} {l : List Tn} (h : OwnAll w base (tRows tn ti v l)) {e : Tn} (he : e ∈ l) : w.ownsRow base ti 1 (.slice e.A1 e.ss.length e.c1) e.ss.length (ints e.ss) := h.own (ndRow1 ti e) (List.mem_cons_of_mem _ (nd_mem ti he).1)
theorem tOwn_2 {w : World} {base : Nat} {tn ti : TypeId} {v : Value} {l : List Tn} (h : OwnAll w base (tRows tn ti v l)) {e : Tn} (he : e ∈ l) : w.ownsRow base ti 1 (.slice e.A2 e.cs.length e.c2) e.cs.length (ints e.cs) := h.own (ndRow2 ti e) (List.mem_cons_of_mem _ (nd_mem ti he).2)
theorem tns_mid (p q : List Tn) (e e' : Tn) (h1 : e'.s1 = e.s1) (h2 : e'.s2 = e.s2) (h3 : e'.b = e.b) (h4 : e'.t = e.t) : tns (p ++ e' :: q) = tns (p ++ e :: q) := by
  rw [tns_append, tns_append, tns_cons, tns_cons, tnC, tnC, h1, h2, h3, h4]
/-- A node's strokes, its children are written. -/
theorem tOwn_up1 {w w' : World} {base : Nat} {tn ti : TypeId} {v : Value} {p q : List Tn} {e : Tn} {ss' : List Int} (h : OwnAll w base (tRows tn ti v (p ++ e :: q))) (hl : ss'.length = e.ss.length) (hg : w.grownBy w' (Value.slice e.A1 e.ss.length e.c1).ownBlock) (ho : w'.ownsRow base ti 1 (.slice e.A1 e.ss.length e.c1) e.ss.length (ints ss')) :
    OwnAll w' base (tRows tn ti v (p ++ { e with ss := ss' } :: q)) := by
  have e1 : Tn.s1 { e with ss := ss' } = e.s1 := by simp [Tn.s1, hl]
  have h' : OwnAll w base ((nRow tn v (p ++ e :: q).length (tns (p ++ e :: q)) :: ndRows ti p) ++ ndRow1 ti e :: (ndRow2 ti e :: ndRows ti q)) := by
    have := h
    rw [tRows, ndRows_append, ndRows_cons] at this
    exact this
  have h2 := h'.upd (r' := ndRow1 ti { e with ss := ss' }) hg (by show World.ownsRow _ _ _ _ _ _ _; simp only [ndRow1, e1, hl]; exact ho) (fun g hg => Or.inl (by simpa only [ndRow1, e1] using hg))
  rw [tRows, tns_mid p q e { e with ss := ss' } e1 rfl rfl rfl, ndRows_append, ndRows_cons]
  have e2 : ndRow2 ti { e with ss := ss' } = ndRow2 ti e := rfl
  rw [e2]
  simpa using h2
theorem tOwn_up2 {w w' : World} {base : Nat} {tn ti : TypeId} {v : Value} {p q : List Tn} {e : Tn} {cs' : List Int} (h : OwnAll w base (tRows tn ti v (p ++ e :: q))) (hl : cs'.length = e.cs.length) (hg : w.grownBy w' (Value.slice e.A2 e.cs.length e.c2).ownBlock) (ho : w'.ownsRow base ti 1 (.slice e.A2 e.cs.length e.c2) e.cs.length (ints cs')) :
    OwnAll w' base (tRows tn ti v (p ++ { e with cs := cs' } :: q)) := by
  have e1 : Tn.s2 { e with cs := cs' } = e.s2 := by simp [Tn.s2, hl]
  have h' : OwnAll w base ((nRow tn v (p ++ e :: q).length (tns (p ++ e :: q)) :: (ndRows ti p ++ [ndRow1 ti e])) ++ ndRow2 ti e :: ndRows ti q) := by
    have := h
    rw [tRows, ndRows_append, ndRows_cons] at this
    simpa using this
  have h2 := h'.upd (r' := ndRow2 ti { e with cs := cs' }) hg (by show World.ownsRow _ _ _ _ _ _ _; simp only [ndRow2, e1, hl]; exact ho) (fun g hg => Or.inl (by simpa only [ndRow2, e1] using hg))
  rw [tRows, tns_mid p q e { e with cs := cs' } rfl e1 rfl rfl, ndRows_append, ndRows_cons]
  have e2 : ndRow1 ti { e with cs := cs' } = ndRow1 ti e := rfl
  rw [e2]
  simpa using h2
/-- A node's bool, its text is stored. -/
theorem tOwn_b {w : World} {base : Nat} {tn ti : TypeId} {g n c : Nat} {p q : List Tn} {e : Tn} {j : Nat} (h : OwnAll w base (tRows tn ti (.slice (some ⟨g, 0, none⟩) n c) (p ++ e :: q))) (hn : (p ++ e :: q).length = n) (hj : p.length = j) (b' : Bool) :
    OwnAll (w.setCell ⟨g, j * 4 + 2, none⟩ (.bool b')) base (tRows tn ti (.slice (some ⟨g, 0, none⟩) n c) (p ++ { e with b := b' } :: q)) ∧ w.grownBy (w.setCell ⟨g, j * 4 + 2, none⟩ (.bool b')) (some g) := by
  obtain ⟨o1, g1⟩ := World.ownsRow.stored (tOwn_n h hn) (j * 4 + 2) (.bool b')
  refine ⟨?_, g1⟩
  have e1 : (tns (p ++ e :: q)).set (j * 4 + 2) (.bool b') = tns (p ++ { e with b := b' } :: q) := by
    have hl : (tns p).length = j * 4 := by rw [tns_length, hj]
    rw [tns_append, tns_append, app_set _ _ _ 2 _ hl]
    rfl
  rw [e1] at o1
  have hl2 : (p ++ { e with b := b' } :: q).length = n := by simpa using hn
  have := own_up1 (r' := nRow tn (.slice (some ⟨g, 0, none⟩) n c) (p ++ { e with b := b' } :: q).length (tns (p ++ { e with b := b' } :: q))) h g1 (by show World.ownsRow _ _ _ _ _ _ _; simp only [nRow]; rw [hl2]; exact o1) (fun k hk => Or.inl hk)
  rw [ndRows_append, ndRows_cons] at this
  rw [tRows, ndRows_append, ndRows_cons]
  exact this
theorem tOwn_t {w : World} {base : Nat} {tn ti : TypeId} {g n c : Nat} {p q : List Tn} {e : Tn} {j : Nat} (h : OwnAll w base (tRows tn ti (.slice (some ⟨g, 0, none⟩) n c) (p ++ e :: q))) (hn : (p ++ e :: q).length = n) (hj : p.length = j) (t' : ByteArray) :
    OwnAll (w.setCell ⟨g, j * 4 + 3, none⟩ (.string t')) base (tRows tn ti (.slice (some ⟨g, 0, none⟩) n c) (p ++ { e with t := t' } :: q)) ∧ w.grownBy (w.setCell ⟨g, j * 4 + 3, none⟩ (.string t')) (some g) := by
  obtain ⟨o1, g1⟩ := World.ownsRow.stored (tOwn_n h hn) (j * 4 + 3) (.string t')
  refine ⟨?_, g1⟩
  have e1 : (tns (p ++ e :: q)).set (j * 4 + 3) (.string t') = tns (p ++ { e with t := t' } :: q) := by
    have hl : (tns p).length = j * 4 := by rw [tns_length, hj]
    rw [tns_append, tns_append, app_set _ _ _ 3 _ hl]
    rfl
  rw [e1] at o1
  have hl2 : (p ++ { e with t := t' } :: q).length = n := by simpa using hn
  have := own_up1 (r' := nRow tn (.slice (some ⟨g, 0, none⟩) n c) (p ++ { e with t := t' } :: q).length (tns (p ++ { e with t := t' } :: q))) h g1 (by show World.ownsRow _ _ _ _ _ _ _; simp only [nRow]; rw [hl2]; exact o1) (fun k hk => Or.inl hk)
  rw [ndRows_append, ndRows_cons] at this
  rw [tRows, ndRows_append, ndRows_cons]
  exact this
end Go.Proofs.YtnpiljkchjdpfaaDoor
