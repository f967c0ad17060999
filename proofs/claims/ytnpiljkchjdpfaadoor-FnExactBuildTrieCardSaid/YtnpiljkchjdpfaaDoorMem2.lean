/- Appending a whole row that lies anywhere; a slice that slices.Grow has made out of nil. No condition. -/
import Derived.Test.YtnpiljkchjdpfaaDoorMem
import Derived.Deep.AppendSrc
import Derived.Deep.AppendLies
import Derived.Lib.AppendZeros
namespace Go.Proofs.YtnpiljkchjdpfaaDoor
open Go.RowKit

section
variable {P : Program}
theorem run_append_nil_of_none {t e : TypeId} {z : Value} {bytes : Nat} (hT : ElemT P t e z 1 bytes) (w : World) (base : Nat) (v : Value) (n : Nat) (xs : List Value) (hown : w.ownsRow base e 1 v n xs) (ty : TypeId) (c : Nat) :
    (Builtin.append_ #[t, t] ty #[v, .slice none 0 c]).run P w = .ok v w := by
  obtain ⟨i, hi, hz, hsz, hby⟩ := info_parts hT.info
  rcases hown.2 with ⟨rfl, rfl⟩ | ⟨g, cap, cur, rfl, hbg, hg, hnc, hcm, hcs, htake⟩
  · simp [Builtin.append_, run_underlying hT.under, sizeOf, typeInfo, hi, Builtin.lenOf, Builtin.firstCells]
  · have h := run_append_room_src (P := P) w t t ty e i hT.under hi g 0 n cap (.slice none 0 c) 0 [] (Src.ofNil w hT.under c) (by omega) (fun j hj => by cases hj) (fun j hj => by cases hj)
    simpa [World.setCells] using h

/-- 'append(s, xs...)': the row 'xs' may lie anywhere. -/
theorem wpList_appRow {ops : Array Oper} {rest : List Oper} {o : Oper} {a : Act} {Q : Exit → Act → World → Prop} {w0 w : World} {B base B2 : Nat} {t e : TypeId} {z : Value} {bytes : Nat} {v : Value} {n : Nat} {xs : List Value}
    (hT : ElemT P t e z 1 bytes) (hbel : Below B w0 w) (hown : w.ownsRow base e 1 v n xs) (A : Option Addr) (m c : Nat) (news : List Value) (hl : news.length = m) (hr : Row w B2 A news) (hone : ∀ u ∈ news, u.oneCell' = true)
    (hB : B ≤ base) (hw : base ≤ w.heap.size) (h63 : n + m < 1099511627776) (hbytes : bytes ≤ 64)
    (hgd : o.guard = none) (s y : Operand) (ho : o.op = .call { callee := .builtin .append, args := #[s, y], argTypes := #[t, t] })
    (hs : a.eval s = v) (hx : a.eval y = .slice A m c)
    (h : ∀ v' w', w'.ownsRow base e 1 v' (n + m) (xs ++ news) → Below B w0 w' → w.grownBy w' v.ownBlock → (v'.ownBlock = v.ownBlock ∨ v'.ownBlock = some w.heap.size) → wpList P ops Q rest (a.put o.dst v') w') :
    wpList P ops Q (o :: rest) a w := by
  obtain ⟨i, hi, hz, hsz, hby⟩ := info_parts hT.info
  have hbm : (n + m) * bytes ≤ (n + m) * 64 := Nat.mul_le_mul_left _ hbytes
  cases A with
  | none =>
    have hn : news = [] := by
      rcases List.eq_nil_or_concat news with e | ⟨_, _, e⟩
      · exact e
      · obtain ⟨b, off, he, _⟩ := hr (by rw [e]; simp)
        cases he
    subst hn
    simp at hl
    subst hl
    refine Lib.wpList_append_run (P := P) w hgd s y t t ho v (.slice none 0 c) hs hx v w (run_append_nil_of_none hT w base v n xs hown _ c) ?_
    exact h v w (by simpa using hown) hbel ⟨rfl, rfl, rfl, Nat.le_refl _, fun _ _ _ => rfl⟩ (Or.inl rfl)
  | some ad =>
    refine wpList_append_own_at _ hgd s y t ho base e i z 1 bytes hT.under hi hz hsz hby hT.cells (by omega) v n xs hs hown ad m c news hx (by omega) ?_ hone (by unfold maxLen; omega) (by omega) hw ?_
    · intro j u hu
      obtain ⟨b, off, he, hb, hc⟩ := hr (by intro e; rw [e] at hu; simp at hu)
      cases he
      have := hc j u hu
      unfold Addr.add
      split <;> simp_all
    · intro v' w' hown' hg _ hat
      exact h v' w' hown' (hbel.grown hg (by omega) (fun k hk => by have := (hown.lt k hk).1; omega)) hg hat
end
end Go.Proofs.YtnpiljkchjdpfaaDoor
