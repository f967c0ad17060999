/- Appending one element of several cells; rows that stay while another one is written. No condition. -/
import Derived.Test.YtnpiljkchjdpfaaDoorMem
namespace Go.Proofs.YtnpiljkchjdpfaaDoor
open Go.RowKit

section
variable {P : Program}
/-- 'append(s, x)' at an element of several cells, onto a row of the call's own. -/
theorem wpList_appN {ops : Array Oper} {rest : List Oper} {o : Oper} {a : Act} {Q : Exit → Act → World → Prop} {w0 w : World} {B base : Nat} {t e : TypeId} {z : Value} {size bytes : Nat} {v : Value} {n : Nat} {xs : List Value} (cs : Array Value)
    (hT : ElemT P t e z size bytes) (hbel : Below B w0 w) (hown : w.ownsRow base e size v n xs) (hcs : cs.size = size) (hone : ∀ u ∈ cs.toList, u.oneCell' = true) (hB : B ≤ base) (hw : base ≤ w.heap.size) (h63 : n < 1099511627776) (hbytes : bytes ≤ 64)
    (hgd : o.guard = none) (s y : Operand) (ho : o.op = .call { callee := .builtin .append, args := #[s, y], argTypes := #[t, t] })
    (H : Nat) (hH : w.heap.size = H) (hs : a.eval s = v) (hx : a.eval y = .slice (some ⟨H, 0, none⟩) 1 1)
    (h : ∀ v' w', w'.ownsRow base e size v' (n + 1) (xs ++ cs.toList) → Below B w0 w' → w.grownBy w' v.ownBlock → (v'.ownBlock = v.ownBlock ∨ v'.ownBlock = some (H + 1)) → wpList P ops Q rest (a.put o.dst v') w') :
    wpList P ops Q (o :: rest) a (w.alloc (.cells cs e)) := by
  subst hH
  obtain ⟨i, hi, hz, hsz, hby⟩ := info_parts hT.info
  have hbm : (n + 1) * bytes ≤ (n + 1) * 64 := Nat.mul_le_mul_left _ hbytes
  refine wpList_append_own_at _ hgd s y t ho base e i z size bytes hT.under hi hz hsz hby hT.cells hT.pos v n xs hs (hown.alloc _) ⟨w.heap.size, 0, none⟩ 1 1 cs.toList hx (by rw [Array.length_toList, hcs, Nat.one_mul]) (World.news_of_block (heap_alloc_new w _)) hone (by unfold maxLen; omega) (by omega) (by simp; omega) ?_
  intro v' w' hown' hg _ hat
  refine h v' w' hown' ?_ ?_ (by simpa using hat)
  · exact (hbel.alloc (by omega) _).grown hg (by simp; omega) (fun k hk => by have := (hown.lt k hk).1; omega)
  · exact (World.grownBy_alloc w _ _).trans hg
end

/-- The value's own row lies in no block from Z to Z'. -/
def Clear (v : Value) (Z Z' : Nat) : Prop := ∀ g, v.ownBlock = some g → g < Z ∨ Z' ≤ g
/-- The blocks from Z to Z' read as they did. -/
def Kept (wk wr : World) (Z Z' : Nat) : Prop := ∀ p : Addr, Z ≤ p.block → p.block < Z' → wr.cell? p = wk.cell? p
theorem clear_of_own {w : World} {base : Nat} {e : TypeId} {size n : Nat} {v : Value} {xs : List Value} (ho : w.ownsRow base e size v n xs) {Z Z' : Nat} (hZ : w.heap.size ≤ Z) : Clear v Z Z' := fun g hg => Or.inl (by have := (ho.lt g hg).2; omega)
theorem clear_app {v v' : Value} {Z Z' H : Nat} (h : Clear v Z Z') (h1 : v'.ownBlock = v.ownBlock ∨ v'.ownBlock = some H) (hH : Z' ≤ H) : Clear v' Z Z' := fun g hg => by
  rcases h1 with h1 | h1
  · exact h g (h1 ▸ hg)
  · rw [hg] at h1
    injection h1 with h1
    exact Or.inr (by omega)
theorem kept_refl (w : World) (Z Z' : Nat) : Kept w w Z Z' := fun _ _ _ => rfl
theorem kept_app {wk wr w' : World} {v : Value} {Z Z' : Nat} (h : Kept wk wr Z Z') (hc : Clear v Z Z') (hg : wr.grownBy w' v.ownBlock) (hZ : Z' ≤ wr.heap.size) : Kept wk w' Z Z' := fun p h1 h2 => by
  refine (World.cell?_of_block (hg.block p.block (Nat.lt_of_lt_of_le h2 hZ) ?_)).trans (h p h1 h2)
  intro e
  rcases hc p.block e.symm with h3 | h3 <;> omega
theorem kept_below {wk wr w' : World} {Z Z' B : Nat} (h : Kept wk wr Z Z') (hb : Below B wr w') (hB : Z' ≤ B) : Kept wk w' Z Z' := fun p h1 h2 => (hb.cell (by omega)).trans (h p h1 h2)
theorem kept_sub {wk wr : World} {Z Z' Y Y' : Nat} (h : Kept wk wr Z Z') (h1 : Z ≤ Y) (h2 : Y' ≤ Z') : Kept wk wr Y Y' := fun p a b => h p (by omega) (by omega)
/-- A row that lies in these blocks stays. -/
theorem Row.kept {wk wr : World} {Z Z' base : Nat} {e : TypeId} {size n : Nat} {A : Option Addr} {c : Nat} {cs : List Value} (ho : wk.ownsRow base e size (.slice A n c) n cs) (hb : Z ≤ base) (hZ : wk.heap.size ≤ Z') (hk : Kept wk wr Z Z') : Row wr Z' A cs := fun hne => by
  obtain ⟨b, off, e1, h1, hc⟩ := Row.of_own ho hne
  have hlt : Z ≤ b := by
    have := (ho.lt b (by rw [e1]; rfl)).1
    omega
  exact ⟨b, off, e1, by omega, fun j u hu => (hk _ hlt (by show b < Z'; omega)).trans (hc j u hu)⟩
end Go.Proofs.YtnpiljkchjdpfaaDoor
