/- The reference's draws of dictionaries: an entry, an entry put into a dictionary. Condition: the cursor has been asked at most 10000 times. -/
import Derived.Test.YtnpiljkchjdpfaaGreatDoorDictP
import Derived.Test.YtnpiljkchjdpfaaGreatDoorGC
namespace Go.Proofs.YtnpiljkchjdpfaaGreatDoor
open Go.RowKit

/-- What a drawn entry is. -/
def PeV (o : List Int) (t : ByteArray) : Prop := outB o = true ∧ t.size ≤ 100
def Pe (e : En) : Prop := PeV e.o e.t
theorem outB_of {o : List Int} {n : Nat} (hl : o.length = n) (h1 : 1 ≤ n) (h3 : n ≤ 3) (hg : ∀ x ∈ o, goodB x = true) : outB o = true := by
  rw [outB, Bool.and_eq_true]
  exact ⟨by simp [inB]; omega, List.all_eq_true.2 hg⟩
set_option maxHeartbeats 1000000 in
theorem entry_any (w : World) (g m : Nat) (h : Cur w g m) (hm : m ≤ 9000) :
    Calls Tryz.prog 52 #[.pointer (some ⟨g, 0, none⟩)] w fun e w' => ∃ A n c o t, e = .returned (.agg #[.slice A n c, .string t]) ∧ o.length = n ∧ PeV o t ∧ w'.ownsRow w.heap.size 3 1 (.slice A n c) n (ints o) ∧ Cur w' g (m + 62) ∧ w.grownBy w' (some g) := by
  have hlt := h.lt
  have oR := ownC_new 42 w #[.slice none 0 0, .string ⟨#[]⟩]
  have gA : w.grownBy (w.alloc (.cells #[.slice none 0 0, .string ⟨#[]⟩] 42)) (some g) := World.grownBy_alloc _ _ _
  have hcA := h.alloc (.cells #[.slice none 0 0, .string ⟨#[]⟩] 42)
  have hne : (some g : Option Nat) ≠ some w.heap.size := fun e => by have := Option.some.inj e; omega
  go_enter Tryz.func52, Tryz.ntmps52
  go_wp2_with fail
  refine (outline_any _ g m hcA (by omega)).mono ?_
  rintro e w2 ⟨A2, n2, c2, o, rfl, hl, h1, h3, hg, ho2, hc2, hg2⟩
  have oR2 := oR.grown hg2 hne
  have g2 := gA.trans hg2
  have hlt2 := hc2.lt
  go_wp2_with fail
  refine (translation_any w2 g _ hc2 (by omega)).mono ?_
  rintro e w3 ⟨t, rfl, ht, hc3, hg3⟩
  have oR3 := oR2.grown hg3 hne
  have g3 := g2.trans hg3
  have ho3 := own_kept ho2 hg3 (by simp; omega)
  have f0 := oR3.frozen 0
  have f1 := oR3.frozen 1
  have d0 := oR3.cell (j := 0) rfl
  have d1 := oR3.cell (j := 1) rfl
  obtain ⟨oR4, g4⟩ := oR3.set 0 (.slice A2 n2 c2)
  have f2 := oR4.frozen 1
  have d2 := oR4.cell (j := 1) rfl
  obtain ⟨oR5, g5⟩ := oR4.set 1 (.string t)
  have E := Lib.hid oR5
  have gE := Lib.hid (grown_own (grown_own g3 oR3 g4) oR4 g5)
  have hne2 : (Value.slice A2 n2 c2).ownBlock ≠ some w.heap.size := fun e => by have := (ho3.lt _ e).1; simp at this; omega
  have hoE := Lib.hid (own_base ((World.ownsRow.kept (World.ownsRow.kept ho3 g4 (Or.inr hne2)) g5 (Or.inr hne2))) (show w.heap.size ≤ (w.alloc (.cells #[.slice none 0 0, .string ⟨#[]⟩] 42)).heap.size by simp))
  have hcE := Lib.hid ((hc3.grown g4 (fun k e => by have := Option.some.inj e; omega)).grown g5 (fun k e => by have := Option.some.inj e; omega))
  have hp := Lib.hid (And.intro (outB_of hl h1 h3 hg) ht)
  clear oR oR2 oR3 oR4 oR5 g4 g5 gA g2 g3 hc2 hc3 hg2 hg3 ho2 ho3 hg
  go_wp2
  exact endC rfl _ _ _ w.heap.size w.heap.size _ rfl rfl E.out Tryz.underlying42 rfl (by kernel_rfl) ⟨A2, n2, c2, o, t, rfl, hl, hp.out, hoE.out, hcE.out.more (by omega), gE.out⟩
/-! An entry put into a dictionary. -/
/-- The own entry's outline, as long as it is not put. -/
def XR (ti : TypeId) (pf : Bool) (e : En) : List RowD := if pf then [] else [oRow ti e]
theorem dOwn_join {w w3 : World} {base : Nat} {te ti : TypeId} {v v' : Value} {l : List En} {e : En} (h : OwnAll w base (dRows te ti v l ++ XR ti false e)) (ho3 : w3.ownsRow base te 2 v' (l.length + 1) (ents l ++ enC e)) (hg : w.grownBy w3 v.ownBlock) (hat : v'.ownBlock = v.ownBlock ∨ v'.ownBlock = some (w.heap.size + 1)) : OwnAll w3 base (dRows te ti v' (l ++ [e]) ++ XR ti true e) := by
  have h3 : OwnAll w base ([] ++ eRow te v l :: (l.map (oRow ti) ++ [oRow ti e])) := h
  have h4 := h3.upd (r' := eRow te v' (l ++ [e])) hg (by
    show World.ownsRow _ _ _ _ _ _ _
    simp only [eRow, List.length_append, List.length_cons, List.length_nil, ents_snoc]
    exact ho3) (fun g e2 => by
    rcases hat with hq | hq
    · exact Or.inl (hq.symm.trans e2)
    · right
      have e2' : v'.ownBlock = some g := e2
      rw [hq] at e2'
      injection e2' with e3
      omega)
  have e5 : dRows te ti v' (l ++ [e]) ++ XR ti true e = [] ++ eRow te v' (l ++ [e]) :: (l.map (oRow ti) ++ [oRow ti e]) := by simp [dRows, XR]
  rw [e5]
  exact h4
theorem dOwn_pushX {w w2 w3 : World} {base B : Nat} {te ti : TypeId} {v v' : Value} {l : List En} {e : En} {X : List RowD} (h : OwnAll w base (dRows te ti v l ++ X)) (hb : Below B w w2) (hB : w.heap.size ≤ B) (hbase : base ≤ w.heap.size)
    (ho : w2.ownsRow w.heap.size ti 1 e.sl e.o.length (ints e.o)) (ho3 : w3.ownsRow base te 2 v' (l.length + 1) (ents l ++ enC e)) (hg : w2.grownBy w3 v.ownBlock) (hat : v'.ownBlock = v.ownBlock ∨ v'.ownBlock = some (w2.heap.size + 1)) : OwnAll w3 base (dRows te ti v' (l ++ [e]) ++ X) := by
  have h2 := h.push (r := oRow ti e) hb hB ho hbase
  have h3 : OwnAll w2 base ([] ++ eRow te v l :: (l.map (oRow ti) ++ X ++ [oRow ti e])) := h2
  have h4 := h3.upd (r' := eRow te v' (l ++ [e])) hg (by
    show World.ownsRow _ _ _ _ _ _ _
    simp only [eRow, List.length_append, List.length_cons, List.length_nil, ents_snoc]
    exact ho3) (fun g e2 => by
    rcases hat with hq | hq
    · exact Or.inl (hq.symm.trans e2)
    · right
      have e2' : v'.ownBlock = some g := e2
      rw [hq] at e2'
      injection e2' with e3
      omega)
  refine h4.perm ?_
  have e5 : dRows te ti v' (l ++ [e]) ++ X = [] ++ eRow te v' (l ++ [e]) :: (l.map (oRow ti) ++ ([oRow ti e] ++ X)) := by simp [dRows]
  rw [e5, List.append_assoc]
  exact List.Perm.cons _ (List.Perm.append_left _ List.perm_append_comm)
theorem own_start {W : World} {base : Nat} {te ti : TypeId} {e : En} (h : W.ownsRow base ti 1 (.slice e.A e.o.length e.c) e.o.length (ints e.o)) : OwnAll W base (dRows te ti (.slice none 0 0) [] ++ XR ti false e) := by
  refine ⟨fun r hr => ?_, ?_⟩
  · rcases List.mem_cons.1 hr with rfl | hr
    · exact ⟨rfl, Or.inl ⟨rfl, rfl⟩⟩
    · rw [List.mem_singleton.1 hr]
      exact h
  · refine List.pairwise_cons.2 ⟨fun r _ g e1 => ?_, List.pairwise_singleton _ _⟩
    cases e1
theorem four_new (T1 T2 T3 T4 : TypeId) (w : World) (X Y Z V : Array Value) : ∃ x, x = ((((w.alloc (.cells X T1)).alloc (.cells Y T2)).alloc (.cells Z T3)).alloc (.cells V T4)) ∧ ownC T1 x w.heap.size w.heap.size X.toList ∧ ownC T2 x w.heap.size (w.heap.size + 1) Y.toList ∧ ownC T3 x w.heap.size (w.heap.size + 2) Z.toList ∧ ownC T4 x w.heap.size (w.heap.size + 3) V.toList ∧ Below w.heap.size w x ∧ x.heap.size = w.heap.size + 4 := by
  refine ⟨_, rfl, ?_⟩
  obtain ⟨h1, h2, h3, b3⟩ := three_new T1 T2 T3 w X Y Z
  have h4 := ownC_new T4 (((w.alloc (.cells X T1)).alloc (.cells Y T2)).alloc (.cells Z T3)) V
  have e : (((w.alloc (.cells X T1)).alloc (.cells Y T2)).alloc (.cells Z T3)).heap.size = w.heap.size + 3 := by simp
  rw [e] at h4
  exact ⟨h1.alloc _, h2.alloc _, h3.alloc _, h4.base (by omega), b3.alloc b3.size _, by simp⟩
end Go.Proofs.YtnpiljkchjdpfaaGreatDoor
