/-
  CoreCalls: the third memory, with its row. Condition: the tables lie as the program's text lays them.
-/
import Derived.Test.YtoglmemmdolbmaaDoorCoW0
import Derived.Test.YtoglmemmdolbmaaDoorCoW1
namespace Go.Proofs.YtoglmemmdolbmaaDoor
open Go.RowKit
set_option linter.unusedVariables false

theorem ram9 {W : World} (hG : I.Ground W) : Calls Tryd.prog 10 #[.string ⟨#[115, 119, 32, 49, 32, 50, 32, 48, 10, 108, 119, 32, 51, 32, 50, 32, 48, 10, 108, 98, 32, 52, 32, 50, 32, 51, 10, 115, 121, 115, 10]⟩] W fun e w' => ∃ (g : Nat) (v : Value), e = .returned (.pointer (some ⟨g, 0, none⟩)) ∧ Blk w' g 46 #[v] ∧ B.OwnB w' W.heap.size v (memOf p9) ∧ W.heap.size ≤ g ∧ (∀ r, v.ownBlock = some r → r < g) ∧ Below W.heap.size W w' :=
  ram_own7 hG _ (by decide) (ws := (I.asmP p9).1) (n := (I.asmP p9).2.1) (er := (I.asmP p9).2.2) rfl (words_of _ (by decide +kernel)) (by decide +kernel)

theorem wpList_append_noughts {w : World} {ops : Array Oper} {rest : List Oper} {o : Oper} {a : Act} {Q : Exit → Act → World → Prop} (hgd : o.guard = none) (s x : Operand)
    (ho : o.op = .call { callee := .builtin .append, args := #[s, x], argTypes := #[43, 3] }) {base : Nat} {v : Value} {l : List Int} (hs : a.eval s = v) (hO : B.OwnB w base v l) (hne : l ≠ []) (k : Nat) (h0 : 0 < k) (hk : k ≤ 100000) (hx : a.eval x = .int .i64 (k : Int)) (hl : l.length ≤ 100000) (hbase : base ≤ w.heap.size)
    (h : ∀ v' w', B.OwnB w' base v' (l ++ List.replicate k 0) → w.grownBy w' v.ownBlock → wpList Tryd.prog ops Q rest (a.put o.dst v') w') : wpList Tryd.prog ops Q (o :: rest) a w := by
  obtain ⟨v', w', hr, h2, h3⟩ := append_zeros_own o.type hO hne k h0 hk hl hbase
  refine wpList_plain hgd fun _ hK => ?_
  unfold Oper.wp execOp
  simp only [ho, resolve, invoke, builtin, Sem.run_bind, Sem.run_pure, Result.andThen_ok, List.map_toArray, List.map_cons, List.map_nil, hs, hx, hr]
  exact hK _ _ (h v' w' h2 h3)
theorem ram_store {W : World} {g B cp : Nat} {A : Option Addr} {v : Value} {l : List Int} (hR : Blk W g 46 #[v]) (hr : RowB W A B l) (hne : l ≠ []) (hc : l.length ≤ cp) (hlow : ∀ x ∈ l, 0 ≤ x ∧ x ≤ 255) (hl : l.length ≤ 1000000) :
    RamAt (W.setCell ⟨g, 0, none⟩ (.slice A l.length cp)) g A B cp l := by
  obtain ⟨hA, cs, hb, hlen, hx⟩ := hr hne
  have hgB : g ≠ B := hR.ne_ hb (by decide)
  exact ⟨hR.set_ 0 _, fun _ => ⟨hA, cs, hb.but (But.setCell (S := fun k => k = g) (But.refl _ W) (p := ⟨g, 0, none⟩) (.inl rfl) _) (fun e => hgB e.symm), hlen, hx⟩, hc, hgB, hlow, hl⟩
theorem below_own {W0 W9 W10 : World} {v : Value} {l : List Int} (hO : B.OwnB W9 W0.heap.size v l) (hne : l ≠ []) (hb : Below W0.heap.size W0 W9) (hgr : W9.grownBy W10 v.ownBlock) : Below W0.heap.size W0 W10 := by
  obtain ⟨A, Bk, c, rfl, hrow, hB, hBl, hc⟩ := rowB_of hO hne
  obtain ⟨rfl, _⟩ := hrow hne
  exact B.below_grown hb hgr (fun r e => by simp [Value.ownBlock] at e; omega) hb.size
theorem below_store {W0 W : World} {g : Nat} (h : Below W0.heap.size W0 W) (hg : W0.heap.size ≤ g) (x : Value) : Below W0.heap.size W0 (W.setCell ⟨g, 0, none⟩ x) :=
  h.trans ((But.setCell (S := fun k => k = g) (But.refl _ W) (p := ⟨g, 0, none⟩) (.inl rfl) x).below (B := W0.heap.size) (fun k hk => by have : k = g := hk; omega) h.size)
theorem memC_low : ∀ x ∈ memC, 0 ≤ x ∧ x ≤ 255 := by
  have h : (memC.all fun x => decide (0 ≤ x ∧ x ≤ 255)) = true := by decide +kernel
  intro x hx
  have := List.all_eq_true.1 h x hx
  simpa using this
end Go.Proofs.YtoglmemmdolbmaaDoor
