/-
  Walks over package pages: some, Dirty, Len.
-/
import Derived.Test.YtlecfdchmcghlaaPages7
namespace Go.Proofs.Ytlecfdchmcghlaa
open Go.RowKit Go.Shelf
set_option linter.unusedVariables false
attribute [local go_sem] Oper.semAt_some

def filt (f : E → Bool) (l : List (Nat × E)) : List Int := (l.filter fun x => f x.2).map fun x => (x.1 : Int)
theorem filt_snoc (f : E → Bool) (pre : List (Nat × E)) (x : Nat × E) : filt f (pre ++ [x]) = filt f pre ++ (if f x.2 then [(x.1 : Int)] else []) := by
  unfold filt; rw [List.filter_append, List.map_append]; cases h : f x.2 <;> simp [h]
theorem filt_len (f : E → Bool) (l : List (Nat × E)) : (filt f l).length ≤ l.length := by unfold filt; rw [List.length_map]; exact List.length_filter_le _ _
theorem infoI : (Try.prog.info? 3).map (fun i => (i.zero, i.size, i.bytes)) = some (some (.int .i64 0), 1, 8) := by kernel_rfl

theorem ownsRow_below {w w' : World} {base : Nat} {e : TypeId} {size : Nat} {v : Value} {k : Nat} {xs : List Value} (h : w.ownsRow base e size v k xs) (hb : Below w.heap.size w w') : w'.ownsRow base e size v k xs :=
  h.kept (grownBy_below hb) (by cases v.ownBlock <;> simp)
theorem keepsFrom_below {B : Nat} {W W' : World} (h : Below W.heap.size W W') : KeepsFrom B W W' := ⟨h.size, fun k o _ hk _ => (h.block k (Array.getElem?_eq_some_iff.1 hk).1).trans hk⟩

theorem list_any {w : World} {bt : Nat} {q : Nat → Option Nat} {m : M} (hT : Tab w bt q m) : Calls Try.prog 28 #[.pointer (some ⟨bt, 0, none⟩)] w fun e W' => ∃ v, e = .returned v ∧ W'.ownsRow w.heap.size 75 6 v (list m).length ((list m).flatMap mapCells) ∧ (v = .slice none 0 0 ↔ list m = []) ∧ Below w.heap.size w W' :=
  callsIn_wide.1 (list_in 6 (by omega) bt q m w hT)

theorem ownsLen {w : World} {base : Nat} {e : TypeId} {size : Nat} {v : Value} {k : Nat} {xs : List Value} (h : w.ownsRow base e size v k xs) : ∃ a c, v = .slice a k c := by
  rcases h.2 with ⟨rfl, rfl⟩ | ⟨g, cap, cur, rfl, _⟩
  · exact ⟨_, _, rfl⟩
  · exact ⟨_, _, rfl⟩
theorem filt_true (l : List (Nat × E)) : (filt (fun _ => true) l).length = l.length := by simp [filt]
end Go.Proofs.Ytlecfdchmcghlaa
