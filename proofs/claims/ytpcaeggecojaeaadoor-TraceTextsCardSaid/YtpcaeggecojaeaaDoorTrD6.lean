/-
  Walks over package trace: Of, Without. No condition.
-/
import Derived.Test.YtpcaeggecojaeaaDoorTrD5
namespace Go.Proofs.YtpcaeggecojaeaaDoor
open Go.RowKit Go.Shelf
set_option linter.unusedVariables false
set_option linter.unusedSimpArgs false

theorem ofOne (B : Option Addr) (cb : Nat) (ps : List Int) (hpl : ps.length ≤ 1000000) (Bp : Nat) (x : S) (W : World) (hK : Boxed W Bp 29 (.slice B ps.length cb) ∧ IntsAt W B ps) :
    Calls Tryd.prog 27 #[x.val, .pointer (some ⟨Bp, 0, none⟩)] W fun e w' => e = .returned (.bool (decide (x.p ∈ ps))) ∧ Below W.heap.size W w' := by
  obtain ⟨hb, hI⟩ := hK
  obtain ⟨xp, xk, xc, xv⟩ := x
  have hc := hb.cell
  have hlt := hb.lt
  have HC := Lib.hid (contains_any B cb ps hpl (hI.alloc (.cells (S.cells ⟨xp, xk, xc, xv⟩).toArray 27)) xp)
  simp only [S.val, S.cells] at HC ⊢
  clear hI
  go_enter Tryd.func27, Tryd.ntmps27
  go_wp2_with fail
  refine HC.out.mono ?_
  rintro e w1 ⟨rfl, hb1⟩
  go_wp2_with fail
  go_ret
  exact ⟨rfl, ((Below.refl _ _).alloc (Nat.le_refl _) _).trans (hb1.mono (by simp))⟩
theorem withoutOne (call : Int) (Bp : Nat) (x : S) (W : World) (hb : Boxed W Bp 3 (.int .i64 call)) :
    Calls Tryd.prog 46 #[x.val, .pointer (some ⟨Bp, 0, none⟩)] W fun e w' => e = .returned (.bool (!(decide (x.k = 1) && decide (x.c = call)))) ∧ Below W.heap.size W w' := by
  obtain ⟨xp, xk, xc, xv⟩ := x
  have hc := hb.cell
  have hlt := hb.lt
  simp only [S.val, S.cells]
  by_cases h1 : xk = 1
  · subst h1
    by_cases h2 : xc = call
    · have hb2 : (xc != call) = false := by simp [h2]
      rw [decide_eq_true h2, decide_eq_true (rfl : (1 : Int) = 1)]
      clear h2
      go_enter Tryd.func46, Tryd.ntmps46
      go_wp2_with (go_quiet (fail))
      go_ret
      exact ⟨rfl, by first | exact belowN ((Below.refl _ _).alloc (Nat.le_refl _) _) _ | exact ((Below.refl _ _).alloc (Nat.le_refl _) _)⟩
    · have hb2 : (xc != call) = true := by simp [h2]
      rw [decide_eq_false h2]
      clear h2
      go_enter Tryd.func46, Tryd.ntmps46
      go_wp2_with (go_quiet (fail))
      go_ret
      exact ⟨rfl, by first | exact belowN ((Below.refl _ _).alloc (Nat.le_refl _) _) _ | exact ((Below.refl _ _).alloc (Nat.le_refl _) _)⟩
  · have hb1 : (xk != 1) = true := by simp [h1]
    rw [decide_eq_false h1]
    clear h1
    go_enter Tryd.func46, Tryd.ntmps46
    go_wp2_with (go_quiet (fail))
    go_ret
    exact ⟨rfl, by first | exact belowN ((Below.refl _ _).alloc (Nat.le_refl _) _) _ | exact ((Below.refl _ _).alloc (Nat.le_refl _) _)⟩

theorem seen_low {w : World} {A : Option Addr} {l : List S} (hA : SeenAt w A l) : 0 < (l.map S.cells).length → ∀ b off, A = some ⟨b, off, none⟩ → b < w.heap.size := fun h0 b off hb => by
  rw [List.length_map] at h0
  obtain ⟨b', off', hA', hlt, _⟩ := seen_at hA (List.getElem?_eq_getElem h0)
  rw [hb] at hA'
  injection hA' with hA'
  injection hA' with e1 _ _
  omega
theorem int_low {w : World} {A : Option Addr} {l : List Int} (hA : IntsAt w A l) : 0 < (l.map iCells).length → ∀ b off, A = some ⟨b, off, none⟩ → b < w.heap.size := fun h0 b off hb => by
  rw [List.length_map] at h0
  obtain ⟨b', off', hA', hlt, _⟩ := int_at hA (List.getElem?_eq_getElem h0)
  rw [hb] at hA'
  injection hA' with hA'
  injection hA' with e1 _ _
  omega
theorem own_lower {w : World} {b b' : Nat} {t : TypeId} {s : Nat} {v : Value} {n : Nat} {cs : List Value} (h : w.ownsRow b t s v n cs) (hb : b' ≤ b) : w.ownsRow b' t s v n cs := by
  refine ⟨h.1, ?_⟩
  rcases h.2 with h2 | ⟨g, cap, cur, h3, h4, h5⟩
  · exact .inl h2
  · exact .inr ⟨g, cap, cur, h3, Nat.le_trans hb h4, h5⟩
theorem of_any {w : World} (A B : Option Addr) (ca cb : Nat) (xs : List S) (ps : List Int) (hx : SeenAt w A xs) (hp : IntsAt w B ps) (hxl : xs.length ≤ 1000000) (hpl : ps.length ≤ 1000000) :
    Calls Tryd.prog 12 #[.slice A xs.length ca, .slice B ps.length cb] w fun e w' => ∃ v, e = .returned v ∧ OwnS w' w.heap.size v (selOf ps xs) ∧ Below w.heap.size w w' := by
  have hlow := int_low hp
  have hbx := Boxed.new w 29 (.slice B ps.length cb)
  have H := Lib.hid (callsIn_wide.1 (list_in 6 (by omega) A ca xs hxl 27 #[.pointer (some ⟨w.heap.size, 0, none⟩)] (fun x => decide (x.p ∈ ps)) (enters_of Tryd.func27 (by kernel_rfl) rfl) (w.alloc (.cells #[.slice B ps.length cb] 29))
    (fun W => Boxed W w.heap.size 29 (.slice B ps.length cb) ∧ IntsAt W B ps)
    (fun X Y h hb => ⟨Blk.below h.1 hb (by simp), h.2.belowB hb (fun h0 b off hB => by have := hlow h0 b off hB; simp; omega)⟩)
    (fun x W hK => ofOne B cb ps hpl w.heap.size x W hK) (hx.alloc _) ⟨hbx, hp.alloc _⟩))
  clear hlow hbx hx hp
  go_enter Tryd.func12, Tryd.ntmps12
  go_wp2_with fail
  refine H.out.mono ?_
  rintro e w1 ⟨v, rfl, hv, hb1⟩
  go_wp2_with fail
  go_ret
  exact ⟨v, rfl, own_lower hv (by simp), ((Below.refl _ _).alloc (Nat.le_refl _) _).trans (hb1.mono (by simp))⟩
theorem without_any {w : World} (A : Option Addr) (ca : Nat) (xs : List S) (hx : SeenAt w A xs) (hxl : xs.length ≤ 1000000) (call : Int) :
    Calls Tryd.prog 23 #[.slice A xs.length ca, .int .i64 call] w fun e w' => ∃ v, e = .returned v ∧ OwnS w' w.heap.size v (without call xs) ∧ Below w.heap.size w w' := by
  have hbx := Boxed.new w 3 (.int .i64 call)
  have H := Lib.hid (callsIn_wide.1 (list_in 6 (by omega) A ca xs hxl 46 #[.pointer (some ⟨w.heap.size, 0, none⟩)] (fun x => !(decide (x.k = 1) && decide (x.c = call))) (enters_of Tryd.func46 (by kernel_rfl) rfl) (w.alloc (.cells #[.int .i64 call] 3))
    (fun W => Boxed W w.heap.size 3 (.int .i64 call))
    (fun X Y h hb => Blk.below h hb (by simp))
    (fun x W hK => withoutOne call w.heap.size x W hK) (hx.alloc _) hbx))
  clear hbx hx
  go_enter Tryd.func23, Tryd.ntmps23
  go_wp2_with fail
  refine H.out.mono ?_
  rintro e w1 ⟨v, rfl, hv, hb1⟩
  go_wp2_with fail
  go_ret
  exact ⟨v, rfl, own_lower hv (by simp), ((Below.refl _ _).alloc (Nat.le_refl _) _).trans (hb1.mono (by simp))⟩
end Go.Proofs.YtpcaeggecojaeaaDoor
