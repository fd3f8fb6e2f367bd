/-
  Walks over package trace and its reference: what is seen, in memory; Index, Contains, First, Same. No condition.
-/
import Derived.StillTailTactics
import Derived.Test.YtpcaeggecojaeaaDoorRowMem
namespace Go.Proofs.YtpcaeggecojaeaaDoor
open Go.RowKit
set_option linter.unusedVariables false
set_option linter.unusedSimpArgs false

structure S where
  p : Int
  k : Int
  c : Int
  v : Int
deriving DecidableEq, Inhabited
def S.cells (x : S) : List Value := [.int .i64 x.p, .int .i64 x.k, .int .i64 x.c, .int .u32 x.v]
def iCells (n : Int) : List Value := [.int .i64 n]
abbrev SeenAt (w : World) (A : Option Addr) (l : List S) : Prop := RowsAt w A 4 (l.map S.cells)
abbrev IntsAt (w : World) (A : Option Addr) (l : List Int) : Prop := RowsAt w A 1 (l.map iCells)
theorem seen_at {w : World} {A : Option Addr} {l : List S} (h : SeenAt w A l) {i : Nat} {x : S} (hx : l[i]? = some x) : ∃ b off, A = some ⟨b, off, none⟩ ∧ b < w.heap.size ∧
    w.cell? ⟨b, off + i * 4, none⟩ = some (.int .i64 x.p) ∧ w.cell? ⟨b, off + i * 4 + 1, none⟩ = some (.int .i64 x.k) ∧ w.cell? ⟨b, off + i * 4 + 2, none⟩ = some (.int .i64 x.c) ∧ w.cell? ⟨b, off + i * 4 + 3, none⟩ = some (.int .u32 x.v) := by
  obtain ⟨b, off, hA, hb, hc⟩ := h i x.cells (by rw [List.getElem?_map, hx]; rfl)
  exact ⟨b, off, hA, hb, hc 0 _ rfl, hc 1 _ rfl, hc 2 _ rfl, hc 3 _ rfl⟩
theorem int_at {w : World} {A : Option Addr} {l : List Int} (h : IntsAt w A l) {i : Nat} {x : Int} (hx : l[i]? = some x) : ∃ b off, A = some ⟨b, off, none⟩ ∧ b < w.heap.size ∧ w.cell? ⟨b, off + i, none⟩ = some (.int .i64 x) := by
  obtain ⟨b, off, hA, hb, hc⟩ := h i (iCells x) (by rw [List.getElem?_map, hx]; rfl)
  have := hc 0 _ rfl
  rw [Nat.mul_one] at this
  exact ⟨b, off, hA, hb, this⟩

theorem eqSeen (x y : S) (w : World) : (Op.equalIn 10000 27 (.agg x.cells.toArray) (.agg y.cells.toArray)).run Tryd.prog w = .ok (decide (x = y)) w := by
  rw [show (10000 : Nat) = 9999 + 1 from rfl, run_equalIn_agg w 9999 27 _ _ (by kernel_rfl) Tryd.stoodInHeld27]
  have a3 := Tryd.isAgg3
  have a4 := Tryd.isAgg25
  simp only [Program.fieldsOf, Tryd.underlying27]
  obtain ⟨p, k, c, v⟩ := x
  obtain ⟨p', k', c', v'⟩ := y
  simp only [S.cells]
  go_simp
  by_cases h1 : p = p' <;> by_cases h2 : k = k' <;> by_cases h3 : c = c' <;> by_cases h4 : v = v' <;> simp [h1, h2, h3, h4]

/-! ## Index, Contains -/
theorem index_any {w : World} (A : Option Addr) (c : Nat) (l : List Int) (hl : l.length ≤ 1000000) (hA : IntsAt w A l) (v : Int) :
    Calls Tryd.prog 47 #[.slice A l.length c, .int .i64 v] w fun e w' => ∃ r : Int, e = .returned (.int .i64 r) ∧ (0 ≤ r ↔ v ∈ l) ∧ -1 ≤ r ∧ r ≤ 1000000 ∧ Below w.heap.size w w' := by
  go_enter Tryd.func47, Tryd.ntmps47
  go_wp2
  go_loopw [8] (fun i wr => ∃ k : Nat, i = .int .i64 (k : Int) ∧ k ≤ l.length ∧ (∀ j x, j < k → l[j]? = some x → x ≠ v) ∧ Below w.heap.size w wr) (fun i _ => l.length - (intOf i).toNat)
  case atStart => exact ⟨0, rfl, Nat.zero_le _, fun j x hj => absurd hj (Nat.not_lt_zero j), Below.refl _ _⟩
  case round =>
    obtain ⟨k, rfl, hk, hpre, hB⟩ := hrel
    by_cases hkl : k < l.length
    · have hkb : (k : Int) < (l.length : Int) := by omega
      have hxe : l[k]? = some l[k] := List.getElem?_eq_getElem hkl
      obtain ⟨b, off, rfl, hbl, c0⟩ := int_at (hA.below hB) hxe
      generalize hx : l[k] = x at *
      by_cases hxv : v = x
      · have hmem : v ∈ l := by rw [hxv]; exact List.mem_of_getElem? hxe
        have HM := Lib.hid hmem
        have hb : (v == x) = true := by simp [hxv]
        clear hpre hxe hx hxv hmem
        go_wp2
        go_ret
        exact ⟨_, rfl, ⟨fun _ => HM.out, fun _ => by omega⟩, by omega, by omega, hB⟩
      · have hb : (v == x) = false := by simp [hxv]
        have HP := Lib.hid (fun j y (hj : j < k + 1) (hy : l[j]? = some y) => show y ≠ v from by
          rcases Nat.lt_or_ge j k with h | h
          · exact hpre j y h hy
          · have : j = k := by omega
            subst this
            rw [hxe] at hy
            injection hy with hy
            intro h; exact hxv (by rw [hy, h]))
        clear hpre hxe hx hxv
        go_wp2
        go_roundw
        case rel => exact ⟨k + 1, by go_num, by omega, HP.out, hB⟩
        case measure => simp [intOf]; omega
    · have hn : ¬ v ∈ l := fun hm => by
        obtain ⟨j, hj, hjv⟩ := List.getElem_of_mem hm
        exact hpre j v (by omega) (by rw [List.getElem?_eq_getElem hj, hjv]) rfl
      have HN := Lib.hid hn
      clear hpre hn
      go_wp2
      go_ret
      exact ⟨-1, rfl, ⟨fun h => by omega, fun h => absurd h HN.out⟩, by omega, by omega, hB⟩
theorem contains_any {w : World} (A : Option Addr) (c : Nat) (l : List Int) (hl : l.length ≤ 1000000) (hA : IntsAt w A l) (v : Int) :
    Calls Tryd.prog 25 #[.slice A l.length c, .int .i64 v] w fun e w' => e = .returned (.bool (decide (v ∈ l))) ∧ Below w.heap.size w w' := by
  have H := Lib.hid (index_any A c l hl hA v)
  obtain ⟨bb, hbb⟩ : ∃ bb, decide (v ∈ l) = bb := ⟨_, rfl⟩
  rw [hbb]
  have HBB := Lib.hid hbb
  clear hA hbb
  go_enter Tryd.func25, Tryd.ntmps25
  go_wp2_with fail
  refine H.out.mono ?_
  rintro e w1 ⟨r, rfl, hr, h1, h2, hb⟩
  by_cases h0 : 0 ≤ r
  · have hm : true = bb := by rw [← HBB.out]; exact (decide_eq_true (hr.1 h0)).symm
    subst hm
    clear hr
    go_wp2
    go_ret
    exact ⟨rfl, hb⟩
  · have hm : false = bb := by rw [← HBB.out]; exact (decide_eq_false fun h => h0 (hr.2 h)).symm
    subst hm
    clear hr
    go_wp2
    go_ret
    exact ⟨by change Ending.returned (.bool (decide (0 ≤ r))) = _; rw [show decide (0 ≤ r) = false from decide_eq_false (by omega)], hb⟩

/-! ## Same, of numbers -/
end Go.Proofs.YtpcaeggecojaeaaDoor
