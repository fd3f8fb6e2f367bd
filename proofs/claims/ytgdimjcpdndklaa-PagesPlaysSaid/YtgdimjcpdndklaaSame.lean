/-
  Walks over the references' comparisons of lists: Same of pages, Same of numbers. No condition.
-/
import Derived.Test.YtgdimjcpdndklaaLaw2
namespace Go.Proofs.Ytgdimjcpdndklaa
open Go.RowKit
set_option linter.unusedVariables false

/-- A slice of pages with entries in memory. -/
def MapsAt (w : World) (A : Option Addr) (l : List (Nat × E)) : Prop :=
  ∀ (i : Nat) (x : Nat × E), l[i]? = some x → ∃ b off, A = some ⟨b, off, none⟩ ∧ b < w.heap.size ∧ w.cell? ⟨b, off + i * 6, none⟩ = some (.int .i64 x.1) ∧ w.cell? ⟨b, off + i * 6 + 1, none⟩ = some (.int .i64 x.2.f) ∧
    w.cell? ⟨b, off + i * 6 + 1 + 1, none⟩ = some (.bool x.2.w) ∧ w.cell? ⟨b, off + i * 6 + 1 + 2, none⟩ = some (.bool x.2.s) ∧ w.cell? ⟨b, off + i * 6 + 1 + 3, none⟩ = some (.bool x.2.c) ∧ w.cell? ⟨b, off + i * 6 + 1 + 4, none⟩ = some (.bool x.2.d)
theorem MapsAt.below {w w' : World} {A : Option Addr} {l : List (Nat × E)} (h : MapsAt w A l) (hb : Below w.heap.size w w') : MapsAt w' A l := fun i o ho => by
  obtain ⟨b, off, hA, hlt, h0, h1, h2, h3, h4, h5⟩ := h i o ho
  exact ⟨b, off, hA, Nat.lt_of_lt_of_le hlt hb.size, (hb.cell (p := ⟨b, _, none⟩) hlt).trans h0, (hb.cell (p := ⟨b, _, none⟩) hlt).trans h1, (hb.cell (p := ⟨b, _, none⟩) hlt).trans h2, (hb.cell (p := ⟨b, _, none⟩) hlt).trans h3, (hb.cell (p := ⟨b, _, none⟩) hlt).trans h4, (hb.cell (p := ⟨b, _, none⟩) hlt).trans h5⟩
theorem MapsAt.drewN {w : World} {A : Option Addr} {l : List (Nat × E)} (h : MapsAt w A l) (n : Nat) : MapsAt (w.drewN n) A l := h

theorem belowN {B : Nat} {a w : World} (h : Below B a w) (n : Nat) : Below B a (w.drewN n) := ⟨h.os, h.tape, h.output, h.size, h.block⟩

theorem flat_at : ∀ (l : List (Nat × E)) (i j : Nat) (x : Nat × E), j < 6 → l[i]? = some x → (l.flatMap mapCells)[i * 6 + j]? = (mapCells x)[j]?
  | [], i, j, x, hj, h => by simp at h
  | y :: ys, 0, j, x, hj, h => by
    simp only [List.getElem?_cons_zero, Option.some.injEq] at h
    subst h
    rw [List.flatMap_cons, List.getElem?_append_left (by simp [mapCells]; omega)]
    simp
  | y :: ys, i + 1, j, x, hj, h => by
    simp only [List.getElem?_cons_succ] at h
    rw [List.flatMap_cons, List.getElem?_append_right (by simp [mapCells]; omega)]
    have e : (i + 1) * 6 + j - (mapCells y).length = i * 6 + j := by simp [mapCells]; omega
    rw [e]
    exact flat_at ys i j x hj h
theorem mapsAt_own {w : World} {base : Nat} {v : Value} {l : List (Nat × E)} (h : w.ownsRow base 42 6 v l.length (l.flatMap mapCells)) : ∃ A c, v = .slice A l.length c ∧ MapsAt w A l := by
  rcases h.2 with ⟨rfl, h0⟩ | ⟨g, cap, cur, rfl, hb, hg, _, _, _, ht⟩
  · have : l = [] := List.eq_nil_of_length_eq_zero h0
    subst this
    exact ⟨none, 0, rfl, fun i x hx => by simp at hx⟩
  · refine ⟨_, cap, rfl, fun i x hx => ⟨g, 0, rfl, (Array.getElem?_eq_some_iff.1 hg).1, ?_⟩⟩
    have hil : i < l.length := (List.getElem?_eq_some_iff.1 hx).1
    have hc : ∀ j, j < 6 → w.cell? ⟨g, 0 + i * 6 + j, none⟩ = (mapCells x)[j]? := fun j hj => by
      rw [cell_of_row w g _ cur _ _ hg, ← flat_at l i j x hj hx, ← ht, List.getElem?_take, if_pos (by omega)]
      simp
    exact ⟨hc 0 (by omega), hc 1 (by omega), hc 2 (by omega), hc 3 (by omega), hc 4 (by omega), hc 5 (by omega)⟩

theorem eqMapped (x y : Nat × E) (w : World) : (Op.equalIn 10000 42 (.agg (mapCells x).toArray) (.agg (mapCells y).toArray)).run Try.prog w = .ok (decide (x = y)) w := by
  rw [show (10000 : Nat) = 9999 + 1 from rfl, run_equalIn_agg w 9999 42 _ _ (by kernel_rfl) Try.stoodInHeld42]
  have a1 := Try.isAgg29
  have a2 := Try.sizeOf29
  have a4 := Try.isAgg3
  simp only [Program.fieldsOf, Try.underlying42]
  obtain ⟨p, f, a, b, c, d⟩ := x
  obtain ⟨p', f', a', b', c', d'⟩ := y
  have h := fun w => eqEntry ⟨f, a, b, c, d⟩ ⟨f', a', b', c', d'⟩ 9997 w
  simp only [E.arr] at h
  simp only [mapCells]
  go_simp
  by_cases h1 : p = p' <;> by_cases h2 : (⟨f, a, b, c, d⟩ : E) = ⟨f', a', b', c', d'⟩ <;> (simp_all; try omega)

set_option maxHeartbeats 1000000 in
theorem same_any {w : World} (A B : Option Addr) (ca cb : Nat) (xs ys : List (Nat × E)) (hx : MapsAt w A xs) (hy : MapsAt w B ys) (hxl : xs.length ≤ 1000000) (hyl : ys.length ≤ 1000000) :
    Calls Try.prog 18 #[.slice A xs.length ca, .slice B ys.length cb] w fun e w' => e = .returned (.bool (decide (xs = ys))) ∧ Below w.heap.size w w' := by
  by_cases hlen : xs.length = ys.length
  · go_enter Try.func18, Try.ntmps18
    have hb : ((xs.length : Int) != (ys.length : Int)) = false := by simp [hlen]
    have HL := Lib.hid hlen
    clear hlen
    go_wp2
    go_loopw [5] (fun i wr => ∃ k : Nat, i = .int .i64 (k : Int) ∧ k ≤ xs.length ∧ (∀ j, j < k → xs[j]? = ys[j]?) ∧ Below w.heap.size w wr) (fun i _ => xs.length - (intOf i).toNat)
    case atStart => exact ⟨0, rfl, Nat.zero_le _, fun j hj => absurd hj (Nat.not_lt_zero j), Below.refl _ _⟩
    case round =>
      obtain ⟨k, rfl, hk, hpre, hB⟩ := hrel
      have HP := Lib.hid hpre
      clear hpre
      by_cases hki : k < xs.length
      · have hkb : (k : Int) < (xs.length : Int) := by omega
        have hlen := HL.out
        have hkb2 : (k : Int) < (ys.length : Int) := by omega
        have hxe : xs[k]? = some xs[k] := List.getElem?_eq_getElem hki
        have hye : ys[k]? = some (ys[k]'(by omega)) := List.getElem?_eq_getElem (by omega)
        obtain ⟨b, off, rfl, hbl, c0, c1, c2, c3, c4, c5⟩ := hx.below hB k _ hxe
        obtain ⟨b', off', rfl, hbl', d0, d1, d2, d3, d4, d5⟩ := hy.below hB k _ hye
        have HE := Lib.hid (fun w => eqMapped xs[k] (ys[k]'(by omega)) w)
        by_cases hxy : xs[k] = ys[k]'(by omega)
        · have hed : decide (xs[k] = ys[k]'(by omega)) = true := decide_eq_true hxy
          have HE' := HE.out
          simp only [hed] at HE'
          generalize hgx : xs[k] = x at *
          generalize hgy : ys[k]'(by omega) = y at *
          obtain ⟨p, f, e1, e2, e3, e4⟩ := x
          obtain ⟨p', f', e1', e2', e3', e4'⟩ := y
          simp only [mapCells] at HE' c0 c1 c2 c3 c4 c5 d0 d1 d2 d3 d4 d5
          have hnx : ∀ j, j < k + 1 → xs[j]? = ys[j]? := fun j hj => by
            rcases Nat.lt_or_ge j k with h | h
            · exact HP.out j h
            · have : j = k := by omega
              subst this
              rw [hxe, hye, hxy]
          have HN := Lib.hid hnx
          clear hnx hxe hye hxy hgx hgy hed HE hlen hx hy
          go_wp2_with (go_quiet (fail))
          go_roundw
          case rel => exact ⟨k + 1, by go_num, by omega, HN.out, by first | exact hB | exact belowN hB _ | exact hB.drew⟩
          case measure => simp [intOf]; omega
        · have hed : decide (xs[k] = ys[k]'(by omega)) = false := decide_eq_false hxy
          have hne : decide (xs = ys) = false := decide_eq_false fun h => hxy (by subst h; rfl)
          have HNE := Lib.hid hne
          have HE' := HE.out
          simp only [hed] at HE'
          generalize hgx : xs[k] = x at *
          generalize hgy : ys[k]'(by omega) = y at *
          obtain ⟨p, f, e1, e2, e3, e4⟩ := x
          obtain ⟨p', f', e1', e2', e3', e4'⟩ := y
          simp only [mapCells] at HE' c0 c1 c2 c3 c4 c5 d0 d1 d2 d3 d4 d5
          clear hxe hye hxy hgx hgy hed HE hlen hx hy hne
          go_wp2_with (go_quiet (fail))
          go_ret
          exact ⟨by rw [HNE.out]; rfl, by first | exact hB | exact belowN hB _ | exact hB.drew⟩
      · have hlen := HL.out
        have hxy : xs = ys := by
          apply List.ext_getElem? 
          intro j
          rcases Nat.lt_or_ge j k with h | h
          · exact HP.out j h
          · rw [List.getElem?_eq_none (by omega), List.getElem?_eq_none (by omega)]
        have hd : decide (xs = ys) = true := decide_eq_true hxy
        have HD := Lib.hid hd
        clear hd hxy hlen
        go_wp2
        go_ret
        exact ⟨by rw [HD.out]; rfl, hB⟩
  · have hne : decide (xs = ys) = false := by simp; intro h; exact hlen (by rw [h])
    rw [hne]
    have hb : ((xs.length : Int) != (ys.length : Int)) = true := by simp; omega
    clear hlen hne hx hy
    go_enter Try.func18, Try.ntmps18
    go_wp2
    go_ret
    exact ⟨rfl, Below.refl _ _⟩
end Go.Proofs.Ytgdimjcpdndklaa
