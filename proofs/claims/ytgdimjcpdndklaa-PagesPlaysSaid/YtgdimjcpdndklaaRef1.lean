/-
  Walks over the reference of package pages: its table in memory; May, Get, Dirty; Same of numbers. No condition.
-/
import Derived.Test.YtgdimjcpdndklaaMut
import Derived.Test.YtgdimjcpdndklaaPlainParts
namespace Go.Proofs.Ytgdimjcpdndklaa
open Go.RowKit
set_option linter.unusedVariables false
set_option linter.unusedSimpArgs false

/-- A slice of numbers in memory. -/
def IntsAt (w : World) (A : Option Addr) (l : List Int) : Prop := ∀ (i : Nat) (x : Int), l[i]? = some x → ∃ b off, A = some ⟨b, off, none⟩ ∧ b < w.heap.size ∧ w.cell? ⟨b, off + i, none⟩ = some (.int .i64 x)
theorem IntsAt.below {w w' : World} {A : Option Addr} {l : List Int} (h : IntsAt w A l) (hb : Below w.heap.size w w') : IntsAt w' A l := fun i o ho => by
  obtain ⟨b, off, hA, hlt, h0⟩ := h i o ho
  exact ⟨b, off, hA, Nat.lt_of_lt_of_le hlt hb.size, (hb.cell (p := ⟨b, _, none⟩) hlt).trans h0⟩
theorem int_at {w : World} {A : Option Addr} {l : List Int} (h : IntsAt w A l) {i : Nat} {x : Int} (hx : l[i]? = some x) : ∃ b off, A = some ⟨b, off, none⟩ ∧ b < w.heap.size ∧ w.cell? ⟨b, off + i, none⟩ = some (.int .i64 x) := h i x hx
theorem ints_own {w : World} {base : Nat} {v : Value} {l : List Int} (h : w.ownsRow base 3 1 v l.length (l.map (Value.int .i64))) : ∃ A c, v = .slice A l.length c ∧ IntsAt w A l := by
  rcases h.2 with ⟨rfl, h0⟩ | ⟨g, cap, cur, rfl, hb, hg, _, _, _, ht⟩
  · have : l = [] := List.eq_nil_of_length_eq_zero h0
    subst this
    exact ⟨none, 0, rfl, fun i x hx => by simp at hx⟩
  · refine ⟨_, cap, rfl, fun i x hx => ⟨g, 0, rfl, (Array.getElem?_eq_some_iff.1 hg).1, ?_⟩⟩
    have hil : i < l.length := (List.getElem?_eq_some_iff.1 hx).1
    have : (l.map (Value.int .i64))[i]? = some (.int .i64 x) := by rw [List.getElem?_map, hx]; rfl
    rw [cell_of_row w g _ cur _ _ hg, ← this, ← ht, List.getElem?_take, if_pos (by omega)]
    simp

set_option maxHeartbeats 1000000 in
theorem sameI_any {w : World} (A B : Option Addr) (ca cb : Nat) (xs ys : List Int) (hx : IntsAt w A xs) (hy : IntsAt w B ys) (hxl : xs.length ≤ 1000000) (hyl : ys.length ≤ 1000000) :
    Calls Try.prog 39 #[.slice A xs.length ca, .slice B ys.length cb] w fun e w' => e = .returned (.bool (decide (xs = ys))) ∧ Below w.heap.size w w' := by
  by_cases hlen : xs.length = ys.length
  · go_enter Try.func39, Try.ntmps39
    have hb : ((xs.length : Int) != (ys.length : Int)) = false := by simp [hlen]
    have HL := Lib.hid hlen
    clear hlen
    go_wp2
    go_loopw [5] (fun i wr => ∃ k : Nat, i = .int .i64 (k : Int) ∧ k ≤ xs.length ∧ (∀ j, j < k → xs[j]? = ys[j]?) ∧ Below w.heap.size w wr) (fun i _ => xs.length - (intOf i).toNat)
    case atStart => exact ⟨0, rfl, Nat.zero_le _, fun j hj => absurd hj (Nat.not_lt_zero j), Below.refl _ _⟩
    case round =>
      obtain ⟨k, rfl, hk, hpre, hB⟩ := hrel
      have HP := Lib.hid hpre
      clear hpre
      by_cases hki : k < xs.length
      · have hkb : (k : Int) < (xs.length : Int) := by omega
        have hlen := HL.out
        have hkb2 : (k : Int) < (ys.length : Int) := by omega
        have hxe : xs[k]? = some xs[k] := List.getElem?_eq_getElem hki
        have hye : ys[k]? = some (ys[k]'(by omega)) := List.getElem?_eq_getElem (by omega)
        obtain ⟨b, off, rfl, hbl, c0⟩ := int_at (hx.below hB) hxe
        obtain ⟨b', off', rfl, hbl', d0⟩ := int_at (hy.below hB) hye
        by_cases hxy : xs[k] = ys[k]'(by omega)
        · have hnx : ∀ j, j < k + 1 → xs[j]? = ys[j]? := fun j hj => by
            rcases Nat.lt_or_ge j k with h | h
            · exact HP.out j h
            · have : j = k := by omega
              subst this
              rw [hxe, hye, hxy]
          have HN := Lib.hid hnx
          generalize xs[k] = x at *
          generalize ys[k]'(by omega) = y at *
          have hb1 : (x != y) = false := by simp [hxy]
          clear hnx hxe hye hxy hlen hx hy
          go_wp2_with (go_quiet (fail))
          go_roundw
          case rel => exact ⟨k + 1, by go_num, by omega, HN.out, by first | exact hB | exact belowN hB _ | exact hB.drew⟩
          case measure => simp [intOf]; omega
        · have hne : decide (xs = ys) = false := decide_eq_false fun h => hxy (by subst h; rfl)
          have HNE := Lib.hid hne
          generalize xs[k] = x at *
          generalize ys[k]'(by omega) = y at *
          have hb1 : (x != y) = true := by simp [hxy]
          clear hxe hye hxy hlen hx hy hne
          go_wp2_with (go_quiet (fail))
          go_ret
          exact ⟨by rw [HNE.out]; rfl, by first | exact hB | exact belowN hB _ | exact hB.drew⟩
      · have hlen := HL.out
        have hxy : xs = ys := by
          apply List.ext_getElem?
          intro j
          rcases Nat.lt_or_ge j k with h | h
          · exact HP.out j h
          · rw [List.getElem?_eq_none (by omega), List.getElem?_eq_none (by omega)]
        have hd : decide (xs = ys) = true := decide_eq_true hxy
        have HD := Lib.hid hd
        clear hd hxy hlen
        go_wp2
        go_ret
        exact ⟨by rw [HD.out]; rfl, hB⟩
  · have hne : decide (xs = ys) = false := by simp; intro h; exact hlen (by rw [h])
    rw [hne]
    have hb : ((xs.length : Int) != (ys.length : Int)) = true := by simp; omega
    clear hlen hne hx hy
    go_enter Try.func39, Try.ntmps39
    go_wp2
    go_ret
    exact ⟨rfl, Below.refl _ _⟩

/-! ## the reference's table -/
abbrev OwnM (w : World) (base : Nat) (v : Value) (l : List (Nat × E)) : Prop := w.ownsRow base 42 6 v l.length (l.flatMap mapCells)
theorem ownM_snoc {w : World} {base : Nat} {v : Value} {l : List (Nat × E)} {x : Nat × E} (h : w.ownsRow base 42 6 v (l.length + 1) (l.flatMap mapCells ++ mapCells x)) : OwnM w base v (l ++ [x]) := by
  unfold OwnM
  rw [List.length_append, List.flatMap_append]
  simpa using h
/-- The reference's table at block rt holds the list v. -/
def RT (w : World) (base rt : Nat) (l : List (Nat × E)) : Prop := ∃ v, Blk w rt 52 #[v] ∧ OwnM w base v l ∧ base ≤ rt ∧ v.ownBlock ≠ some rt
theorem mapsAt_here {w : World} {b off : Nat} {l : List (Nat × E)} (h : MapsAt w (some ⟨b, off, none⟩) l) {i : Nat} {x : Nat × E} (hx : l[i]? = some x) : b < w.heap.size ∧ w.cell? ⟨b, off + i * 6, none⟩ = some (.int .i64 x.1) ∧ w.cell? ⟨b, off + i * 6 + 1, none⟩ = some (.int .i64 x.2.f) ∧
    w.cell? ⟨b, off + i * 6 + 1 + 1, none⟩ = some (.bool x.2.w) ∧ w.cell? ⟨b, off + i * 6 + 1 + 2, none⟩ = some (.bool x.2.s) ∧ w.cell? ⟨b, off + i * 6 + 1 + 3, none⟩ = some (.bool x.2.c) ∧ w.cell? ⟨b, off + i * 6 + 1 + 4, none⟩ = some (.bool x.2.d) := by
  obtain ⟨b', off', hA, r⟩ := h i x hx
  injection hA with hA
  injection hA with e1 e2 _
  subst e1 e2
  exact r
theorem RT.open_ {w : World} {base rt : Nat} {l : List (Nat × E)} (h : RT w base rt l) : ∃ A c, w.cell? ⟨rt, 0, none⟩ = some (.slice A l.length c) ∧ rt < w.heap.size ∧ Blk w rt 52 #[.slice A l.length c] ∧ MapsAt w A l := by
  obtain ⟨v, hb, ho, _, _⟩ := h
  obtain ⟨A, c, rfl, hA⟩ := mapsAt_own ho
  exact ⟨A, c, hb.cell 0, hb.lt, hb, hA⟩

set_option maxHeartbeats 4000000 in
theorem refMay_any (x : E) (w : World) : Calls Try.prog 27 #[x.val] w fun e w' => e = .returned (.bool x.ok) ∧ Below w.heap.size w w' := by
  obtain ⟨f, a, b, c, d⟩ := x
  have hok : E.ok ⟨f, a, b, c, d⟩ = (decide (0 ≤ f) && (decide (f ≤ 255) && !(b && c))) := by
    have hd : decide (f < 256) = decide (f ≤ 255) := by by_cases h : f ≤ 255 <;> simp [h] <;> omega
    unfold E.ok
    simp only [hd, Bool.and_assoc]
  rw [hok]
  simp only [E.val, E.arr]
  clear hok
  by_cases h1 : 0 ≤ f
  · by_cases h2 : f ≤ 255
    · rw [decide_eq_true h1, decide_eq_true h2]
      cases b <;> cases c
      all_goals
        go_enter Try.func27, Try.ntmps27
        go_wp2
        go_ret
        exact ⟨rfl, (Below.refl _ _).alloc (Nat.le_refl _) _⟩
    · rw [decide_eq_false h2, Bool.false_and, Bool.and_false]
      go_enter Try.func27, Try.ntmps27
      go_wp2
      go_ret
      exact ⟨rfl, (Below.refl _ _).alloc (Nat.le_refl _) _⟩
  · rw [decide_eq_false h1, Bool.false_and]
    go_enter Try.func27, Try.ntmps27
    go_wp2
    go_ret
    exact ⟨rfl, (Below.refl _ _).alloc (Nat.le_refl _) _⟩

/-! ## Get -/
theorem look_list {m : M} {p : Int} {k : Nat} {x : Nat × E} (h : (list m)[k]? = some x) (hp : (x.1 : Int) = p) : look m p = some x.2 := by
  obtain ⟨h1, h2⟩ := mem_list (List.mem_of_getElem? h)
  subst hp
  rw [look_nat m h1, h2]
theorem look_nolist {m : M} {p : Int} (h : ∀ (j : Nat) (x : Nat × E), j < (list m).length → (list m)[j]? = some x → (x.1 : Int) ≠ p) : look m p = none := by
  unfold look
  split
  · rename_i hr
    cases hm : m p.toNat with
    | none => rfl
    | some x =>
      have hmem := list_mem_of m 64 0 p.toNat x (Nat.zero_le _) (by omega) hm
      obtain ⟨j, hj, hjx⟩ := List.getElem_of_mem hmem
      exact absurd (by simp only; omega) (h j (p.toNat, x) hj (by rw [← hjx]; exact List.getElem?_eq_getElem hj))
  · rfl
set_option maxHeartbeats 2000000 in
theorem refGet_any {w : World} {base rt : Nat} {m : M} (h : RT w base rt (list m)) (p : Int) : Calls Try.prog 36 #[.pointer (some ⟨rt, 0, none⟩), .int .i64 p] w
    fun e w' => e = .returned (gotV (look m p)) ∧ Below w.heap.size w w' := by
  obtain ⟨A, c, hc, hlt, hblk, hA⟩ := h.open_
  have hlen := list_len m
  have hL : ∀ (k : Nat) (x : Nat × E), (list m)[k]? = some x → (x.1 : Int) = p → look m p = some x.2 := fun k x h hp => look_list h hp
  have hN : (∀ (j : Nat) (x : Nat × E), j < (list m).length → (list m)[j]? = some x → (x.1 : Int) ≠ p) → look m p = none := look_nolist
  generalize list m = l at *
  have HL := Lib.hid hL
  have HN := Lib.hid hN
  have hx0 := Blk.new w 29 E.zero.arr
  have hA0 := hA.below ((Below.refl _ _).alloc (Nat.le_refl _) (.cells E.zero.arr 29))
  have hb0 := (Below.refl w.heap.size w).alloc (Nat.le_refl _) (.cells E.zero.arr 29)
  simp only [E.zero, E.arr] at hx0 hA0 hb0
  clear hL hN hA h
  go_enter Try.func36, Try.ntmps36
  go_wp2
  go_loopw [6] (fun i wr => ∃ k : Nat, i = .int .i64 (k : Int) ∧ k ≤ l.length ∧ (∀ (j : Nat) (x : Nat × E), j < k → l[j]? = some x → (x.1 : Int) ≠ p) ∧ wr = w.alloc (.cells #[.int .i64 0, .bool false, .bool false, .bool false, .bool false] 29)) (fun i _ => l.length - (intOf i).toNat)
  case atStart => exact ⟨0, rfl, Nat.zero_le _, fun j x hj => absurd hj (Nat.not_lt_zero j), rfl⟩
  case round =>
    obtain ⟨k, rfl, hk, hpre, rfl⟩ := hrel
    by_cases hkl : k < l.length
    · have hkb : (k : Int) < (l.length : Int) := by omega
      have hxe : l[k]? = some l[k] := List.getElem?_eq_getElem hkl
      generalize hgx : l[k] = x at *
      obtain ⟨b, off, rfl, _⟩ := hA0 k x hxe
      obtain ⟨hbl, c0, c1, c2, c3, c4, c5⟩ := mapsAt_here hA0 hxe
      by_cases hxp : (x.1 : Int) = p
      · have hlk := HL.out k x hxe hxp
        have HLK := Lib.hid hlk
        have hb1 : ((x.1 : Int) == p) = true := by simp [hxp]
        obtain ⟨xn, f, e1, e2, e3, e4⟩ := x
        simp only at c0 c1 c2 c3 c4 c5 hb1
        clear hlk hxe hgx hpre hxp hA0
        go_wp2
        exact bodyPost_ret (v := gotV (some ⟨f, e1, e2, e3, e4⟩)) (by simp [results, Try.results36, go_sem, gotV, E.val, E.arr]) rfl ⟨by rw [HLK.out], by first | exact hb0 | exact (Below.refl _ _).alloc (Nat.le_refl _) _⟩
      · have hb1 : ((x.1 : Int) == p) = false := by simp [hxp]
        have HP := Lib.hid (fun (j : Nat) (y : Nat × E) (hj : j < k + 1) (hy : l[j]? = some y) => show (y.1 : Int) ≠ p from by
          rcases Nat.lt_or_ge j k with h | h
          · exact hpre j y h hy
          · have : j = k := by omega
            subst this
            rw [hxe] at hy
            injection hy with hy
            subst hy
            exact hxp)
        obtain ⟨xn, f, e1, e2, e3, e4⟩ := x
        simp only at c0 c1 c2 c3 c4 c5 hb1
        clear hxe hgx hpre hxp hA0
        go_wp2
        go_roundw
        case rel => exact ⟨k + 1, by go_num, by omega, HP.out, by first | rfl | trivial⟩
        case measure => simp [intOf]; omega
    · have hno := HN.out (fun j x hj hx => hpre j x (by omega) hx)
      have HNO := Lib.hid hno
      clear hno hpre
      go_wp2
      exact bodyPost_ret (v := gotV none) (by simp [results, Try.results36, go_sem, gotV, E.zero, E.val, E.arr]) rfl ⟨by rw [HNO.out], by first | exact hb0 | exact (Below.refl _ _).alloc (Nat.le_refl _) _⟩
end Go.Proofs.Ytgdimjcpdndklaa
