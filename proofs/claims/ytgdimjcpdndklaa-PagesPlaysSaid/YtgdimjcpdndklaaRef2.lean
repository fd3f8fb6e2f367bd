/-
  Walks over the reference of package pages: Dirty, Parts, Hole. No condition.
-/
import Derived.Test.YtgdimjcpdndklaaRef1
import Derived.Test.YtgdimjcpdndklaaPlainHole
namespace Go.Proofs.Ytgdimjcpdndklaa
open Go.RowKit
set_option linter.unusedVariables false
set_option linter.unusedSimpArgs false

theorem RT.below {w w' : World} {base rt : Nat} {l : List (Nat × E)} (h : RT w base rt l) (hb : Below w.heap.size w w') : RT w' base rt l := by
  obtain ⟨v, h1, h2, h3, h4⟩ := h
  exact ⟨v, h1.below hb h1.lt, ownsRow_below h2 hb, h3, h4⟩
theorem rt_cells {w : World} {rt : Nat} {A : Option Addr} {n c : Nat} (h : Blk w rt 52 #[.slice A n c]) : w.cell? ⟨rt, 0, none⟩ = some (.slice A n c) ∧ rt < w.heap.size := ⟨h.cell 0, h.lt⟩
theorem below_grown {B : Nat} {w w1 w2 : World} {row : Option Nat} (h : Below B w w1) (hg : w1.grownBy w2 row) (hr : ∀ r, row = some r → B ≤ r) (hB : B ≤ w1.heap.size) : Below B w w2 :=
  ⟨hg.os.trans h.os, hg.tape.trans h.tape, hg.output.trans h.output, Nat.le_trans h.size hg.size, fun k hk => (hg.block k (by omega) (fun e => by have := hr k e.symm; omega)).trans (h.block k hk)⟩
theorem own_block {w : World} {base : Nat} {t : TypeId} {s : Nat} {v : Value} {n : Nat} {cs : List Value} (h : w.ownsRow base t s v n cs) : ∀ r, v.ownBlock = some r → base ≤ r := by
  rcases h.2 with ⟨rfl, _⟩ | ⟨g, cap, cur, rfl, hb, _⟩
  · intro r h; simp [Value.ownBlock] at h
  · intro r h; simp [Value.ownBlock] at h; omega
theorem filt_next {f : E → Bool} {l : List (Nat × E)} {k : Nat} {x : Nat × E} (h : l[k]? = some x) : filt f (l.take (k + 1)) = filt f (l.take k) ++ (if f x.2 then [(x.1 : Int)] else []) := by
  rw [List.take_add_one, h]
  exact filt_snoc f _ x
theorem snocI {w : World} {base : Nat} {v : Value} {l : List Int} {x : Int} (h : w.ownsRow base 3 1 v (l.length + 1) (l.map (Value.int .i64) ++ [.int .i64 x])) : w.ownsRow base 3 1 v (l ++ [x]).length ((l ++ [x]).map (Value.int .i64)) := by
  simpa using h

set_option maxHeartbeats 4000000 in
theorem refDirty_any {w : World} {base rt : Nat} {l : List (Nat × E)} (hll : l.length ≤ 64) (h : RT w base rt l) : Calls Try.prog 37 #[.pointer (some ⟨rt, 0, none⟩)] w
    fun e w' => ∃ A c, e = .returned (.slice A (filt E.d l).length c) ∧ IntsAt w' A (filt E.d l) ∧ Below w.heap.size w w' := by
  obtain ⟨A, c, hc, hlt, hblk, hA⟩ := h.open_
  obtain ⟨i0, hi, hz0, hz1, hz2⟩ := info_parts infoI
  go_enter Try.func37, Try.ntmps37
  go_wp2
  go_loopw [3, 4] (fun v i wr => ∃ k : Nat, i = .int .i64 (k : Int) ∧ k ≤ l.length ∧ wr.ownsRow w.heap.size 3 1 v (filt E.d (l.take k)).length ((filt E.d (l.take k)).map (Value.int .i64)) ∧ Below w.heap.size w wr) (fun _ i _ => l.length - (intOf i).toNat)
  case atStart => exact ⟨0, rfl, Nat.zero_le _, World.ownsRow_nil _ _ _ _, Below.refl _ _⟩
  case round =>
    obtain ⟨k, rfl, hk, hown, hB⟩ := hrel
    have hsz := hB.size
    obtain ⟨q0, q1⟩ := rt_cells (hblk.below hB hlt)
    by_cases hkl : k < l.length
    · have hkb : (k : Int) < (l.length : Int) := by omega
      have hxe : l[k]? = some l[k] := List.getElem?_eq_getElem hkl
      have hnx := filt_next (f := E.d) hxe
      have hfl : (filt E.d (l.take k)).length ≤ k := Nat.le_trans (filt_len _ _) (by rw [List.length_take]; omega)
      generalize hgx : l[k] = x at *
      obtain ⟨b, off, rfl, _⟩ := hA k x hxe
      obtain ⟨hbl, c0, c1, c2, c3, c4, c5⟩ := mapsAt_here (hA.below hB) hxe
      generalize filt E.d (l.take k) = sel at *
      obtain ⟨xn, f, e1, e2, e3, e4⟩ := x
      simp only at c0 c1 c2 c3 c4 c5 hnx
      have hown0 := hown
      have HO := Lib.hid hown
      cases e4 with
      | true =>
        simp only [if_true] at hnx
        have HN := Lib.hid hnx
        clear hnx hxe hgx hA hc hblk h hown
        go_wp2_with (at_builtin; refine wpList_append_own _ rfl _ _ 43 rfl w.heap.size 3 i0 _ 1 8 Try.underlying43 hi hz0 hz1 hz2 rfl (by decide) _ _ _ rfl (hown0.alloc _) ⟨wr.heap.size, 0, none⟩ 1 1 [.int .i64 xn] rfl rfl (cells_new _ _ _) (by simp [Value.oneCell']) (by unfold maxLen; omega) (by omega) (by simp; omega) ?_; intro v' w1 hown' hgrow _)
        go_roundw
        case rel => exact ⟨k + 1, by go_num, by omega, by rw [HN.out]; exact snocI hown', below_grown (hB.alloc hsz _) hgrow (own_block HO.out) (by simp; omega)⟩
        case measure => simp [intOf]; omega
      | false =>
        simp only [Bool.false_eq_true, if_false, List.append_nil] at hnx
        have HN := Lib.hid hnx
        clear hnx hxe hgx hA hc hblk h hown hown0
        go_wp2
        go_roundw
        case rel => exact ⟨k + 1, by go_num, by omega, by rw [HN.out]; exact HO.out, hB⟩
        case measure => simp [intOf]; omega
    · have hkk : k = l.length := by omega
      subst hkk
      rw [List.take_length] at hown
      obtain ⟨A', c', rfl, hI⟩ := ints_own hown
      have HI := Lib.hid hI
      clear hA hc hblk h hown hI
      go_wp2
      go_ret
      exact ⟨A', c', rfl, HI.out, hB⟩

/-! ## Parts -/
theorem emp_list (m : M) (i : Nat) (hi : i < 8) : emp m i = !((list m).any fun x => decide (x.1 / 8 = i)) := by
  by_cases h : (list m).any (fun x => decide (x.1 / 8 = i)) = true
  · rw [h]
    obtain ⟨x, hx, hd⟩ := List.any_eq_true.1 h
    obtain ⟨h1, h2⟩ := mem_list hx
    cases he : emp m i with
    | false => rfl
    | true =>
      have hd' : x.1 / 8 = i := of_decide_eq_true hd
      have := (emp_iff m i).1 he (x.1 % 8) (by omega)
      rw [show 8 * i + x.1 % 8 = x.1 from by omega, h2] at this
      cases this
  · have hf : (list m).any (fun x => decide (x.1 / 8 = i)) = false := by simpa using h
    rw [hf]
    refine (emp_iff m i).2 fun k hk => ?_
    cases hm : m (8 * i + k) with
    | none => rfl
    | some x =>
      have hmem := list_mem_of m 64 0 (8 * i + k) x (Nat.zero_le _) (by omega) hm
      have := List.any_eq_false.1 hf _ hmem
      simp only at this
      exact absurd (decide_eq_true (show (8 * i + k) / 8 = i by omega)) this
theorem cntM_le8 (m : M) : ∀ k, cntM m k ≤ k
  | 0 => Nat.le_refl _
  | k + 1 => by have := cntM_le8 m k; unfold cntM; split <;> omega
theorem any_next {l : List (Nat × E)} {k : Nat} {x : Nat × E} {p : Nat × E → Bool} (h : l[k]? = some x) : (l.take (k + 1)).any p = ((l.take k).any p || p x) := by
  rw [List.take_add_one, h]; simp

set_option maxHeartbeats 4000000 in
theorem refParts_any {w : World} {base rt : Nat} {m : M} (h : RT w base rt (list m)) : Calls Try.prog 40 #[.pointer (some ⟨rt, 0, none⟩)] w
    fun e w' => e = .returned (.int .i64 (cntM m 8)) ∧ Below w.heap.size w w' := by
  obtain ⟨A, c, hc, hlt, hblk, hA⟩ := h.open_
  have hll := list_len m
  have hemp := fun i (hi : i < 8) => emp_list m i hi
  have hx64 : ∀ (j : Nat) (x : Nat × E), (list m)[j]? = some x → x.1 < 64 := fun j x hx => (mem_list (List.mem_of_getElem? hx)).1
  have hcl := cntM_le8 m
  generalize list m = l at *
  have HE := Lib.hid hemp
  have HX := Lib.hid hx64
  have HCL := Lib.hid hcl
  have HA := Lib.hid hA
  have HB := Lib.hid hblk
  clear hemp hx64 hcl hA hblk hc h
  go_enter Try.func40, Try.ntmps40
  go_wp2
  go_loopw [3, 4] (fun sn sp wr => ∃ i : Nat, sp = .int .i64 (i : Int) ∧ i ≤ 8 ∧ sn = .int .i64 (cntM m i) ∧ Below w.heap.size w wr) (fun _ sp _ => 8 - (intOf sp).toNat)
  case atStart => exact ⟨0, rfl, Nat.zero_le _, rfl, Below.refl _ _⟩
  case round =>
    obtain ⟨i, rfl, hi, rfl, hB⟩ := hrel
    rename World => wo
    have hci := HCL.out i
    by_cases hi8 : i < 8
    · have hib : (i : Int) < 8 := by omega
      go_wp2
      go_loopw [5, 6] (fun ss sk wr => ∃ k : Nat, sk = .int .i64 (k : Int) ∧ k ≤ l.length ∧ ss = .int .i64 (if (l.take k).any (fun x => decide (x.1 / 8 = i)) then 1 else 0) ∧ Below w.heap.size w wr) (fun _ sk _ => l.length - (intOf sk).toNat)
      case atStart => exact ⟨0, rfl, Nat.zero_le _, by simp, hB⟩
      case round =>
        obtain ⟨k, rfl, hk, rfl, hB2⟩ := hrel
        have hsz := hB2.size
        obtain ⟨q0, q1⟩ := rt_cells (HB.out.below hB2 hlt)
        by_cases hkl : k < l.length
        · have hkb : (k : Int) < (l.length : Int) := by omega
          have hxe : l[k]? = some l[k] := List.getElem?_eq_getElem hkl
          have hnx := any_next (p := fun x : Nat × E => decide (x.1 / 8 = i)) hxe
          have hx64 := HX.out k _ hxe
          generalize hgx : l[k] = x at *
          obtain ⟨b, off, rfl, _⟩ := HA.out k x hxe
          obtain ⟨hbl, c0, c1, c2, c3, c4, c5⟩ := mapsAt_here (HA.out.below hB2) hxe
          obtain ⟨xn, f, e1, e2, e3, e4⟩ := x
          simp only at c0 c1 c2 c3 c4 c5 hnx hx64
          generalize (l.take k).any (fun x => decide (x.1 / 8 = i)) = bk at *
          by_cases hxi : xn / 8 = i
          · have hb1 : ((xn : Int) / 8 == (i : Int)) = true := by simp; omega
            rw [decide_eq_true hxi, Bool.or_true] at hnx
            have HN := Lib.hid hnx
            clear hnx hxe hgx hxi
            go_wp2
            go_roundw
            case rel => exact ⟨k + 1, by go_num, by omega, by rw [HN.out]; rfl, hB2⟩
            case measure => simp [intOf]; omega
          · have hb1 : ((xn : Int) / 8 == (i : Int)) = false := by simp; omega
            rw [decide_eq_false hxi, Bool.or_false] at hnx
            have HN := Lib.hid hnx
            clear hnx hxe hgx hxi
            go_wp2
            go_roundw
            case rel => exact ⟨k + 1, by go_num, by omega, by rw [HN.out], hB2⟩
            case measure => simp [intOf]; omega
        · have hkk : k = l.length := by omega
          subst hkk
          rw [List.take_length]
          have he := HE.out i hi8
          have hn : cntM m (i + 1) = cntM m i + (if emp m i then 0 else 1) := rfl
          rw [he] at hn
          generalize l.any (fun x => decide (x.1 / 8 = i)) = bk at *
          cases bk with
          | true =>
            simp only [Bool.not_true, Bool.false_eq_true, if_false] at hn
            have HN := Lib.hid hn
            clear hn he
            simp only [if_true]
            go_wp2
            go_roundw
            case rel => exact ⟨i + 1, by go_num, by omega, by rw [HN.out]; go_num, hB2⟩
            case measure => simp [intOf]; omega
          | false =>
            simp only [Bool.not_false, if_true, Nat.add_zero] at hn
            have HN := Lib.hid hn
            clear hn he
            simp only [Bool.false_eq_true, if_false]
            go_wp2
            go_roundw
            case rel => exact ⟨i + 1, by go_num, by omega, by rw [HN.out], hB2⟩
            case measure => simp [intOf]; omega
    · have hi8' : i = 8 := by omega
      subst hi8'
      go_wp2
      go_ret
      exact ⟨rfl, hB⟩
end Go.Proofs.Ytgdimjcpdndklaa
