/-
  Walks over package trace and its reference: Without (the reference's), Pids (both). No condition.
-/
import Derived.Test.YtpcaeggecojaeaaTrace3
namespace Go.Proofs.Ytpcaeggecojaeaa
open Go.RowKit
set_option linter.unusedVariables false
set_option linter.unusedSimpArgs false

set_option maxHeartbeats 4000000 in
theorem refWithout_any {w : World} (A : Option Addr) (ca : Nat) (xs : List S) (hx : SeenAt w A xs) (hxl : xs.length ≤ 1000000) (call : Int) :
    Calls Try.prog 9 #[.slice A xs.length ca, .int .i64 call] w fun e w' => ∃ v, e = .returned v ∧ OwnS w' w.heap.size v (without call xs) ∧ Below w.heap.size w w' := by
  obtain ⟨i0, hi, hz0, hz1, hz2⟩ := info_parts infoS
  go_enter Try.func9, Try.ntmps9
  go_wp2
  go_loopw [5, 6] (fun v i wr => ∃ k : Nat, i = .int .i64 (k : Int) ∧ k ≤ xs.length ∧ OwnS wr w.heap.size v (without call (xs.take k)) ∧ Below w.heap.size w wr) (fun _ i _ => xs.length - (intOf i).toNat)
  case atStart => exact ⟨0, rfl, Nat.zero_le _, World.ownsRow_nil _ _ _ _, Below.refl _ _⟩
  case round =>
    obtain ⟨k, rfl, hk, hown, hB⟩ := hrel
    by_cases hkl : k < xs.length
    · have hka : (k : Int) < (xs.length : Int) := by omega
      have hxe : xs[k]? = some xs[k] := List.getElem?_eq_getElem hkl
      have hft := filter_take (p := fun x : S => !(decide (x.k = 1) && decide (x.c = call))) hxe
      have hlen : (without call (xs.take k)).length ≤ k := take_len
      generalize xs[k] = x at *
      have hft2 : without call (xs.take (k + 1)) = without call (xs.take k) ++ (if !(decide (x.k = 1) && decide (x.c = call)) then [x] else []) := hft
      generalize hsel : without call (xs.take k) = sel at *
      obtain ⟨b, off, rfl, hbl, c0, c1, c2, c3⟩ := seen_at (hx.below hB) hxe
      obtain ⟨xp, xk, xc, xv⟩ := x
      simp only at c0 c1 c2 c3 hft2
      have hsz := hB.size
      have HX := Lib.hid hx
      have HO := Lib.hid hown
      have hown0 := hown
      by_cases h1 : xk = 1
      · subst h1
        by_cases h2 : xc = call
        · have hb2 : (xc != call) = false := by simp [h2]
          simp only [h2, decide_true, Bool.and_true, Bool.not_true, Bool.false_eq_true, if_false, List.append_nil] at hft2
          have HF := Lib.hid hft2
          clear hft hft2 hx hown hown0 hsel hxe h2
          go_wp2_with (go_quiet (fail))
          go_roundw
          case rel => exact ⟨k + 1, by go_num, by omega, by rw [HF.out]; exact HO.out, by first | exact hB | exact belowN hB _⟩
          case measure => simp [intOf]; omega
        · have hb2 : (xc != call) = true := by simp [h2]
          simp only [h2, decide_true, decide_false, Bool.and_false, Bool.not_false, if_true] at hft2
          have HF := Lib.hid hft2
          clear hft hft2 hx hown hsel hxe h2
          go_wp2_with (first | (at_builtin; refine wpList_append_own _ rfl _ _ 22 rfl w.heap.size 33 i0 _ 4 32 Try.underlying22 hi hz0 hz1 hz2 rfl (by decide) _ _ _ rfl (hown0.alloc _) ⟨wr.heap.size, 0, none⟩ 1 1 (S.cells ⟨xp, 1, xc, xv⟩) rfl rfl (cells_new _ _ _) (by simp [S.cells, Value.oneCell']) (by unfold maxLen; omega) (by omega) (by simp; omega) ?_; intro v' w1 hown' hgrow _) | go_quiet (fail))
          go_roundw
          case rel => exact ⟨k + 1, by go_num, by omega, by rw [HF.out]; exact ownS_snoc hown', below_grown (hB.alloc hsz _) hgrow (own_block HO.out) (by simp; omega)⟩
          case measure => simp [intOf]; omega
      · have hb1 : (xk != 1) = true := by simp [h1]
        simp only [h1, decide_false, Bool.false_and, Bool.not_false, if_true] at hft2
        have HF := Lib.hid hft2
        clear hft hft2 hx hown hsel hxe h1
        go_wp2_with (first | (at_builtin; refine wpList_append_own _ rfl _ _ 22 rfl w.heap.size 33 i0 _ 4 32 Try.underlying22 hi hz0 hz1 hz2 rfl (by decide) _ _ _ rfl (hown0.alloc _) ⟨wr.heap.size, 0, none⟩ 1 1 (S.cells ⟨xp, xk, xc, xv⟩) rfl rfl (cells_new _ _ _) (by simp [S.cells, Value.oneCell']) (by unfold maxLen; omega) (by omega) (by simp; omega) ?_; intro v' w1 hown' hgrow _) | go_quiet (fail))
        go_roundw
        case rel => exact ⟨k + 1, by go_num, by omega, by rw [HF.out]; exact ownS_snoc hown', below_grown (hB.alloc hsz _) hgrow (own_block HO.out) (by simp; omega)⟩
        case measure => simp [intOf]; omega
    · have hkk : k = xs.length := by omega
      subst hkk
      rw [List.take_length] at hown
      clear hx
      go_wp2
      go_ret
      exact ⟨_, rfl, hown, hB⟩

theorem seen_here {w : World} {b off : Nat} {l : List S} (h : SeenAt w (some ⟨b, off, none⟩) l) {i : Nat} {x : S} (hx : l[i]? = some x) : b < w.heap.size ∧
    w.cell? ⟨b, off + i * 4, none⟩ = some (.int .i64 x.p) ∧ w.cell? ⟨b, off + i * 4 + 1, none⟩ = some (.int .i64 x.k) ∧ w.cell? ⟨b, off + i * 4 + 2, none⟩ = some (.int .i64 x.c) ∧ w.cell? ⟨b, off + i * 4 + 3, none⟩ = some (.int .u32 x.v) := by
  obtain ⟨b', off', hA, r⟩ := seen_at h hx
  injection hA with hA
  injection hA with e1 e2 _
  subst e1 e2
  exact r
/-! ## Pids -/
def addP (acc : List Int) (x : S) : List Int := if x.p ∈ acc then acc else acc ++ [x.p]
def pidsOf (l : List S) : List Int := l.foldl addP []
theorem pids_next {l : List S} {k : Nat} {x : S} (h : l[k]? = some x) : pidsOf (l.take (k + 1)) = addP (pidsOf (l.take k)) x := by
  unfold pidsOf
  rw [List.take_add_one, h, List.foldl_append]
  rfl
theorem mem_addP {acc : List Int} {x : S} {v : Int} : v ∈ addP acc x ↔ v ∈ acc ∨ v = x.p := by
  unfold addP
  split
  · constructor
    · intro h; exact .inl h
    · rintro (h | rfl)
      · exact h
      · assumption
  · simp
theorem mem_foldP (v : Int) : ∀ (l : List S) (acc : List Int), v ∈ l.foldl addP acc ↔ v ∈ acc ∨ v ∈ l.map S.p
  | [], acc => by simp
  | x :: l, acc => by
    rw [List.foldl_cons, mem_foldP v l, mem_addP, List.map_cons, List.mem_cons, or_assoc]
theorem mem_pids (v : Int) (l : List S) : v ∈ pidsOf l ↔ v ∈ l.map S.p := by
  unfold pidsOf; rw [mem_foldP]; simp
theorem addP_len (acc : List Int) (x : S) : (addP acc x).length ≤ acc.length + 1 := by unfold addP; split <;> simp
theorem foldP_len : ∀ (l : List S) (acc : List Int), (l.foldl addP acc).length ≤ acc.length + l.length
  | [], acc => by simp
  | x :: l, acc => by
    have := foldP_len l (addP acc x)
    have := addP_len acc x
    simp only [List.foldl_cons, List.length_cons]
    omega
theorem pids_len (l : List S) : (pidsOf l).length ≤ l.length := by have := foldP_len l []; simpa [pidsOf] using this

set_option maxHeartbeats 4000000 in
theorem pids_any {w : World} (A : Option Addr) (ca : Nat) (xs : List S) (hx : SeenAt w A xs) (hxl : xs.length ≤ 1000000) :
    Calls Try.prog 6 #[.slice A xs.length ca] w fun e w' => ∃ v, e = .returned v ∧ OwnI w' w.heap.size v (pidsOf xs) ∧ Below w.heap.size w w' := by
  obtain ⟨i0, hi, hz0, hz1, hz2⟩ := info_parts infoInt
  go_enter Try.func6, Try.ntmps6
  go_wp2
  go_loopw [3, 8] (fun v i wr => ∃ k : Nat, i = .int .i64 (k : Int) ∧ k ≤ xs.length ∧ OwnI wr w.heap.size v (pidsOf (xs.take k)) ∧ Below w.heap.size w wr) (fun _ i _ => xs.length - (intOf i).toNat)
  case atStart => exact ⟨0, rfl, Nat.zero_le _, World.ownsRow_nil _ _ _ _, Below.refl _ _⟩
  case round =>
    obtain ⟨k, rfl, hk, hown, hB⟩ := hrel
    by_cases hkl : k < xs.length
    · have hka : (k : Int) < (xs.length : Int) := by omega
      have hxe : xs[k]? = some xs[k] := List.getElem?_eq_getElem hkl
      have hnx := pids_next hxe
      have hlen : (pidsOf (xs.take k)).length ≤ k := Nat.le_trans (pids_len _) (by rw [List.length_take]; omega)
      generalize xs[k] = x at *
      generalize hsel : pidsOf (xs.take k) = sel at *
      obtain ⟨b, off, rfl, hbl, c0, c1, c2, c3⟩ := seen_at (hx.below hB) hxe
      obtain ⟨xp, xk, xc, xv⟩ := x
      simp only at c0 c1 c2 c3
      have hsz := hB.size
      obtain ⟨A1, c1', rfl, hA1, _⟩ := ownI_at hown
      have hnew := Blk.new wr 33 #[.int .i64 xp, .int .i64 xk, .int .i64 xc, .int .u32 xv]
      have hcon := contains_any A1 c1' sel (by omega) (hA1.alloc (.cells #[.int .i64 xp, .int .i64 xk, .int .i64 xc, .int .u32 xv] 33)) xp
      have HO := Lib.hid hown
      by_cases hm : xp ∈ sel
      · rw [decide_eq_true hm] at hcon
        have hnx2 : pidsOf (xs.take (k + 1)) = sel := by rw [hnx]; unfold addP; rw [if_pos hm]
        have HN := Lib.hid hnx2
        have HC := Lib.hid hcon
        clear hnx hnx2 hm hcon hxe hsel hx hown hA1
        clear hnew
        go_wp2_with (go_at_call 15; refine HC.out.mono ?_; rintro e w4 ⟨rfl, hb4⟩)
        go_roundw
        case rel =>
          have hb5 := ((Below.refl wr.heap.size wr).alloc (Nat.le_refl _) (.cells #[.int .i64 xp, .int .i64 xk, .int .i64 xc, .int .u32 xv] 33)).trans (hb4.mono (by simp))
          exact ⟨k + 1, by go_num, by omega, by rw [HN.out]; exact ownsRow_below HO.out hb5, hB.trans (hb5.mono hsz)⟩
        case measure => simp [intOf]; omega
      · rw [decide_eq_false hm] at hcon
        have hnx2 : pidsOf (xs.take (k + 1)) = sel ++ [xp] := by rw [hnx]; unfold addP; rw [if_neg hm]
        have HN := Lib.hid hnx2
        have HC := Lib.hid hcon
        clear hnx hnx2 hm hcon hxe hsel hx hown hA1
        go_wp2_with (first | (go_at_call 15; refine HC.out.mono ?_; rintro e w4 ⟨rfl, hb4⟩; have hb5 := ((Below.refl wr.heap.size wr).alloc (Nat.le_refl _) (.cells #[.int .i64 xp, .int .i64 xk, .int .i64 xc, .int .u32 xv] 33)).trans (hb4.mono (by simp)); have hown4 := ownsRow_below HO.out hb5; have hx4 := (hnew.below hb4 (by simp)).cell 0; simp only [List.getElem?_toArray, List.getElem?_cons_zero] at hx4; have hs5 := hb5.size; have hxl4 := (hnew.below hb4 (by simp)).lt) | (at_builtin; refine wpList_append_own _ rfl _ _ 23 rfl w.heap.size 3 i0 _ 1 8 Try.underlying23 hi hz0 hz1 hz2 rfl (by decide) _ _ _ rfl (hown4.alloc _) ⟨w4.heap.size, 0, none⟩ 1 1 (iCells xp) rfl rfl (cells_new _ _ _) (by simp [iCells, Value.oneCell']) (by unfold maxLen; omega) (by omega) (by simp; omega) ?_; intro v' w1 hown' hgrow _))
        go_roundw
        case rel => exact ⟨k + 1, by go_num, by omega, by rw [HN.out]; exact ownI_snoc hown', below_grown ((hB.trans (hb5.mono hsz)).alloc (by omega) _) hgrow (own_block HO.out) (by simp; omega)⟩
        case measure => simp [intOf]; omega
    · have hkk : k = xs.length := by omega
      subst hkk
      rw [List.take_length] at hown
      clear hx
      go_wp2
      go_ret
      exact ⟨_, rfl, hown, hB⟩

set_option maxHeartbeats 4000000 in
theorem refPids_any {w : World} (A : Option Addr) (ca : Nat) (xs : List S) (hx : SeenAt w A xs) (hxl : xs.length ≤ 1000000) :
    Calls Try.prog 11 #[.slice A xs.length ca] w fun e w' => ∃ v, e = .returned v ∧ OwnI w' w.heap.size v (pidsOf xs) ∧ Below w.heap.size w w' := by
  obtain ⟨i0, hi, hz0, hz1, hz2⟩ := info_parts infoInt
  go_enter Try.func11, Try.ntmps11
  go_wp2
  go_loopw [3, 4] (fun v i wr => ∃ k : Nat, i = .int .i64 (k : Int) ∧ k ≤ xs.length ∧ OwnI wr w.heap.size v (pidsOf (xs.take k)) ∧ Below w.heap.size w wr) (fun _ i _ => xs.length - (intOf i).toNat)
  case atStart => exact ⟨0, rfl, Nat.zero_le _, World.ownsRow_nil _ _ _ _, Below.refl _ _⟩
  case round =>
    obtain ⟨k, rfl, hk, hown, hB⟩ := hrel
    rename World => wo
    by_cases hkl : k < xs.length
    · have hka : (k : Int) < (xs.length : Int) := by omega
      have hxe : xs[k]? = some xs[k] := List.getElem?_eq_getElem hkl
      have hnx := pids_next hxe
      have hlen : (pidsOf (xs.take k)).length ≤ k := Nat.le_trans (pids_len _) (by rw [List.length_take]; omega)
      generalize xs[k] = x at *
      have hmp := mem_pids x.p (xs.take k)
      generalize hsel : pidsOf (xs.take k) = sel at *
      obtain ⟨b, off, rfl, _, _⟩ := seen_at (hx.below hB) hxe
      have HMP := Lib.hid hmp
      have HNX := Lib.hid hnx
      have HX := Lib.hid hx
      have HO := Lib.hid hown
      have HXE := Lib.hid hxe
      have hsz := hB.size
      clear hnx hx hown hsel hxe hmp
      go_wp2
      go_loopw [5, 6] (fun fs j wr => ∃ q : Nat, j = .int .i64 (q : Int) ∧ q ≤ k ∧ fs = .bool (!decide (x.p ∈ (xs.take q).map S.p)) ∧ Below wo.heap.size wo wr) (fun _ j _ => k - (intOf j).toNat)
      case atStart => exact ⟨0, rfl, Nat.zero_le _, by simp, Below.refl _ _⟩
      case round =>
        obtain ⟨q, rfl, hq, rfl, hB2⟩ := hrel
        have hBq : Below w.heap.size w wr := hB.trans (hB2.mono hB.size)
        obtain ⟨hbl, c0, _, _, _⟩ := seen_here (HX.out.below hBq) HXE.out
        by_cases hqk : q < k
        · have hqa : (q : Int) < (k : Int) := by omega
          have hqb : (q : Int) < (xs.length : Int) := by omega
          have hye : xs[q]? = some (xs[q]'(by omega)) := List.getElem?_eq_getElem (by omega)
          obtain ⟨_, d0, _, _, _⟩ := seen_here (HX.out.below hBq) hye
          have htk : decide (x.p ∈ (xs.take (q + 1)).map S.p) = (decide (x.p ∈ (xs.take q).map S.p) || decide ((xs[q]'(by omega)).p = x.p)) := by
            have := mem_take_next (ps := xs.map S.p) (q := q) (y := (xs[q]'(by omega)).p) (v := x.p) (by rw [List.getElem?_map, hye]; rfl)
            rwa [← List.map_take, ← List.map_take] at this
          generalize xs[q]'(by omega) = y at *
          generalize hbq : decide (x.p ∈ (xs.take q).map S.p) = bq at *
          have HTK := Lib.hid htk
          obtain ⟨xp, xk, xc, xv⟩ := x
          obtain ⟨yp, yk, yc, yv⟩ := y
          simp only at c0 d0 HTK
          by_cases hyx : yp = xp
          · have hb1 : (yp == xp) = true := by simp [hyx]
            have HYX := Lib.hid hyx
            clear htk hye hyx hbq
            go_wp2_with (go_quiet (fail))
            go_roundw
            case rel => exact ⟨q + 1, by go_num, by omega, by rw [HTK.out, decide_eq_true HYX.out, Bool.or_true]; rfl, belowN hB2 _⟩
            case measure => simp [intOf]; omega
          · have hb1 : (yp == xp) = false := by simp [hyx]
            have HYX := Lib.hid hyx
            clear htk hye hyx hbq
            go_wp2_with (go_quiet (fail))
            go_roundw
            case rel => exact ⟨q + 1, by go_num, by omega, by rw [HTK.out, decide_eq_false HYX.out, Bool.or_false], belowN hB2 _⟩
            case measure => simp [intOf]; omega
        · have hqq : q = k := by omega
          subst hqq
          have hown2 : OwnI wr w.heap.size _ sel := ownsRow_below HO.out hB2
          have hszr := hBq.size
          obtain ⟨xp, xk, xc, xv⟩ := x
          simp only at c0
          by_cases hm : xp ∈ sel
          · have hd : decide (xp ∈ (xs.take q).map S.p) = true := decide_eq_true (HMP.out.1 hm)
            have hnx2 : pidsOf (xs.take (q + 1)) = sel := by rw [HNX.out]; unfold addP; rw [if_pos hm]
            have HN := Lib.hid hnx2
            rw [hd]
            clear hnx2 hm hd
            go_wp2
            go_roundw
            case rel => exact ⟨q + 1, by go_num, by omega, by rw [HN.out]; exact hown2, hBq⟩
            case measure => simp [intOf]; omega
          · have hd : decide (xp ∈ (xs.take q).map S.p) = false := decide_eq_false (fun h => hm (HMP.out.2 h))
            have hnx2 : pidsOf (xs.take (q + 1)) = sel ++ [xp] := by rw [HNX.out]; unfold addP; rw [if_neg hm]
            have HN := Lib.hid hnx2
            rw [hd]
            clear hnx2 hm hd
            go_wp2_with (at_builtin; refine wpList_append_own _ rfl _ _ 23 rfl w.heap.size 3 i0 _ 1 8 Try.underlying23 hi hz0 hz1 hz2 rfl (by decide) _ _ _ rfl (hown2.alloc _) ⟨wr.heap.size, 0, none⟩ 1 1 (iCells xp) rfl rfl (cells_new _ _ _) (by simp [iCells, Value.oneCell']) (by unfold maxLen; omega) (by omega) (by simp; omega) ?_; intro v' w1 hown' hgrow _)
            go_roundw
            case rel => exact ⟨q + 1, by go_num, by omega, by rw [HN.out]; exact ownI_snoc hown', below_grown (hBq.alloc hszr _) hgrow (own_block hown2) (by simp; omega)⟩
            case measure => simp [intOf]; omega
    · have hkk : k = xs.length := by omega
      subst hkk
      rw [List.take_length] at hown
      clear hx
      go_wp2
      go_ret
      exact ⟨_, rfl, hown, hB⟩
end Go.Proofs.Ytpcaeggecojaeaa
