/-
  Walks over package trace and its reference: Without (the reference's), Pids (both). No condition.
-/
import Derived.Test.YtpcaeggecojaeaaDoorTrD3
namespace Go.Proofs.YtpcaeggecojaeaaDoor
open Go.RowKit
set_option linter.unusedVariables false
set_option linter.unusedSimpArgs false

theorem seen_here {w : World} {b off : Nat} {l : List S} (h : SeenAt w (some ⟨b, off, none⟩) l) {i : Nat} {x : S} (hx : l[i]? = some x) : b < w.heap.size ∧
    w.cell? ⟨b, off + i * 4, none⟩ = some (.int .i64 x.p) ∧ w.cell? ⟨b, off + i * 4 + 1, none⟩ = some (.int .i64 x.k) ∧ w.cell? ⟨b, off + i * 4 + 2, none⟩ = some (.int .i64 x.c) ∧ w.cell? ⟨b, off + i * 4 + 3, none⟩ = some (.int .u32 x.v) := by
  obtain ⟨b', off', hA, r⟩ := seen_at h hx
  injection hA with hA
  injection hA with e1 e2 _
  subst e1 e2
  exact r
/-! ## Pids -/
def addP (acc : List Int) (x : S) : List Int := if x.p ∈ acc then acc else acc ++ [x.p]
def pidsOf (l : List S) : List Int := l.foldl addP []
theorem pids_next {l : List S} {k : Nat} {x : S} (h : l[k]? = some x) : pidsOf (l.take (k + 1)) = addP (pidsOf (l.take k)) x := by
  unfold pidsOf
  rw [List.take_add_one, h, List.foldl_append]
  rfl
theorem mem_addP {acc : List Int} {x : S} {v : Int} : v ∈ addP acc x ↔ v ∈ acc ∨ v = x.p := by
  unfold addP
  split
  · constructor
    · intro h; exact .inl h
    · rintro (h | rfl)
      · exact h
      · assumption
  · simp
theorem mem_foldP (v : Int) : ∀ (l : List S) (acc : List Int), v ∈ l.foldl addP acc ↔ v ∈ acc ∨ v ∈ l.map S.p
  | [], acc => by simp
  | x :: l, acc => by
    rw [List.foldl_cons, mem_foldP v l, mem_addP, List.map_cons, List.mem_cons, or_assoc]
theorem mem_pids (v : Int) (l : List S) : v ∈ pidsOf l ↔ v ∈ l.map S.p := by
  unfold pidsOf; rw [mem_foldP]; simp
theorem addP_len (acc : List Int) (x : S) : (addP acc x).length ≤ acc.length + 1 := by unfold addP; split <;> simp
theorem foldP_len : ∀ (l : List S) (acc : List Int), (l.foldl addP acc).length ≤ acc.length + l.length
  | [], acc => by simp
  | x :: l, acc => by
    have := foldP_len l (addP acc x)
    have := addP_len acc x
    simp only [List.foldl_cons, List.length_cons]
    omega
theorem pids_len (l : List S) : (pidsOf l).length ≤ l.length := by have := foldP_len l []; simpa [pidsOf] using this

set_option maxHeartbeats 4000000 in
theorem pids_any {w : World} (A : Option Addr) (ca : Nat) (xs : List S) (hx : SeenAt w A xs) (hxl : xs.length ≤ 1000000) :
    Calls Tryd.prog 11 #[.slice A xs.length ca] w fun e w' => ∃ v, e = .returned v ∧ OwnI w' w.heap.size v (pidsOf xs) ∧ Below w.heap.size w w' := by
  obtain ⟨i0, hi, hz0, hz1, hz2⟩ := info_parts infoInt
  go_enter Tryd.func11, Tryd.ntmps11
  go_wp2
  go_loopw [3, 8] (fun v i wr => ∃ k : Nat, i = .int .i64 (k : Int) ∧ k ≤ xs.length ∧ OwnI wr w.heap.size v (pidsOf (xs.take k)) ∧ Below w.heap.size w wr) (fun _ i _ => xs.length - (intOf i).toNat)
  case atStart => exact ⟨0, rfl, Nat.zero_le _, World.ownsRow_nil _ _ _ _, Below.refl _ _⟩
  case round =>
    obtain ⟨k, rfl, hk, hown, hB⟩ := hrel
    by_cases hkl : k < xs.length
    · have hka : (k : Int) < (xs.length : Int) := by omega
      have hxe : xs[k]? = some xs[k] := List.getElem?_eq_getElem hkl
      have hnx := pids_next hxe
      have hlen : (pidsOf (xs.take k)).length ≤ k := Nat.le_trans (pids_len _) (by rw [List.length_take]; omega)
      generalize xs[k] = x at *
      generalize hsel : pidsOf (xs.take k) = sel at *
      obtain ⟨b, off, rfl, hbl, c0, c1, c2, c3⟩ := seen_at (hx.below hB) hxe
      obtain ⟨xp, xk, xc, xv⟩ := x
      simp only at c0 c1 c2 c3
      have hsz := hB.size
      obtain ⟨A1, c1', rfl, hA1, _⟩ := ownI_at hown
      have hnew := Blk.new wr 27 #[.int .i64 xp, .int .i64 xk, .int .i64 xc, .int .u32 xv]
      have hcon := contains_any A1 c1' sel (by omega) (hA1.alloc (.cells #[.int .i64 xp, .int .i64 xk, .int .i64 xc, .int .u32 xv] 27)) xp
      have HO := Lib.hid hown
      by_cases hm : xp ∈ sel
      · rw [decide_eq_true hm] at hcon
        have hnx2 : pidsOf (xs.take (k + 1)) = sel := by rw [hnx]; unfold addP; rw [if_pos hm]
        have HN := Lib.hid hnx2
        have HC := Lib.hid hcon
        clear hnx hnx2 hm hcon hxe hsel hx hown hA1
        clear hnew
        go_wp2_with (go_at_call 25; refine HC.out.mono ?_; rintro e w4 ⟨rfl, hb4⟩)
        go_roundw
        case rel =>
          have hb5 := ((Below.refl wr.heap.size wr).alloc (Nat.le_refl _) (.cells #[.int .i64 xp, .int .i64 xk, .int .i64 xc, .int .u32 xv] 27)).trans (hb4.mono (by simp))
          exact ⟨k + 1, by go_num, by omega, by rw [HN.out]; exact ownsRow_below HO.out hb5, hB.trans (hb5.mono hsz)⟩
        case measure => simp [intOf]; omega
      · rw [decide_eq_false hm] at hcon
        have hnx2 : pidsOf (xs.take (k + 1)) = sel ++ [xp] := by rw [hnx]; unfold addP; rw [if_neg hm]
        have HN := Lib.hid hnx2
        have HC := Lib.hid hcon
        clear hnx hnx2 hm hcon hxe hsel hx hown hA1
        go_wp2_with (first | (go_at_call 25; refine HC.out.mono ?_; rintro e w4 ⟨rfl, hb4⟩; have hb5 := ((Below.refl wr.heap.size wr).alloc (Nat.le_refl _) (.cells #[.int .i64 xp, .int .i64 xk, .int .i64 xc, .int .u32 xv] 27)).trans (hb4.mono (by simp)); have hown4 := ownsRow_below HO.out hb5; have hx4 := (hnew.below hb4 (by simp)).cell 0; simp only [List.getElem?_toArray, List.getElem?_cons_zero] at hx4; have hs5 := hb5.size; have hxl4 := (hnew.below hb4 (by simp)).lt) | (at_builtin; refine wpList_append_own _ rfl _ _ 29 rfl w.heap.size 3 i0 _ 1 8 Tryd.underlying29 hi hz0 hz1 hz2 rfl (by decide) _ _ _ rfl (hown4.alloc _) ⟨w4.heap.size, 0, none⟩ 1 1 (iCells xp) rfl rfl (cells_new _ _ _) (by simp [iCells, Value.oneCell']) (by unfold maxLen; omega) (by omega) (by simp; omega) ?_; intro v' w1 hown' hgrow _))
        go_roundw
        case rel => exact ⟨k + 1, by go_num, by omega, by rw [HN.out]; exact ownI_snoc hown', below_grown ((hB.trans (hb5.mono hsz)).alloc (by omega) _) hgrow (own_block HO.out) (by simp; omega)⟩
        case measure => simp [intOf]; omega
    · have hkk : k = xs.length := by omega
      subst hkk
      rw [List.take_length] at hown
      clear hx
      go_wp2
      go_ret
      exact ⟨_, rfl, hown, hB⟩

end Go.Proofs.YtpcaeggecojaeaaDoor
