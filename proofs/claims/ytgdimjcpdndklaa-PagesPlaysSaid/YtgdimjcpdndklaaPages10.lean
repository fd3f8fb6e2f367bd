/-
  Walks over package pages: Parts, Hole.
-/
import Derived.Test.YtgdimjcpdndklaaPages9
namespace Go.Proofs.Ytgdimjcpdndklaa
open Go.RowKit
set_option linter.unusedVariables false

theorem index_tab (q : Nat → Option Nat) {k : Nat} (hk : k < 8) (w : World) : (Instr.index 47 (.agg (tabArr q)) (.int .i64 k)).run Try.prog w = .ok (ptrV (q k)) w := by
  rcases eight hk with rfl | rfl | rfl | rfl | rfl | rfl | rfl | rfl <;> kernel_rfl
theorem tabArr_size (q : Nat → Option Nat) : (tabArr q).size = 8 := rfl
theorem info_tab (q : Nat → Option Nat) : (Try.prog.info? 47).map (·.size) = some (tabArr q).size := by rw [tabArr_size]; kernel_rfl

/-- How many of the first parts are there. -/
def cntQ (q : Nat → Option Nat) : Nat → Nat
  | 0 => 0
  | k + 1 => cntQ q k + (if (q k).isSome then 1 else 0)
theorem cntQ_le (q : Nat → Option Nat) : ∀ k, cntQ q k ≤ k
  | 0 => Nat.le_refl _
  | k + 1 => by have := cntQ_le q k; unfold cntQ; split <;> omega
/-- How many of the first eights of pages have one with an entry. -/
def cntM (m : M) : Nat → Nat
  | 0 => 0
  | k + 1 => cntM m k + (if emp m k then 0 else 1)
theorem cntQ_M {w : World} {bt : Nat} {q : Nat → Option Nat} {m : M} (h : Tab w bt q m) : ∀ k, k ≤ 8 → cntQ q k = cntM m k
  | 0, _ => rfl
  | k + 1, hk => by
    unfold cntQ cntM
    rw [cntQ_M h k (by omega)]
    cases hq : q k with
    | none =>
      have he : emp m k = true := by
        have hn := fun j hj => h.none_ k j (by omega) hq hj
        have h0 := hn 0 (by omega); have h1 := hn 1 (by omega); have h2 := hn 2 (by omega); have h3 := hn 3 (by omega)
        have h4 := hn 4 (by omega); have h5 := hn 5 (by omega); have h6 := hn 6 (by omega); have h7 := hn 7 (by omega)
        simp only [Nat.add_zero] at h0
        simp [emp, h0, h1, h2, h3, h4, h5, h6, h7]
      simp [he]
    | some b =>
      have he : emp m k = false := by
        cases he : emp m k with
        | false => rfl
        | true =>
          obtain ⟨j, hj, hs⟩ := h.some_ k b (by omega) hq
          rw [emp_none he hj] at hs
          cases hs
      simp [he]

section
variable {w : World} {bt : Nat} {q : Nat → Option Nat} {m : M}
set_option maxHeartbeats 400000 in
theorem parts_any (h : Tab w bt q m) : Calls Try.prog 15 #[.pointer (some ⟨bt, 0, none⟩)] w
    fun e w' => e = .returned (.int .i64 (cntM m 8)) ∧ w = w' := by
  have hq8 := cntQ_M h 8 (by omega)
  rw [← hq8]
  have htop := h.top
  clear hq8 h
  have HT := Lib.hid htop
  clear htop
  have HI := Lib.hid (fun (k : Nat) (hk : k < 8) (W : World) => index_tab q hk W)
  go_enter Try.func15, Try.ntmps15
  go_wp2_with (refine wpList_load_row rfl _ _ rfl bt rfl 49 _ _ _ HT.out Try.underlying47 rfl (info_tab _) ?_)
  go_loop [3, 12] (fun c k => ∃ n : Nat, n ≤ 8 ∧ k = .int .i64 n ∧ c = .int .i64 (cntQ q n)) (fun _ k => 8 - (intOf k).toNat)
  case atStart => exact ⟨0, by omega, rfl, rfl⟩
  case round =>
    obtain ⟨n, hn, rfl, rfl⟩ := hrel
    by_cases hlt : n < 8
    · have hi := HI.out n hlt
      have hle := cntQ_le q n
      cases hqn : q n with
      | none =>
        have hc : cntQ q (n + 1) = cntQ q n := by simp [cntQ, hqn]
        rw [hqn] at hi
        simp only [ptrV, Option.map_none] at hi
        have HC := Lib.hid hc
        clear hc hqn
        go_wp2
        go_round
        case rel => exact ⟨n + 1, by omega, by go_num, by rw [HC.out]⟩
        case measure => simp [intOf]; omega
      | some b =>
        have hc : cntQ q (n + 1) = cntQ q n + 1 := by simp [cntQ, hqn]
        rw [hqn] at hi
        simp only [ptrV, Option.map_some] at hi
        have HC := Lib.hid hc
        clear hc hqn
        go_wp2
        go_round
        case rel => exact ⟨n + 1, by omega, by go_num, by rw [HC.out]; go_num⟩
        case measure => simp [intOf]; omega
    · have h8 : n = 8 := by omega
      subst h8
      go_wp2
      go_ret
      exact ⟨rfl, rfl⟩
theorem parts_nil : Calls Try.prog 15 #[.pointer none] w fun e w' => e = .returned (.int .i64 0) ∧ w = w' := by
  go_enter Try.func15, Try.ntmps15
  go_wp2
  go_ret
  exact ⟨rfl, rfl⟩

/-- Where so many pages have none: fuel, the page, and from where on none has. -/
def holeGo (m : M) (n : Int) : Nat → Nat → Nat → Int × Bool
  | 0, _, _ => (0, false)
  | f + 1, page, fr =>
    if ((page : Int) + 1 - (if (m page).isSome then page + 1 else fr : Nat) == n) = true then ((if (m page).isSome then page + 1 else fr : Nat), true)
    else holeGo m n f (page + 1) (if (m page).isSome then page + 1 else fr)
def hole (m : M) (n : Int) : Int × Bool := if n < 1 then (0, false) else holeGo m n 64 0 0

set_option maxHeartbeats 1000000 in
theorem hole_any (h : Tab w bt q m) (n : Int) (hlo : -9223372036854775808 ≤ n) (hhi : n ≤ 9223372036854775807) : Calls Try.prog 12 #[.pointer (some ⟨bt, 0, none⟩), .int .i64 n] w
    fun e w' => e = .returned (.tuple #[.int .i64 (hole m n).1, .bool (hole m n).2]) ∧ Below w.heap.size w w' := by
  by_cases hn1 : n < 1
  · have hh : hole m n = (0, false) := by unfold hole; rw [if_pos hn1]
    rw [hh]
    clear hh
    go_enter Try.func12, Try.ntmps12
    go_wp2
    go_ret2
    exact ⟨rfl, Below.refl _ _⟩
  · have hh : hole m n = holeGo m n 64 0 0 := by unfold hole; rw [if_neg hn1]
    rw [hh]
    clear hh
    obtain ⟨R, hR⟩ : ∃ R, R = holeGo m n 64 0 0 := ⟨_, rfl⟩
    rw [← hR]
    have HR := Lib.hid hR
    clear hR
    have hn1' : 1 ≤ n := by omega
    have h0 := h
    have HG := Lib.hid (fun (W : World) (hW : Tab W bt q m) (p : Int) => get_any hW p)
    clear h hn1
    go_enter Try.func12, Try.ntmps12
    go_wp2
    go_loopw [6, 16] (fun fr k wr => ∃ i j : Nat, i ≤ 64 ∧ j ≤ i ∧ k = .int .i64 i ∧ fr = .int .i64 j ∧ holeGo m n (64 - i) i j = R ∧ Below w.heap.size w wr) (fun _ k _ => 64 - (intOf k).toNat)
    case atStart => exact ⟨0, 0, by omega, by omega, rfl, rfl, HR.out.symm, Below.refl _ _⟩
    case round =>
      obtain ⟨i, j, hi, hj, rfl, rfl, hgo, hb⟩ := hrel
      have hTr := h0.below hb (Nat.le_refl _)
      by_cases hlt : i < 64
      · have hg := HG.out _ hTr (i : Int)
        rw [look_in m hlt] at hg
        rw [show 64 - i = (64 - (i + 1)) + 1 from by omega, holeGo] at hgo
        have hsz := hb.size
        cases hm : m i with
        | none =>
          rw [hm] at hg hgo
          simp only [gotV, Option.getD_none, Option.isSome_none, E.val, E.zero, E.arr, Bool.false_eq_true, if_false] at hg hgo
          by_cases heq : (i : Int) + 1 - (j : Int) = n
          · have hb1 : ((i : Int) + 1 - (j : Int) == n) = true := beq_iff_eq.2 heq
            rw [if_pos hb1] at hgo
            have HGo := Lib.hid hgo
            have HG1 := Lib.hid hg
            clear hgo hg hm heq hTr
            go_wp2_with (go_at_call 13; refine HG1.out.mono ?_; rintro e w1 ⟨rfl, hb2⟩)
            go_ret2
            exact ⟨by rw [← HGo.out]; rfl, (hb.trans (hb2.mono hsz)).alloc (by have := hb2.size; omega) _⟩
          · have hb1 : ((i : Int) + 1 - (j : Int) == n) = false := beq_eq_false_iff_ne.2 heq
            rw [if_neg (by simp [hb1])] at hgo
            have HGo := Lib.hid hgo
            have HG1 := Lib.hid hg
            clear hgo hg hm heq hTr
            go_wp2_with (go_at_call 13; refine HG1.out.mono ?_; rintro e w1 ⟨rfl, hb2⟩)
            go_roundw
            case rel => exact ⟨i + 1, j, by omega, by omega, by go_num, rfl, HGo.out, (hb.trans (hb2.mono hsz)).alloc (by have := hb2.size; omega) _⟩
            case measure => simp [intOf]; omega
        | some x =>
          rw [hm] at hg hgo
          obtain ⟨f, c1, c2, c3, c4⟩ := x
          simp only [gotV, Option.getD_some, Option.isSome_some, E.val, E.arr, if_true] at hg hgo
          have hb1 : ((i : Int) + 1 - ((i + 1 : Nat) : Int) == n) = false := beq_eq_false_iff_ne.2 (by omega)
          rw [if_neg (by rw [hb1]; decide)] at hgo
          have hz : ((0 : Int) == n) = false := beq_eq_false_iff_ne.2 (by omega)
          have HGo := Lib.hid hgo
          have HG1 := Lib.hid hg
          clear hgo hg hm hb1 hTr
          go_wp2_with (go_at_call 13; refine HG1.out.mono ?_; rintro e w1 ⟨rfl, hb2⟩)
          go_roundw
          case rel => exact ⟨i + 1, i + 1, by omega, by omega, by go_num, by go_num, HGo.out, (hb.trans (hb2.mono hsz)).alloc (by have := hb2.size; omega) _⟩
          case measure => simp [intOf]; omega
      · have h64 : i = 64 := by omega
        subst h64
        simp only [Nat.sub_self, holeGo] at hgo
        have HGo := Lib.hid hgo
        clear hgo hTr
        go_wp2
        go_ret2
        exact ⟨by rw [← HGo.out]; rfl, hb⟩
theorem hole_nil (n : Int) : Calls Try.prog 12 #[.pointer none, .int .i64 n] w
    fun e w' => e = .returned (.tuple #[.int .i64 0, .bool false]) ∧ w = w' := by
  go_enter Try.func12, Try.ntmps12
  go_wp2
  go_ret2
  exact ⟨rfl, rfl⟩
end
end Go.Proofs.Ytgdimjcpdndklaa
