/-
  Walks over package call and its reference: ByName, Code, Answer, Failed. Condition: the tables lie as the program's text lays them.
-/
import Derived.Lib.Bytealg
import Derived.Test.YthmjddnccgiinaaDoorCall2
namespace Go.Proofs.YthmjddnccgiinaaDoor
open Go.RowKit
set_option linter.unusedVariables false
set_option linter.unusedSimpArgs false

theorem infoK : (Tryd.prog.info? 64).map (·.size) = some kArr.size := by kernel_rfl
theorem infoC : (Tryd.prog.info? 66).map (·.size) = some cArr.size := by kernel_rfl
theorem lt23 {k : Nat} (h : k < 23) : k = 0 ∨ k = 1 ∨ k = 2 ∨ k = 3 ∨ k = 4 ∨ k = 5 ∨ k = 6 ∨ k = 7 ∨ k = 8 ∨ k = 9 ∨ k = 10 ∨ k = 11 ∨ k = 12 ∨ k = 13 ∨ k = 14 ∨ k = 15 ∨ k = 16 ∨ k = 17 ∨ k = 18 ∨ k = 19 ∨ k = 20 ∨ k = 21 ∨ k = 22 := by omega
theorem lt15 {k : Nat} (h : k < 15) : k = 0 ∨ k = 1 ∨ k = 2 ∨ k = 3 ∨ k = 4 ∨ k = 5 ∨ k = 6 ∨ k = 7 ∨ k = 8 ∨ k = 9 ∨ k = 10 ∨ k = 11 ∨ k = 12 ∨ k = 13 ∨ k = 14 := by omega
theorem index_kinds {k : Nat} (hk : k < 23) (w : World) : (Instr.index 64 (.agg kArr) (.int .i64 k)).run Tryd.prog w = .ok (.agg #[.string (kN k), .int .i64 (kM k)]) w := by
  rcases lt23 hk with rfl | rfl | rfl | rfl | rfl | rfl | rfl | rfl | rfl | rfl | rfl | rfl | rfl | rfl | rfl | rfl | rfl | rfl | rfl | rfl | rfl | rfl | rfl <;> kernel_rfl
theorem index_codes {k : Nat} (hk : k < 15) (w : World) : (Instr.index 66 (.agg cArr) (.int .i64 k)).run Tryd.prog w = .ok (.agg #[.int .i64 (cN k), .string (cS k)]) w := by
  rcases lt15 hk with rfl | rfl | rfl | rfl | rfl | rfl | rfl | rfl | rfl | rfl | rfl | rfl | rfl | rfl | rfl <;> kernel_rfl
theorem seq_true {a b : ByteArray} (h : a = b) : (a.toList == b.toList) = true := by rw [h]; simp
theorem seq_false {a b : ByteArray} (h : a ≠ b) : (a.toList == b.toList) = false := by
  rw [Lib.toList_data, Lib.toList_data, beq_eq_false_iff_ne]
  exact fun he => h (Go.WideShapes.bytes_inj he)

/-- What ByName tells: a row with the word; 0: there is none, or it is row 0. -/
def IsName (s : ByteArray) (r : Nat) : Prop := (r < 23 ∧ kN r = s) ∨ (r = 0 ∧ ∀ j, j < 23 → kN j ≠ s)
theorem kN_inj {i j : Nat} (hi : i < 23) (hj : j < 23) (h : kN i = kN j) : i = j := by
  have hd : ∀ i : Fin 23, ∀ j : Fin 23, (kindsL.getD i.1 ([], -1)).1 = (kindsL.getD j.1 ([], -1)).1 → i = j := by decide +kernel
  have h' : (kindsL.getD i ([], -1)).1 = (kindsL.getD j ([], -1)).1 := by
    unfold kN at h
    injection h with h
    simpa using congrArg Array.toList h
  have := hd ⟨i, hi⟩ ⟨j, hj⟩ h'
  exact congrArg Fin.val this
theorem isName_one {s : ByteArray} {r r' : Nat} (h : IsName s r) (h' : IsName s r') : r = r' := by
  rcases h with ⟨h1, h2⟩ | ⟨h1, h2⟩ <;> rcases h' with ⟨h1', h2'⟩ | ⟨h1', h2'⟩
  · exact kN_inj h1 h1' (h2.trans h2'.symm)
  · exact absurd h2 (h2' r h1)
  · exact absurd h2' (h2 r' h1')
  · omega
set_option maxRecDepth 100000 in
set_option maxHeartbeats 1000000 in
theorem byName_any {w : World} (hL : Laid w) (s : ByteArray) : Calls Tryd.prog 15 #[.string s] w fun e w' => ∃ r : Nat, e = .returned (.int .i64 (r : Int)) ∧ IsName s r ∧ Below w.heap.size w w' := by
  obtain ⟨tb, hb0⟩ := hL.kinds
  have HB := Lib.hid hb0
  clear hb0
  have HI := Lib.hid (fun (k : Nat) (hk : k < 23) (w : World) => index_kinds hk w)
  clear hL
  go_enter Tryd.func15, Tryd.ntmps15
  go_wp2_with (refine wpList_load_row rfl 64 _ rfl 0 rfl tb kArr (0, 0) _ HB.out Tryd.underlying64 rfl infoK ?_)
  go_loopw [6] (fun i wr => ∃ k : Nat, i = .int .i64 (k : Int) ∧ k ≤ 23 ∧ (∀ j, j < k → kN j ≠ s) ∧ Below w.heap.size w wr) (fun i _ => 23 - (intOf i).toNat)
  case atStart => exact ⟨0, rfl, by omega, fun j hj => absurd hj (Nat.not_lt_zero j), Below.refl _ _⟩
  case round =>
    obtain ⟨k, rfl, hk, hpre, hB⟩ := hrel
    by_cases hkl : k < 23
    · have hkb : (k : Int) < 23 := by omega
      have hix := fun w => HI.out k hkl w
      have hB2 := hB.alloc hB.size (.cells #[.string (kN k), .int .i64 (kM k)] 62)
      by_cases hs : kN k = s
      · have hb := seq_true hs
        have HN := Lib.hid (show IsName s k from .inl ⟨hkl, hs⟩)
        have HB2 := Lib.hid hB2
        generalize kN k = t at *
        generalize kM k = u at *
        clear hpre hs hB2
        go_wp2
        go_ret
        exact ⟨k, rfl, HN.out, HB2.out⟩
      · have hb := seq_false hs
        have HP := Lib.hid (fun j (hj : j < k + 1) => show kN j ≠ s from by
          rcases Nat.lt_or_ge j k with h | h
          · exact hpre j h
          · have : j = k := by omega
            subst this
            exact hs)
        have HB2 := Lib.hid hB2
        generalize kN k = t at *
        generalize kM k = u at *
        clear hpre hs hB2
        go_wp2
        go_roundw
        case rel => exact ⟨k + 1, by go_num, by omega, HP.out, HB2.out⟩
        case measure => simp [intOf]; omega
    · have hk23 : k = 23 := by omega
      subst hk23
      have HP := Lib.hid hpre
      clear hpre
      go_wp2
      go_ret
      exact ⟨0, rfl, .inr ⟨rfl, HP.out⟩, hB⟩

set_option maxRecDepth 100000 in
set_option maxHeartbeats 1000000 in
theorem code_any {w : World} (hL : Codes w) (c : Int) : Calls Tryd.prog 16 #[.int .i64 c] w fun e w' => e = .returned (.string (codeOf c)) ∧ Below w.heap.size w w' := by
  obtain ⟨tb, hb0⟩ := hL.codes
  have HB := Lib.hid hb0
  clear hb0
  have HI := Lib.hid (fun (k : Nat) (hk : k < 15) (w : World) => index_codes hk w)
  clear hL
  obtain ⟨q, hq⟩ : ∃ q, codeOf c = q := ⟨_, rfl⟩
  rw [hq]
  have HQ := Lib.hid hq
  clear hq
  go_enter Tryd.func16, Tryd.ntmps16
  go_wp2_with (refine wpList_load_row rfl 66 _ rfl 1 rfl tb cArr (0, 0) _ HB.out Tryd.underlying66 rfl infoC ?_)
  go_loopw [6] (fun i wr => ∃ k : Nat, i = .int .i64 (k : Int) ∧ k ≤ 15 ∧ (∀ j, j < k → cN j ≠ c) ∧ Below w.heap.size w wr) (fun i _ => 15 - (intOf i).toNat)
  case atStart => exact ⟨0, rfl, by omega, fun j hj => absurd hj (Nat.not_lt_zero j), Below.refl _ _⟩
  case round =>
    obtain ⟨k, rfl, hk, hpre, hB⟩ := hrel
    by_cases hkl : k < 15
    · have hkb : (k : Int) < 15 := by omega
      have hix := fun w => HI.out k hkl w
      have hB2 := hB.alloc hB.size (.cells #[.int .i64 (cN k), .string (cS k)] 65)
      by_cases hs : cN k = c
      · have hb : (cN k == c) = true := by simp [hs]
        have hv := codeOf_hit hkl
        rw [hs, HQ.out] at hv
        have HB2 := Lib.hid hB2
        subst hv
        generalize cN k = t at *
        clear hpre hs hB2 HQ
        go_wp2
        go_ret
        exact ⟨rfl, HB2.out⟩
      · have hb : (cN k == c) = false := by simp [hs]
        have HP := Lib.hid (fun j (hj : j < k + 1) => show cN j ≠ c from by
          rcases Nat.lt_or_ge j k with h | h
          · exact hpre j h
          · have : j = k := by omega
            subst this
            exact hs)
        have HB2 := Lib.hid hB2
        generalize cN k = t at *
        generalize cS k = u at *
        clear hpre hs hB2
        go_wp2
        go_roundw
        case rel => exact ⟨k + 1, by go_num, by omega, HP.out, HB2.out⟩
        case measure => simp [intOf]; omega
    · have hk15 : k = 15 := by omega
      subst hk15
      have hv := codeOf_none hpre
      rw [HQ.out] at hv
      subst hv
      clear hpre
      go_wp2
      go_ret
      exact ⟨rfl, hB⟩

/-- The word that says a code. -/
def ansOf (c : Int) : Int := if codeOf c = ⟨#[]⟩ then 0 else 4294967296 - c
theorem codeOf_some {c : Int} (h : codeOf c ≠ ⟨#[]⟩) : 1 ≤ c ∧ c ≤ 60 := by
  have : c = 1 ∨ c = 3 ∨ c = 4 ∨ c = 9 ∨ c = 10 ∨ c = 11 ∨ c = 12 ∨ c = 14 ∨ c = 16 ∨ c = 22 ∨ c = 23 ∨ c = 24 ∨ c = 32 ∨ c = 38 ∨ c = 60 := Classical.byContradiction fun hn => h (codeOf_out hn)
  omega
theorem empty_test {s : ByteArray} (h : s = ⟨#[]⟩) : s.data.toList = [] := by rw [h]
theorem full_test {s : ByteArray} (h : s ≠ ⟨#[]⟩) : s.toList.isEmpty = false := by
  rw [Lib.toList_data]
  cases s with | mk d =>
  cases d with | mk l =>
  cases l with
  | nil => exact absurd rfl h
  | cons => rfl
theorem neg_u32 {c : Int} (h : 1 ≤ c ∧ c ≤ 60) : -c % 4294967296 = 4294967296 - c := by omega
theorem ret_u32 {a b : Int} (h : a = b) : Ending.returned (.int .u32 a) = .returned (.int .u32 b) := by rw [h]
set_option maxHeartbeats 1000000 in
theorem answer_any {w : World} (hL : Codes w) (c : Int) : Calls Tryd.prog 18 #[.int .i64 c] w fun e w' => e = .returned (.int .u32 (ansOf c)) ∧ Below w.heap.size w w' := by
  have H := Lib.hid (code_any hL c)
  clear hL
  by_cases h : codeOf c = ⟨#[]⟩
  · have ha : ansOf c = 0 := by unfold ansOf; rw [if_pos h]
    rw [ha]
    rw [h] at H
    clear ha h
    go_enter Tryd.func18, Tryd.ntmps18
    go_wp2_with fail
    refine H.out.mono ?_
    rintro e w1 ⟨rfl, hb⟩
    go_wp2
    go_ret
    exact ⟨rfl, hb⟩
  · have ha : ansOf c = 4294967296 - c := by unfold ansOf; rw [if_neg h]
    have hc := codeOf_some h
    have he := full_test h
    rw [ha]
    generalize codeOf c = s at *
    have h1 := hc.1
    have h2 := hc.2
    clear ha h
    go_enter Tryd.func18, Tryd.ntmps18
    go_wp2_with fail
    refine H.out.mono ?_
    rintro e w1 ⟨rfl, hb⟩
    go_wp2
    go_ret
    exact ⟨ret_u32 (neg_u32 hc), hb⟩
set_option maxHeartbeats 1000000 in
theorem refAnswer_any {w : World} (c : Int) : Calls Tryd.prog 19 #[.int .i64 c] w fun e w' => e = .returned (.int .u32 (ansOf c)) ∧ w = w' := by
  have H := Lib.hid (refCode_any (w := w) c)
  by_cases h : codeOf c = ⟨#[]⟩
  · have ha : ansOf c = 0 := by unfold ansOf; rw [if_pos h]
    rw [ha]
    rw [h] at H
    clear ha h
    go_enter Tryd.func19, Tryd.ntmps19
    go_wp2_with fail
    refine H.out.mono ?_
    rintro e w1 ⟨rfl, rfl⟩
    go_wp2
    go_ret
    exact ⟨rfl, rfl⟩
  · have ha : ansOf c = 4294967296 - c := by unfold ansOf; rw [if_neg h]
    have hc := codeOf_some h
    have he := full_test h
    rw [ha]
    generalize codeOf c = s at *
    clear ha h
    go_enter Tryd.func19, Tryd.ntmps19
    go_wp2_with fail
    refine H.out.mono ?_
    rintro e w1 ⟨rfl, rfl⟩
    go_wp2
    go_ret
    exact ⟨rfl, rfl⟩

/-- The code that a word says. -/
def failOf (w : Int) : Int := if codeOf ((4294967296 - w) % 4294967296) = ⟨#[]⟩ then 0 else (4294967296 - w) % 4294967296
theorem neg_mod {x : Int} (h0 : 0 ≤ x) (h1 : x ≤ 4294967295) : -x % 4294967296 = (4294967296 - x) % 4294967296 := by omega
set_option maxHeartbeats 1000000 in
theorem failed_any {w : World} (hL : Codes w) (x : Int) (h0 : 0 ≤ x) (h1 : x ≤ 4294967295) : Calls Tryd.prog 20 #[.int .u32 x] w fun e w' => e = .returned (.int .i64 (failOf x)) ∧ Below w.heap.size w w' := by
  have H := Lib.hid (code_any hL ((4294967296 - x) % 4294967296))
  have HN := Lib.hid (neg_mod h0 h1)
  clear hL
  by_cases h : codeOf ((4294967296 - x) % 4294967296) = ⟨#[]⟩
  · have ha : failOf x = 0 := by unfold failOf; rw [if_pos h]
    rw [ha]
    rw [h, ← HN.out] at H
    clear ha h
    go_enter Tryd.func20, Tryd.ntmps20
    go_wp2_with fail
    refine H.out.mono ?_
    rintro e w1 ⟨rfl, hb⟩
    go_wp2
    go_ret
    exact ⟨rfl, hb⟩
  · have ha : failOf x = -x % 4294967296 := by unfold failOf; rw [if_neg h, HN.out]
    have he := full_test h
    rw [ha]
    rw [← HN.out] at H he
    generalize codeOf (-x % 4294967296) = s at *
    clear ha h
    go_enter Tryd.func20, Tryd.ntmps20
    go_wp2_with fail
    refine H.out.mono ?_
    rintro e w1 ⟨rfl, hb⟩
    go_wp2
    go_ret
    exact ⟨rfl, hb⟩
theorem fail_hit {x : Int} {k : Nat} (h0 : 0 ≤ x) (h1 : x ≤ 4294967295) (hc : codeOf k ≠ ⟨#[]⟩) (ha : ansOf k = x) : failOf x = k := by
  have hk := codeOf_some hc
  unfold ansOf at ha
  rw [if_neg hc] at ha
  have he : (4294967296 - x) % 4294967296 = k := by omega
  unfold failOf
  rw [he, if_neg hc]
theorem fail_none {x : Int} (h0 : 0 ≤ x) (h1 : x ≤ 4294967295) (hn : ∀ k : Nat, 1 ≤ k → k ≤ 60 → codeOf k ≠ ⟨#[]⟩ → ansOf k ≠ x) : failOf x = 0 := by
  unfold failOf
  split
  · rfl
  · rename_i hc
    have hk := codeOf_some hc
    obtain ⟨k, hkk⟩ := Int.eq_ofNat_of_zero_le (show 0 ≤ (4294967296 - x) % 4294967296 by omega)
    rw [hkk] at hc hk
    refine absurd ?_ (hn k (by omega) (by omega) hc)
    unfold ansOf
    rw [if_neg hc]
    omega
set_option maxHeartbeats 1000000 in
theorem refFailed_any {w : World} (x : Int) (h0 : 0 ≤ x) (h1 : x ≤ 4294967295) : Calls Tryd.prog 21 #[.int .u32 x] w fun e w' => e = .returned (.int .i64 (failOf x)) ∧ w = w' := by
  have HC := Lib.hid (fun (k : Nat) => refCode_any (w := w) k)
  have HA := Lib.hid (fun (k : Nat) => refAnswer_any (w := w) k)
  have HH := Lib.hid (fun k => fail_hit (k := k) h0 h1)
  have HN := Lib.hid (fail_none h0 h1)
  obtain ⟨r, hr⟩ : ∃ r, failOf x = r := ⟨_, rfl⟩
  rw [hr]
  rw [hr] at HH HN
  clear hr
  go_enter Tryd.func21, Tryd.ntmps21
  go_wp2
  go_loop [3] (fun i => ∃ k : Nat, i = .int .i64 (k : Int) ∧ 1 ≤ k ∧ k ≤ 61 ∧ (∀ j : Nat, 1 ≤ j → j < k → codeOf j ≠ ⟨#[]⟩ → ansOf j ≠ x)) (fun i => 61 - (intOf i).toNat)
  case atStart => exact ⟨1, rfl, by omega, by omega, fun j h h' => by omega⟩
  case round =>
    obtain ⟨k, rfl, hk1, hk, hpre⟩ := hrel
    by_cases hkl : k ≤ 60
    · have hkb : (k : Int) ≤ 60 := by omega
      have hc := HC.out k
      have ha := HA.out k
      by_cases he : codeOf k = ⟨#[]⟩
      · have HP := Lib.hid (fun (j : Nat) (h1 : 1 ≤ j) (hj : j < k + 1) (hn : codeOf j ≠ ⟨#[]⟩) => show ansOf j ≠ x from by
          rcases Nat.lt_or_ge j k with h | h
          · exact hpre j h1 h hn
          · have : j = k := by omega
            subst this
            exact absurd he hn)
        rw [he] at hc
        have HC1 := Lib.hid hc
        clear hpre hc ha he
        go_wp2_with (go_at_call 17; refine HC1.out.mono ?_; rintro e w1 ⟨rfl, rfl⟩)
        go_round
        case rel => exact ⟨k + 1, by go_num, by omega, by omega, HP.out⟩
        case measure => simp [intOf]; omega
      · have hf := full_test he
        by_cases hx : ansOf k = x
        · have hb : (ansOf (k : Int) == x) = true := by simp [hx]
          have hv := HH.out k he hx
          subst hv
          have HC1 := Lib.hid hc
          have HA1 := Lib.hid ha
          generalize codeOf (k : Int) = s at *
          generalize ansOf (k : Int) = t at *
          clear hpre hc ha he hx
          go_wp2_with (first | (go_at_call 17; refine HC1.out.mono ?_; rintro e w1 ⟨rfl, rfl⟩) | (go_at_call 19; refine HA1.out.mono ?_; rintro e w1 ⟨rfl, rfl⟩))
          go_ret
          exact ⟨rfl, rfl⟩
        · have hb : (ansOf (k : Int) == x) = false := by simp [hx]
          have HP := Lib.hid (fun (j : Nat) (h1 : 1 ≤ j) (hj : j < k + 1) (hn : codeOf j ≠ ⟨#[]⟩) => show ansOf j ≠ x from by
            rcases Nat.lt_or_ge j k with h | h
            · exact hpre j h1 h hn
            · have : j = k := by omega
              subst this
              exact hx)
          have HC1 := Lib.hid hc
          have HA1 := Lib.hid ha
          generalize codeOf (k : Int) = s at *
          generalize ansOf (k : Int) = t at *
          clear hpre hc ha he hx
          go_wp2_with (first | (go_at_call 17; refine HC1.out.mono ?_; rintro e w1 ⟨rfl, rfl⟩) | (go_at_call 19; refine HA1.out.mono ?_; rintro e w1 ⟨rfl, rfl⟩))
          go_round
          case rel => exact ⟨k + 1, by go_num, by omega, by omega, HP.out⟩
          case measure => simp [intOf]; omega
    · have hk61 : k = 61 := by omega
      subst hk61
      have hv := HN.out (fun j a b => hpre j a (by omega))
      subst hv
      clear hpre
      go_wp2
      go_ret
      exact ⟨rfl, rfl⟩
end Go.Proofs.YthmjddnccgiinaaDoor
