/-
  The document's Read of a call's line. Condition: the line takes at most a million bytes.
-/
import Derived.Test.YthmjddnccgiinaaDoorCa8
import Derived.Test.YthmjddnccgiinaaDoorCe2
import Derived.Test.YthmjddnccgiinaaDoorCePl
namespace Go.Proofs.YthmjddnccgiinaaDoor
open Go.RowKit Go.Shelf
set_option linter.unusedVariables false
set_option linter.unusedSimpArgs false
attribute [local go_sem] Oper.semAt_some

theorem word_reach : ∀ (l : List UInt8) (k : Nat) (h : k < l.length), k ≤ (wordOf l).length → l[k] ≠ 32 → k + 1 ≤ (wordOf l).length
  | [], k, h, _, _ => absurd h (Nat.not_lt_zero k)
  | c :: cs, k, h, hk, hc => by
    by_cases h32 : c = 32
    · have e : wordOf (c :: cs) = [] := by unfold wordOf; rw [List.takeWhile_cons_of_neg (by simpa using h32)]
      rw [e] at hk
      obtain rfl : k = 0 := by simpa using hk
      exact absurd h32 hc
    · have e : wordOf (c :: cs) = c :: wordOf cs := by unfold wordOf; rw [List.takeWhile_cons_of_pos (by simpa using h32)]
      rw [e, List.length_cons] at hk ⊢
      cases k with
      | zero => omega
      | succ k =>
        have := word_reach cs k (by simpa using h) (by omega) (by simpa using hc)
        omega
theorem word_stop : ∀ (l : List UInt8) (k : Nat), k ≤ (wordOf l).length → (l.length ≤ k ∨ l[k]? = some 32) → (wordOf l).length = k
  | [], k, hk, _ => by
    have : (wordOf []).length = 0 := rfl
    omega
  | c :: cs, k, hk, hc => by
    by_cases h32 : c = 32
    · have e : wordOf (c :: cs) = [] := by unfold wordOf; rw [List.takeWhile_cons_of_neg (by simpa using h32)]
      rw [e] at hk ⊢
      have : k = 0 := by simpa using hk
      simp [this]
    · have e : wordOf (c :: cs) = c :: wordOf cs := by unfold wordOf; rw [List.takeWhile_cons_of_pos (by simpa using h32)]
      rw [e, List.length_cons] at hk ⊢
      cases k with
      | zero =>
        rcases hc with hc | hc
        · simp at hc
        · simp at hc; exact absurd hc h32
      | succ k =>
        have := word_stop cs k (by omega) (by simpa using hc)
        omega
theorem word_take (l : List UInt8) : l.take (wordOf l).length = wordOf l := by
  induction l with
  | nil => rfl
  | cons c cs ih =>
    by_cases h32 : c = 32
    · have e : wordOf (c :: cs) = [] := by unfold wordOf; rw [List.takeWhile_cons_of_neg (by simpa using h32)]
      rw [e]
      rfl
    · have e : wordOf (c :: cs) = c :: wordOf cs := by unfold wordOf; rw [List.takeWhile_cons_of_pos (by simpa using h32)]
      rw [e, List.length_cons, List.take_succ_cons, ih]
/-- Which of the first kinds a word names; 0: none. -/
def IsK (n : Nat) (u : ByteArray) (r : Nat) : Prop := (1 ≤ r ∧ r < n ∧ kN r = u) ∨ (r = 0 ∧ ∀ j, 1 ≤ j → j < n → kN j ≠ u)
theorem isK_start (u : ByteArray) : IsK 1 u 0 := .inr ⟨rfl, fun j h1 h2 => by omega⟩
theorem isK_hit {n r : Nat} {u : ByteArray} (h : IsK n u r) (h1 : 1 ≤ n) (hn : kN n = u) : IsK (n + 1) u n := .inl ⟨h1, by omega, hn⟩
theorem isK_miss {n r : Nat} {u : ByteArray} (h : IsK n u r) (hn : kN n ≠ u) : IsK (n + 1) u r := by
  rcases h with ⟨h1, h2, h3⟩ | ⟨h1, h2⟩
  · exact .inl ⟨h1, by omega, h3⟩
  · refine .inr ⟨h1, fun j hj hjn => ?_⟩
    rcases Nat.lt_or_ge j n with h | h
    · exact h2 j hj h
    · have : j = n := by omega
      subst this
      exact hn
theorem isK_end {r : Nat} {u : ByteArray} (h : IsK 23 u r) : r = byN u.data.toList := by
  refine byN_of ?_
  rcases h with ⟨h1, h2, h3⟩ | ⟨h1, h2⟩
  · exact .inl ⟨h2, h3⟩
  · by_cases h0 : kN 0 = u
    · exact .inl ⟨by omega, by rw [h1]; exact h0⟩
    · refine .inr ⟨h1, fun j hj => ?_⟩
      cases j with
      | zero => exact h0
      | succ j => exact h2 _ (by omega) hj
/-- The result, the call. -/
structure RX (w : World) (y : Cl) (W : World) : Prop where
  r : Blk W w.heap.size 27 #[.int .i64 0, .int .u32 0, .int .u32 0, .int .u32 0]
  x : Blk W (w.heap.size + 1) 27 y.cells.toArray
  b : Below w.heap.size w W
section
variable {w W W' : World} {y : Cl}
theorem RX.below (h : RX w y W) (hb : Below W.heap.size W W') : RX w y W' := ⟨h.r.below hb h.r.lt, h.x.below hb h.x.lt, bl_step h.b hb⟩
theorem RX.set (h : RX w y W) {i : Nat} {v : Value} {y' : Cl} (hy : y.cells.toArray.setIfInBounds i v = y'.cells.toArray) : RX w y' (W.setCell ⟨w.heap.size + 1, i, none⟩ v) :=
  ⟨h.r.far (by show w.heap.size ≠ w.heap.size + 1; omega) _, by rw [← hy]; exact h.x.set_ i v, h.b.setCell (by show w.heap.size ≤ w.heap.size + 1; omega) _⟩
end
theorem clOf_set (n : Int) (acc : List Nat) (v : Nat) (h : acc.length < 3) : (clOf n acc).cells.toArray.setIfInBounds (1 + acc.length) (.int .u32 (v : Int)) = (clOf n (acc ++ [v])).cells.toArray := by
  match acc, h with
  | [], _ => rfl
  | [a], _ => rfl
  | [a, b], _ => rfl
  | a :: b :: c :: r, h => simp only [List.length_cons] at h; omega
theorem readR_none {l : List UInt8} (h : candR l = none) : readR l = none := by unfold readR; rw [h]
theorem readR_no {l : List UInt8} {c : Cl} (h : candR l = some c) (hn : ¬ (MayC c ∧ lineC c = l)) : readR l = none := by unfold readR; rw [h]; exact if_neg hn
theorem readR_yes {l : List UInt8} {c : Cl} (h : candR l = some c) (hy : MayC c ∧ lineC c = l) : readR l = some c := by unfold readR; rw [h]; exact if_pos hy
theorem candR_range {l : List UInt8} {c : Cl} (h : candR l = some c) : RangeC c := by
  unfold candR at h
  cases he : argA [] 3 (l.drop (wordOf l).length) with
  | none => rw [he] at h; cases h
  | some us =>
    rw [he] at h
    injection h with h
    rw [← h]
    exact clOf_range (argA_range 3 [] us _ (fun u hu => by cases hu) he) _

theorem argA_more (acc : List Nat) {j k : Nat} {L : List UInt8} (hj : j < 3) (hk : k < L.length) : argA acc (3 - j) (L.drop k) = if 4294967295 < (digR 0 (L.drop (k + 1))).1 then none else argA (acc ++ [(digR 0 (L.drop (k + 1))).1]) (3 - (j + 1)) (digR 0 (L.drop (k + 1))).2 := by
  rw [List.drop_eq_getElem_cons hk, show 3 - j = (3 - (j + 1)) + 1 by omega, argA]
theorem argA_end (acc : List Nat) {j k : Nat} {L : List UInt8} (h : j = 3 ∨ L.length ≤ k) (hj : j ≤ 3) : argA acc (3 - j) (L.drop k) = some acc := by
  rcases h with rfl | h
  · rfl
  · rw [List.drop_eq_nil_of_le h]
    cases 3 - j <;> rfl
theorem digR_more {v k : Nat} {L : List UInt8} (hk : k < L.length) (h : 48 ≤ L[k].toNat ∧ L[k].toNat ≤ 57 ∧ v < 5000000000) : digR v (L.drop k) = digR (10 * v + (L[k].toNat - 48)) (L.drop (k + 1)) := by
  rw [List.drop_eq_getElem_cons hk, digR, if_pos h]
theorem digR_end {v k : Nat} {L : List UInt8} (h : ∀ hk : k < L.length, ¬ (48 ≤ L[k].toNat ∧ L[k].toNat ≤ 57 ∧ v < 5000000000)) : digR v (L.drop k) = (v, L.drop k) := by
  by_cases hk : k < L.length
  · rw [List.drop_eq_getElem_cons hk, digR, if_neg (h hk)]
  · rw [List.drop_eq_nil_of_le (by omega)]
    rfl

set_option maxRecDepth 100000 in
set_option maxHeartbeats 8000000 in
theorem refRead_any {w : World} (s : ByteArray) (hs : s.size ≤ 1000000) :
    Calls Tryd.prog 29 #[.string s] w fun e w' => e = .returned (.tuple #[.agg (clA (readC s.data.toList)), .int .i64 (errC (readC s.data.toList))]) ∧ Below w.heap.size w w' := by
  rw [← readR_eq]
  obtain ⟨post, hpost⟩ : ∃ post : Ending → World → Prop, post = fun e w' => e = .returned (.tuple #[.agg (clA (readR s.data.toList)), .int .i64 (errC (readR s.data.toList))]) ∧ Below w.heap.size w w' := ⟨_, rfl⟩
  rw [← hpost]
  have HPOST := Lib.hid hpost
  obtain ⟨L, hL⟩ : ∃ L, s.data.toList = L := ⟨_, rfl⟩
  have hLn : L.length = s.size := by rw [← hL, Array.length_toList]; rfl
  have HL := Lib.hid hL
  have HLN := Lib.hid hLn
  have HGET := Lib.hid (fun (k : Nat) (hk : k < s.size) => show ∃ h : k < L.length, L[k] = s[k] from ⟨by omega, by simp only [← hL, Array.getElem_toList]; rfl⟩)
  rw [hL] at HPOST
  have hX1 : RX w ⟨0, 0, 0, 0⟩ ((w.alloc (.cells #[.int .i64 0, .int .u32 0, .int .u32 0, .int .u32 0] 27)).alloc (.cells #[.int .i64 0, .int .u32 0, .int .u32 0, .int .u32 0] 27)) :=
    ⟨(Blk.new w _ _).alloc _, by have h := Blk.new (w.alloc (.cells #[.int .i64 0, .int .u32 0, .int .u32 0, .int .u32 0] 27)) 27 #[.int .i64 0, .int .u32 0, .int .u32 0, .int .u32 0]; rw [World.size_alloc] at h; exact h, bl_new (bl_new (Below.refl _ _) _) _⟩
  have HX1 := Lib.hid hX1
  have HERR := Lib.hid (fun W y (hW : RX w y W) => show RX w y W from hW)
  clear hpost hL hLn hX1
  go_enter Tryd.func29, Tryd.ntmps29
  go_wp2
  generalize (w.alloc (.cells #[.int .i64 0, .int .u32 0, .int .u32 0, .int .u32 0] 27)).alloc (.cells #[.int .i64 0, .int .u32 0, .int .u32 0, .int .u32 0] 27) = W1 at *
  -- the word
  go_loopw [5] (fun x wr => wr = W1 ∧ ∃ k : Nat, x = .int .i64 (k : Int) ∧ k ≤ s.size ∧ Hid (k ≤ (wordOf L).length)) (fun x _ => s.size - (intOf x).toNat)
  case atStart => exact ⟨rfl, 0, rfl, Nat.zero_le _, Lib.hid (Nat.zero_le _)⟩
  case round =>
    obtain ⟨rfl, k, rfl, hk, hW⟩ := hrel
    by_cases hkc : ∃ h : k < s.size, s[k] ≠ 32
    · obtain ⟨hks, hc⟩ := hkc
      have hka : (k : Int) < (s.size : Int) := by omega
      have hb : ((s[k].toNat : Int) != 32) = true := by
        rw [bne_iff_ne]
        intro h
        exact hc (UInt8.toNat_inj.1 (by show s[k].toNat = 32; omega))
      have HW2 := Lib.hid (show k + 1 ≤ (wordOf L).length from by
        obtain ⟨h1, h2⟩ := HGET.out k hks
        exact word_reach L k h1 hW.out (by rw [h2]; exact hc))
      clear hc
      go_wp2
      go_roundw
      case rel => exact ⟨trivial, k + 1, by go_num, by omega, HW2⟩
      case measure => simp [intOf]; omega
    · have hWE : (wordOf L).length = k := by
        refine word_stop L k hW.out ?_
        by_cases hks : k < s.size
        · right
          obtain ⟨h1, h2⟩ := HGET.out k hks
          rw [List.getElem?_eq_getElem h1, h2]
          congr 1
          exact Classical.byContradiction fun h => hkc ⟨hks, h⟩
        · left
          have := HLN.out
          omega
      have HWE := Lib.hid hWE
      have hu : (s.extract 0 k).data.toList = wordOf L := by
        have h := word_take L
        rw [hWE] at h
        rw [← h, ← HL.out, ByteArray.data_extract]
        simp
      have HU := Lib.hid hu
      obtain ⟨u, hu2⟩ : ∃ u, s.extract 0 k = u := ⟨_, rfl⟩
      have HU2 := Lib.hid hu2
      rw [hu2] at HU
      have HNM := Lib.hid (fun (n : Nat) (h1 : 1 ≤ n) (h2 : n < 23) (W : World) => show Calls Tryd.prog 9 #[.int .i64 (n : Int)] W fun e w' => e = .returned (.string (kN n)) ∧ Below W.heap.size W w' from by
        have h := refName_any (w := W) (n : Int) (by omega)
        rw [kR_in h1 h2] at h
        exact h)
      have HRES : Hid (argA [] 3 (L.drop k) = argA [] 3 (L.drop (wordOf L).length)) := Lib.hid (by rw [hWE])
      clear hWE hu hu2 hW
      have hend : (¬ (k : Int) < (s.size : Int)) ∨ ((k : Int) < (s.size : Int) ∧ ∃ h : k < s.size, ((s[k].toNat : Int) != 32) = false) := by
        by_cases hks : k < s.size
        · right
          refine ⟨by omega, hks, ?_⟩
          have : s[k] = 32 := Classical.byContradiction fun h => hkc ⟨hks, h⟩
          rw [this]
          rfl
        · left
          omega
      clear hkc
      rcases hend with hka | ⟨hka, hks, hb⟩
      all_goals
        go_wp2
        -- the number
        go_loopw [6] (fun x wr => ∃ n r : Nat, x = .int .i64 (n : Int) ∧ 1 ≤ n ∧ n ≤ 23 ∧ Hid (IsK n u r) ∧ Hid (RX w ⟨(r : Int), 0, 0, 0⟩ wr)) (fun x _ => 23 - (intOf x).toNat)
        case atStart => exact ⟨1, 0, rfl, Nat.le_refl _, by omega, Lib.hid (isK_start u), HX1⟩
        case round =>
          obtain ⟨n, r, rfl, h1, h2, HK, HX⟩ := hrel
          by_cases hn : n < 23
          · have hnb : (n : Int) ≤ 22 := by omega
            have HNk := Lib.hid (HNM.out n h1 hn)
            have HXD := Lib.hid (HX.out.below ((Below.refl wr.heap.size wr).drew))
            by_cases he : kN n = u
            · have hq := seq_true he
              rw [← HU2.out] at hq
              have HK2 := Lib.hid (isK_hit HK.out h1 he)
              generalize kN n = t at *
              clear he
              go_wp2_with fail
              go_region_with (go_at_call 9; refine (HNk.out _).mono ?_; rintro e V ⟨rfl, hbV⟩)
              all_goals
                have HXV := Lib.hid (HXD.out.below hbV)
                obtain ⟨c0, c1, c2, c3, clt⟩ := ccells (show Blk V (w.heap.size + 1) 27 #[.int .i64 (r : Int), .int .u32 0, .int .u32 0, .int .u32 0] from HXV.out.x)
                have cf := HXV.out.x.frozen 0
                clear hbV
                go_wp2
                go_roundw
                case rel => exact ⟨n + 1, n, by go_num, by omega, by omega, HK2, Lib.hid (HXV.out.set rfl)⟩
                case measure => simp [intOf]; omega
            · have hq := seq_false he
              rw [← HU2.out] at hq
              have HK2 := Lib.hid (isK_miss HK.out he)
              generalize kN n = t at *
              clear he
              go_wp2_with fail
              go_region_with (go_at_call 9; refine (HNk.out _).mono ?_; rintro e V ⟨rfl, hbV⟩)
              all_goals
                have HXV := Lib.hid (HXD.out.below hbV)
                obtain ⟨c0, c1, c2, c3, clt⟩ := ccells (show Blk V (w.heap.size + 1) 27 #[.int .i64 (r : Int), .int .u32 0, .int .u32 0, .int .u32 0] from HXV.out.x)
                have cf := HXV.out.x.frozen 0
                clear hbV
                go_wp2
                go_roundw
                case rel => exact ⟨n + 1, r, by go_num, by omega, by omega, HK2, HXV⟩
                case measure => simp [intOf]; omega
          · have hn23 : n = 23 := by omega
            subst hn23
            have hrb := isK_end HK.out
            rw [HU.out] at hrb
            have HRB := Lib.hid hrb
            have HST : Hid (RX w (clOf (r : Int) []) wr) := HX
            clear hrb h1 h2 HK HX hn
            go_wp2
            -- the arguments
            go_loopw [7, 5] (fun i x wr => ∃ (j k2 : Nat) (acc : List Nat), i = .int .i64 (j : Int) ∧ x = .int .i64 (k2 : Int) ∧ j ≤ 3 ∧ k2 ≤ s.size ∧ Hid (acc.length = j) ∧ Hid (argA acc (3 - j) (L.drop k2) = argA [] 3 (L.drop (wordOf L).length)) ∧ Hid (RX w (clOf (r : Int) acc) wr)) (fun i _ _ => 3 - (intOf i).toNat)
            case atStart => exact ⟨0, k, [], rfl, rfl, by omega, by omega, rfl, HRES, HST⟩
            case round =>
              rename World => wo
              obtain ⟨j, k2, acc, rfl, rfl, hj, hk2, HAC, HAR, HXo⟩ := hrel
              by_cases hgo : j < 3 ∧ k2 < s.size
              · obtain ⟨hj3, hks2⟩ := hgo
                have hjb : (j : Int) < 3 := by omega
                have hkb : (k2 : Int) < (s.size : Int) := by omega
                have HMO := Lib.hid (argA_more acc hj3 (show k2 < L.length by have := HLN.out; omega))
                go_wp2
                go_loopw [5, 8] (fun x v wr => wr = wo ∧ ∃ (k3 v0 : Nat), x = .int .i64 (k3 : Int) ∧ v = .int .u64 (v0 : Int) ∧ k3 ≤ s.size ∧ v0 < 50000000000 ∧ Hid (digR v0 (L.drop k3) = digR 0 (L.drop (k2 + 1)))) (fun x _ _ => s.size - (intOf x).toNat)
                case atStart => exact ⟨rfl, k2 + 1, 0, by go_num, rfl, by omega, by omega, rfl⟩
                case round =>
                  obtain ⟨rfl, k3, v0, rfl, rfl, hk3, hv0, HDG⟩ := hrel
                  rename World => wo
                  have hv00 : (0 : Int) ≤ (v0 : Int) := by omega
                  have hv01 : (v0 : Int) < 50000000000 := by omega
                  by_cases hg : ∃ h : k3 < s.size, 48 ≤ s[k3].toNat ∧ s[k3].toNat ≤ 57 ∧ v0 < 5000000000
                  · obtain ⟨hks3, g1, g2, g3⟩ := hg
                    have hk3b : (k3 : Int) < (s.size : Int) := by omega
                    have g1b : (48 : Int) ≤ (s[k3].toNat : Int) := by omega
                    have g2b : (s[k3].toNat : Int) ≤ 57 := by omega
                    have g3b : (v0 : Int) < 5000000000 := by omega
                    have HDG2 := Lib.hid (show digR (10 * v0 + (s[k3].toNat - 48)) (L.drop (k3 + 1)) = digR 0 (L.drop (k2 + 1)) from by
                      obtain ⟨e1, e2⟩ := HGET.out k3 hks3
                      rw [← HDG.out, digR_more e1 (by rw [e2]; exact ⟨g1, g2, g3⟩), e2])
                    have HN : Hid ((v0 : Int) * 10 + (s[k3].toNat : Int) - 48 = ((10 * v0 + (s[k3].toNat - 48) : Nat) : Int)) := Lib.hid (by omega)
                    have HN2 := Lib.hid (show 10 * v0 + (s[k3].toNat - 48) < 50000000000 from by omega)
                    clear g1 g2 g3 hv0
                    go_wp2
                    go_roundw
                    case rel => exact ⟨trivial, k3 + 1, 10 * v0 + (s[k3].toNat - 48), by go_num, by rw [HN.out], by omega, HN2.out, HDG2⟩
                    case measure => simp [intOf]; omega
                  · have hde := digR_end (v := v0) (k := k3) (L := L) (fun hk h => hg (by
                      have h3 : k3 < s.size := by have := HLN.out; omega
                      obtain ⟨e1, e2⟩ := HGET.out k3 h3
                      exact ⟨h3, by rw [← e2]; exact h⟩))
                    have hD := HDG.out
                    rw [hde] at hD
                    have hM := HMO.out
                    rw [← hD] at hM
                    dsimp only at hM
                    have hcs : (¬ (k3 : Int) < (s.size : Int)) ∨ ((k3 : Int) < (s.size : Int) ∧ ∃ h : k3 < s.size, ¬ (48 : Int) ≤ (s[k3].toNat : Int)) ∨ ((k3 : Int) < (s.size : Int) ∧ ∃ h : k3 < s.size, (48 : Int) ≤ (s[k3].toNat : Int) ∧ ¬ (s[k3].toNat : Int) ≤ 57) ∨ ((k3 : Int) < (s.size : Int) ∧ ∃ h : k3 < s.size, (48 : Int) ≤ (s[k3].toNat : Int) ∧ (s[k3].toNat : Int) ≤ 57 ∧ ¬ (v0 : Int) < 5000000000) := by
                      by_cases h1 : k3 < s.size
                      · right
                        by_cases h2 : 48 ≤ s[k3].toNat
                        · right
                          by_cases h3 : s[k3].toNat ≤ 57
                          · right
                            refine ⟨by omega, h1, by omega, by omega, ?_⟩
                            intro h4
                            exact hg ⟨h1, h2, h3, by omega⟩
                          · left
                            exact ⟨by omega, h1, by omega, by omega⟩
                        · left
                          exact ⟨by omega, h1, by omega⟩
                      · left
                        omega
                    clear hde hD hg
                    by_cases hbig : 4294967295 < v0
                    · rw [if_pos hbig] at hM
                      have hcn : candR L = none := by unfold candR; rw [← HAR.out, hM]; rfl
                      have hbb : (4294967295 : Int) < (v0 : Int) := by omega
                      have HP2 := Lib.hid (show post = fun e w' => e = .returned (.tuple #[.agg #[.int .i64 0, .int .u32 0, .int .u32 0, .int .u32 0], .int .i64 160]) ∧ Below w.heap.size w w' from by rw [HPOST.out, readR_none hcn]; rfl)
                      have HXE := HXo
                      clear hM hcn hbig
                      rcases hcs with q1 | ⟨q1, q0, q2⟩ | ⟨q1, q0, q2, q3⟩ | ⟨q1, q0, q2, q3, q4⟩
                      all_goals
                        obtain ⟨r0, r1, r2, r3, rlt⟩ := ccells HXE.out.r
                        have g0 := HXE.out.r.frozen 0
                        have g1 := HXE.out.r.frozen 1
                        have g2 := HXE.out.r.frozen 2
                        have g3 := HXE.out.r.frozen 3
                        go_wp2
                        rw [HP2.out]
                        exact bodyPost_ret (results_row_tmp Tryd.results29 _ rfl (set4_blk HXE.out.r (.int .i64 0) (.int .u32 0) (.int .u32 0) (.int .u32 0)) Tryd.underlying27 rfl (by kernel_rfl)) rfl ⟨rfl, set4_below HXE.out.b (by omega) _ _ _ _⟩
                    · rw [if_neg hbig] at hM
                      have hbb : ¬ (4294967295 : Int) < (v0 : Int) := by omega
                      have hcv : IntKind.u32.wrap (v0 : Int) = (v0 : Int) := Int.emod_eq_of_lt (by omega) (by show (v0 : Int) < 4294967296; omega)
                      have hcv2 : (v0 : Int) % 4294967296 = (v0 : Int) := Int.emod_eq_of_lt (by omega) (by omega)
                      have HA2 := Lib.hid (show argA (acc ++ [v0]) (3 - (j + 1)) (L.drop k3) = argA [] 3 (L.drop (wordOf L).length) from by rw [← HAR.out, hM])
                      have hacl := HAC.out
                      have HSET := Lib.hid (show (clOf (r : Int) acc).cells.toArray.setIfInBounds (1 + j) (.int .u32 (v0 : Int)) = (clOf (r : Int) (acc ++ [v0])).cells.toArray from by rw [← hacl]; exact clOf_set _ acc v0 (by omega))
                      have HAC2 := Lib.hid (show (acc ++ [v0]).length = j + 1 from by rw [List.length_append, hacl]; rfl)
                      obtain ⟨uu, hu9⟩ : ∃ uu, wo.cell? ⟨w.heap.size + 1, 1 + j, none⟩ = some uu := by rw [HXo.out.x.cell]; exact ⟨_, Array.getElem?_eq_getElem (by show 1 + j < 4; omega)⟩
                      have hf := HXo.out.x.frozen (1 + j)
                      have hlt := HXo.out.x.lt
                      clear hM hbig hacl
                      rcases hcs with q1 | ⟨q1, q0, q2⟩ | ⟨q1, q0, q2, q3⟩ | ⟨q1, q0, q2, q3, q4⟩
                      all_goals try (exfalso; omega)
                      all_goals
                        go_wp2
                        go_roundw
                        case rel => exact ⟨j + 1, k3, acc ++ [v0], by go_num, rfl, by omega, hk3, HAC2, HA2, Lib.hid (HXo.out.set HSET.out)⟩
                        case measure => simp [intOf]; omega
              · have hAE := argA_end acc (L := L) (j := j) (k := k2) (by have := HLN.out; omega) hj
                have hcand : candR L = some (clOf (r : Int) acc) := by unfold candR; rw [← HAR.out, hAE, ← HRB.out]; rfl
                obtain ⟨p0, p1, p2, hpc⟩ : ∃ p0 p1 p2 : Int, clOf (r : Int) acc = ⟨(r : Int), p0, p1, p2⟩ := ⟨_, _, _, rfl⟩
                have hrg := candR_range hcand
                have hXp := HXo.out
                rw [hpc] at hrg hcand hXp
                have HXp := Lib.hid hXp
                have HCA := Lib.hid hcand
                obtain ⟨x0, x1, x2, x3, xlt⟩ := ccells (show Blk wo (w.heap.size + 1) 27 #[.int .i64 (r : Int), .int .u32 p0, .int .u32 p1, .int .u32 p2] from hXp.x)
                have hcs : (¬ (j : Int) < 3) ∨ ((j : Int) < 3 ∧ ¬ (k2 : Int) < (s.size : Int)) := by omega
                clear hpc hcand hXp hAE hgo
                by_cases hm : MayC ⟨(r : Int), p0, p1, p2⟩
                · have HLY := Lib.hid (fun W => refLine_yes (w := W) (r : Int) p0 p1 p2 hrg hm)
                  have hlc : (sOf (r : Int) (agL (r : Int) p0 p1 p2)).data.toList = lineC ⟨(r : Int), p0, p1, p2⟩ := rfl
                  obtain ⟨sl, hsl⟩ : ∃ sl : ByteArray, sl = sOf (r : Int) (agL (r : Int) p0 p1 p2) := ⟨_, rfl⟩
                  rw [← hsl] at HLY hlc
                  by_cases he : sl = s
                  · have hb := seq_true he
                    have HP2 := Lib.hid (show post = fun e w' => e = .returned (.tuple #[.agg #[.int .i64 (r : Int), .int .u32 p0, .int .u32 p1, .int .u32 p2], .int .i64 0]) ∧ Below w.heap.size w w' from by rw [HPOST.out, readR_yes HCA.out ⟨hm, by rw [← hlc, he, HL.out]⟩]; rfl)
                    clear hsl hlc he hm hrg
                    rcases hcs with q1 | ⟨q1, q2⟩
                    all_goals
                      go_wp2_with fail
                      refine (HLY.out _).mono ?_
                      rintro e W5 ⟨rfl, hb5⟩
                      have HXE := Lib.hid (HXp.out.below hb5)
                      clear x0 x1 x2 x3 xlt hb5
                      obtain ⟨r0, r1, r2, r3, rlt⟩ := ccells HXE.out.r
                      obtain ⟨x0, x1, x2, x3, xlt⟩ := ccells (show Blk W5 (w.heap.size + 1) 27 #[.int .i64 (r : Int), .int .u32 p0, .int .u32 p1, .int .u32 p2] from HXE.out.x)
                      have g0 := HXE.out.r.frozen 0
                      have g1 := HXE.out.r.frozen 1
                      have g2 := HXE.out.r.frozen 2
                      have g3 := HXE.out.r.frozen 3
                      go_wp2
                      rw [HP2.out]
                      exact bodyPost_ret (results_row_tmp Tryd.results29 _ rfl (set4_blk HXE.out.r (.int .i64 (r : Int)) (.int .u32 p0) (.int .u32 p1) (.int .u32 p2)) Tryd.underlying27 rfl (by kernel_rfl)) rfl ⟨rfl, set4_below HXE.out.b (by omega) _ _ _ _⟩
                  · have hb := seq_false he
                    have HP2 := Lib.hid (show post = fun e w' => e = .returned (.tuple #[.agg #[.int .i64 0, .int .u32 0, .int .u32 0, .int .u32 0], .int .i64 160]) ∧ Below w.heap.size w w' from by rw [HPOST.out, readR_no HCA.out (fun h => he (bytes_eq (by rw [hlc, h.2, HL.out])))]; rfl)
                    clear hsl hlc he hm hrg
                    rcases hcs with q1 | ⟨q1, q2⟩
                    all_goals
                      go_wp2_with fail
                      refine (HLY.out _).mono ?_
                      rintro e W5 ⟨rfl, hb5⟩
                      have HXE := Lib.hid (HXp.out.below hb5)
                      clear x0 x1 x2 x3 xlt hb5
                      obtain ⟨r0, r1, r2, r3, rlt⟩ := ccells HXE.out.r
                      have g0 := HXE.out.r.frozen 0
                      have g1 := HXE.out.r.frozen 1
                      have g2 := HXE.out.r.frozen 2
                      have g3 := HXE.out.r.frozen 3
                      go_wp2
                      rw [HP2.out]
                      exact bodyPost_ret (results_row_tmp Tryd.results29 _ rfl (set4_blk HXE.out.r (.int .i64 0) (.int .u32 0) (.int .u32 0) (.int .u32 0)) Tryd.underlying27 rfl (by kernel_rfl)) rfl ⟨rfl, set4_below HXE.out.b (by omega) _ _ _ _⟩
                · have HLN2 := Lib.hid (fun W => refLine_no (w := W) (r : Int) p0 p1 p2 hm)
                  have HP2 := Lib.hid (show post = fun e w' => e = .returned (.tuple #[.agg #[.int .i64 0, .int .u32 0, .int .u32 0, .int .u32 0], .int .i64 160]) ∧ Below w.heap.size w w' from by rw [HPOST.out, readR_no HCA.out (fun h => hm h.1)]; rfl)
                  clear hm hrg
                  rcases hcs with q1 | ⟨q1, q2⟩
                  all_goals
                    go_wp2_with fail
                    refine (HLN2.out _).mono ?_
                    rintro e W5 ⟨rfl, hb5⟩
                    have HXE := Lib.hid (HXp.out.below hb5)
                    clear x0 x1 x2 x3 xlt hb5
                    obtain ⟨r0, r1, r2, r3, rlt⟩ := ccells HXE.out.r
                    have g0 := HXE.out.r.frozen 0
                    have g1 := HXE.out.r.frozen 1
                    have g2 := HXE.out.r.frozen 2
                    have g3 := HXE.out.r.frozen 3
                    go_wp2
                    rw [HP2.out]
                    exact bodyPost_ret (results_row_tmp Tryd.results29 _ rfl (set4_blk HXE.out.r (.int .i64 0) (.int .u32 0) (.int .u32 0) (.int .u32 0)) Tryd.underlying27 rfl (by kernel_rfl)) rfl ⟨rfl, set4_below HXE.out.b (by omega) _ _ _ _⟩
end Go.Proofs.YthmjddnccgiinaaDoor
