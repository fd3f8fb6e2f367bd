/-
  The document's number of a number's text, walked. No condition.
-/
import Derived.Test.YtodphfgopngpeaaDoorGp8
namespace Go.Proofs.YtodphfgopngpeaaDoor
open Go.RowKit
set_option linter.unusedVariables false
set_option linter.unusedSimpArgs false
attribute [local irreducible] floatOfInt wz

def valD (acc : Nat) : List UInt8 → Nat
  | [] => acc
  | c :: r => valD (acc * 10 + (c.toNat - 48)) r
theorem valD_app : ∀ (l r : List UInt8) (acc : Nat), valD acc (l ++ r) = valD (valD acc l) r
  | [], _, _ => rfl
  | c :: l, r, acc => valD_app l r _
theorem valD_dec (u : Nat) : valD 0 (Lib.decDigits u) = u := by
  induction u using Nat.strongRecOn with
  | ind u ih =>
    by_cases h : u < 10
    · rw [Lib.decDigits_one h]
      show 0 * 10 + ((UInt8.ofNat (48 + u)).toNat - 48) = u
      rw [nat_digit h]; omega
    · rw [Lib.decDigits, dif_neg h, valD_app, ih _ (by omega)]
      show u / 10 * 10 + ((UInt8.ofNat (48 + u % 10)).toNat - 48) = u
      rw [nat_digit (by omega)]; omega
theorem numA_digits : ∀ (ds r : List UInt8) (acc f : Nat), (∀ c ∈ ds, isD c = true) → ds.length ≤ f → (∃ c t, r = c :: t ∧ isD c = false) → numA acc f (ds ++ r) = (valD acc ds, ds.length)
  | [], r, acc, f, _, _, hr => by
    obtain ⟨c, t, rfl, hc⟩ := hr
    exact numA_stop (.inr (.inr ⟨c, t, rfl, hc⟩))
  | d :: ds, r, acc, f, hd, hf, hr => by
    obtain ⟨g, rfl⟩ : ∃ g, f = g + 1 := ⟨f - 1, by simp only [List.length_cons] at hf; omega⟩
    rw [List.cons_append, numA_go (hd d (List.mem_cons.2 (.inl rfl))), numA_digits ds r _ g (fun c hc => hd c (List.mem_cons.2 (.inr hc))) (by simp only [List.length_cons] at hf; omega) hr]
    rfl
theorem dec_isD {u : Nat} {c : UInt8} (h : c ∈ Lib.decDigits u) : isD c = true := by
  have := dec_digit h
  unfold isD
  exact decide_eq_true this
theorem dec_len7 {u : Nat} (h : u ≤ 524288) : (Lib.decDigits u).length ≤ 7 := by
  rw [Lib.decDigits_length]
  have h1 : ∀ (k u : Nat), u < 10 ^ (k + 1) → Lib.nDigits u ≤ k + 1 := by
    intro k
    induction k with
    | zero => intro u hu; rw [Lib.nDigits_small (by simpa using hu)]; omega
    | succ k ih =>
      intro u hu
      by_cases hs : u < 10
      · rw [Lib.nDigits_small hs]; omega
      · rw [Lib.nDigits_big hs]
        have := ih (u / 10) (by rw [Nat.pow_succ] at hu; omega)
        omega
  exact h1 6 u (by omega)
theorem dec_head (u : Nat) : 1 ≤ u → ∃ c r, Lib.decDigits u = c :: r ∧ c ≠ 48 := by
  induction u using Nat.strongRecOn with
  | ind u ih =>
    intro h1
    by_cases h : u < 10
    · rw [Lib.decDigits_one h]
      refine ⟨_, _, rfl, fun e => ?_⟩
      have := congrArg UInt8.toNat e
      rw [nat_digit h] at this
      have h48 : (48 : UInt8).toNat = 48 := rfl
      omega
    · obtain ⟨c, r, hc, hn⟩ := ih (u / 10) (by omega) (by omega)
      rw [Lib.decDigits, dif_neg h, hc]
      exact ⟨c, _, rfl, hn⟩
/-- The document's reading at a numeral. -/
theorem numR_dec {a r : List UInt8} {u : Nat} (hu : u ≤ 524288) (hr : ∃ c t, r = c :: t ∧ isD c = false) : numR (a ++ (Lib.decDigits u ++ r)) a.length = ((u : Int), (a.length : Int) + ((Lib.decDigits u).length : Int)) := by
  have h1 : numA 0 7 ((a ++ (Lib.decDigits u ++ r)).drop a.length) = (u, (Lib.decDigits u).length) := by
    rw [List.drop_left, numA_digits _ _ 0 7 (fun c hc => dec_isD hc) (dec_len7 hu) hr, valD_dec]
  have hp : 1 ≤ (Lib.decDigits u).length := by rw [Lib.decDigits_length]; exact Lib.nDigits_pos _
  unfold numR
  rw [h1, if_neg]
  rintro (h | ⟨h2, h3⟩)
  · simp only at h; omega
  · simp only at h2
    rw [List.getElem?_append_right (Nat.le_refl _), Nat.sub_self] at h3
    by_cases hz : u = 0
    · rw [hz, Lib.decDigits_one (by decide)] at h2
      simp at h2
    · obtain ⟨c, t, hc, hn⟩ := dec_head u (by omega)
      rw [hc] at h3
      exact hn (Option.some.inj h3)
theorem get_at (s : ByteArray) {l : List UInt8} (h : s.data.toList = l) {n : Nat} {d : UInt8} (hd : l[n]? = some d) : ∃ hn : n < s.size, s[n]'hn = d := by
  have hL : s.data.toList.length = s.size := by rw [Array.length_toList]; rfl
  have hn : n < s.size := by rw [← hL, h]; exact (List.getElem?_eq_some_iff.1 hd).1
  refine ⟨hn, ?_⟩
  have := Lib.data_getElem? s n hn
  rw [h, hd] at this
  exact (Option.some.inj this).symm
theorem mid_get (a r : List UInt8) (d : UInt8) : (a ++ d :: r)[a.length]? = some d := by rw [List.getElem?_append_right (Nat.le_refl _), Nat.sub_self]; rfl
theorem isD43 : isD 43 = false := by decide
theorem isD45 : isD 45 = false := by decide
theorem isD105 : isD 105 = false := by decide
theorem seq_lit {a : ByteArray} (h : a.data.toList = [105]) : (a.toList == [105]) = true := by rw [Lib.toList_data, h]; rfl

set_option maxRecDepth 100000 in
set_option maxHeartbeats 8000000 in
theorem rparse_nn {w : World} (P Q : Nat) (hP : P ≤ 524288) (hQ : Q ≤ 524288) (hP1 : 1 ≤ P) (hQ1 : 1 ≤ Q) (s : ByteArray) (hs : s.data.toList = ([45] : List UInt8) ++ (Lib.decDigits P ++ 45 :: (Lib.decDigits Q ++ [105]))) (ht : ∀ W, Calls Tryd.prog 22 #[mk (-(P : Int)) (-(Q : Int))] W fun e w' => e = .returned (.string s) ∧ Below W.heap.size W w') :
    Calls Tryd.prog 18 #[.string s] w fun e w' => e = .returned (.tuple #[mk (-(P : Int)) (-(Q : Int)), .int .i64 0]) ∧ Below w.heap.size w w' := by
  have hL : s.data.toList.length = s.size := by rw [Array.length_toList]; rfl
  have hp1 : 1 ≤ (Lib.decDigits P).length := by rw [Lib.decDigits_length]; exact Lib.nDigits_pos _
  have hq1 : 1 ≤ (Lib.decDigits Q).length := by rw [Lib.decDigits_length]; exact Lib.nDigits_pos _
  have hp7 := dec_len7 hP
  have hq7 := dec_len7 hQ
  obtain ⟨n, hn⟩ : ∃ n, 1 + (Lib.decDigits P).length = n := ⟨_, rfl⟩
  obtain ⟨m, hm⟩ : ∃ m, n + 1 + (Lib.decDigits Q).length = m := ⟨_, rfl⟩
  have hsz : s.size = m + 1 := by
    rw [← hL, hs]
    simp only [List.length_append, List.length_cons, List.length_nil]
    omega
  have HN1 := Lib.hid (fun W => show Calls Tryd.prog 31 #[.string s, .int .i64 1] W fun e w' => e = .returned (.tuple #[.int .i64 (P : Int), .int .i64 (n : Int)]) ∧ w' = W from by
    have h := num_any (w := W) s (by omega) 1 (by omega)
    have h2 := numR_dec (a := ([45] : List UInt8)) (r := 45 :: (Lib.decDigits Q ++ [105])) hP ⟨45, _, rfl, isD45⟩
    rw [← hs] at h2
    rw [show ((([45] : List UInt8) : List UInt8).length) = 1 from rfl] at h2
    rw [h2, show (((1 : Nat) : Int) + ((Lib.decDigits P).length : Int)) = (n : Int) by omega] at h
    exact h)
  have HN2 := Lib.hid (fun W => show Calls Tryd.prog 31 #[.string s, .int .i64 ((n : Int) + 1)] W fun e w' => e = .returned (.tuple #[.int .i64 (Q : Int), .int .i64 (m : Int)]) ∧ w' = W from by
    have h := num_any (w := W) s (by omega) (n + 1) (by omega)
    have h2 := numR_dec (a := ([45] : List UInt8) ++ Lib.decDigits P ++ [45]) (r := [105]) hQ ⟨105, _, rfl, isD105⟩
    rw [show ([45] : List UInt8) ++ Lib.decDigits P ++ [45] ++ (Lib.decDigits Q ++ [105]) = s.data.toList from by rw [hs]; simp] at h2
    rw [show (([45] : List UInt8) ++ Lib.decDigits P ++ [45] : List UInt8).length = n + 1 from by simp only [List.length_append, List.length_cons, List.length_nil]; omega] at h2
    rw [h2, show (((n + 1 : Nat) : Int) + ((Lib.decDigits Q).length : Int)) = (m : Int) by omega, show ((n + 1 : Nat) : Int) = (n : Int) + 1 by omega] at h
    exact h)
  obtain ⟨hn0, hd⟩ := get_at s (l := (([45] : List UInt8) ++ Lib.decDigits P) ++ 45 :: (Lib.decDigits Q ++ [105])) (by rw [hs]; simp) (n := n) (d := 45) (by
    have := mid_get (([45] : List UInt8) ++ Lib.decDigits P) (Lib.decDigits Q ++ [105]) 45
    rw [show (([45] : List UInt8) ++ Lib.decDigits P).length = n from by simp only [List.length_append, List.length_cons, List.length_nil]; omega] at this
    exact this)
  have hlast : (s.extract m s.size).data.toList = [105] := by
    rw [ByteArray.data_extract, Array.toList_extract, hs]
    have e : ([45] : List UInt8) ++ (Lib.decDigits P ++ 45 :: (Lib.decDigits Q ++ [105])) = (([45] : List UInt8) ++ Lib.decDigits P ++ [45] ++ Lib.decDigits Q) ++ [105] := by simp
    have e2 : (([45] : List UInt8) ++ Lib.decDigits P ++ [45] ++ Lib.decDigits Q).length = m := by simp only [List.length_append, List.length_cons, List.length_nil]; omega
    rw [e, ← e2, List.extract_eq_take_drop, List.drop_left]
    apply List.take_of_length_le
    rw [hsz, ← e2]
    simp
  obtain ⟨c, hc0, hc, hcb⟩ : ∃ (c : UInt8) (h : 0 < s.size), s[0]'h = c ∧ ((c.toNat : Int) == 45) = true := by
    obtain ⟨h0, hh⟩ := get_at s hs (n := 0) (d := 45) rfl
    exact ⟨45, h0, hh, rfl⟩
  have hsl := seq_lit hlast
  have hst := seq_true (rfl : s = s)
  have HT := Lib.hid ht
  have HM := Lib.hid (fun W => rMake_any (w := W) (-(P : Int)) (-(Q : Int)))
  have hPi : (P : Int) ≤ 524288 := by omega
  have hQi : (Q : Int) ≤ 524288 := by omega
  have hP0 : (0 : Int) ≤ (P : Int) := by omega
  have hQ0 : (0 : Int) ≤ (Q : Int) := by omega
  have hci : (0 : Int) < (s.size : Int) := by omega
  have hni : (n : Int) < (s.size : Int) := by omega
  have hmi : (m : Int) ≤ (s.size : Int) := by omega
  have hnn : (0 : Int) ≤ (n : Int) := by omega
  have hmm : (0 : Int) ≤ (m : Int) := by omega
  have hszi : (s.size : Int) ≤ 100 := by omega
  have hml : m ≤ s.size := by omega
  have hg1 : ¬ (s.size : Int) ≤ (n : Int) := by omega
  have hg2 : ¬ (n : Int) < 0 := by omega
  have hg3 : ¬ (m : Int) < 0 := by omega
  clear hL hp1 hq1 hp7 hq7 hn hm hsz hs ht hlast
  generalize mk (-(P : Int)) (-(Q : Int)) = v at *
  go_enter Tryd.func18, Tryd.ntmps18
  go_wp2_with fail
  refine (HN1.out _).mono ?_
  rintro e _ ⟨rfl, rfl⟩
  go_wp2_with fail
  refine (HN2.out _).mono ?_
  rintro e _ ⟨rfl, rfl⟩
  go_wp2_with fail
  refine (HM.out _).mono ?_
  rintro e _ ⟨rfl, rfl⟩
  go_wp2_with fail
  refine (HT.out _).mono ?_
  rintro e w2 ⟨rfl, hb⟩
  go_wp2
  go_ret2
  exact ⟨rfl, hb⟩

set_option maxRecDepth 100000 in
set_option maxHeartbeats 8000000 in
theorem rparse_np {w : World} (P Q : Nat) (hP : P ≤ 524288) (hQ : Q ≤ 524288) (hP1 : 1 ≤ P) (s : ByteArray) (hs : s.data.toList = ([45] : List UInt8) ++ (Lib.decDigits P ++ 43 :: (Lib.decDigits Q ++ [105]))) (ht : ∀ W, Calls Tryd.prog 22 #[mk (-(P : Int)) ((Q : Int))] W fun e w' => e = .returned (.string s) ∧ Below W.heap.size W w') :
    Calls Tryd.prog 18 #[.string s] w fun e w' => e = .returned (.tuple #[mk (-(P : Int)) ((Q : Int)), .int .i64 0]) ∧ Below w.heap.size w w' := by
  have hL : s.data.toList.length = s.size := by rw [Array.length_toList]; rfl
  have hp1 : 1 ≤ (Lib.decDigits P).length := by rw [Lib.decDigits_length]; exact Lib.nDigits_pos _
  have hq1 : 1 ≤ (Lib.decDigits Q).length := by rw [Lib.decDigits_length]; exact Lib.nDigits_pos _
  have hp7 := dec_len7 hP
  have hq7 := dec_len7 hQ
  obtain ⟨n, hn⟩ : ∃ n, 1 + (Lib.decDigits P).length = n := ⟨_, rfl⟩
  obtain ⟨m, hm⟩ : ∃ m, n + 1 + (Lib.decDigits Q).length = m := ⟨_, rfl⟩
  have hsz : s.size = m + 1 := by
    rw [← hL, hs]
    simp only [List.length_append, List.length_cons, List.length_nil]
    omega
  have HN1 := Lib.hid (fun W => show Calls Tryd.prog 31 #[.string s, .int .i64 1] W fun e w' => e = .returned (.tuple #[.int .i64 (P : Int), .int .i64 (n : Int)]) ∧ w' = W from by
    have h := num_any (w := W) s (by omega) 1 (by omega)
    have h2 := numR_dec (a := ([45] : List UInt8)) (r := 43 :: (Lib.decDigits Q ++ [105])) hP ⟨43, _, rfl, isD43⟩
    rw [← hs] at h2
    rw [show ((([45] : List UInt8) : List UInt8).length) = 1 from rfl] at h2
    rw [h2, show (((1 : Nat) : Int) + ((Lib.decDigits P).length : Int)) = (n : Int) by omega] at h
    exact h)
  have HN2 := Lib.hid (fun W => show Calls Tryd.prog 31 #[.string s, .int .i64 ((n : Int) + 1)] W fun e w' => e = .returned (.tuple #[.int .i64 (Q : Int), .int .i64 (m : Int)]) ∧ w' = W from by
    have h := num_any (w := W) s (by omega) (n + 1) (by omega)
    have h2 := numR_dec (a := ([45] : List UInt8) ++ Lib.decDigits P ++ [43]) (r := [105]) hQ ⟨105, _, rfl, isD105⟩
    rw [show ([45] : List UInt8) ++ Lib.decDigits P ++ [43] ++ (Lib.decDigits Q ++ [105]) = s.data.toList from by rw [hs]; simp] at h2
    rw [show (([45] : List UInt8) ++ Lib.decDigits P ++ [43] : List UInt8).length = n + 1 from by simp only [List.length_append, List.length_cons, List.length_nil]; omega] at h2
    rw [h2, show (((n + 1 : Nat) : Int) + ((Lib.decDigits Q).length : Int)) = (m : Int) by omega, show ((n + 1 : Nat) : Int) = (n : Int) + 1 by omega] at h
    exact h)
  obtain ⟨hn0, hd⟩ := get_at s (l := (([45] : List UInt8) ++ Lib.decDigits P) ++ 43 :: (Lib.decDigits Q ++ [105])) (by rw [hs]; simp) (n := n) (d := 43) (by
    have := mid_get (([45] : List UInt8) ++ Lib.decDigits P) (Lib.decDigits Q ++ [105]) 43
    rw [show (([45] : List UInt8) ++ Lib.decDigits P).length = n from by simp only [List.length_append, List.length_cons, List.length_nil]; omega] at this
    exact this)
  have hlast : (s.extract m s.size).data.toList = [105] := by
    rw [ByteArray.data_extract, Array.toList_extract, hs]
    have e : ([45] : List UInt8) ++ (Lib.decDigits P ++ 43 :: (Lib.decDigits Q ++ [105])) = (([45] : List UInt8) ++ Lib.decDigits P ++ [43] ++ Lib.decDigits Q) ++ [105] := by simp
    have e2 : (([45] : List UInt8) ++ Lib.decDigits P ++ [43] ++ Lib.decDigits Q).length = m := by simp only [List.length_append, List.length_cons, List.length_nil]; omega
    rw [e, ← e2, List.extract_eq_take_drop, List.drop_left]
    apply List.take_of_length_le
    rw [hsz, ← e2]
    simp
  obtain ⟨c, hc0, hc, hcb⟩ : ∃ (c : UInt8) (h : 0 < s.size), s[0]'h = c ∧ ((c.toNat : Int) == 45) = true := by
    obtain ⟨h0, hh⟩ := get_at s hs (n := 0) (d := 45) rfl
    exact ⟨45, h0, hh, rfl⟩
  have hsl := seq_lit hlast
  have hst := seq_true (rfl : s = s)
  have HT := Lib.hid ht
  have HM := Lib.hid (fun W => rMake_any (w := W) (-(P : Int)) ((Q : Int)))
  have hPi : (P : Int) ≤ 524288 := by omega
  have hQi : (Q : Int) ≤ 524288 := by omega
  have hP0 : (0 : Int) ≤ (P : Int) := by omega
  have hQ0 : (0 : Int) ≤ (Q : Int) := by omega
  have hci : (0 : Int) < (s.size : Int) := by omega
  have hni : (n : Int) < (s.size : Int) := by omega
  have hmi : (m : Int) ≤ (s.size : Int) := by omega
  have hnn : (0 : Int) ≤ (n : Int) := by omega
  have hmm : (0 : Int) ≤ (m : Int) := by omega
  have hszi : (s.size : Int) ≤ 100 := by omega
  have hml : m ≤ s.size := by omega
  have hg1 : ¬ (s.size : Int) ≤ (n : Int) := by omega
  have hg2 : ¬ (n : Int) < 0 := by omega
  have hg3 : ¬ (m : Int) < 0 := by omega
  clear hL hp1 hq1 hp7 hq7 hn hm hsz hs ht hlast
  generalize mk (-(P : Int)) ((Q : Int)) = v at *
  go_enter Tryd.func18, Tryd.ntmps18
  go_wp2_with fail
  refine (HN1.out _).mono ?_
  rintro e _ ⟨rfl, rfl⟩
  go_wp2_with fail
  refine (HN2.out _).mono ?_
  rintro e _ ⟨rfl, rfl⟩
  go_wp2_with fail
  refine (HM.out _).mono ?_
  rintro e _ ⟨rfl, rfl⟩
  go_wp2_with fail
  refine (HT.out _).mono ?_
  rintro e w2 ⟨rfl, hb⟩
  go_wp2
  go_ret2
  exact ⟨rfl, hb⟩

set_option maxRecDepth 100000 in
set_option maxHeartbeats 8000000 in
theorem rparse_pn {w : World} (P Q : Nat) (hP : P ≤ 524288) (hQ : Q ≤ 524288) (hQ1 : 1 ≤ Q) (s : ByteArray) (hs : s.data.toList = ([] : List UInt8) ++ (Lib.decDigits P ++ 45 :: (Lib.decDigits Q ++ [105]))) (ht : ∀ W, Calls Tryd.prog 22 #[mk ((P : Int)) (-(Q : Int))] W fun e w' => e = .returned (.string s) ∧ Below W.heap.size W w') :
    Calls Tryd.prog 18 #[.string s] w fun e w' => e = .returned (.tuple #[mk ((P : Int)) (-(Q : Int)), .int .i64 0]) ∧ Below w.heap.size w w' := by
  have hL : s.data.toList.length = s.size := by rw [Array.length_toList]; rfl
  have hp1 : 1 ≤ (Lib.decDigits P).length := by rw [Lib.decDigits_length]; exact Lib.nDigits_pos _
  have hq1 : 1 ≤ (Lib.decDigits Q).length := by rw [Lib.decDigits_length]; exact Lib.nDigits_pos _
  have hp7 := dec_len7 hP
  have hq7 := dec_len7 hQ
  obtain ⟨n, hn⟩ : ∃ n, 0 + (Lib.decDigits P).length = n := ⟨_, rfl⟩
  obtain ⟨m, hm⟩ : ∃ m, n + 1 + (Lib.decDigits Q).length = m := ⟨_, rfl⟩
  have hsz : s.size = m + 1 := by
    rw [← hL, hs]
    simp only [List.length_append, List.length_cons, List.length_nil]
    omega
  have HN1 := Lib.hid (fun W => show Calls Tryd.prog 31 #[.string s, .int .i64 0] W fun e w' => e = .returned (.tuple #[.int .i64 (P : Int), .int .i64 (n : Int)]) ∧ w' = W from by
    have h := num_any (w := W) s (by omega) 0 (by omega)
    have h2 := numR_dec (a := ([] : List UInt8)) (r := 45 :: (Lib.decDigits Q ++ [105])) hP ⟨45, _, rfl, isD45⟩
    rw [← hs] at h2
    rw [show ((([] : List UInt8) : List UInt8).length) = 0 from rfl] at h2
    rw [h2, show (((0 : Nat) : Int) + ((Lib.decDigits P).length : Int)) = (n : Int) by omega] at h
    exact h)
  have HN2 := Lib.hid (fun W => show Calls Tryd.prog 31 #[.string s, .int .i64 ((n : Int) + 1)] W fun e w' => e = .returned (.tuple #[.int .i64 (Q : Int), .int .i64 (m : Int)]) ∧ w' = W from by
    have h := num_any (w := W) s (by omega) (n + 1) (by omega)
    have h2 := numR_dec (a := ([] : List UInt8) ++ Lib.decDigits P ++ [45]) (r := [105]) hQ ⟨105, _, rfl, isD105⟩
    rw [show ([] : List UInt8) ++ Lib.decDigits P ++ [45] ++ (Lib.decDigits Q ++ [105]) = s.data.toList from by rw [hs]; simp] at h2
    rw [show (([] : List UInt8) ++ Lib.decDigits P ++ [45] : List UInt8).length = n + 1 from by simp only [List.length_append, List.length_cons, List.length_nil]; omega] at h2
    rw [h2, show (((n + 1 : Nat) : Int) + ((Lib.decDigits Q).length : Int)) = (m : Int) by omega, show ((n + 1 : Nat) : Int) = (n : Int) + 1 by omega] at h
    exact h)
  obtain ⟨hn0, hd⟩ := get_at s (l := (([] : List UInt8) ++ Lib.decDigits P) ++ 45 :: (Lib.decDigits Q ++ [105])) (by rw [hs]; simp) (n := n) (d := 45) (by
    have := mid_get (([] : List UInt8) ++ Lib.decDigits P) (Lib.decDigits Q ++ [105]) 45
    rw [show (([] : List UInt8) ++ Lib.decDigits P).length = n from by simp only [List.length_append, List.length_cons, List.length_nil]; omega] at this
    exact this)
  have hlast : (s.extract m s.size).data.toList = [105] := by
    rw [ByteArray.data_extract, Array.toList_extract, hs]
    have e : ([] : List UInt8) ++ (Lib.decDigits P ++ 45 :: (Lib.decDigits Q ++ [105])) = (([] : List UInt8) ++ Lib.decDigits P ++ [45] ++ Lib.decDigits Q) ++ [105] := by simp
    have e2 : (([] : List UInt8) ++ Lib.decDigits P ++ [45] ++ Lib.decDigits Q).length = m := by simp only [List.length_append, List.length_cons, List.length_nil]; omega
    rw [e, ← e2, List.extract_eq_take_drop, List.drop_left]
    apply List.take_of_length_le
    rw [hsz, ← e2]
    simp
  obtain ⟨c, hc0, hc, hcb⟩ : ∃ (c : UInt8) (h : 0 < s.size), s[0]'h = c ∧ ((c.toNat : Int) == 45) = false := by
    obtain ⟨c, r, hcr⟩ : ∃ c r, Lib.decDigits P = c :: r := by
      cases h : Lib.decDigits P with
      | nil => rw [h] at hp1; simp at hp1
      | cons c r => exact ⟨c, r, rfl⟩
    have hcd := dec_digit (u := P) (c := c) (by rw [hcr]; exact List.mem_cons.2 (.inl rfl))
    obtain ⟨h0, hh⟩ := get_at s hs (n := 0) (d := c) (by rw [hcr]; rfl)
    exact ⟨c, h0, hh, beq_eq_false_iff_ne.2 (by omega)⟩
  have hsl := seq_lit hlast
  have hst := seq_true (rfl : s = s)
  have HT := Lib.hid ht
  have HM := Lib.hid (fun W => rMake_any (w := W) ((P : Int)) (-(Q : Int)))
  have hPi : (P : Int) ≤ 524288 := by omega
  have hQi : (Q : Int) ≤ 524288 := by omega
  have hP0 : (0 : Int) ≤ (P : Int) := by omega
  have hQ0 : (0 : Int) ≤ (Q : Int) := by omega
  have hci : (0 : Int) < (s.size : Int) := by omega
  have hni : (n : Int) < (s.size : Int) := by omega
  have hmi : (m : Int) ≤ (s.size : Int) := by omega
  have hnn : (0 : Int) ≤ (n : Int) := by omega
  have hmm : (0 : Int) ≤ (m : Int) := by omega
  have hszi : (s.size : Int) ≤ 100 := by omega
  have hml : m ≤ s.size := by omega
  have hg1 : ¬ (s.size : Int) ≤ (n : Int) := by omega
  have hg2 : ¬ (n : Int) < 0 := by omega
  have hg3 : ¬ (m : Int) < 0 := by omega
  clear hL hp1 hq1 hp7 hq7 hn hm hsz hs ht hlast
  generalize mk ((P : Int)) (-(Q : Int)) = v at *
  go_enter Tryd.func18, Tryd.ntmps18
  go_wp2_with fail
  refine (HN1.out _).mono ?_
  rintro e _ ⟨rfl, rfl⟩
  go_wp2_with fail
  refine (HN2.out _).mono ?_
  rintro e _ ⟨rfl, rfl⟩
  go_wp2_with fail
  refine (HM.out _).mono ?_
  rintro e _ ⟨rfl, rfl⟩
  go_wp2_with fail
  refine (HT.out _).mono ?_
  rintro e w2 ⟨rfl, hb⟩
  go_wp2
  go_ret2
  exact ⟨rfl, hb⟩

set_option maxRecDepth 100000 in
set_option maxHeartbeats 8000000 in
theorem rparse_pp {w : World} (P Q : Nat) (hP : P ≤ 524288) (hQ : Q ≤ 524288) (s : ByteArray) (hs : s.data.toList = ([] : List UInt8) ++ (Lib.decDigits P ++ 43 :: (Lib.decDigits Q ++ [105]))) (ht : ∀ W, Calls Tryd.prog 22 #[mk ((P : Int)) ((Q : Int))] W fun e w' => e = .returned (.string s) ∧ Below W.heap.size W w') :
    Calls Tryd.prog 18 #[.string s] w fun e w' => e = .returned (.tuple #[mk ((P : Int)) ((Q : Int)), .int .i64 0]) ∧ Below w.heap.size w w' := by
  have hL : s.data.toList.length = s.size := by rw [Array.length_toList]; rfl
  have hp1 : 1 ≤ (Lib.decDigits P).length := by rw [Lib.decDigits_length]; exact Lib.nDigits_pos _
  have hq1 : 1 ≤ (Lib.decDigits Q).length := by rw [Lib.decDigits_length]; exact Lib.nDigits_pos _
  have hp7 := dec_len7 hP
  have hq7 := dec_len7 hQ
  obtain ⟨n, hn⟩ : ∃ n, 0 + (Lib.decDigits P).length = n := ⟨_, rfl⟩
  obtain ⟨m, hm⟩ : ∃ m, n + 1 + (Lib.decDigits Q).length = m := ⟨_, rfl⟩
  have hsz : s.size = m + 1 := by
    rw [← hL, hs]
    simp only [List.length_append, List.length_cons, List.length_nil]
    omega
  have HN1 := Lib.hid (fun W => show Calls Tryd.prog 31 #[.string s, .int .i64 0] W fun e w' => e = .returned (.tuple #[.int .i64 (P : Int), .int .i64 (n : Int)]) ∧ w' = W from by
    have h := num_any (w := W) s (by omega) 0 (by omega)
    have h2 := numR_dec (a := ([] : List UInt8)) (r := 43 :: (Lib.decDigits Q ++ [105])) hP ⟨43, _, rfl, isD43⟩
    rw [← hs] at h2
    rw [show ((([] : List UInt8) : List UInt8).length) = 0 from rfl] at h2
    rw [h2, show (((0 : Nat) : Int) + ((Lib.decDigits P).length : Int)) = (n : Int) by omega] at h
    exact h)
  have HN2 := Lib.hid (fun W => show Calls Tryd.prog 31 #[.string s, .int .i64 ((n : Int) + 1)] W fun e w' => e = .returned (.tuple #[.int .i64 (Q : Int), .int .i64 (m : Int)]) ∧ w' = W from by
    have h := num_any (w := W) s (by omega) (n + 1) (by omega)
    have h2 := numR_dec (a := ([] : List UInt8) ++ Lib.decDigits P ++ [43]) (r := [105]) hQ ⟨105, _, rfl, isD105⟩
    rw [show ([] : List UInt8) ++ Lib.decDigits P ++ [43] ++ (Lib.decDigits Q ++ [105]) = s.data.toList from by rw [hs]; simp] at h2
    rw [show (([] : List UInt8) ++ Lib.decDigits P ++ [43] : List UInt8).length = n + 1 from by simp only [List.length_append, List.length_cons, List.length_nil]; omega] at h2
    rw [h2, show (((n + 1 : Nat) : Int) + ((Lib.decDigits Q).length : Int)) = (m : Int) by omega, show ((n + 1 : Nat) : Int) = (n : Int) + 1 by omega] at h
    exact h)
  obtain ⟨hn0, hd⟩ := get_at s (l := (([] : List UInt8) ++ Lib.decDigits P) ++ 43 :: (Lib.decDigits Q ++ [105])) (by rw [hs]; simp) (n := n) (d := 43) (by
    have := mid_get (([] : List UInt8) ++ Lib.decDigits P) (Lib.decDigits Q ++ [105]) 43
    rw [show (([] : List UInt8) ++ Lib.decDigits P).length = n from by simp only [List.length_append, List.length_cons, List.length_nil]; omega] at this
    exact this)
  have hlast : (s.extract m s.size).data.toList = [105] := by
    rw [ByteArray.data_extract, Array.toList_extract, hs]
    have e : ([] : List UInt8) ++ (Lib.decDigits P ++ 43 :: (Lib.decDigits Q ++ [105])) = (([] : List UInt8) ++ Lib.decDigits P ++ [43] ++ Lib.decDigits Q) ++ [105] := by simp
    have e2 : (([] : List UInt8) ++ Lib.decDigits P ++ [43] ++ Lib.decDigits Q).length = m := by simp only [List.length_append, List.length_cons, List.length_nil]; omega
    rw [e, ← e2, List.extract_eq_take_drop, List.drop_left]
    apply List.take_of_length_le
    rw [hsz, ← e2]
    simp
  obtain ⟨c, hc0, hc, hcb⟩ : ∃ (c : UInt8) (h : 0 < s.size), s[0]'h = c ∧ ((c.toNat : Int) == 45) = false := by
    obtain ⟨c, r, hcr⟩ : ∃ c r, Lib.decDigits P = c :: r := by
      cases h : Lib.decDigits P with
      | nil => rw [h] at hp1; simp at hp1
      | cons c r => exact ⟨c, r, rfl⟩
    have hcd := dec_digit (u := P) (c := c) (by rw [hcr]; exact List.mem_cons.2 (.inl rfl))
    obtain ⟨h0, hh⟩ := get_at s hs (n := 0) (d := c) (by rw [hcr]; rfl)
    exact ⟨c, h0, hh, beq_eq_false_iff_ne.2 (by omega)⟩
  have hsl := seq_lit hlast
  have hst := seq_true (rfl : s = s)
  have HT := Lib.hid ht
  have HM := Lib.hid (fun W => rMake_any (w := W) ((P : Int)) ((Q : Int)))
  have hPi : (P : Int) ≤ 524288 := by omega
  have hQi : (Q : Int) ≤ 524288 := by omega
  have hP0 : (0 : Int) ≤ (P : Int) := by omega
  have hQ0 : (0 : Int) ≤ (Q : Int) := by omega
  have hci : (0 : Int) < (s.size : Int) := by omega
  have hni : (n : Int) < (s.size : Int) := by omega
  have hmi : (m : Int) ≤ (s.size : Int) := by omega
  have hnn : (0 : Int) ≤ (n : Int) := by omega
  have hmm : (0 : Int) ≤ (m : Int) := by omega
  have hszi : (s.size : Int) ≤ 100 := by omega
  have hml : m ≤ s.size := by omega
  have hg1 : ¬ (s.size : Int) ≤ (n : Int) := by omega
  have hg2 : ¬ (n : Int) < 0 := by omega
  have hg3 : ¬ (m : Int) < 0 := by omega
  clear hL hp1 hq1 hp7 hq7 hn hm hsz hs ht hlast
  generalize mk ((P : Int)) ((Q : Int)) = v at *
  go_enter Tryd.func18, Tryd.ntmps18
  go_wp2_with fail
  refine (HN1.out _).mono ?_
  rintro e _ ⟨rfl, rfl⟩
  go_wp2_with fail
  refine (HN2.out _).mono ?_
  rintro e _ ⟨rfl, rfl⟩
  go_wp2_with fail
  refine (HM.out _).mono ?_
  rintro e _ ⟨rfl, rfl⟩
  go_wp2_with fail
  refine (HT.out _).mono ?_
  rintro e w2 ⟨rfl, hb⟩
  go_wp2
  go_ret2
  exact ⟨rfl, hb⟩
end Go.Proofs.YtodphfgopngpeaaDoor
