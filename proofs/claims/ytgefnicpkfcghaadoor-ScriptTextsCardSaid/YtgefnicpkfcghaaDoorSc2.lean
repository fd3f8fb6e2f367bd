/-
  Package script: the iterator of a kind's parts. No condition.
-/
import Derived.Test.YtgefnicpkfcghaaDoorSc1
namespace Go.Proofs.YtgefnicpkfcghaaDoor
open Go.RowKit Go.Shelf
set_option linter.unusedVariables false
set_option linter.unusedSimpArgs false
attribute [local go_sem] Oper.semAt_some

/-- The parts of a kind: c, n, p, s, m, and w for the name. -/
def partsB (k : Int) : ByteArray := if k = 1 then ⟨#[99, 110]⟩ else if k = 2 then ⟨#[99, 112]⟩ else if k = 4 then ⟨#[99]⟩ else if k = 5 then ⟨#[112, 115]⟩ else if k = 6 then ⟨#[112, 119]⟩ else if k = 7 then ⟨#[112]⟩ else if k = 8 then ⟨#[119, 109]⟩ else if k = 9 then ⟨#[112, 109]⟩ else ⟨#[]⟩
def partsL (k : Int) : List Nat := (partsB k).data.toList.map UInt8.toNat
def encP (b : Nat) : Array Value := #[.int .u8 (b : Int)]
theorem partsB_size (k : Int) : (partsB k).size ≤ 2 := by
  unfold partsB
  repeat (split; · decide)
  decide

set_option maxRecDepth 100000 in
set_option maxHeartbeats 4000000 in
theorem parts1_in (l Bk : Nat) (k : Int) (Kp : World → World → Prop) (n : Nat) (hn : 3 ≤ n) (J Jx : List Nat → World → Prop)
    (hY : ∀ pre x W, J pre W → pre.length < 1000000 → YieldAt Fence.wide (n - 1) Tryd.prog l (encP x) W fun e W' =>
      (e = .returned (.bool true) ∧ J (pre ++ [x]) W' ∧ Kp W W') ∨ (e = .returned (.bool false) ∧ Jx (pre ++ [x]) W'))
    (W : World) (hB : Blk W Bk 3 #[.int .i64 k]) (h0 : J [] W) :
    CallsIn Fence.wide n Tryd.prog 49 #[.func (.yield l) #[] #[], .pointer (some ⟨Bk, 0, none⟩)] W fun e W' => (∃ v, e = .returned v) ∧
      ((∃ ys, ys = partsL k ∧ J ys W') ∨ (∃ pre, pre <+: partsL k ∧ Jx pre W')) := by
  have HY := Lib.hid hY
  have H0 := Lib.hid h0
  obtain ⟨P, hP⟩ : ∃ P, P = partsL k := ⟨_, rfl⟩
  obtain ⟨A, hA⟩ : ∃ A, A = partsB k := ⟨_, rfl⟩
  have HPA := Lib.hid (show P = A.data.toList.map UInt8.toNat from by rw [hP, hA]; rfl)
  have hsz : A.size ≤ 2 := by rw [hA]; exact partsB_size k
  rw [← hP]
  have hc := hB.cell 0
  have hlt := hB.lt
  simp only [List.getElem?_toArray, List.getElem?_cons_zero] at hc
  clear hY h0 hP hB
  have hk : k = 1 ∨ k = 2 ∨ k = 4 ∨ k = 5 ∨ k = 6 ∨ k = 7 ∨ k = 8 ∨ k = 9 ∨ (¬ k = 1 ∧ ¬ k = 2 ∧ ¬ k = 4 ∧ ¬ k = 5 ∧ ¬ k = 6 ∧ ¬ k = 7 ∧ ¬ k = 8 ∧ ¬ k = 9) := by
    by_cases h1 : k = 1
    · exact .inl h1
    by_cases h2 : k = 2
    · exact .inr (.inl h2)
    by_cases h4 : k = 4
    · exact .inr (.inr (.inl h4))
    by_cases h5 : k = 5
    · exact .inr (.inr (.inr (.inl h5)))
    by_cases h6 : k = 6
    · exact .inr (.inr (.inr (.inr (.inl h6))))
    by_cases h7 : k = 7
    · exact .inr (.inr (.inr (.inr (.inr (.inl h7)))))
    by_cases h8 : k = 8
    · exact .inr (.inr (.inr (.inr (.inr (.inr (.inl h8))))))
    by_cases h9 : k = 9
    · exact .inr (.inr (.inr (.inr (.inr (.inr (.inr (.inl h9)))))))
    exact .inr (.inr (.inr (.inr (.inr (.inr (.inr (.inr ⟨h1, h2, h4, h5, h6, h7, h8, h9⟩)))))))
  have HAK := Lib.hid (show ¬ (k = 1 ∨ k = 2 ∨ k = 4 ∨ k = 5 ∨ k = 6 ∨ k = 7 ∨ k = 8 ∨ k = 9) → A = ⟨#[]⟩ from fun h => by
    rw [hA]
    unfold partsB
    rw [if_neg (fun e => h (by simp [e])), if_neg (fun e => h (by simp [e])), if_neg (fun e => h (by simp [e])), if_neg (fun e => h (by simp [e])), if_neg (fun e => h (by simp [e])), if_neg (fun e => h (by simp [e])), if_neg (fun e => h (by simp [e])), if_neg (fun e => h (by simp [e]))])
  have HA := Lib.hid hA
  clear hA
  refine callsIn_of_wp Tryd.func49 rfl trivial ?_ rfl
  simp only [Tryd.ntmps49, List.size_toArray, List.length_cons, List.length_nil, Nat.reduceAdd, Nat.reduceSub, Array.replicate_succ, Array.replicate_zero, List.push_toArray, List.append_toArray, List.nil_append, List.cons_append]
  rcases hk with rfl | rfl | rfl | rfl | rfl | rfl | rfl | rfl | ⟨h1, h2, h4, h5, h6, h7, h8, h9⟩
  · have hAe : (⟨#[99, 110]⟩ : ByteArray) = A := by rw [HA.out]; rfl
    have hAz : A.size = 2 := by rw [← hAe]; rfl
    have HAE := Lib.hid hAe
    clear hAe
    gi_wp2
    rw [HAE.out]
    gi_loopw [24] (fun i wr => ∃ j : Nat, j ≤ 2 ∧ i = .int .i64 (j : Int) ∧ J (P.take j) wr) (fun i _ => 2 - (intOf i).toNat)
    case atStart => exact ⟨0, Nat.zero_le _, rfl, by rw [List.take_zero]; exact H0.out⟩
    case round =>
      obtain ⟨j, hj, rfl, hJ⟩ := hrel
      have hPl : P.length = A.size := by rw [HPA.out, List.length_map, Array.length_toList]; rfl
      by_cases hjs : j < 2
      · have hja : (j : Int) < 2 := by omega
        have hjA : j < A.size := by omega
        have hjAi : (j : Int) < (A.size : Int) := by omega
        have hpj : P[j]? = some A[j].toNat := by
          rw [HPA.out, List.getElem?_map, List.getElem?_eq_getElem (by rw [Array.length_toList]; exact hjA), Array.getElem_toList]
          rfl
        have HTK := Lib.hid (show P.take (j + 1) = P.take j ++ [A[j].toNat] from by rw [List.take_add_one, hpj]; rfl)
        obtain ⟨fn, tmps, assign, body, hy, hR⟩ := HY.out (P.take j) A[j].toNat wr hJ (by rw [List.length_take]; omega)
        simp only [encP] at hy
        have HR := Lib.hid hR
        clear hPl hpj hJ hR
        gi_wp2
        refine ⟨fun _ => by omega, HR.out.mono ?_⟩
        rintro e W3 (⟨rfl, hJ3, hk3⟩ | ⟨rfl, hJx3⟩)
        · gi_wp2
          go_roundw
          case rel => exact ⟨j + 1, by omega, by go_num, by rw [HTK.out]; exact hJ3⟩
          case measure => simp [intOf]; omega
        · gi_wp2
          exact bodyPost_ret (results_none rfl _ _ _) rfl ⟨⟨_, rfl⟩, .inr ⟨_, by rw [← HTK.out]; exact List.take_prefix _ _, hJx3⟩⟩
      · have hja : ¬ (j : Int) < 2 := by omega
        rw [List.take_of_length_le (by omega)] at hJ
        gi_wp2
        go_end0
        exact ⟨⟨_, rfl⟩, .inl hJ⟩
  · have hAe : (⟨#[99, 112]⟩ : ByteArray) = A := by rw [HA.out]; rfl
    have hAz : A.size = 2 := by rw [← hAe]; rfl
    have HAE := Lib.hid hAe
    clear hAe
    gi_wp2
    rw [HAE.out]
    gi_loopw [24] (fun i wr => ∃ j : Nat, j ≤ 2 ∧ i = .int .i64 (j : Int) ∧ J (P.take j) wr) (fun i _ => 2 - (intOf i).toNat)
    case atStart => exact ⟨0, Nat.zero_le _, rfl, by rw [List.take_zero]; exact H0.out⟩
    case round =>
      obtain ⟨j, hj, rfl, hJ⟩ := hrel
      have hPl : P.length = A.size := by rw [HPA.out, List.length_map, Array.length_toList]; rfl
      by_cases hjs : j < 2
      · have hja : (j : Int) < 2 := by omega
        have hjA : j < A.size := by omega
        have hjAi : (j : Int) < (A.size : Int) := by omega
        have hpj : P[j]? = some A[j].toNat := by
          rw [HPA.out, List.getElem?_map, List.getElem?_eq_getElem (by rw [Array.length_toList]; exact hjA), Array.getElem_toList]
          rfl
        have HTK := Lib.hid (show P.take (j + 1) = P.take j ++ [A[j].toNat] from by rw [List.take_add_one, hpj]; rfl)
        obtain ⟨fn, tmps, assign, body, hy, hR⟩ := HY.out (P.take j) A[j].toNat wr hJ (by rw [List.length_take]; omega)
        simp only [encP] at hy
        have HR := Lib.hid hR
        clear hPl hpj hJ hR
        gi_wp2
        refine ⟨fun _ => by omega, HR.out.mono ?_⟩
        rintro e W3 (⟨rfl, hJ3, hk3⟩ | ⟨rfl, hJx3⟩)
        · gi_wp2
          go_roundw
          case rel => exact ⟨j + 1, by omega, by go_num, by rw [HTK.out]; exact hJ3⟩
          case measure => simp [intOf]; omega
        · gi_wp2
          exact bodyPost_ret (results_none rfl _ _ _) rfl ⟨⟨_, rfl⟩, .inr ⟨_, by rw [← HTK.out]; exact List.take_prefix _ _, hJx3⟩⟩
      · have hja : ¬ (j : Int) < 2 := by omega
        rw [List.take_of_length_le (by omega)] at hJ
        gi_wp2
        go_end0
        exact ⟨⟨_, rfl⟩, .inl hJ⟩
  · have hAe : (⟨#[99]⟩ : ByteArray) = A := by rw [HA.out]; rfl
    have hAz : A.size = 1 := by rw [← hAe]; rfl
    have HAE := Lib.hid hAe
    clear hAe
    gi_wp2
    rw [HAE.out]
    gi_loopw [24] (fun i wr => ∃ j : Nat, j ≤ 1 ∧ i = .int .i64 (j : Int) ∧ J (P.take j) wr) (fun i _ => 1 - (intOf i).toNat)
    case atStart => exact ⟨0, Nat.zero_le _, rfl, by rw [List.take_zero]; exact H0.out⟩
    case round =>
      obtain ⟨j, hj, rfl, hJ⟩ := hrel
      have hPl : P.length = A.size := by rw [HPA.out, List.length_map, Array.length_toList]; rfl
      by_cases hjs : j < 1
      · have hja : (j : Int) < 1 := by omega
        have hjA : j < A.size := by omega
        have hjAi : (j : Int) < (A.size : Int) := by omega
        have hpj : P[j]? = some A[j].toNat := by
          rw [HPA.out, List.getElem?_map, List.getElem?_eq_getElem (by rw [Array.length_toList]; exact hjA), Array.getElem_toList]
          rfl
        have HTK := Lib.hid (show P.take (j + 1) = P.take j ++ [A[j].toNat] from by rw [List.take_add_one, hpj]; rfl)
        obtain ⟨fn, tmps, assign, body, hy, hR⟩ := HY.out (P.take j) A[j].toNat wr hJ (by rw [List.length_take]; omega)
        simp only [encP] at hy
        have HR := Lib.hid hR
        clear hPl hpj hJ hR
        gi_wp2
        refine ⟨fun _ => by omega, HR.out.mono ?_⟩
        rintro e W3 (⟨rfl, hJ3, hk3⟩ | ⟨rfl, hJx3⟩)
        · gi_wp2
          go_roundw
          case rel => exact ⟨j + 1, by omega, by go_num, by rw [HTK.out]; exact hJ3⟩
          case measure => simp [intOf]; omega
        · gi_wp2
          exact bodyPost_ret (results_none rfl _ _ _) rfl ⟨⟨_, rfl⟩, .inr ⟨_, by rw [← HTK.out]; exact List.take_prefix _ _, hJx3⟩⟩
      · have hja : ¬ (j : Int) < 1 := by omega
        rw [List.take_of_length_le (by omega)] at hJ
        gi_wp2
        go_end0
        exact ⟨⟨_, rfl⟩, .inl hJ⟩
  · have hAe : (⟨#[112, 115]⟩ : ByteArray) = A := by rw [HA.out]; rfl
    have hAz : A.size = 2 := by rw [← hAe]; rfl
    have HAE := Lib.hid hAe
    clear hAe
    gi_wp2
    rw [HAE.out]
    gi_loopw [24] (fun i wr => ∃ j : Nat, j ≤ 2 ∧ i = .int .i64 (j : Int) ∧ J (P.take j) wr) (fun i _ => 2 - (intOf i).toNat)
    case atStart => exact ⟨0, Nat.zero_le _, rfl, by rw [List.take_zero]; exact H0.out⟩
    case round =>
      obtain ⟨j, hj, rfl, hJ⟩ := hrel
      have hPl : P.length = A.size := by rw [HPA.out, List.length_map, Array.length_toList]; rfl
      by_cases hjs : j < 2
      · have hja : (j : Int) < 2 := by omega
        have hjA : j < A.size := by omega
        have hjAi : (j : Int) < (A.size : Int) := by omega
        have hpj : P[j]? = some A[j].toNat := by
          rw [HPA.out, List.getElem?_map, List.getElem?_eq_getElem (by rw [Array.length_toList]; exact hjA), Array.getElem_toList]
          rfl
        have HTK := Lib.hid (show P.take (j + 1) = P.take j ++ [A[j].toNat] from by rw [List.take_add_one, hpj]; rfl)
        obtain ⟨fn, tmps, assign, body, hy, hR⟩ := HY.out (P.take j) A[j].toNat wr hJ (by rw [List.length_take]; omega)
        simp only [encP] at hy
        have HR := Lib.hid hR
        clear hPl hpj hJ hR
        gi_wp2
        refine ⟨fun _ => by omega, HR.out.mono ?_⟩
        rintro e W3 (⟨rfl, hJ3, hk3⟩ | ⟨rfl, hJx3⟩)
        · gi_wp2
          go_roundw
          case rel => exact ⟨j + 1, by omega, by go_num, by rw [HTK.out]; exact hJ3⟩
          case measure => simp [intOf]; omega
        · gi_wp2
          exact bodyPost_ret (results_none rfl _ _ _) rfl ⟨⟨_, rfl⟩, .inr ⟨_, by rw [← HTK.out]; exact List.take_prefix _ _, hJx3⟩⟩
      · have hja : ¬ (j : Int) < 2 := by omega
        rw [List.take_of_length_le (by omega)] at hJ
        gi_wp2
        go_end0
        exact ⟨⟨_, rfl⟩, .inl hJ⟩
  · have hAe : (⟨#[112, 119]⟩ : ByteArray) = A := by rw [HA.out]; rfl
    have hAz : A.size = 2 := by rw [← hAe]; rfl
    have HAE := Lib.hid hAe
    clear hAe
    gi_wp2
    rw [HAE.out]
    gi_loopw [24] (fun i wr => ∃ j : Nat, j ≤ 2 ∧ i = .int .i64 (j : Int) ∧ J (P.take j) wr) (fun i _ => 2 - (intOf i).toNat)
    case atStart => exact ⟨0, Nat.zero_le _, rfl, by rw [List.take_zero]; exact H0.out⟩
    case round =>
      obtain ⟨j, hj, rfl, hJ⟩ := hrel
      have hPl : P.length = A.size := by rw [HPA.out, List.length_map, Array.length_toList]; rfl
      by_cases hjs : j < 2
      · have hja : (j : Int) < 2 := by omega
        have hjA : j < A.size := by omega
        have hjAi : (j : Int) < (A.size : Int) := by omega
        have hpj : P[j]? = some A[j].toNat := by
          rw [HPA.out, List.getElem?_map, List.getElem?_eq_getElem (by rw [Array.length_toList]; exact hjA), Array.getElem_toList]
          rfl
        have HTK := Lib.hid (show P.take (j + 1) = P.take j ++ [A[j].toNat] from by rw [List.take_add_one, hpj]; rfl)
        obtain ⟨fn, tmps, assign, body, hy, hR⟩ := HY.out (P.take j) A[j].toNat wr hJ (by rw [List.length_take]; omega)
        simp only [encP] at hy
        have HR := Lib.hid hR
        clear hPl hpj hJ hR
        gi_wp2
        refine ⟨fun _ => by omega, HR.out.mono ?_⟩
        rintro e W3 (⟨rfl, hJ3, hk3⟩ | ⟨rfl, hJx3⟩)
        · gi_wp2
          go_roundw
          case rel => exact ⟨j + 1, by omega, by go_num, by rw [HTK.out]; exact hJ3⟩
          case measure => simp [intOf]; omega
        · gi_wp2
          exact bodyPost_ret (results_none rfl _ _ _) rfl ⟨⟨_, rfl⟩, .inr ⟨_, by rw [← HTK.out]; exact List.take_prefix _ _, hJx3⟩⟩
      · have hja : ¬ (j : Int) < 2 := by omega
        rw [List.take_of_length_le (by omega)] at hJ
        gi_wp2
        go_end0
        exact ⟨⟨_, rfl⟩, .inl hJ⟩
  · have hAe : (⟨#[112]⟩ : ByteArray) = A := by rw [HA.out]; rfl
    have hAz : A.size = 1 := by rw [← hAe]; rfl
    have HAE := Lib.hid hAe
    clear hAe
    gi_wp2
    rw [HAE.out]
    gi_loopw [24] (fun i wr => ∃ j : Nat, j ≤ 1 ∧ i = .int .i64 (j : Int) ∧ J (P.take j) wr) (fun i _ => 1 - (intOf i).toNat)
    case atStart => exact ⟨0, Nat.zero_le _, rfl, by rw [List.take_zero]; exact H0.out⟩
    case round =>
      obtain ⟨j, hj, rfl, hJ⟩ := hrel
      have hPl : P.length = A.size := by rw [HPA.out, List.length_map, Array.length_toList]; rfl
      by_cases hjs : j < 1
      · have hja : (j : Int) < 1 := by omega
        have hjA : j < A.size := by omega
        have hjAi : (j : Int) < (A.size : Int) := by omega
        have hpj : P[j]? = some A[j].toNat := by
          rw [HPA.out, List.getElem?_map, List.getElem?_eq_getElem (by rw [Array.length_toList]; exact hjA), Array.getElem_toList]
          rfl
        have HTK := Lib.hid (show P.take (j + 1) = P.take j ++ [A[j].toNat] from by rw [List.take_add_one, hpj]; rfl)
        obtain ⟨fn, tmps, assign, body, hy, hR⟩ := HY.out (P.take j) A[j].toNat wr hJ (by rw [List.length_take]; omega)
        simp only [encP] at hy
        have HR := Lib.hid hR
        clear hPl hpj hJ hR
        gi_wp2
        refine ⟨fun _ => by omega, HR.out.mono ?_⟩
        rintro e W3 (⟨rfl, hJ3, hk3⟩ | ⟨rfl, hJx3⟩)
        · gi_wp2
          go_roundw
          case rel => exact ⟨j + 1, by omega, by go_num, by rw [HTK.out]; exact hJ3⟩
          case measure => simp [intOf]; omega
        · gi_wp2
          exact bodyPost_ret (results_none rfl _ _ _) rfl ⟨⟨_, rfl⟩, .inr ⟨_, by rw [← HTK.out]; exact List.take_prefix _ _, hJx3⟩⟩
      · have hja : ¬ (j : Int) < 1 := by omega
        rw [List.take_of_length_le (by omega)] at hJ
        gi_wp2
        go_end0
        exact ⟨⟨_, rfl⟩, .inl hJ⟩
  · have hAe : (⟨#[119, 109]⟩ : ByteArray) = A := by rw [HA.out]; rfl
    have hAz : A.size = 2 := by rw [← hAe]; rfl
    have HAE := Lib.hid hAe
    clear hAe
    gi_wp2
    rw [HAE.out]
    gi_loopw [24] (fun i wr => ∃ j : Nat, j ≤ 2 ∧ i = .int .i64 (j : Int) ∧ J (P.take j) wr) (fun i _ => 2 - (intOf i).toNat)
    case atStart => exact ⟨0, Nat.zero_le _, rfl, by rw [List.take_zero]; exact H0.out⟩
    case round =>
      obtain ⟨j, hj, rfl, hJ⟩ := hrel
      have hPl : P.length = A.size := by rw [HPA.out, List.length_map, Array.length_toList]; rfl
      by_cases hjs : j < 2
      · have hja : (j : Int) < 2 := by omega
        have hjA : j < A.size := by omega
        have hjAi : (j : Int) < (A.size : Int) := by omega
        have hpj : P[j]? = some A[j].toNat := by
          rw [HPA.out, List.getElem?_map, List.getElem?_eq_getElem (by rw [Array.length_toList]; exact hjA), Array.getElem_toList]
          rfl
        have HTK := Lib.hid (show P.take (j + 1) = P.take j ++ [A[j].toNat] from by rw [List.take_add_one, hpj]; rfl)
        obtain ⟨fn, tmps, assign, body, hy, hR⟩ := HY.out (P.take j) A[j].toNat wr hJ (by rw [List.length_take]; omega)
        simp only [encP] at hy
        have HR := Lib.hid hR
        clear hPl hpj hJ hR
        gi_wp2
        refine ⟨fun _ => by omega, HR.out.mono ?_⟩
        rintro e W3 (⟨rfl, hJ3, hk3⟩ | ⟨rfl, hJx3⟩)
        · gi_wp2
          go_roundw
          case rel => exact ⟨j + 1, by omega, by go_num, by rw [HTK.out]; exact hJ3⟩
          case measure => simp [intOf]; omega
        · gi_wp2
          exact bodyPost_ret (results_none rfl _ _ _) rfl ⟨⟨_, rfl⟩, .inr ⟨_, by rw [← HTK.out]; exact List.take_prefix _ _, hJx3⟩⟩
      · have hja : ¬ (j : Int) < 2 := by omega
        rw [List.take_of_length_le (by omega)] at hJ
        gi_wp2
        go_end0
        exact ⟨⟨_, rfl⟩, .inl hJ⟩
  · have hAe : (⟨#[112, 109]⟩ : ByteArray) = A := by rw [HA.out]; rfl
    have hAz : A.size = 2 := by rw [← hAe]; rfl
    have HAE := Lib.hid hAe
    clear hAe
    gi_wp2
    rw [HAE.out]
    gi_loopw [24] (fun i wr => ∃ j : Nat, j ≤ 2 ∧ i = .int .i64 (j : Int) ∧ J (P.take j) wr) (fun i _ => 2 - (intOf i).toNat)
    case atStart => exact ⟨0, Nat.zero_le _, rfl, by rw [List.take_zero]; exact H0.out⟩
    case round =>
      obtain ⟨j, hj, rfl, hJ⟩ := hrel
      have hPl : P.length = A.size := by rw [HPA.out, List.length_map, Array.length_toList]; rfl
      by_cases hjs : j < 2
      · have hja : (j : Int) < 2 := by omega
        have hjA : j < A.size := by omega
        have hjAi : (j : Int) < (A.size : Int) := by omega
        have hpj : P[j]? = some A[j].toNat := by
          rw [HPA.out, List.getElem?_map, List.getElem?_eq_getElem (by rw [Array.length_toList]; exact hjA), Array.getElem_toList]
          rfl
        have HTK := Lib.hid (show P.take (j + 1) = P.take j ++ [A[j].toNat] from by rw [List.take_add_one, hpj]; rfl)
        obtain ⟨fn, tmps, assign, body, hy, hR⟩ := HY.out (P.take j) A[j].toNat wr hJ (by rw [List.length_take]; omega)
        simp only [encP] at hy
        have HR := Lib.hid hR
        clear hPl hpj hJ hR
        gi_wp2
        refine ⟨fun _ => by omega, HR.out.mono ?_⟩
        rintro e W3 (⟨rfl, hJ3, hk3⟩ | ⟨rfl, hJx3⟩)
        · gi_wp2
          go_roundw
          case rel => exact ⟨j + 1, by omega, by go_num, by rw [HTK.out]; exact hJ3⟩
          case measure => simp [intOf]; omega
        · gi_wp2
          exact bodyPost_ret (results_none rfl _ _ _) rfl ⟨⟨_, rfl⟩, .inr ⟨_, by rw [← HTK.out]; exact List.take_prefix _ _, hJx3⟩⟩
      · have hja : ¬ (j : Int) < 2 := by omega
        rw [List.take_of_length_le (by omega)] at hJ
        gi_wp2
        go_end0
        exact ⟨⟨_, rfl⟩, .inl hJ⟩
  · have hAe : (⟨#[]⟩ : ByteArray) = A := by exact (HAK.out (by simp [h1, h2, h4, h5, h6, h7, h8, h9])).symm
    have hAz : A.size = 0 := by rw [← hAe]; rfl
    have HAE := Lib.hid hAe
    clear hAe
    gi_wp2
    rw [HAE.out]
    gi_loopw [24] (fun i wr => ∃ j : Nat, j ≤ 0 ∧ i = .int .i64 (j : Int) ∧ J (P.take j) wr) (fun i _ => 0 - (intOf i).toNat)
    case atStart => exact ⟨0, Nat.zero_le _, rfl, by rw [List.take_zero]; exact H0.out⟩
    case round =>
      obtain ⟨j, hj, rfl, hJ⟩ := hrel
      have hPl : P.length = A.size := by rw [HPA.out, List.length_map, Array.length_toList]; rfl
      have hjs : ¬ j < 0 := by omega
      · have hja : ¬ (j : Int) < 0 := by omega
        rw [List.take_of_length_le (by omega)] at hJ
        gi_wp2
        go_end0
        exact ⟨⟨_, rfl⟩, .inl hJ⟩
end Go.Proofs.YtgefnicpkfcghaaDoor
