/-
  The document's reading of a call's line: it says what the program's says. Plain: no program in sight. No condition.
-/
import Derived.Test.YthmjddnccgiinaaDoorCaPl
namespace Go.Proofs.YthmjddnccgiinaaDoor
set_option linter.unusedVariables false
set_option linter.unusedSimpArgs false

/-- The number that digits at a text's start say, till one is none or the number is great, and what is behind. -/
def digR (v : Nat) : List UInt8 → Nat × List UInt8
  | [] => (v, [])
  | c :: cs => if 48 ≤ c.toNat ∧ c.toNat ≤ 57 ∧ v < 5000000000 then digR (10 * v + (c.toNat - 48)) cs else (v, c :: cs)
/-- The arguments that the rest of a line says, at most so many; none if one is too great. -/
def argA (acc : List Nat) : Nat → List UInt8 → Option (List Nat)
  | 0, _ => some acc
  | _ + 1, [] => some acc
  | n + 1, _ :: cs => if 4294967295 < (digR 0 cs).1 then none else argA (acc ++ [(digR 0 cs).1]) n (digR 0 cs).2
def wordOf (l : List UInt8) : List UInt8 := l.takeWhile fun c => c != 32
def clOf (n : Int) (us : List Nat) : Cl := ⟨n, (us.getD 0 0 : Nat), (us.getD 1 0 : Nat), (us.getD 2 0 : Nat)⟩
def candR (l : List UInt8) : Option Cl := (argA [] 3 (l.drop (wordOf l).length)).map (clOf (byN (wordOf l)))
def readR (l : List UInt8) : Option Cl := match candR l with
  | none => none
  | some c => if MayC c ∧ lineC c = l then some c else none

theorem digR_stop (v : Nat) (r : List UInt8) (h : r = [] ∨ ∃ cs, r = 32 :: cs) : digR v r = (v, r) := by
  rcases h with rfl | ⟨cs, rfl⟩
  · rfl
  · unfold digR
    rw [if_neg]
    intro h
    have e : (32 : UInt8).toNat = 32 := rfl
    omega
theorem digR_dec : ∀ (k u : Nat), u ≤ k → u ≤ 4294967295 → ∀ r, digR 0 (Lib.decDigits u ++ r) = digR u r
  | 0, u, hk, hu, r => by
    obtain rfl : u = 0 := by omega
    rw [Lib.decDigits_one (by omega)]
    show digR 0 (48 :: r) = _
    rw [digR, if_pos ⟨by decide, by decide, by omega⟩]
    rfl
  | k + 1, u, hk, hu, r => by
    by_cases h : u < 10
    · rw [Lib.decDigits_one h]
      show digR 0 (UInt8.ofNat (48 + u) :: r) = _
      rw [digR, if_pos (by rw [nat_digit h]; omega), nat_digit h]
      congr 1
      omega
    · have hd : u % 10 < 10 := Nat.mod_lt _ (by omega)
      rw [Lib.decDigits, dif_neg h, List.append_assoc, digR_dec k (u / 10) (by omega) (by omega)]
      show digR (u / 10) (UInt8.ofNat (48 + u % 10) :: r) = _
      rw [digR, if_pos (by rw [nat_digit hd]; omega), nat_digit hd]
      congr 1
      omega
theorem glue_flat : ∀ (ws : List (List UInt8)) (w : List UInt8), glue (w :: ws) = w ++ ws.flatMap fun u => 32 :: u
  | [], w => by show w = _; simp
  | v :: ws, w => by rw [glue_two, glue_flat ws v, List.flatMap_cons]; simp
theorem flat_head (us : List Nat) : (us.flatMap fun u => 32 :: Lib.decDigits u) = [] ∨ ∃ cs, (us.flatMap fun u => 32 :: Lib.decDigits u) = 32 :: cs := by
  cases us with
  | nil => exact .inl rfl
  | cons u us => exact .inr ⟨_, by rw [List.flatMap_cons]; rfl⟩
theorem argA_flat : ∀ (us acc : List Nat) (n : Nat), us.length ≤ n → (∀ u ∈ us, u ≤ 4294967295) → argA acc n (us.flatMap fun u => 32 :: Lib.decDigits u) = some (acc ++ us)
  | [], acc, 0, _, _ => by simp [argA]
  | [], acc, n + 1, _, _ => by simp [argA]
  | u :: us, acc, 0, h, _ => by simp at h
  | u :: us, acc, n + 1, h, hu => by
    have h1 := hu u (List.mem_cons_self ..)
    have e : ((u :: us).flatMap fun u => 32 :: Lib.decDigits u) = 32 :: (Lib.decDigits u ++ us.flatMap fun u => 32 :: Lib.decDigits u) := by rw [List.flatMap_cons]; rfl
    have e2 : digR 0 (Lib.decDigits u ++ us.flatMap fun u => 32 :: Lib.decDigits u) = (u, us.flatMap fun u => 32 :: Lib.decDigits u) := by
      rw [digR_dec u u (Nat.le_refl _) h1, digR_stop _ _ (flat_head us)]
    rw [e, argA, e2]
    dsimp only
    rw [if_neg (by omega), argA_flat us (acc ++ [u]) n (by simpa using h) (fun v hv => hu v (List.mem_cons_of_mem _ hv))]
    simp
theorem argA_range : ∀ (n : Nat) (acc us : List Nat) (l : List UInt8), (∀ u ∈ acc, u ≤ 4294967295) → argA acc n l = some us → ∀ u ∈ us, u ≤ 4294967295
  | 0, acc, us, l, ha, h => by
    unfold argA at h
    injection h with h
    rw [← h]
    exact ha
  | n + 1, acc, us, [], ha, h => by
    unfold argA at h
    injection h with h
    rw [← h]
    exact ha
  | n + 1, acc, us, c :: cs, ha, h => by
    rw [argA] at h
    split at h
    · cases h
    · rename_i hb
      exact argA_range n _ us _ (fun u hu => by
        rcases List.mem_append.1 hu with hu | hu
        · exact ha u hu
        · rw [List.mem_singleton.1 hu]
          omega) h
theorem getD_range {us : List Nat} (h : ∀ u ∈ us, u ≤ 4294967295) (j : Nat) : us.getD j 0 ≤ 4294967295 := by
  rw [List.getD_eq_getElem?_getD]
  cases hx : us[j]? with
  | none => exact Nat.zero_le _
  | some v => exact h v (List.mem_of_getElem? hx)
theorem clOf_range {us : List Nat} (h : ∀ u ∈ us, u ≤ 4294967295) (n : Int) : RangeC (clOf n us) := by
  have h0 := getD_range h 0
  have h1 := getD_range h 1
  have h2 := getD_range h 2
  refine ⟨⟨?_, ?_⟩, ⟨?_, ?_⟩, ⟨?_, ?_⟩⟩ <;> (unfold clOf; dsimp only; omega)
theorem takeWhile_app {w r : List UInt8} (hw : ∀ c ∈ w, c ≠ 32) (hr : r = [] ∨ ∃ cs, r = 32 :: cs) : wordOf (w ++ r) = w := by
  unfold wordOf
  induction w with
  | nil =>
    rcases hr with rfl | ⟨cs, rfl⟩
    · rfl
    · rfl
  | cons c w ih =>
    have hc := hw c (List.mem_cons_self ..)
    rw [List.cons_append, List.takeWhile_cons_of_pos (by simpa using hc), ih (fun x hx => hw x (List.mem_cons_of_mem _ hx))]
theorem words_nat (N a b c : Int) : ((agL N a b c).map wordG).flatMap (fun u => 32 :: u) = ((agL N a b c).map fun g => g.2.toNat).flatMap fun u => 32 :: Lib.decDigits u := by
  rw [List.flatMap_map, List.flatMap_map]
  rfl
theorem candR_line {x : Cl} (hm : MayC x) (hr : RangeC x) : candR (lineC x) = some x := by
  obtain ⟨n, a, b, c⟩ := x
  have hl : lineC ⟨n, a, b, c⟩ = nameC n ++ ((agL n a b c).map fun g => g.2.toNat).flatMap fun u => 32 :: Lib.decDigits u := by
    show glue (nameC n :: (agL n a b c).map wordG) = _
    rw [glue_flat, words_nat]
  have hw : wordOf (lineC ⟨n, a, b, c⟩) = nameC n := by
    rw [hl]
    exact takeWhile_app (nameC_free 32 (.inl rfl) n) (flat_head _)
  have hN := byN_name hm.1
  dsimp only at hN
  obtain ⟨⟨a0, a1⟩, ⟨b0, b1⟩, ⟨c0, c1⟩⟩ := hr
  dsimp only at a0 a1 b0 b1 c0 c1
  have h3 := agN_le n
  have hlen := agL_len n a b c
  unfold candR
  rw [hw, hN, hl, List.drop_left, argA_flat _ [] 3 (by rw [List.length_map]; omega) (fun u hu => by
    obtain ⟨g, hg, rfl⟩ := List.mem_map.1 hu
    have := List.mem_of_mem_take hg
    unfold agAll at this
    simp only [List.mem_cons, List.not_mem_nil, or_false] at this
    rcases this with rfl | rfl | rfl <;> (dsimp only; omega))]
  show some (clOf n ([] ++ (agL n a b c).map fun g => g.2.toNat)) = _
  have hon := hm.2
  unfold onC at hon
  simp only [Cl.mk.injEq, true_and] at hon
  obtain ⟨o1, o2, o3⟩ := hon
  unfold agL agAll clOf
  congr 1
  rcases (show agN n = 0 ∨ agN n = 1 ∨ agN n = 2 ∨ agN n = 3 by omega) with h | h | h | h <;> rw [h] at o1 o2 o3 ⊢ <;> simp at o1 o2 o3 ⊢ <;> omega
theorem readR_eq (l : List UInt8) : readR l = readC l := by
  cases hc : readC l with
  | some x =>
    obtain ⟨h1, h2, h3⟩ := read_someC hc
    have h4 := candR_line h1 h2
    rw [h3] at h4
    unfold readR
    rw [h4]
    exact if_pos ⟨h1, h3⟩
  | none =>
    unfold readR
    cases hd : candR l with
    | none => rfl
    | some c =>
      refine if_neg fun h => ?_
      have hr : RangeC c := by
        unfold candR at hd
        cases he : argA [] 3 (l.drop (wordOf l).length) with
        | none => rw [he] at hd; cases hd
        | some us =>
          rw [he] at hd
          injection hd with hd
          rw [← hd]
          exact clOf_range (argA_range 3 [] us _ (fun u hu => by cases hu) he) _
      have h5 := read_lineC h.1 hr
      rw [h.2, hc] at h5
      cases h5
end Go.Proofs.YthmjddnccgiinaaDoor
